/- Plain facts on the model's IEEE words: what an operation gives, as a rational number; how far rounding goes; where it is exact. No program in sight. -/
import Ieee.Arith
import Derived.Laws.FloatArith
namespace Go.Proofs.Ytjegonmedaiccaa.Flt
open Ieee

/-- The number that sign, magnitude and place stand for. -/
def rv (s : Bool) (m : Nat) (e : Int) : Rat := (if s then -1 else 1) * (m : Rat) * (2 : Rat) ^ e

/-- The word 'b' is a finite number: 'q'. -/
def Is (f : Format) (b : Nat) (q : Rat) : Prop := ∃ s m e, f.read b = .number s m e ∧ rv s m e = q

/-- The word 'b' is 'q', rounded once. -/
def Rnd (f : Format) (q : Rat) (b : Nat) : Prop := ∃ s m e, rv s m e = q ∧ b = f.nearest s m e

theorem two_ne : (2 : Rat) ≠ 0 := by decide
theorem zpos (e : Int) : (0 : Rat) < (2 : Rat) ^ e := Rat.zpow_pos (by decide)
theorem zadd (a b : Int) : (2 : Rat) ^ (a + b) = (2 : Rat) ^ a * (2 : Rat) ^ b := Rat.zpow_add two_ne a b
theorem znat (n : Nat) : (2 : Rat) ^ (n : Int) = ((2 ^ n : Nat) : Rat) := by
  rw [Rat.zpow_natCast, Rat.natCast_pow]; rfl
theorem zsub (a b : Int) (h : b ≤ a) : (2 : Rat) ^ a = (2 : Rat) ^ b * ((2 ^ (a - b).toNat : Nat) : Rat) := by
  rw [← znat, ← zadd]; congr 1; omega

theorem signed_cast (s : Bool) (m up : Nat) : ((signed s m up : Int) : Rat) = (if s then -1 else 1) * (m : Rat) * ((2 ^ up : Nat) : Rat) := by
  unfold signed
  rw [Nat.shiftLeft_eq]
  cases s
  · simp only [Bool.false_eq_true, if_false]
    rw [Rat.intCast_natCast, Rat.natCast_mul]; grind
  · simp only [if_true]
    rw [Rat.intCast_neg, Rat.intCast_natCast, Rat.natCast_mul]; grind

theorem rv_signed (s : Bool) (m : Nat) (i base : Int) (h : base ≤ i) : rv s m i = ((signed s m (i - base).toNat : Int) : Rat) * (2 : Rat) ^ base := by
  rw [signed_cast, rv, zsub i base h]; grind

theorem rv_abs (t : Int) (s : Bool) (e : Int) (hs : t ≠ 0 → s = decide (t < 0)) : rv s t.natAbs e = (t : Rat) * (2 : Rat) ^ e := by
  unfold rv
  by_cases h0 : t = 0
  · subst h0; simp
  · rw [hs h0]
    by_cases hn : t < 0
    · simp only [hn, decide_true, if_true]
      have : (t.natAbs : Int) = -t := by omega
      have e1 : ((t.natAbs : Nat) : Rat) = ((t.natAbs : Int) : Rat) := (Rat.intCast_natCast _).symm
      rw [e1, this, Rat.intCast_neg]; grind
    · simp only [hn, decide_false, Bool.false_eq_true, if_false]
      have : (t.natAbs : Int) = t := by omega
      have e1 : ((t.natAbs : Nat) : Rat) = ((t.natAbs : Int) : Rat) := (Rat.intCast_natCast _).symm
      rw [e1, this]; grind

theorem rv_opp (s : Bool) (m : Nat) (e : Int) : rv (!s) m e = - rv s m e := by cases s <;> simp [rv] <;> grind

theorem sum_num {s t : Bool} {m n : Nat} {i j : Int} : ∃ z k e, (Datum.number s m i).sum (.number t n j) = some (.number z k e) ∧ rv z k e = rv s m i + rv t n j := by
  refine ⟨_, _, _, rfl, ?_⟩
  rw [rv_abs _ _ _ (fun h => by simp only [h, if_false]), rv_signed s m i (min i j) (by omega), rv_signed t n j (min i j) (by omega), Rat.intCast_add]
  grind

theorem add_is {f : Format} {x y : Nat} {a b : Rat} (hx : Is f x a) (hy : Is f y b) : ∃ r, f.add x y = some r ∧ Rnd f (a + b) r := by
  obtain ⟨s, m, i, h1, rfl⟩ := hx
  obtain ⟨t, n, j, h2, rfl⟩ := hy
  obtain ⟨z, k, e, h3, h4⟩ := sum_num (s := s) (t := t) (m := m) (n := n) (i := i) (j := j)
  exact ⟨_, by unfold Format.add; rw [h1, h2, h3]; rfl, z, k, e, h4, rfl⟩

theorem sub_is {f : Format} {x y : Nat} {a b : Rat} (hx : Is f x a) (hy : Is f y b) : ∃ r, f.sub x y = some r ∧ Rnd f (a - b) r := by
  obtain ⟨s, m, i, h1, rfl⟩ := hx
  obtain ⟨t, n, j, h2, rfl⟩ := hy
  obtain ⟨z, k, e, h3, h4⟩ := sum_num (s := s) (t := !t) (m := m) (n := n) (i := i) (j := j)
  exact ⟨_, by unfold Format.sub; rw [h1, h2]; show Option.map _ (Datum.sum _ (.number (!t) n j)) = _; rw [h3]; rfl, z, k, e, by rw [h4, rv_opp]; grind, rfl⟩

theorem mul_is {f : Format} {x y : Nat} {a b : Rat} (hx : Is f x a) (hy : Is f y b) : ∃ r, f.mul x y = some r ∧ Rnd f (a * b) r := by
  obtain ⟨s, m, i, h1, rfl⟩ := hx
  obtain ⟨t, n, j, h2, rfl⟩ := hy
  refine ⟨_, by unfold Format.mul; rw [h1, h2]; rfl, s ^^ t, m * n, i + j, ?_, rfl⟩
  unfold rv
  rw [zadd, Rat.natCast_mul]
  cases s <;> cases t <;> simp <;> grind
theorem pow2_pos (n : Nat) : 0 < 2 ^ n := Nat.two_pow_pos n

theorem cut_even (neg : Bool) (n drop : Nat) :
    2 * (Toward.even.cut neg n drop * 2 ^ drop) ≤ 2 * n + 2 ^ drop ∧ 2 * n ≤ 2 * (Toward.even.cut neg n drop * 2 ^ drop) + 2 ^ drop ∧ (n % 2 ^ drop = 0 → Toward.even.cut neg n drop * 2 ^ drop = n) := by
  unfold Toward.cut
  dsimp only
  by_cases hd : drop ≤ n.log2 + 2
  · rw [Nat.min_eq_left hd, Nat.shiftLeft_eq, Nat.one_mul]
    have hp := pow2_pos drop
    have hdm := Nat.div_add_mod n (2 ^ drop)
    have hlt := Nat.mod_lt n hp
    generalize n / 2 ^ drop = q at *
    generalize hr : n % 2 ^ drop = r at *
    generalize 2 ^ drop = g at *
    have hc : (q + 1) * g = q * g + g := by rw [Nat.add_mul, Nat.one_mul]
    have hc0 : q * g = g * q := Nat.mul_comm _ _
    by_cases h1 : g < 2 * r
    · simp only [h1, decide_true, Bool.true_or, Bool.toNat_true]
      omega
    · by_cases h2 : g = 2 * r
      · by_cases h3 : q % 2 = 1
        · subst h2
          simp only [Nat.lt_irrefl, h3, decide_false, Bool.false_or, BEq.rfl, Bool.true_and, Bool.toNat_true]
          omega
        · have h3' : (q % 2 == 1) = false := by simpa using h3
          subst h2
          simp only [Nat.lt_irrefl, h3', decide_false, Bool.false_or, Bool.and_false, Bool.toNat_false, Nat.add_zero]
          omega
      · have h2' : (g == 2 * r) = false := by simpa using h2
        simp only [h1, h2', decide_false, Bool.false_or, Bool.false_and, Bool.toNat_false, Nat.add_zero]
        omega
  · have hlt : n < 2 ^ (n.log2 + 1) := Nat.lt_log2_self
    rw [Nat.min_eq_right (by omega), Nat.shiftLeft_eq, Nat.one_mul]
    have hs : 2 ^ (n.log2 + 2) = 2 * 2 ^ (n.log2 + 1) := by rw [Nat.pow_succ 2 (n.log2 + 1), Nat.mul_comm]
    have hle : 2 ^ (n.log2 + 2) ≤ 2 ^ drop := Nat.pow_le_pow_right (by omega) (by omega)
    have hn : n < 2 ^ (n.log2 + 2) := by omega
    rw [Nat.div_eq_of_lt hn, Nat.mod_eq_of_lt hn]
    have h1 : ¬ 2 ^ (n.log2 + 2) < 2 * n := by omega
    have h2 : (2 ^ (n.log2 + 2) == 2 * n) = false := by simp; omega
    simp only [h1, h2, decide_false, Bool.false_or, Bool.false_and, Bool.toNat_false, Nat.add_zero, Nat.zero_mul]
    refine ⟨by omega, by omega, fun h => ?_⟩
    rw [Nat.mod_eq_of_lt (by omega)] at h
    exact h.symm

theorem read_word {f : Format} (s : Bool) {rung : Nat} (h : rung < f.infRung) :
    f.read (f.word s rung) = if rung < f.binade then .number s rung f.leastPlace else .number s (f.binade + rung % f.binade) (f.leastPlace + (rung / f.binade - 1 : Nat)) := by
  have h0 := f.infRung_lt
  have hw : 0 < f.signWeight := Nat.two_pow_pos _
  have e1 : (f.word s rung / f.signWeight % 2 == 1) = s ∧ f.word s rung % f.signWeight = rung := by
    unfold Format.word
    cases s
    · simp only [Bool.false_eq_true, if_false]
      rw [Nat.div_eq_of_lt (by omega), Nat.mod_eq_of_lt (a := rung) (by omega)]
      exact ⟨rfl, rfl⟩
    · simp only [if_true]
      rw [Nat.add_div_left _ hw, Nat.div_eq_of_lt (by omega), Nat.add_mod_left, Nat.mod_eq_of_lt (a := rung) (by omega)]
      exact ⟨rfl, rfl⟩
  unfold Format.read
  dsimp only
  rw [e1.1, e1.2]
  split <;> rfl

/-- A rung that is 'up' binades and 'kept' places up stands for 'kept * 2 ^ (least + up)'. -/
theorem is_word {f : Format} (s : Bool) {up kept : Nat} (h : up * f.binade + kept < f.infRung) (hk : kept ≤ 2 * f.binade) (hl : 0 < up → f.binade ≤ kept) :
    Is f (f.word s (up * f.binade + kept)) (rv s kept (f.leastPlace + up)) := by
  have hb : 0 < f.binade := Nat.two_pow_pos _
  have hrd := read_word s h
  by_cases h1 : up * f.binade + kept < f.binade
  · have hu : up = 0 := by
      rcases Nat.eq_zero_or_pos up with e | e
      · exact e
      · exact absurd (Nat.le_mul_of_pos_left f.binade e) (by omega)
    subst hu
    rw [if_pos h1] at hrd
    simp only [Nat.zero_mul, Nat.zero_add] at hrd h1 ⊢
    exact ⟨_, _, _, hrd, by simp⟩
  · rw [if_neg h1] at hrd
    refine ⟨_, _, _, hrd, ?_⟩
    have hkb : f.binade ≤ kept := by
      rcases Nat.eq_zero_or_pos up with e | e
      · subst e; simp only [Nat.zero_mul, Nat.zero_add] at h1; omega
      · exact hl e
    by_cases h2 : kept < 2 * f.binade
    · have e1 : (up * f.binade + kept) / f.binade = up + 1 := by
        rw [Nat.mul_comm up, Nat.mul_add_div hb]
        have : kept / f.binade = 1 := Nat.div_eq_of_lt_le (by omega) (by omega)
        omega
      have e2 : (up * f.binade + kept) % f.binade = kept - f.binade := by
        rw [Nat.mul_comm up, Nat.mul_add_mod, Nat.mod_eq_sub_mod hkb, Nat.mod_eq_of_lt (by omega)]
      rw [e1, e2]
      have e3 : f.binade + (kept - f.binade) = kept := by omega
      rw [e3]
      congr 2
    · have e0 : kept = 2 * f.binade := by omega
      subst e0
      have e1 : (up * f.binade + 2 * f.binade) / f.binade = up + 2 := by
        rw [← Nat.add_mul, Nat.mul_div_cancel _ hb]
      have e2 : (up * f.binade + 2 * f.binade) % f.binade = 0 := by
        rw [← Nat.add_mul, Nat.mul_mod_left]
      rw [e1, e2]
      have e3 : ((up + 2 - 1 : Nat) : Int) = (up : Int) + 1 := by omega
      rw [e3]
      unfold rv
      rw [← Int.add_assoc, zadd _ 1, Nat.add_zero, Rat.natCast_mul]
      have : (2 : Rat) ^ (1 : Int) = 2 := Rat.zpow_one 2
      rw [this]
      grind

theorem nearest_core (f : Format) (s : Bool) {m : Nat} (e : Int) (hm : m ≠ 0) (last : Int) (hl : last = max (e + m.log2 - f.fractionBits) f.leastPlace) :
    ∃ kept : Nat, f.nearest s m e = f.word s (min ((last - f.leastPlace).toNat * f.binade + kept) f.infRung) ∧ kept ≤ 2 * f.binade ∧ (0 < (last - f.leastPlace).toNat → f.binade ≤ kept) ∧
      2 * ((kept : Rat) * 2 ^ last) ≤ 2 * ((m : Rat) * 2 ^ e) + 2 ^ last ∧ 2 * ((m : Rat) * 2 ^ e) ≤ 2 * ((kept : Rat) * 2 ^ last) + 2 ^ last ∧
      ((∃ z : Nat, (m : Rat) * 2 ^ e = (z : Rat) * 2 ^ last) → (kept : Rat) * 2 ^ last = (m : Rat) * 2 ^ e) := by
  have hlog1 : 2 ^ m.log2 ≤ m := Nat.log2_self_le hm
  have hlog2 : m < 2 ^ (m.log2 + 1) := Nat.lt_log2_self
  refine ⟨Toward.even.cut s (m <<< (e - last).toNat) (last - e).toNat, ?_, ?_, ?_, ?_⟩
  · unfold Format.nearest
    rw [if_neg hm]
    dsimp only
    rw [← hl]
  all_goals
    rw [Nat.shiftLeft_eq]
    obtain ⟨h1, h2, h3⟩ := cut_even s (m * 2 ^ (e - last).toNat) (last - e).toNat
    generalize hk : Toward.even.cut s (m * 2 ^ (e - last).toNat) (last - e).toNat = kept at *
  · have hN : m * 2 ^ (e - last).toNat < 2 * f.binade * 2 ^ (last - e).toNat := by
      have e1 : 2 * f.binade * 2 ^ (last - e).toNat = 2 ^ (f.fractionBits + 1 + (last - e).toNat) := by
        unfold Format.binade; rw [Nat.pow_add, Nat.pow_succ 2 f.fractionBits, Nat.mul_comm 2]
      rw [e1]
      calc m * 2 ^ (e - last).toNat < 2 ^ (m.log2 + 1) * 2 ^ (e - last).toNat := Nat.mul_lt_mul_of_pos_right hlog2 (Nat.two_pow_pos _)
        _ = 2 ^ (m.log2 + 1 + (e - last).toNat) := by rw [← Nat.pow_add]
        _ ≤ _ := Nat.pow_le_pow_right (by omega) (by omega)
    have hp := Nat.two_pow_pos (last - e).toNat
    generalize 2 ^ (last - e).toNat = g at *
    generalize m * 2 ^ (e - last).toNat = N at *
    refine Nat.le_of_not_lt fun hlt => ?_
    have : (2 * f.binade + 1) * g ≤ kept * g := Nat.mul_le_mul_right g hlt
    rw [Nat.add_mul, Nat.one_mul] at this
    omega
  · intro h0
    have hN : f.binade * 2 ^ (last - e).toNat ≤ m * 2 ^ (e - last).toNat := by
      have e1 : f.binade * 2 ^ (last - e).toNat = 2 ^ (f.fractionBits + (last - e).toNat) := by
        unfold Format.binade; rw [Nat.pow_add]
      rw [e1]
      calc 2 ^ (f.fractionBits + (last - e).toNat) ≤ 2 ^ (m.log2 + (e - last).toNat) := Nat.pow_le_pow_right (by omega) (by omega)
        _ = 2 ^ m.log2 * 2 ^ (e - last).toNat := by rw [← Nat.pow_add]
        _ ≤ _ := Nat.mul_le_mul_right _ hlog1
    have hp := Nat.two_pow_pos (last - e).toNat
    generalize 2 ^ (last - e).toNat = g at *
    generalize m * 2 ^ (e - last).toNat = N at *
    refine Nat.le_of_not_lt fun hlt => ?_
    have : (kept + 1) * g ≤ f.binade * g := Nat.mul_le_mul_right g hlt
    rw [Nat.add_mul, Nat.one_mul] at this
    omega
  · -- the rational side
    have hval : (m : Rat) * 2 ^ e * ((2 ^ (last - e).toNat : Nat) : Rat) = ((m * 2 ^ (e - last).toNat : Nat) : Rat) * 2 ^ last := by
      by_cases hc : last ≤ e
      · have : (last - e).toNat = 0 := by omega
        rw [this, zsub e last hc, Rat.natCast_mul]
        simp
        grind
      · have : (e - last).toNat = 0 := by omega
        rw [this, zsub last e (by omega), Rat.natCast_mul]
        simp
        grind
    have hg : (0 : Rat) < ((2 ^ (last - e).toNat : Nat) : Rat) := by
      have := Nat.two_pow_pos (last - e).toNat
      exact_mod_cast this
    have hz := zpos last
    have c1 : ((2 * (kept * 2 ^ (last - e).toNat) : Nat) : Rat) ≤ ((2 * (m * 2 ^ (e - last).toNat) + 2 ^ (last - e).toNat : Nat) : Rat) := by exact_mod_cast h1
    have c2 : ((2 * (m * 2 ^ (e - last).toNat) : Nat) : Rat) ≤ ((2 * (kept * 2 ^ (last - e).toNat) + 2 ^ (last - e).toNat : Nat) : Rat) := by exact_mod_cast h2
    rw [Rat.natCast_add, Rat.natCast_mul 2 (kept * _), Rat.natCast_mul kept, Rat.natCast_mul 2 (m * _)] at c1
    rw [Rat.natCast_add, Rat.natCast_mul 2 (kept * _), Rat.natCast_mul kept, Rat.natCast_mul 2 (m * _)] at c2
    have h3' : m * 2 ^ (e - last).toNat % 2 ^ (last - e).toNat = 0 → (kept : Rat) * ((2 ^ (last - e).toNat : Nat) : Rat) = ((m * 2 ^ (e - last).toNat : Nat) : Rat) := fun h => by
      rw [← Rat.natCast_mul, h3 h]
    clear h1 h2 h3
    generalize hN : m * 2 ^ (e - last).toNat = N at *
    generalize hG : ((2 ^ (last - e).toNat : Nat) : Rat) = g at *
    generalize (2 : Rat) ^ last = L at *
    generalize hX : (m : Rat) * 2 ^ e = X at *
    have hgi : g ≠ 0 := fun h => by rw [h] at hg; exact absurd hg (by decide)
    have e2 : ((2 : Nat) : Rat) = 2 := rfl
    rw [e2] at c1 c2
    refine ⟨?_, ?_, ?_⟩
    · have := Rat.mul_le_mul_of_nonneg_right c1 (Rat.le_of_lt hz)
      have : (2 * ((kept : Rat) * L)) * g ≤ (2 * X + L) * g := by grind
      exact Rat.le_of_mul_le_mul_right this hg
    · have := Rat.mul_le_mul_of_nonneg_right c2 (Rat.le_of_lt hz)
      have : (2 * X) * g ≤ (2 * ((kept : Rat) * L) + L) * g := by grind
      exact Rat.le_of_mul_le_mul_right this hg
    · rintro ⟨z, hz1⟩
      have : (N : Rat) = ((z * 2 ^ (last - e).toNat : Nat) : Rat) := by
        rw [Rat.natCast_mul, hG]
        have hL : L ≠ 0 := fun h => by rw [h] at hz; exact absurd hz (by decide)
        have : (N : Rat) * L = (z : Rat) * g * L := by rw [← hval, hz1]; grind
        grind
      have h4 := h3' (by rw [Rat.natCast_inj.1 this]; exact Nat.mul_mod_left _ _)
      have : (kept : Rat) * L * g = X * g := by rw [hval, ← h4]; grind
      grind

theorem abs_rv (s : Bool) (m : Nat) (e : Int) (P : Rat) (h1 : rv s m e < P) (h2 : -P < rv s m e) : (m : Rat) * 2 ^ e < P := by
  unfold rv at h1 h2
  cases s
  · simp at h1; exact h1
  · simp at h2; grind

theorem log_lt {m : Nat} {e M : Int} (hm : m ≠ 0) (h : (m : Rat) * 2 ^ e < 2 ^ M) : e + m.log2 < M := by
  have h1 : ((2 ^ m.log2 : Nat) : Rat) ≤ (m : Rat) := by exact_mod_cast Nat.log2_self_le hm
  have h2 := Rat.mul_le_mul_of_nonneg_right h1 (Rat.le_of_lt (zpos e))
  rw [← znat, ← zadd] at h2
  refine Int.lt_of_not_ge fun hc => ?_
  have h3 : (2 : Rat) ^ M ≤ 2 ^ ((m.log2 : Int) + e) := by
    rw [zsub (m.log2 + e) M (by omega)]
    have h4 : ((1 : Nat) : Rat) ≤ ((2 ^ ((m.log2 : Int) + e - M).toNat : Nat) : Rat) := by exact_mod_cast Nat.two_pow_pos _
    have h5 := Rat.mul_le_mul_of_nonneg_left h4 (Rat.le_of_lt (zpos M))
    have e1 : ((1 : Nat) : Rat) = 1 := rfl
    rw [e1, Rat.mul_one] at h5
    exact h5
  grind

/-- Which formats are meant, and their numbers. -/
def Good (f : Format) : Prop := f = single ∨ f = double

theorem Good.least {f : Format} (h : Good f) : f.leastPlace + f.fractionBits ≤ -126 := by
  rcases h with rfl | rfl <;> decide
theorem Good.room {f : Format} (h : Good f) (up : Nat) (hu : (up : Int) ≤ 101 - 1 - f.fractionBits - f.leastPlace) : (up + 3) * f.binade ≤ f.infRung := by
  unfold Format.infRung
  refine Nat.mul_le_mul_right _ ?_
  rcases h with rfl | rfl
  · have : (single.leastPlace : Int) = -149 := by decide
    have h2 : (single.fractionBits : Int) = 23 := rfl
    have h3 : 2 ^ single.exponentBits - 1 = 255 := rfl
    omega
  · have : (double.leastPlace : Int) = -1074 := by decide
    have h2 : (double.fractionBits : Int) = 52 := rfl
    have h3 : 2 ^ double.exponentBits - 1 = 2047 := rfl
    omega

/-- A NUMBER LESS THAN 2^M, ROUNDED: it is finite, and near. -/
theorem Rnd.near {f : Format} (hf : Good f) {q : Rat} {b : Nat} (h : Rnd f q b) {M : Int} (h0 : -100 ≤ M) (h100 : M ≤ 100) (hq : q < 2 ^ M) (hq' : -(2 ^ M) < q) :
    ∃ q', Is f b q' ∧ q' - q ≤ 2 ^ (M - f.fractionBits - 2) ∧ q - q' ≤ 2 ^ (M - f.fractionBits - 2) ∧ ((∃ (k : Int) (j : Int), q = (k : Rat) * 2 ^ (-j) ∧ f.leastPlace ≤ -j ∧ k.natAbs < 2 ^ (f.fractionBits + 1)) → q' = q) := by
  obtain ⟨s, m, e, rfl, rfl⟩ := h
  have hle := hf.least
  have hpos := zpos (M - f.fractionBits - 2)
  by_cases hm : m = 0
  · subst hm
    refine ⟨0, ?_, ?_⟩
    · unfold Format.nearest
      rw [if_pos rfl]
      have := is_word (f := f) s (up := 0) (kept := 0) (by have := hf.room 0; simp; unfold Format.infRung; rcases hf with rfl | rfl <;> decide) (by omega) (by omega)
      simpa [rv] using this
    · have : rv s 0 e = 0 := by simp [rv]
      rw [this]
      exact ⟨by grind, by grind, fun _ => rfl⟩
  · have habs := abs_rv s m e _ hq hq'
    have hlg := log_lt hm habs
    obtain ⟨kept, k1, k2, k3, k4, k5, k6⟩ := nearest_core f s e hm _ rfl
    generalize hl : max (e + (m.log2 : Int) - f.fractionBits) f.leastPlace = last at *
    have hroom := hf.room (last - f.leastPlace).toNat (by omega)
    have hb : 0 < f.binade := Nat.two_pow_pos _
    have hlt : (last - f.leastPlace).toNat * f.binade + kept < f.infRung := by
      rw [Nat.add_mul] at hroom; omega
    rw [Nat.min_eq_left (by omega)] at k1
    have his := is_word s hlt k2 k3
    have e1 : f.leastPlace + ((last - f.leastPlace).toNat : Int) = last := by omega
    rw [e1] at his
    rw [k1]
    have hla : (2 : Rat) ^ last ≤ 2 * 2 ^ (M - f.fractionBits - 2) := by
      have e2 : (2 : Rat) * 2 ^ (M - f.fractionBits - 2) = 2 ^ (M - f.fractionBits - 1) := by
        have := zadd (M - f.fractionBits - 2) 1
        rw [Rat.zpow_one] at this
        have e3 : M - (f.fractionBits : Int) - 1 = M - f.fractionBits - 2 + 1 := by omega
        rw [e3, this]; grind
      rw [e2, zsub (M - f.fractionBits - 1) last (by omega)]
      have h4 : ((1 : Nat) : Rat) ≤ ((2 ^ (M - (f.fractionBits : Int) - 1 - last).toNat : Nat) : Rat) := by exact_mod_cast Nat.two_pow_pos _
      have h5 := Rat.mul_le_mul_of_nonneg_left h4 (Rat.le_of_lt (zpos last))
      have e4 : ((1 : Nat) : Rat) = 1 := rfl
      rw [e4, Rat.mul_one] at h5
      exact h5
    refine ⟨_, his, ?_, ?_, ?_⟩
    · unfold rv; cases s <;> simp <;> grind
    · unfold rv; cases s <;> simp <;> grind
    · rintro ⟨k, j, hk, hj, hkb⟩
      have hz : ∃ z : Nat, (m : Rat) * 2 ^ e = (z : Rat) * 2 ^ last := by
        have ha : (m : Rat) * 2 ^ e = (k.natAbs : Rat) * 2 ^ (-j) := by
          have hp1 := zpos e
          have hp2 := zpos (-j)
          have hm0 : (0 : Rat) ≤ (m : Rat) := Rat.natCast_nonneg
          have hmp := Rat.mul_nonneg hm0 (Rat.le_of_lt hp1)
          rcases Int.natAbs_eq k with hc | hc
          · have e5 : (k : Rat) = ((k.natAbs : Nat) : Rat) := by rw [← Rat.intCast_natCast, ← hc]
            have hk0 : (0 : Rat) ≤ (k.natAbs : Rat) := Rat.natCast_nonneg
            have := Rat.mul_nonneg hk0 (Rat.le_of_lt hp2)
            rw [e5] at hk
            unfold rv at hk
            cases s <;> simp at hk <;> grind
          · have e5 : (k : Rat) = -((k.natAbs : Nat) : Rat) := by rw [← Rat.intCast_natCast, ← Rat.intCast_neg, ← hc]
            have hk0 : (0 : Rat) ≤ (k.natAbs : Rat) := Rat.natCast_nonneg
            have := Rat.mul_nonneg hk0 (Rat.le_of_lt hp2)
            rw [e5] at hk
            unfold rv at hk
            cases s <;> simp at hk <;> grind
        have hlast : last ≤ -j := by
          have hkk : (k.natAbs : Rat) < ((2 ^ (f.fractionBits + 1) : Nat) : Rat) := by exact_mod_cast hkb
          have h6 := Rat.mul_lt_mul_of_pos_right hkk (zpos (-j))
          rw [← ha, ← znat, ← zadd] at h6
          have := log_lt hm h6
          omega
        refine ⟨k.natAbs * 2 ^ (-j - last).toNat, ?_⟩
        rw [ha, zsub (-j) last hlast, Rat.natCast_mul]
        grind
      have := k6 hz
      unfold rv
      grind

theorem inf_not {f : Format} {b : Nat} {q : Rat} (h : Is f b q) : (f.read b).isInfinity = false := by
  obtain ⟨s, m, e, h1, _⟩ := h; rw [h1]; rfl

/-- What a word can say: at most so many digits, from the least place on. -/
theorem Is.form {f : Format} {b : Nat} {q : Rat} (h : Is f b q) : ∃ (k : Int) (e : Int), q = (k : Rat) * 2 ^ e ∧ f.leastPlace ≤ e ∧ k.natAbs < 2 ^ (f.fractionBits + 1) := by
  obtain ⟨s, m, e, h1, rfl⟩ := h
  have hb : 0 < f.binade := Nat.two_pow_pos _
  have e2 : 2 ^ (f.fractionBits + 1) = 2 * f.binade := by unfold Format.binade; rw [Nat.pow_succ]; omega
  have hm : m < 2 * f.binade ∧ f.leastPlace ≤ e := by
    unfold Format.read at h1
    dsimp only at h1
    split at h1
    · simp only [Datum.number.injEq] at h1; omega
    · split at h1
      · simp only [Datum.number.injEq] at h1
        have := Nat.mod_lt (b % f.signWeight) hb
        omega
      · split at h1 <;> cases h1
  refine ⟨if s then -(m : Int) else m, e, ?_, hm.2, ?_⟩
  · unfold rv
    cases s
    · simp [Rat.intCast_natCast]
    · simp only [if_true]; rw [Rat.intCast_neg, Rat.intCast_natCast]; grind
  · rw [e2]; cases s <;> simp <;> omega

theorem Rnd.of_is {f g : Format} (hg : Good g) {q : Rat} {b r : Nat} (h : Is f b q) (hr : Rnd g q r) (hfb : f.fractionBits ≤ g.fractionBits) (hl : g.leastPlace ≤ f.leastPlace) (hq : q < 2 ^ (100 : Int)) (hq' : -(2 ^ (100 : Int)) < q) : Is g r q := by
  obtain ⟨q', h1, _, _, h2⟩ := hr.near hg (M := 100) (by decide) (by decide) hq hq'
  obtain ⟨k, e, hk, he, hn⟩ := h.form
  have : q' = q := h2 ⟨k, -e, by rw [Int.neg_neg]; exact hk, by omega, Nat.lt_of_lt_of_le hn (Nat.pow_le_pow_right (by omega) (by omega))⟩
  rw [← this]; exact h1

theorem pow_neg10 : (2 : Rat) ^ (-10 : Int) = 1 / 1024 := by
  have h := zadd (-10) 10
  have h2 : (2 : Rat) ^ (10 : Int) = 1024 := by rw [show (10 : Int) = ((10 : Nat) : Int) from rfl, znat]; rfl
  have h3 : (2 : Rat) ^ ((-10 : Int) + 10) = 1 := Rat.zpow_zero 2
  rw [h2, h3] at h
  grind

theorem pow_ge (n : Nat) (M : Int) (h : (n : Int) ≤ M) : ((2 ^ n : Nat) : Rat) ≤ 2 ^ M := by
  rw [zsub M n h, znat]
  have h4 : ((1 : Nat) : Rat) ≤ ((2 ^ (M - n).toNat : Nat) : Rat) := by exact_mod_cast Nat.two_pow_pos _
  have h5 := Rat.mul_le_mul_of_nonneg_left h4 (Rat.le_of_lt (zpos n))
  rw [znat] at h5
  have e4 : ((1 : Nat) : Rat) = 1 := rfl
  rw [e4, Rat.mul_one] at h5
  exact h5

/-- SMALL MULTIPLES OF 1/1024 ARE KEPT AS THEY ARE. -/
theorem Rnd.exact {f : Format} (hf : Good f) {q : Rat} {b : Nat} (h : Rnd f q b) (k : Int) (hk : q = (k : Rat) / 1024) (hl : -4194304 < k) (hu : k < 4194304) : Is f b q := by
  have h22 := pow_ge 22 100 (by decide)
  have e22 : ((2 ^ 22 : Nat) : Rat) = 4194304 := rfl
  rw [e22] at h22
  have c1 : ((-4194304 : Int) : Rat) < (k : Rat) := Rat.intCast_lt_intCast.2 hl
  have c2 : (k : Rat) < ((4194304 : Int) : Rat) := Rat.intCast_lt_intCast.2 hu
  have e1 : ((-4194304 : Int) : Rat) = -4194304 := rfl
  have e2 : ((4194304 : Int) : Rat) = 4194304 := rfl
  rw [e1] at c1
  rw [e2] at c2
  obtain ⟨q', h1, _, _, h2⟩ := h.near hf (M := 100) (by decide) (by decide) (by grind) (by grind)
  have hle := hf.least
  have hfb : 2 ^ 22 ≤ 2 ^ (f.fractionBits + 1) := Nat.pow_le_pow_right (by decide) (by rcases hf with rfl | rfl <;> decide)
  have hfl : f.leastPlace ≤ -10 := by rcases hf with rfl | rfl <;> decide
  have : q' = q := h2 ⟨k, 10, by rw [pow_neg10, hk]; grind, hfl, by omega⟩
  rw [← this]; exact h1

theorem quot_bound {D n F R st Z : Rat} (hD : 0 < D) (hd : D = n * F + R) (hR0 : 0 ≤ R) (hR : R < n) (hst : (R = 0 ∧ st = 0) ∨ st = 1) (hZ : n * Z < 2 * D) (hZ0 : 0 ≤ Z) :
    ((2 * F + st) * n - 2 * D) / (2 * D) * Z ≤ 1 ∧ -1 ≤ ((2 * F + st) * n - 2 * D) / (2 * D) * Z := by
  have e : (2 * F + st) * n - 2 * D = st * n - 2 * R := by rw [hd]; grind
  have t1 : st * n - 2 * R ≤ n := by rcases hst with ⟨h1, h2⟩ | h2 <;> subst h2 <;> grind
  have t2 : -n ≤ st * n - 2 * R := by rcases hst with ⟨h1, h2⟩ | h2 <;> subst h2 <;> grind
  rw [e]
  generalize st * n - 2 * R = t at *
  have u1 := Rat.mul_le_mul_of_nonneg_right t1 hZ0
  have u2 := Rat.mul_le_mul_of_nonneg_right t2 hZ0
  have hp : 0 < 2 * D := by grind
  have e2 : t / (2 * D) * Z * (2 * D) = t * Z := by grind
  constructor
  · refine Rat.le_of_mul_le_mul_right (c := 2 * D) ?_ hp
    rw [e2]; grind
  · refine Rat.le_of_mul_le_mul_right (c := 2 * D) ?_ hp
    rw [e2]; grind

theorem cancel_pos {a b c : Rat} (h : a * c = b * c) (hc : 0 < c) : a = b := by
  have hne : c ≠ 0 := fun h0 => by rw [h0] at hc; exact absurd hc (by decide)
  grind

theorem quot_eq {S T ST U m n i J G F D st : Rat} (hsq : ST * T = S) (hpow : U * J * (2 * G) = i) (hDm : D = m * G) (hD : 0 < D) :
    ST * (2 * F + st) * U * (T * n * J) = S * m * i * (1 + ((2 * F + st) * n - 2 * D) / (2 * D)) := by
  have hd1 : 1 + ((2 * F + st) * n - 2 * D) / (2 * D) = (2 * F + st) * n / (2 * D) := by grind
  rw [hd1]
  have e1 : S * m * i * ((2 * F + st) * n / (2 * D)) * D = S * m * i * ((2 * F + st) * n) / 2 := by grind
  refine cancel_pos (c := D) ?_ hD
  rw [e1, ← hpow, ← hsq, hDm]
  grind

theorem rv_natAbs {c : Int} : (c : Rat) = (c.natAbs : Rat) ∨ (c : Rat) = -(c.natAbs : Rat) := by
  rcases Int.natAbs_eq c with hc | hc
  · left; rw [← Rat.intCast_natCast, ← hc]
  · right; rw [← Rat.intCast_natCast, ← Rat.intCast_neg, ← hc]

theorem abs_eq_mul {s t : Bool} {X Y c C : Rat} (hX : 0 ≤ X) (hY : 0 ≤ Y) (hC : 0 ≤ C) (hc : c = C ∨ c = -C) (h : (if s then -1 else 1) * X = (if t then -1 else 1) * Y * c) : X = Y * C := by
  have := Rat.mul_nonneg hY hC
  rcases hc with e | e <;> subst e <;> cases s <;> cases t <;> simp at h <;> grind

theorem quotient_num {s t : Bool} {m n digits : Nat} {i j : Int} (hn : n ≠ 0) (hd : 1 ≤ digits) :
    ∃ z k e, Datum.quotient digits (.number s m i) (.number t n j) = some (.number z k e) ∧
      ∃ d : Rat, rv z k e * rv t n j = rv s m i * (1 + d) ∧ d * 2 ^ digits ≤ 1 ∧ -1 ≤ d * 2 ^ digits ∧
        ((∃ (c l : Int), rv s m i = rv t n j * ((c : Rat) * 2 ^ l) ∧ c.natAbs < 2 ^ (digits - 1)) → d = 0) := by
  refine ⟨s ^^ t, 2 * ((m <<< (digits + n.log2 - m.log2)) / n) + ((m <<< (digits + n.log2 - m.log2)) % n != 0).toNat, i - j - (digits + n.log2 - m.log2 : Nat) - 1, ?_, ?_⟩
  · unfold Datum.quotient; simp only [hn, if_false]
  rw [Nat.shiftLeft_eq]
  generalize hmore : digits + n.log2 - m.log2 = more
  have hdm := Nat.div_add_mod (m * 2 ^ more) n
  have hlt := Nat.mod_lt (m * 2 ^ more) (Nat.pos_of_ne_zero hn)
  generalize hF : m * 2 ^ more / n = F at *
  generalize hR : m * 2 ^ more % n = R at *
  have hsq : (if (s ^^ t) then (-1 : Rat) else 1) * (if t then -1 else 1) = (if s then -1 else 1) := by cases s <;> cases t <;> simp <;> grind
  have hpow : (2 : Rat) ^ (i - j - more - 1) * 2 ^ j * (2 * ((2 ^ more : Nat) : Rat)) = 2 ^ i := by
    rw [← znat]
    have e1 : (2 : Rat) * 2 ^ (more : Int) = 2 ^ ((more : Int) + 1) := by rw [zadd, Rat.zpow_one]; grind
    rw [e1, ← zadd, ← zadd]; congr 1; omega
  by_cases hm : m = 0
  · subst hm
    have hFR : F = 0 ∧ R = 0 := by
      rw [Nat.zero_mul] at hF hR; rw [Nat.zero_div] at hF; rw [Nat.zero_mod] at hR; exact ⟨hF.symm, hR.symm⟩
    rw [hFR.1, hFR.2]
    refine ⟨0, by simp [rv], by grind, by grind, fun _ => rfl⟩
  · have hD : n * 2 ^ (digits - 1) < m * 2 ^ more := by
      have h1 : 2 ^ m.log2 ≤ m := Nat.log2_self_le hm
      have h2 : n < 2 ^ (n.log2 + 1) := Nat.lt_log2_self
      calc n * 2 ^ (digits - 1) < 2 ^ (n.log2 + 1) * 2 ^ (digits - 1) := Nat.mul_lt_mul_of_pos_right h2 (Nat.two_pow_pos _)
        _ = 2 ^ (n.log2 + 1 + (digits - 1)) := by rw [← Nat.pow_add]
        _ ≤ 2 ^ (m.log2 + more) := Nat.pow_le_pow_right (by omega) (by omega)
        _ = 2 ^ m.log2 * 2 ^ more := Nat.pow_add ..
        _ ≤ _ := Nat.mul_le_mul_right _ h1
    have hDpos : 0 < m * 2 ^ more := by omega
    generalize hDD : m * 2 ^ more = D at *
    have hDr : (0 : Rat) < (D : Rat) := by exact_mod_cast hDpos
    have hDm : (D : Rat) = (m : Rat) * ((2 ^ more : Nat) : Rat) := by rw [← hDD, Rat.natCast_mul]
    have hmr : (0 : Rat) < (m : Rat) := by exact_mod_cast Nat.pos_of_ne_zero hm
    have hnr : (0 : Rat) < (n : Rat) := by exact_mod_cast Nat.pos_of_ne_zero hn
    have hdr : (D : Rat) = (n : Rat) * (F : Rat) + (R : Rat) := by rw [← Rat.natCast_mul, ← Rat.natCast_add, hdm]
    have hRr : (R : Rat) < (n : Rat) := by exact_mod_cast hlt
    have hR0 : (0 : Rat) ≤ (R : Rat) := Rat.natCast_nonneg
    have hDd : (n : Rat) * 2 ^ (digits : Int) < 2 * (D : Rat) := by
      have : (n : Rat) * ((2 ^ (digits - 1) : Nat) : Rat) < (D : Rat) := by rw [← Rat.natCast_mul]; exact_mod_cast hD
      have e1 : (2 : Rat) ^ (digits : Int) = ((2 ^ (digits - 1) : Nat) : Rat) * 2 := by
        have e3 : (digits : Int) = ((digits - 1 : Nat) : Int) + 1 := by omega
        rw [e3, zadd, Rat.zpow_one, znat]
      rw [e1]; grind
    have hex : (∃ (c l : Int), rv s m i = rv t n j * ((c : Rat) * 2 ^ l) ∧ c.natAbs < 2 ^ (digits - 1)) → R = 0 := by
      rintro ⟨c, l, hc, hcb⟩
      -- |c| 2^l is m/n 2^(i-j)
      have hca : (m : Rat) * 2 ^ i = (n : Rat) * 2 ^ j * ((c.natAbs : Rat) * 2 ^ l) := by
        have p1 := Rat.mul_nonneg (Rat.le_of_lt hmr) (Rat.le_of_lt (zpos i))
        have p2 := Rat.mul_nonneg (Rat.le_of_lt hnr) (Rat.le_of_lt (zpos j))
        have p3 := Rat.mul_nonneg (Rat.natCast_nonneg (a := c.natAbs)) (Rat.le_of_lt (zpos l))
        refine abs_eq_mul (s := s) (t := t) (c := (c : Rat) * 2 ^ l) p1 p2 p3 ?_ ?_
        · rcases rv_natAbs (c := c) with e | e <;> rw [e]
          · left; rfl
          · right; grind
        · unfold rv at hc; rw [← Rat.mul_assoc, hc]; grind
      -- D / n = |c| 2^(l + j + more - i)
      have hDc : (D : Rat) = (n : Rat) * ((c.natAbs : Rat) * 2 ^ (l + j + more - i)) := by
        rw [hDm, ← znat]
        have e1 : (2 : Rat) ^ (l + j + more - i) * 2 ^ i = 2 ^ l * 2 ^ j * 2 ^ (more : Int) := by
          rw [← zadd, ← zadd, ← zadd]; congr 1; omega
        refine cancel_pos (c := (2 : Rat) ^ i) ?_ (zpos i)
        generalize (2 : Rat) ^ (l + j + more - i) = W at *
        generalize (2 : Rat) ^ (more : Int) = G at *
        generalize (2 : Rat) ^ i = I at *
        generalize (2 : Rat) ^ j = J at *
        generalize (2 : Rat) ^ l = Lq at *
        generalize (c.natAbs : Rat) = C at *
        have : (m : Rat) * G * I = (m : Rat) * I * G := by grind
        rw [this, hca]
        have : (n : Rat) * (C * W) * I = (n : Rat) * C * (W * I) := by grind
        rw [this, e1]; grind
      rcases Int.lt_or_le (l + j + more - i) 0 with hz | hz
      · exfalso
        have hcb' : (c.natAbs : Rat) < ((2 ^ (digits - 1) : Nat) : Rat) := by exact_mod_cast hcb
        have h1 : (2 : Rat) ^ (l + j + more - i) ≤ 1 := by
          have e0 : (2 : Rat) ^ (0 : Int) = 1 := Rat.zpow_zero 2
          rw [← e0, zsub 0 (l + j + more - i) (by omega)]
          have h4 : ((1 : Nat) : Rat) ≤ ((2 ^ (0 - (l + j + more - i)).toNat : Nat) : Rat) := by exact_mod_cast Nat.two_pow_pos _
          have h5 := Rat.mul_le_mul_of_nonneg_left h4 (Rat.le_of_lt (zpos (l + j + more - i)))
          have e4 : ((1 : Nat) : Rat) = 1 := rfl
          rw [e4, Rat.mul_one] at h5
          exact h5
        have h2 : (n : Rat) * ((2 ^ (digits - 1) : Nat) : Rat) < (D : Rat) := by rw [← Rat.natCast_mul]; exact_mod_cast hD
        have h3 := Rat.mul_le_mul_of_nonneg_left h1 (Rat.natCast_nonneg (a := c.natAbs))
        have h4 := Rat.mul_le_mul_of_nonneg_left h3 (Rat.le_of_lt hnr)
        have h5 := Rat.mul_lt_mul_of_pos_left hcb' hnr
        rw [hDc] at h2
        rw [Rat.mul_one] at h4
        clear hc hca
        generalize (n : Rat) * ((2 ^ (digits - 1) : Nat) : Rat) = A at *
        generalize (n : Rat) * ((c.natAbs : Rat) * 2 ^ (l + j + more - i)) = B at *
        generalize (n : Rat) * (c.natAbs : Rat) = C at *
        grind
      · have e1 : D = n * (c.natAbs * 2 ^ (l + j + more - i).toNat) := by
          have : (D : Rat) = ((n * (c.natAbs * 2 ^ (l + j + more - i).toNat) : Nat) : Rat) := by
            rw [hDc, Rat.natCast_mul, Rat.natCast_mul, ← znat, Int.toNat_of_nonneg hz]
          exact_mod_cast this
        rw [← hR, e1]
        exact Nat.mul_mod_right _ _
    have hst : ∀ st : Rat, st = (((R != 0).toNat : Nat) : Rat) → (R = 0 ∧ st = 0) ∨ (R ≠ 0 ∧ st = 1) := by
      intro st h
      by_cases hr : R = 0
      · left; subst hr; exact ⟨rfl, by rw [h]; rfl⟩
      · right; refine ⟨hr, ?_⟩
        rw [h]
        have : (R != 0) = true := by simpa using hr
        rw [this]; rfl
    have hst' := hst _ rfl
    generalize hSt : (((R != 0).toNat : Nat) : Rat) = st at *
    have hst'' : ((R : Rat) = 0 ∧ st = 0) ∨ st = 1 := by
      rcases hst' with ⟨h1, h2⟩ | ⟨_, h2⟩
      · left; exact ⟨by rw [h1]; rfl, h2⟩
      · right; exact h2
    have hqb := quot_bound hDr hdr hR0 hRr hst'' hDd (Rat.le_of_lt (zpos digits))
    rw [Rat.zpow_natCast] at hqb
    refine ⟨((2 * (F : Rat) + st) * n - 2 * D) / (2 * D), ?_, hqb.1, hqb.2, ?_⟩
    · unfold rv
      rw [Rat.natCast_add, Rat.natCast_mul, hSt]
      have e2 : ((2 : Nat) : Rat) = 2 := rfl
      rw [e2]
      exact quot_eq hsq hpow hDm hDr
    · intro h
      have h0 := hex h
      rcases hst' with ⟨_, h2⟩ | ⟨h1, _⟩
      · have e0 : (R : Rat) = 0 := by rw [h0]; rfl
        have : (2 * (F : Rat) + st) * n - 2 * D = 0 := by rw [h2, hdr, e0]; grind
        rw [this]; grind
      · exact absurd h0 h1

theorem div_is {f : Format} {x y : Nat} {a b : Rat} (hx : Is f x a) (hy : Is f y b) (hb : b ≠ 0) : ∃ r q', f.div x y = some r ∧ Rnd f q' r ∧
    ∃ d : Rat, q' * b = a * (1 + d) ∧ d * 2 ^ (f.fractionBits + 2) ≤ 1 ∧ -1 ≤ d * 2 ^ (f.fractionBits + 2) ∧ ((∃ (c l : Int), a = b * ((c : Rat) * 2 ^ l) ∧ c.natAbs < 2 ^ (f.fractionBits + 1)) → d = 0) := by
  obtain ⟨s, m, i, h1, rfl⟩ := hx
  obtain ⟨t, n, j, h2, rfl⟩ := hy
  have hn : n ≠ 0 := fun h => hb (by subst h; simp [rv])
  obtain ⟨z, k, e, h3, d, h4, h5, h6, h7⟩ := quotient_num (s := s) (t := t) (m := m) (n := n) (digits := f.fractionBits + 2) (i := i) (j := j) hn (by omega)
  exact ⟨_, rv z k e, by unfold Format.div; rw [h1, h2, h3]; rfl, ⟨z, k, e, rfl, rfl⟩, d, h4, h5, h6, h7⟩

theorem signed_lt {z z' : Int} (base : Int) : ((z : Rat) * 2 ^ base < (z' : Rat) * 2 ^ base) ↔ z < z' := by
  constructor
  · intro h
    exact Rat.intCast_lt_intCast.1 (Rat.lt_of_mul_lt_mul_right h (Rat.le_of_lt (zpos base)))
  · intro h
    exact Rat.mul_lt_mul_of_pos_right (Rat.intCast_lt_intCast.2 h) (zpos base)

/-- HOW TWO FINITE NUMBERS STAND. -/
theorem order_is {f : Format} {x y : Nat} {a b : Rat} (hx : Is f x a) (hy : Is f y b) : f.order x y = some (if a < b then .lt else if a = b then .eq else .gt) := by
  obtain ⟨s, m, i, h1, rfl⟩ := hx
  obtain ⟨t, n, j, h2, rfl⟩ := hy
  unfold Format.order
  rw [h1, h2]
  unfold Datum.order
  dsimp only
  rw [rv_signed s m i (min i j) (by omega), rv_signed t n j (min i j) (by omega)]
  generalize signed s m (i - min i j).toNat = z
  generalize signed t n (j - min i j).toNat = z'
  simp only [signed_lt]
  have heq : ((z : Rat) * 2 ^ min i j = (z' : Rat) * 2 ^ min i j) ↔ z = z' := by
    constructor
    · intro h
      have := cancel_pos h (zpos _)
      exact Rat.intCast_inj.1 this
    · intro h; rw [h]
  simp only [heq]
  rw [Int.compare_eq_ite_lt] 
  congr 1
  split
  · rfl
  · split
    · rw [if_neg (by omega)]
    · rw [if_pos (by omega)]

section
variable {f : Format} {x y : Nat} {a b : Rat}
theorem lt_is (hx : Is f x a) (hy : Is f y b) : (f.order x y == some .lt) = decide (a < b) := by
  rw [order_is hx hy]; by_cases h : a < b
  · simp [h]
  · by_cases h2 : a = b <;> simp [h, h2]
theorem eq_is (hx : Is f x a) (hy : Is f y b) : (f.order x y == some .eq) = decide (a = b) := by
  rw [order_is hx hy]; by_cases h : a < b
  · have : a ≠ b := by grind
    simp [h, this]
  · by_cases h2 : a = b <;> simp [h, h2]
theorem gt_is (hx : Is f x a) (hy : Is f y b) : (f.order x y == some .gt) = decide (b < a) := by
  rw [order_is hx hy]; by_cases h : a < b
  · have : ¬ b < a := by grind
    simp [h, this]
  · by_cases h2 : a = b
    · subst h2; simp [h]
    · have : b < a := by grind
      simp [h, h2, this]
end

/-! ### For the walk: total functions, and when they are what Go computes -/

def okf (op : BinOp) (k : FloatKind) (x y : Nat) : Bool := (floatBits op k x y).isSome
def fop (op : BinOp) (k : FloatKind) (x y : Nat) : Nat := (floatBits op k x y).getD 0
def okc (s : FloatKind) (b : Nat) (d : FloatKind) : Bool := (floatToFloatBits s b d).isSome
def cvt (s : FloatKind) (b : Nat) (d : FloatKind) : Nat := (floatToFloatBits s b d).getD 0

theorem floatBits_of_ok {op : BinOp} {k : FloatKind} {x y : Nat} (h : okf op k x y = true) : floatBits op k x y = some (fop op k x y) := by
  unfold okf at h; unfold fop
  cases hf : floatBits op k x y with
  | none => rw [hf] at h; cases h
  | some r => rfl

theorem run_fop {P : Program} (w : World) (op : BinOp) (t : TypeId) (k : FloatKind) (x y : Nat) (h : okf op k x y = true) :
    (binOp op t (.float k x) (.float k y)).run P w = .ok (.float k (fop op k x y)) w :=
  run_float_arith w op t k x y _ (floatBits_of_ok h)

theorem run_cvt {P : Program} (w : World) (src dst : TypeId) (s k : FloatKind) (b : Nat) (hs : (P.underlying src).isSome = true) (hd : P.underlying dst = some (.float k)) (h : okc s b k = true) :
    (convert src dst (.float s b)).run P w = .ok (.float k (cvt s b k)) w := by
  refine run_convert_float_float w src dst s k b _ hs hd ?_
  unfold okc at h; unfold cvt
  cases hf : floatToFloatBits s b k with
  | none => rw [hf] at h; cases h
  | some r => rfl

theorem good (k : FloatKind) : Good k.format := by cases k; exact .inl rfl; exact .inr rfl

section
variable {k : FloatKind} {x y : Nat} {a b : Rat}
theorem fop_add (hx : Is k.format x a) (hy : Is k.format y b) : okf .add k x y = true ∧ Rnd k.format (a + b) (fop .add k x y) := by
  obtain ⟨r, h, hr⟩ := add_is hx hy
  unfold okf fop floatBits; rw [h]; exact ⟨rfl, hr⟩
theorem fop_sub (hx : Is k.format x a) (hy : Is k.format y b) : okf .sub k x y = true ∧ Rnd k.format (a - b) (fop .sub k x y) := by
  obtain ⟨r, h, hr⟩ := sub_is hx hy
  unfold okf fop floatBits; rw [h]; exact ⟨rfl, hr⟩
theorem fop_mul (hx : Is k.format x a) (hy : Is k.format y b) : okf .mul k x y = true ∧ Rnd k.format (a * b) (fop .mul k x y) := by
  obtain ⟨r, h, hr⟩ := mul_is hx hy
  unfold okf fop floatBits; rw [h]; exact ⟨rfl, hr⟩
theorem fop_div (hx : Is k.format x a) (hy : Is k.format y b) (hb : b ≠ 0) : okf .quo k x y = true ∧ ∃ q', Rnd k.format q' (fop .quo k x y) ∧
    ∃ d : Rat, q' * b = a * (1 + d) ∧ d * 2 ^ (k.format.fractionBits + 2) ≤ 1 ∧ -1 ≤ d * 2 ^ (k.format.fractionBits + 2) ∧ ((∃ (c l : Int), a = b * ((c : Rat) * 2 ^ l) ∧ c.natAbs < 2 ^ (k.format.fractionBits + 1)) → d = 0) := by
  obtain ⟨r, q', h, hr⟩ := div_is hx hy hb
  unfold okf fop floatBits; rw [h]; exact ⟨rfl, q', hr⟩
end

theorem widen {x : Nat} {q : Rat} (h : Is single x q) (hq : q < 2 ^ (100 : Int)) (hq' : -(2 ^ (100 : Int)) < q) : okc .f32 x .f64 = true ∧ Is double (cvt .f32 x .f64) q := by
  obtain ⟨s, m, e, h1, rfl⟩ := id h
  have hr : Is double (double.nearest s m e) (rv s m e) := Rnd.of_is (.inr rfl) h ⟨s, m, e, rfl, rfl⟩ (by decide) (by decide) hq hq'
  have hi := inf_not hr
  have : floatToFloatBits .f32 x .f64 = some (double.nearest s m e) := by
    unfold floatToFloatBits
    have h1' : FloatKind.f32.decode x = .number s m e := h1
    rw [if_neg (by decide), h1']
    dsimp only
    rw [if_neg]
    · rfl
    · show ¬ (double.read (double.nearest s m e)).isInfinity = true
      rw [hi]; decide
  unfold okc cvt; rw [this]; exact ⟨rfl, hr⟩

theorem narrow {x : Nat} {q : Rat} (h : Is double x q) (hq : q < 2 ^ (100 : Int)) (hq' : -(2 ^ (100 : Int)) < q) : okc .f64 x .f32 = true ∧ Rnd single q (cvt .f64 x .f32) := by
  obtain ⟨s, m, e, h1, rfl⟩ := id h
  have hr : Rnd single (rv s m e) (single.nearest s m e) := ⟨s, m, e, rfl, rfl⟩
  obtain ⟨q', hi, _⟩ := hr.near (.inl rfl) (M := 100) (by decide) (by decide) hq hq'
  have hi := inf_not hi
  have : floatToFloatBits .f64 x .f32 = some (single.nearest s m e) := by
    unfold floatToFloatBits
    have h1' : FloatKind.f64.decode x = .number s m e := h1
    rw [if_neg (by decide), h1']
    dsimp only
    rw [if_neg]
    · rfl
    · show ¬ (single.read (single.nearest s m e)).isInfinity = true
      rw [hi]; decide
  unfold okc cvt; rw [this]; exact ⟨rfl, hr⟩

theorem ofInt_rnd (k : FloatKind) (n : Int) : Rnd k.format (n : Rat) (floatOfInt k n) :=
  ⟨decide (n < 0), n.natAbs, 0, by rw [rv_abs n _ 0 (fun _ => rfl), Rat.zpow_zero, Rat.mul_one], rfl⟩

/-! ### Exact sixteenths -/

/-- The word is n sixteenths. -/
def Ex (k : FloatKind) (b : Nat) (n : Int) : Prop := Is k.format b ((n : Rat) / 16)

theorem Rnd.ex {k : FloatKind} {q : Rat} {b : Nat} (h : Rnd k.format q b) (n : Int) (hq : q = (n : Rat) / 16) (hl : -65536 < n) (hu : n < 65536) : Ex k b n := by
  have := h.exact (good k) (n * 64) (by rw [hq, Rat.intCast_mul]; have : ((64 : Int) : Rat) = 64 := rfl; rw [this]; grind) (by omega) (by omega)
  unfold Ex; rw [← hq]; exact this

section
variable {k : FloatKind} {x y : Nat} {m n : Int}
theorem Ex.add (hx : Ex k x m) (hy : Ex k y n) (hl : -65536 < m + n) (hu : m + n < 65536) : okf .add k x y = true ∧ Ex k (fop .add k x y) (m + n) := by
  obtain ⟨h1, h2⟩ := fop_add hx hy
  exact ⟨h1, h2.ex _ (by rw [Rat.intCast_add]; grind) hl hu⟩
theorem Ex.sub (hx : Ex k x m) (hy : Ex k y n) (hl : -65536 < m - n) (hu : m - n < 65536) : okf .sub k x y = true ∧ Ex k (fop .sub k x y) (m - n) := by
  obtain ⟨h1, h2⟩ := fop_sub hx hy
  exact ⟨h1, h2.ex _ (by rw [Rat.intCast_sub]; grind) hl hu⟩
theorem Ex.mul (hx : Ex k x m) (hy : Ex k y n) (p : Int) (hp : m * n = 16 * p) (hl : -65536 < p) (hu : p < 65536) : okf .mul k x y = true ∧ Ex k (fop .mul k x y) p := by
  obtain ⟨h1, h2⟩ := fop_mul hx hy
  refine ⟨h1, h2.ex p ?_ hl hu⟩
  have : ((m * n : Int) : Rat) = ((16 * p : Int) : Rat) := by rw [hp]
  rw [Rat.intCast_mul, Rat.intCast_mul] at this
  have e : ((16 : Int) : Rat) = 16 := rfl
  rw [e] at this
  grind
theorem Ex.widen (hx : Ex .f32 x m) (hl : -65536 < m) (hu : m < 65536) : okc .f32 x .f64 = true ∧ Ex .f64 (cvt .f32 x .f64) m := by
  have h22 := pow_ge 22 100 (by decide)
  have e22 : ((2 ^ 22 : Nat) : Rat) = 4194304 := rfl
  rw [e22] at h22
  have c1 : ((-65536 : Int) : Rat) < (m : Rat) := Rat.intCast_lt_intCast.2 hl
  have c2 : (m : Rat) < ((65536 : Int) : Rat) := Rat.intCast_lt_intCast.2 hu
  have e1 : ((-65536 : Int) : Rat) = -65536 := rfl
  have e2 : ((65536 : Int) : Rat) = 65536 := rfl
  rw [e1] at c1; rw [e2] at c2
  exact Flt.widen hx (by grind) (by grind)
theorem Ex.narrow (hx : Ex .f64 x m) (hl : -65536 < m) (hu : m < 65536) : okc .f64 x .f32 = true ∧ Ex .f32 (cvt .f64 x .f32) m := by
  have h22 := pow_ge 22 100 (by decide)
  have e22 : ((2 ^ 22 : Nat) : Rat) = 4194304 := rfl
  rw [e22] at h22
  have c1 : ((-65536 : Int) : Rat) < (m : Rat) := Rat.intCast_lt_intCast.2 hl
  have c2 : (m : Rat) < ((65536 : Int) : Rat) := Rat.intCast_lt_intCast.2 hu
  have e1 : ((-65536 : Int) : Rat) = -65536 := rfl
  have e2 : ((65536 : Int) : Rat) = 65536 := rfl
  rw [e1] at c1; rw [e2] at c2
  obtain ⟨h1, h2⟩ := Flt.narrow hx (by grind) (by grind)
  exact ⟨h1, h2.ex (k := .f32) m rfl hl hu⟩
theorem Ex.ofInt (k : FloatKind) (n : Int) (hl : -4096 < n) (hu : n < 4096) : Ex k (floatOfInt k n) (16 * n) :=
  (ofInt_rnd k n).ex _ (by rw [Rat.intCast_mul]; have : ((16 : Int) : Rat) = 16 := rfl; rw [this]; grind) (by omega) (by omega)
theorem Ex.div (hx : Ex k x m) (hy : Ex k y n) (hn : n ≠ 0) (p : Int) (hp : 16 * m = p * n) (hl : -65536 < p) (hu : p < 65536) : okf .quo k x y = true ∧ Ex k (fop .quo k x y) p := by
  have hn' : (n : Rat) ≠ 0 := fun h => hn (Rat.intCast_inj.1 h)
  obtain ⟨h1, q', h2, d, h3, h4, h5, h6⟩ := fop_div hx hy (by grind)
  have e : ((16 * m : Int) : Rat) = ((p * n : Int) : Rat) := by rw [hp]
  rw [Rat.intCast_mul, Rat.intCast_mul] at e
  have e16 : ((16 : Int) : Rat) = 16 := rfl
  rw [e16] at e
  have e4 : (2 : Rat) ^ (-4 : Int) = 1 / 16 := by
    have h := zadd (-4) 4
    have h2 : (2 : Rat) ^ (4 : Int) = 16 := by rw [show (4 : Int) = ((4 : Nat) : Int) from rfl, znat]; rfl
    have h3 : (2 : Rat) ^ ((-4 : Int) + 4) = 1 := Rat.zpow_zero 2
    rw [h2, h3] at h
    grind
  have hd : d = 0 := h6 ⟨p, -4, by rw [e4]; grind, by
    have : 2 ^ 16 ≤ 2 ^ (k.format.fractionBits + 1) := Nat.pow_le_pow_right (by decide) (by cases k <;> decide)
    omega⟩
  subst hd
  exact ⟨h1, h2.ex p (by grind) hl hu⟩
theorem Ex.lt (hx : Ex k x m) (hy : Ex k y n) : (k.format.order x y == some .lt) = decide (m < n) := by
  rw [lt_is hx hy]; congr 1
  have := Rat.intCast_lt_intCast (a := m) (b := n)
  grind
theorem Ex.eq (hx : Ex k x m) (hy : Ex k y n) : (k.format.order x y == some .eq) = decide (m = n) := by
  rw [eq_is hx hy]; congr 1
  have := Rat.intCast_inj (a := m) (b := n)
  grind
theorem Ex.gt (hx : Ex k x m) (hy : Ex k y n) : (k.format.order x y == some .gt) = decide (n < m) := by
  rw [gt_is hx hy]; congr 1
  have := Rat.intCast_lt_intCast (a := n) (b := m)
  grind
end

/-- A word without its sign. -/
def absW (b : Nat) : Nat := b % 2147483648

theorem absW_is {b : Nat} {q : Rat} (h : Is single b q) : Is single (absW b) (if q < 0 then -q else q) := by
  obtain ⟨s, m, e, h1, rfl⟩ := h
  have hw : single.signWeight = 2147483648 := by decide
  have h2 : single.read (absW b) = .number false m e := by
    unfold absW
    unfold Format.read at h1 ⊢
    dsimp only at h1 ⊢
    rw [hw] at h1 ⊢
    rw [Nat.mod_mod, Nat.mod_div_self]
    have hz : ((0 % 2 == 1) = false) := rfl
    rw [hz]
    split at h1
    · rename_i hc
      rw [if_pos hc]
      simp only [Datum.number.injEq] at h1 ⊢
      exact ⟨trivial, h1.2⟩
    · rename_i hc
      rw [if_neg hc]
      split at h1
      · rename_i hc2
        rw [if_pos hc2]
        simp only [Datum.number.injEq] at h1 ⊢
        exact ⟨trivial, h1.2⟩
      · split at h1 <;> cases h1
  refine ⟨false, m, e, h2, ?_⟩
  have hm : (0 : Rat) ≤ (m : Rat) * 2 ^ e := Rat.mul_nonneg Rat.natCast_nonneg (Rat.le_of_lt (zpos e))
  unfold rv
  cases s
  · simp only [Bool.false_eq_true, if_false]
    rw [if_neg (by grind)]
  · simp only [Bool.false_eq_true, if_true, if_false]
    by_cases h0 : (m : Rat) * 2 ^ e = 0
    · rw [if_neg (by grind)]; grind
    · rw [if_pos (by grind)]; grind

end Go.Proofs.Ytjegonmedaiccaa.Flt
