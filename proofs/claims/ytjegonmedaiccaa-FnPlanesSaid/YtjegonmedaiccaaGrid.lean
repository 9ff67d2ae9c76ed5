/- Plain facts: sums, means and planes over the grid, exact. -/
import Derived.Test.YtjegonmedaiccaaParts
import Derived.Deep.RegionWith
import Derived.Deep.AppendLies
import Derived.Deep.RegionHeld3
import Derived.Deep.DeepCutAuto
namespace Go.Proofs.Ytjegonmedaiccaa
open Go.RowKit Flt Ieee
attribute [local go_sem] run_fop run_cvt run_store_float

theorem is_const {b m n : Nat} {s : Bool} {q : Rat} (h : single.read b = .number s m (-(n : Int))) (hq : (if s then -1 else 1) * (m : Rat) = q * ((2 ^ n : Nat) : Rat)) : Is single b q := by
  refine ⟨s, m, _, h, ?_⟩
  unfold rv
  have h1 := zadd (-(n : Int)) n
  have h0 : (2 : Rat) ^ (-(n : Int) + n) = 1 := by
    rw [show -(n : Int) + n = 0 by omega]; exact Rat.zpow_zero 2
  rw [h0, znat] at h1
  rw [hq]
  generalize (2 : Rat) ^ (-(n : Int)) = t at *
  generalize ((2 ^ n : Nat) : Rat) = u at *
  grind

theorem ex_const {b m n : Nat} {s : Bool} {N : Int} (h : single.read b = .number s m (-(n : Int))) (hq : (if s then -1 else 1 : Int) * ((m * 16 : Nat) : Int) = N * ((2 ^ n : Nat) : Int)) : Ex .f32 b N := by
  refine is_const h ?_
  have h1 : (((if s then -1 else 1 : Int) * ((m * 16 : Nat) : Int) : Int) : Rat) = ((N * ((2 ^ n : Nat) : Int) : Int) : Rat) := by rw [hq]
  rw [Rat.intCast_mul, Rat.intCast_mul, Rat.intCast_natCast, Rat.intCast_natCast, Rat.natCast_mul] at h1
  have e16 : ((16 : Nat) : Rat) = 16 := rfl
  rw [e16] at h1
  generalize ((2 ^ n : Nat) : Rat) = u at *
  cases s
  · have e1 : ((if false = true then -1 else 1 : Int) : Rat) = 1 := rfl
    rw [e1] at h1
    simp only [Bool.false_eq_true, if_false]
    grind
  · have e1 : ((if true = true then -1 else 1 : Int) : Rat) = -1 := rfl
    rw [e1] at h1
    simp only [if_true]
    grind
theorem k4 : Ex .f32 1082130432 64 := ex_const (m := 8388608) (n := 21) (s := false) (by decide) (by decide)
theorem k5 : Ex .f32 1084227584 80 := ex_const (m := 10485760) (n := 21) (s := false) (by decide) (by decide)
theorem k1 : Ex .f32 1065353216 (4 * 4) := ex_const (m := 8388608) (n := 23) (s := false) (by decide) (by decide)
theorem kh : Ex .f32 1056964608 (4 * 2) := ex_const (m := 8388608) (n := 24) (s := false) (by decide) (by decide)
theorem kq : Ex .f32 3196059648 (4 * (-1)) := ex_const (m := 8388608) (n := 25) (s := true) (by decide) (by decide)

theorem pick_ex (n : Nat) (C : Nat → Int) (p : Int) (d : Nat) {xd : Int} (hd : Ex .f32 d (4 * xd)) (h0 : -8 ≤ xd) (h1 : xd ≤ 8) :
    PickOk n C p ∧ ∃ x, Ex .f32 (pickW n C p d) (4 * x) ∧ -8 ≤ x ∧ x ≤ 8 := by
  have b : -8 ≤ C p.toNat % 17 - 8 ∧ C p.toNat % 17 - 8 ≤ 8 := by omega
  unfold PickOk pickW
  generalize C p.toNat % 17 - 8 = m at *
  obtain ⟨o, e⟩ := (Ex.ofInt .f32 m (by omega) (by omega)).div k4 (by omega) (4 * m) (by omega) (by omega) (by omega)
  refine ⟨fun _ => o, ?_⟩
  split
  · exact ⟨m, e, b.1, b.2⟩
  · exact ⟨xd, hd, h0, h1⟩

theorem vec_qv (n : Nat) (C : Nat → Int) (p : Int) : VecOk n C p ∧ ∃ x y z, Qv (vecOf n C p) x y z := by
  obtain ⟨a1, x, a2, a3, a4⟩ := pick_ex n C p _ k1 (by omega) (by omega)
  obtain ⟨b1, y, b2, b3, b4⟩ := pick_ex n C (p + 1) _ kh (by omega) (by omega)
  obtain ⟨c1, z, c2, c3, c4⟩ := pick_ex n C (p + 2) _ kq (by omega) (by omega)
  exact ⟨⟨a1, b1, c1⟩, x, y, z, a2, b2, c2, a3, a4, b3, b4, by omega, by omega⟩

/-! ### FitPlane on the grid -/

def isum (x : Nat → Int) : Nat → Int
  | 0 => 0
  | k + 1 => isum x k + x k

theorem isum_bd {x : Nat → Int} {n : Nat} (h : ∀ k, k < n → -2000 ≤ x k ∧ x k ≤ 2000) : ∀ k, k ≤ n → -2000 * (k : Int) ≤ isum x k ∧ isum x k ≤ 2000 * (k : Int)
  | 0, _ => by simp [isum]
  | k + 1, hk => by
    have := isum_bd h k (by omega)
    have := h k (by omega)
    simp only [isum]
    omega

theorem sum_ex {X : Nat → Nat} {x : Nat → Int} {n : Nat} (hn : n ≤ 9) (hX : ∀ k, k < n → Ex .f32 (X k) (x k)) (h : ∀ k, k < n → -2000 ≤ x k ∧ x k ≤ 2000) :
    ∀ k, k ≤ n → Ex .f64 (sumTo X k) (isum x k) ∧ (k < n → okc .f32 (X k) .f64 = true ∧ okf .add .f64 (sumTo X k) (cvt .f32 (X k) .f64) = true)
  | 0, _ => ⟨ex_zero .f64, fun hk => by
      obtain ⟨a1, a2⟩ := (hX 0 hk).widen (by have := h 0 hk; omega) (by have := h 0 hk; omega)
      exact ⟨a1, ((ex_zero .f64).add a2 (by have := h 0 hk; omega) (by have := h 0 hk; omega)).1⟩⟩
  | k + 1, hk => by
    obtain ⟨s1, _⟩ := sum_ex hn hX h k (by omega)
    have b0 := isum_bd h k (by omega)
    have b1 := h k (by omega)
    obtain ⟨a1, a2⟩ := (hX k (by omega)).widen (by omega) (by omega)
    have s2 := (s1.add a2 (by omega) (by omega)).2
    refine ⟨s2, fun hlt => ?_⟩
    have b2 := isum_bd h (k + 1) (by omega)
    have b3 := h (k + 1) hlt
    obtain ⟨c1, c2⟩ := (hX (k + 1) hlt).widen (by omega) (by omega)
    exact ⟨c1, (Ex.add (m := isum x (k + 1)) s2 c2 (by omega) (by omega)).1⟩

theorem mean_ex {X : Nat → Nat} {x : Nat → Int} {p : Int} (hX : ∀ k, k < 9 → Ex .f32 (X k) (x k)) (h : ∀ k, k < 9 → -2000 ≤ x k ∧ x k ≤ 2000) (hp : isum x 9 = 9 * p) : MeanOk X 9 ∧ Ex .f64 (meanW X 9) p := by
  have hs := sum_ex (by omega) hX h
  have b := isum_bd h 9 (by omega)
  obtain ⟨o, e⟩ := (hs 9 (by omega)).1.div (Ex.ofInt .f64 9 (by omega) (by omega)) (by omega) p (by omega) (by omega) (by omega)
  exact ⟨⟨fun k hk => (hs k (by omega)).2 hk, o⟩, e⟩

theorem dev_ex {X : Nat → Nat} {x : Nat → Int} {m : Nat} {p : Int} (hX : ∀ k, k < 9 → Ex .f32 (X k) (x k)) (h : ∀ k, k < 9 → -2000 ≤ x k ∧ x k ≤ 2000) (hm : Ex .f64 m p) (h1 : -2000 ≤ p) (h2 : p ≤ 2000) : DevOk X m 9 ∧ ∀ k, k < 9 → Ex .f64 (devW X m k) (x k - p) := by
  have key : ∀ k, k < 9 → (okc .f32 (X k) .f64 = true ∧ okf .sub .f64 (cvt .f32 (X k) .f64) m = true) ∧ Ex .f64 (devW X m k) (x k - p) := by
    intro k hk
    have b := h k hk
    obtain ⟨a1, a2⟩ := (hX k hk).widen (by omega) (by omega)
    obtain ⟨c1, c2⟩ := a2.sub hm (by omega) (by omega)
    exact ⟨⟨a1, c1⟩, c2⟩
  exact ⟨fun k hk => (key k hk).1, fun k hk => (key k hk).2⟩

theorem acc_ex {g h : Nat → Nat} {G H P : Nat → Int} {n : Nat} (hn : n ≤ 9) (hg : ∀ k, k < n → Ex .f64 (g k) (G k)) (hh : ∀ k, k < n → Ex .f64 (h k) (H k)) (hP : ∀ k, k < n → G k * H k = 16 * P k) (hb : ∀ k, k < n → -2000 ≤ P k ∧ P k ≤ 2000) :
    ∀ k, k ≤ n → Ex .f64 (accTo g h k) (isum P k) ∧ (k < n → okf .mul .f64 (g k) (h k) = true ∧ okf .add .f64 (accTo g h k) (fop .mul .f64 (g k) (h k)) = true)
  | 0, _ => ⟨ex_zero .f64, fun hk => by
      have b := hb 0 hk
      obtain ⟨a1, a2⟩ := (hg 0 hk).mul (hh 0 hk) (P 0) (hP 0 hk) (by omega) (by omega)
      exact ⟨a1, ((ex_zero .f64).add a2 (by omega) (by omega)).1⟩⟩
  | k + 1, hk => by
    obtain ⟨s1, _⟩ := acc_ex hn hg hh hP hb k (by omega)
    have b0 := isum_bd hb k (by omega)
    have b1 := hb k (by omega)
    obtain ⟨a1, a2⟩ := (hg k (by omega)).mul (hh k (by omega)) (P k) (hP k (by omega)) (by omega) (by omega)
    have s2 := (s1.add a2 (by omega) (by omega)).2
    refine ⟨s2, fun hlt => ?_⟩
    have b2 := isum_bd hb (k + 1) (by omega)
    have b3 := hb (k + 1) hlt
    obtain ⟨c1, c2⟩ := (hg (k + 1) hlt).mul (hh (k + 1) hlt) (P (k + 1)) (hP (k + 1) hlt) (by omega) (by omega)
    exact ⟨c1, (Ex.add (m := isum P (k + 1)) s2 c2 (by omega) (by omega)).1⟩

theorem area_gen {a b c d : Nat} {m n s t p q : Int} (ha : Ex .f64 a m) (hb : Ex .f64 b n) (hc : Ex .f64 c s) (hd : Ex .f64 d t) (h1 : m * n = 16 * p) (h2 : s * t = 16 * q)
    (p0 : -20000 ≤ p) (p1 : p ≤ 20000) (q0 : -20000 ≤ q) (q1 : q ≤ 20000) : AreaOk a b c d ∧ Ex .f64 (areaW a b c d) (p - q) := by
  obtain ⟨a1, a2⟩ := ha.mul hb p h1 (by omega) (by omega)
  obtain ⟨b1, b2⟩ := hc.mul hd q h2 (by omega) (by omega)
  obtain ⟨c1, c2⟩ := a2.sub b2 (by omega) (by omega)
  exact ⟨⟨a1, b1, c1⟩, c2⟩

theorem height_ex {A B C X Y : Nat} {a b c i j : Int} (hA : Ex .f32 A (4 * a)) (hB : Ex .f32 B (4 * b)) (hC : Ex .f32 C (4 * c)) (hX : Ex .f32 X (4 * (4 * i))) (hY : Ex .f32 Y (4 * (4 * j)))
    (a0 : -4 ≤ a) (a1 : a ≤ 4) (b0 : -4 ≤ b) (b1 : b ≤ 4) (c0 : 0 ≤ c) (c1 : c ≤ 8) (i0 : 0 ≤ i) (i1 : i ≤ 2) (j0 : 0 ≤ j) (j1 : j ≤ 2) :
    HeightOk A B C X Y ∧ Ex .f32 (heightW A B C X Y) (4 * (a * i + b * j + c)) ∧ -16 ≤ a * i + b * j + c ∧ a * i + b * j + c ≤ 24 := by
  have m1 := imul_bd (a := a) (x := i) (P := 4) (Q := 2) a0 a1 (by omega) i1
  have m2 := imul_bd (a := b) (x := j) (P := 4) (Q := 2) b0 b1 (by omega) j1
  obtain ⟨o1, e1⟩ := hA.mul hX (4 * (a * i)) (by grind) (by omega) (by omega)
  obtain ⟨o2, e2⟩ := hB.mul hY (4 * (b * j)) (by grind) (by omega) (by omega)
  obtain ⟨o3, e3⟩ := e1.add e2 (by omega) (by omega)
  obtain ⟨o4, e4⟩ := e3.add hC (by omega) (by omega)
  rw [show 4 * (a * i) + 4 * (b * j) + 4 * c = 4 * (a * i + b * j + c) by omega] at e4
  exact ⟨⟨o1, o2, o3, o4⟩, e4, by omega, by omega⟩
end Go.Proofs.Ytjegonmedaiccaa
