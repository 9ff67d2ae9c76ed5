/- Plain facts: the law's first and third part. -/
import Derived.Test.YtjegonmedaiccaaPlain
import Derived.Deep.RegionWith
import Derived.Deep.AppendLies
import Derived.Deep.RegionHeld3
import Derived.Deep.DeepCutAuto
namespace Go.Proofs.Ytjegonmedaiccaa
open Go.RowKit Flt Ieee
attribute [local go_sem] run_fop run_cvt run_store_float

theorem int_quarter (t : Int) : ((4 * t : Int) : Rat) / 16 = (t : Rat) / 4 := by
  rw [Rat.intCast_mul]
  have e : ((4 : Int) : Rat) = 4 := rfl
  rw [e]; grind

/-- The greatest of some small words is small. -/
theorem most_is {f : Nat → Nat} {P : Rat} (hP : 0 ≤ P) : ∀ n, (∀ k, k < n → ∃ q, Is single (f k) q ∧ 0 ≤ q ∧ q ≤ P) → ∃ q, Is single (mostTo f n) q ∧ 0 ≤ q ∧ q ≤ P
  | 0, _ => ⟨0, is_zero32, by grind, hP⟩
  | n + 1, h => by
    rw [mostTo]
    split
    · exact h n (by omega)
    · exact most_is hP n (fun k hk => h k (by omega))

/-- Who is near stands on the list. -/
theorem nearTo_has (f : Nat → Nat) (near : Nat) : ∀ n i, i < n → (FloatKind.f32.format.order (f i) near == some .lt) = true → nearTo f near n ≠ []
  | 0, i, hi, _ => by omega
  | n + 1, i, hi, h => by
    rw [nearTo]
    split
    · simp
    · rename_i hc
      by_cases e : i = n
      · subst e; rw [h] at hc; simp at hc
      · exact nearTo_has f near n i (by omega) h

/-- A point of the three is not far off. -/
theorem tri_off {a b c p : V3} {x y z x' y' z' x2 y2 z2 xp yp zp : Int} (ha : Qv a x y z) (hb : Qv b x' y' z') (hc : Qv c x2 y2 z2) (hz : isZero (plE a b c) = false)
    (hp : Qv p xp yp zp) (h : (xp = x ∧ yp = y ∧ zp = z) ∨ (xp = x' ∧ yp = y' ∧ zp = z') ∨ (xp = x2 ∧ yp = y2 ∧ zp = z2)) :
    ∃ q, Is single (offW p.X p.Y p.Z (plA a b c) (plB a b c) (plC a b c)) q ∧ 0 ≤ q ∧ q ≤ 7 / 1000 := by
  obtain ⟨_, A, B, C, hpl, hnear⟩ := plane_is ha hb hc hz
  obtain ⟨g1, g2⟩ := hnear xp yp zp h
  obtain ⟨_, hh, _, e1, e2, _, _, o, _, _, io, f1, f2⟩ := off_ok hpl hp.pt
  generalize A * ((xp : Rat) / 4) + B * ((yp : Rat) / 4) + C = H at *
  refine ⟨_, io, ?_, ?_⟩
  · split <;> grind
  · split <;> grind

theorem e01 : ∃ q, Is double 4576918229304087675 q ∧ 8 / 1000 ≤ q := ⟨_, ⟨false, 5764607523034235, -59, by decide, rfl⟩, by
  unfold rv
  have h := zadd (-59) 59
  have e : (2 : Rat) ^ (59 : Int) = 576460752303423488 := by rw [show (59 : Int) = ((59 : Nat) : Int) from rfl, znat]; rfl
  have e0 : (2 : Rat) ^ ((-59 : Int) + 59) = 1 := Rat.zpow_zero 2
  rw [e, e0] at h
  generalize (2 : Rat) ^ (-59 : Int) = t at *
  have hm : ((5764607523034235 : Nat) : Rat) = 5764607523034235 := rfl
  rw [hm]
  grind⟩

theorem part1_ok {a b c : V3} {x y z x' y' z' x2 y2 z2 : Int} (ha : Qv a x y z) (hb : Qv b x' y' z') (hc : Qv c x2 y2 z2) : Part1 a b c := by
  have key : isZero (plE a b c) = false → ∃ q, Is single (mostTo (triOff a b c) 3) q ∧ 0 ≤ q ∧ q ≤ 7 / 1000 := by
    intro hz
    refine most_is (by grind) 3 ?_
    intro k hk
    rcases (by omega : k = 0 ∨ k = 1 ∨ k = 2) with rfl | rfl | rfl
    · exact tri_off ha hb hc hz ha (.inl ⟨rfl, rfl, rfl⟩)
    · exact tri_off ha hb hc hz hb (.inr (.inl ⟨rfl, rfl, rfl⟩))
    · exact tri_off ha hb hc hz hc (.inr (.inr ⟨rfl, rfl, rfl⟩))
  refine ⟨(plE_ex ha hb hc).1, fun hz => (plane_is ha hb hc hz).1, ?_, ?_, ?_⟩
  · intro hz k hk
    obtain ⟨_, A, B, C, hpl, _⟩ := plane_is ha hb hc hz
    rcases (by omega : k = 0 ∨ k = 1 ∨ k = 2) with rfl | rfl | rfl
    · exact (off_ok hpl ha.pt).1
    · exact (off_ok hpl hb.pt).1
    · exact (off_ok hpl hc.pt).1
  · intro hz
    obtain ⟨q, h1, h2, h3⟩ := key hz
    exact (widen h1 (small_pow (by grind)) (small_pow' (by grind))).1
  · intro hz
    obtain ⟨q, h1, h2, h3⟩ := key hz
    have := (widen h1 (small_pow (by grind)) (small_pow' (by grind))).2
    obtain ⟨q', h4, h5⟩ := e01
    rw [gt_is (f := FloatKind.f64.format) this h4]
    simp
    grind

theorem e25 : ∃ q, Is double 4598177020985127364 q ∧ 25005 / 100000 ≤ q := ⟨_, ⟨false, 4505401067221444, -54, by decide, rfl⟩, by
  unfold rv
  have h := zadd (-54) 54
  have e : (2 : Rat) ^ (54 : Int) = 18014398509481984 := by rw [show (54 : Int) = ((54 : Nat) : Int) from rfl, znat]; rfl
  have e0 : (2 : Rat) ^ ((-54 : Int) + 54) = 1 := Rat.zpow_zero 2
  rw [e, e0] at h
  generalize (2 : Rat) ^ (-54 : Int) = t at *
  have hm : ((4505401067221444 : Nat) : Rat) = 4505401067221444 := rfl
  rw [hm]
  grind⟩
theorem e001 : ∃ q, Is double 4562254508917369340 q ∧ 9 / 10000 ≤ q := ⟨_, ⟨false, 4611686018427388, -62, by decide, rfl⟩, by
  unfold rv
  have h := zadd (-62) 62
  have e : (2 : Rat) ^ (62 : Int) = 4611686018427387904 := by rw [show (62 : Int) = ((62 : Nat) : Int) from rfl, znat]; rfl
  have e0 : (2 : Rat) ^ ((-62 : Int) + 62) = 1 := Rat.zpow_zero 2
  rw [e, e0] at h
  generalize (2 : Rat) ^ (-62 : Int) = t at *
  have hm : ((4611686018427388 : Nat) : Rat) = 4611686018427388 := rfl
  rw [hm]
  grind⟩

theorem maxW_one (x y : Nat) : maxW x y = x ∨ maxW x y = y := by
  unfold maxW
  split
  · exact .inr rfl
  · exact .inl rfl
  · split
    · exact .inr rfl
    · exact .inl rfl

theorem gap_ok {x y : Nat} {X Y P : Rat} (hx : Is double x X) (hy : Is double y Y) (h1 : X - Y ≤ P) (h2 : Y - X ≤ P) (hP : P ≤ 1 / 2) :
    GapOk x y ∧ ∃ g, Is double (gapW x y) g ∧ g ≤ P + 1 / 1000000 := by
  obtain ⟨o1, r1⟩ := fop_sub (k := .f64) hx hy
  obtain ⟨o2, r2⟩ := fop_sub (k := .f64) hy hx
  obtain ⟨g1, i1, a1, a2⟩ := rnd_n64 r1 0 (by omega) 1 rfl (by grind) (by grind)
  obtain ⟨g2, i2, b1, b2⟩ := rnd_n64 r2 0 (by omega) 1 rfl (by grind) (by grind)
  refine ⟨⟨o1, o2, ?_⟩, ?_⟩
  · rw [order_is (f := FloatKind.f64.format) i1 i2]; rfl
  · unfold gapW
    rcases maxW_one (fop .sub .f64 x y) (fop .sub .f64 y x) with h | h <;> rw [h]
    · exact ⟨g1, i1, by grind⟩
    · exact ⟨g2, i2, by grind⟩

theorem gX_ex (k : Nat) : Ex .f32 (gX k) (4 * (4 * ((k : Int) % 3))) := by
  have := Ex.ofInt .f32 ((k : Int) % 3) (by omega) (by omega)
  rw [show 4 * (4 * ((k : Int) % 3)) = 16 * ((k : Int) % 3) by omega]
  exact this
theorem gY_ex (k : Nat) (hk : k < 9) : Ex .f32 (gY k) (4 * (4 * ((k : Int) / 3))) := by
  have := Ex.ofInt .f32 ((k : Int) / 3) (by omega) (by omega)
  rw [show 4 * (4 * ((k : Int) / 3)) = 16 * ((k : Int) / 3) by omega]
  exact this

theorem c25 : Ex .f32 1048576000 4 := by
  refine ⟨false, 8388608, -25, by decide, ?_⟩
  unfold rv
  have h := zadd (-25) 25
  have e : (2 : Rat) ^ (25 : Int) = 33554432 := by rw [show (25 : Int) = ((25 : Nat) : Int) from rfl, znat]; rfl
  have e0 : (2 : Rat) ^ ((-25 : Int) + 25) = 1 := Rat.zpow_zero 2
  rw [e, e0] at h
  generalize (2 : Rat) ^ (-25 : Int) = t at *
  have hm : ((8388608 : Nat) : Rat) = 8388608 := rfl
  have h4 : ((4 : Int) : Rat) = 4 := rfl
  rw [hm, h4]
  grind

theorem grid_qv {z : Nat → Nat} {zq : Nat → Int} (hz : ∀ k, k < 9 → Ex .f32 (z k) (4 * zq k) ∧ -44 ≤ zq k ∧ zq k ≤ 44) (k : Nat) (hk : k < 9) :
    Qv (pt gX gY z k) (4 * ((k : Int) % 3)) (4 * ((k : Int) / 3)) (zq k) :=
  ⟨gX_ex k, gY_ex k hk, (hz k hk).1, by omega, by omega, by omega, by omega, (hz k hk).2.1, (hz k hk).2.2⟩

theorem zero_plane : PlIs 0 0 0 0 0 0 := ⟨is_zero32, is_zero32, is_zero32, by grind, by grind, by grind, by grind, by grind, by grind⟩

theorem part3_ok {z : Nat → Nat} {zq : Nat → Int} (hz : ∀ k, k < 9 → Ex .f32 (z k) (4 * zq k) ∧ -44 ≤ zq k ∧ zq k ≤ 44) : Part3 z := by
  have Q := fun k hk => grid_qv hz k hk
  refine ⟨⟨?_, ?_, ?_⟩, ?_, ?_, ?_⟩
  · intro i j k hi hj hk
    exact (plE_ex (Q i hi) (Q j hj) (Q k hk)).1
  · intro i j k hi hj hk h0
    exact (plane_is (Q i hi) (Q j hj) (Q k hk) h0).1
  · intro i j k hi hj hk h0 m hm
    obtain ⟨_, A, B, C, hpl, _⟩ := plane_is (Q i hi) (Q j hj) (Q k hk) h0
    exact (off_ok hpl (Q m hm).pt).1
  · intro k hk
    exact (off_ok zero_plane (Q k hk).pt).1
  · intro i j l hi hj hl h0
    refine nearTo_has _ _ 9 i hi ?_
    obtain ⟨q, h1, h2, h3⟩ := tri_off (Q i hi) (Q j hj) (Q l hl) h0 (Q i hi) (.inl ⟨rfl, rfl, rfl⟩)
    have h4 : Is single (offW (gX i) (gY i) (z i) (plA (pt gX gY z i) (pt gX gY z j) (pt gX gY z l)) (plB (pt gX gY z i) (pt gX gY z j) (pt gX gY z l)) (plC (pt gX gY z i) (pt gX gY z j) (pt gX gY z l))) q := h1
    have hc : Is single 1048576000 (((4 : Int) : Rat) / 16) := c25
    have e4 : ((4 : Int) : Rat) = 4 := rfl
    rw [e4] at hc
    rw [lt_is (f := FloatKind.f32.format) h4 hc]
    simp
    grind
  · intro i j l hi hj hl h0 x hx
    obtain ⟨m, rfl, hm, hcond⟩ := nearTo_mem _ _ 9 x hx
    obtain ⟨_, A, B, C, hpl, _⟩ := plane_is (Q i hi) (Q j hj) (Q l hl) h0
    have hpt := (Q m hm).pt
    obtain ⟨hok, hh, ih, e1, e2, b1, b2, o, hr, io, ia, f1, f2⟩ := off_ok hpl hpt
    have iz := hpt.hZ
    have hz0 := hpt.Z0
    have hz1 := hpt.Z1
    generalize plA (pt gX gY z i) (pt gX gY z j) (pt gX gY z l) = wA at *
    generalize plB (pt gX gY z i) (pt gX gY z j) (pt gX gY z l) = wB at *
    generalize plC (pt gX gY z i) (pt gX gY z j) (pt gX gY z l) = wC at *
    have ia' : Is single (offW (gX m) (gY m) (z m) wA wB wC) (if o < 0 then -o else o) := ia
    have iz' : Is single (z m) ((zq m : Rat) / 4) := iz
    have ih' : Is single (heightW wA wB wC (gX m) (gY m)) hh := ih
    have hc : Is single 1048576000 (((4 : Int) : Rat) / 16) := c25
    have e4 : ((4 : Int) : Rat) = 4 := rfl
    rw [e4] at hc
    rw [lt_is (f := FloatKind.f32.format) ia' hc, eq_is (f := FloatKind.f32.format) ia' hc] at hcond
    simp only [Bool.or_eq_true, decide_eq_true_eq] at hcond
    generalize (zq m : Rat) / 4 = Z at *
    have ho : o ≤ 1 / 4 ∧ -o ≤ 1 / 4 := by
      split at hcond
      · constructor <;> grind
      · constructor <;> grind
    obtain ⟨o', io', g1, g2⟩ := rnd_n32 hr 0 (by omega) 1 rfl (by grind) (by grind)
    have := read_unique io io'
    subst this
    obtain ⟨w1, w2⟩ := widen iz' (small_pow (by grind)) (small_pow' (by grind))
    obtain ⟨w3, w4⟩ := widen ih' (small_pow (by grind)) (small_pow' (by grind))
    obtain ⟨k1, g, k2, k3⟩ := gap_ok w2 w4 (P := 1 / 4 + 1 / 33554432) (by grind) (by grind) (by grind)
    obtain ⟨q', h4, h5⟩ := e25
    refine ⟨m, rfl, hm, hok.1, w1, w3, k1, ?_⟩
    rw [gt_is (f := FloatKind.f64.format) k2 h4]
    simp
    grind
end Go.Proofs.Ytjegonmedaiccaa
