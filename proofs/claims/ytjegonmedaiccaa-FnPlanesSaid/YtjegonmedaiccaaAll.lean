/- Plain facts: what the law asks holds of all inputs. -/
import Derived.Test.YtjegonmedaiccaaFitEx
import Derived.Deep.RegionWith
import Derived.Deep.AppendLies
import Derived.Deep.RegionHeld3
import Derived.Deep.DeepCutAuto
namespace Go.Proofs.Ytjegonmedaiccaa
open Go.RowKit Flt Ieee
attribute [local go_sem] run_fop run_cvt run_store_float

theorem small_gap {x y : Nat} {n : Int} (hx : Ex .f32 x n) (hy : Ex .f32 y n) (h0 : -65536 < n) (h1 : n < 65536) : SmallGap x y := by
  obtain ⟨a1, a2⟩ := hx.widen h0 h1
  obtain ⟨b1, b2⟩ := hy.widen h0 h1
  obtain ⟨c1, g, c2, c3⟩ := gap_ok (P := 0) a2 b2 (by grind) (by grind) (by grind)
  refine ⟨a1, b1, c1, ?_⟩
  obtain ⟨q, h2, h3⟩ := e001
  rw [gt_is (f := FloatKind.f64.format) c2 h2]
  simp
  grind

theorem part2_ok {s : Slope} {a b c : Int} (h : SlopeEx s a b c) : Part2 s := by
  obtain ⟨hf, fA, fB, fC⟩ := fit_ex h
  have hz := fun k hk => h.z k hk
  have hoff : ∀ k, k < 9 → OffOk (gX k) (gY k) (s.z k) s.fit.A s.fit.B s.fit.C ∧ Is single (s.off k) 0 := by
    intro k hk
    obtain ⟨g1, g2, g3, g4⟩ := height_ex fA fB fC (gX_ex k) (gY_ex k hk) h.a0 h.a1 h.b0 h.b1 h.c0 h.c1 (by omega) (by omega) (by omega) (by omega)
    obtain ⟨o1, e1⟩ := (hz k hk).2.1.sub g2 (by have := (hz k hk).2.2; omega) (by have := (hz k hk).2.2; omega)
    refine ⟨⟨g1, o1⟩, ?_⟩
    have e0 : 4 * zOf a b c k - 4 * (a * ((k : Int) % 3) + b * ((k : Int) / 3) + c) = 0 := by unfold zOf; omega
    rw [e0] at e1
    have e2 := absW_is (ex_is e1)
    have e3 : (if ((0 : Int) : Rat) / 16 < 0 then -(((0 : Int) : Rat) / 16) else ((0 : Int) : Rat) / 16) = 0 := by
      have e4 : ((0 : Int) : Rat) = 0 := rfl
      rw [e4]
      split <;> grind
    rw [e3] at e2
    exact e2
  obtain ⟨q, m1, m2, m3⟩ := most_is (f := s.off) (P := 0) (by grind) 9 (fun k hk => ⟨0, (hoff k hk).2, by grind, by grind⟩)
  obtain ⟨w1, w2⟩ := widen m1 (small_pow (by grind)) (small_pow' (by grind))
  refine ⟨fun k hk => (hz k hk).1, hf, fun k hk => (hoff k hk).1, w1, ?_, small_gap fA h.A ?_ ?_, small_gap fB h.B ?_ ?_⟩
  · obtain ⟨q', h2, h3⟩ := e001
    rw [gt_is (f := FloatKind.f64.format) w2 h2]
    simp
    grind
  · have := h.a0; omega
  · have := h.a1; omega
  · have := h.b0; omega
  · have := h.b1; omega

theorem slope_num {m : Int} (h0 : -4 ≤ m) (h1 : m ≤ 8) : okf .quo .f32 (floatOfInt .f32 m) 1082130432 = true ∧ Ex .f32 (fop .quo .f32 (floatOfInt .f32 m) 1082130432) (4 * m) :=
  (Ex.ofInt .f32 m (by omega) (by omega)).div k4 (by omega) (4 * m) (by omega) (by omega) (by omega)

/-- The law's inputs are good, whatever they are. -/
theorem law_ok (n : Nat) (C : Nat → Int) (n' : Nat) (D : Nat → Int) : LawOk n C n' D := by
  obtain ⟨v0, x, y, z, q0⟩ := vec_qv n C 0
  obtain ⟨v3, x', y', z', q3⟩ := vec_qv n C 3
  obtain ⟨v6, x2, y2, z2, q6⟩ := vec_qv n C 6
  have r0 := atI_nonneg (n := n') (D := D) (k := 0) (m := 9) (by omega)
  have r1 := atI_nonneg (n := n') (D := D) (k := 1) (m := 9) (by omega)
  have r2 := atI_nonneg (n := n') (D := D) (k := 2) (m := 9) (by omega)
  obtain ⟨s0, t0⟩ := slope_num (m := atI n' D 0 9 - 4) (by omega) (by omega)
  obtain ⟨s1, t1⟩ := slope_num (m := atI n' D 1 9 - 4) (by omega) (by omega)
  obtain ⟨s2, t2⟩ := slope_num (m := atI n' D 2 9) (by omega) (by omega)
  have hs : SlopeEx (slopeOf n' D) (atI n' D 0 9 - 4) (atI n' D 1 9 - 4) (atI n' D 2 9) := ⟨t0, t1, t2, by omega, by omega, by omega, by omega, by omega, by omega⟩
  have r3 := atI_nonneg (n := n') (D := D) (k := 3) (m := 9) (by omega)
  have hj : (atI n' D 3 9).toNat < 9 := by omega
  obtain ⟨j, hjj⟩ : ∃ j, (atI n' D 3 9).toNat = j := ⟨_, rfl⟩
  rw [hjj] at hj
  have hzj := hs.z j hj
  obtain ⟨oadd, eadd⟩ := hzj.2.1.add k5 (by omega) (by omega)
  refine ⟨v0, v3, v6, part1_ok q0 q3 q6, s0, s1, s2, part2_ok hs, by rw [hjj]; exact oadd, ?_⟩
  rw [hjj]
  clear hjj
  refine part3_ok (zq := fun k => if k = j then zOf (atI n' D 0 9 - 4) (atI n' D 1 9 - 4) (atI n' D 2 9) j + 20 else zOf (atI n' D 0 9 - 4) (atI n' D 1 9 - 4) (atI n' D 2 9) k) ?_
  intro k hk
  have hzk := hs.z k hk
  by_cases e : k = j
  · subst e
    unfold raised
    simp only [if_true]
    refine ⟨?_, by omega, by omega⟩
    rw [show 4 * (zOf (atI n' D 0 9 - 4) (atI n' D 1 9 - 4) (atI n' D 2 9) k + 20) = 4 * zOf (atI n' D 0 9 - 4) (atI n' D 1 9 - 4) (atI n' D 2 9) k + 80 by omega]
    exact eadd
  · unfold raised
    simp only [if_neg e]
    exact ⟨hzk.2.1, by omega, by omega⟩
end Go.Proofs.Ytjegonmedaiccaa
