/- Plain facts: FitPlane over the grid, exact. -/
import Derived.Test.YtjegonmedaiccaaGrid
import Derived.Deep.RegionWith
import Derived.Deep.AppendLies
import Derived.Deep.RegionHeld3
import Derived.Deep.DeepCutAuto
namespace Go.Proofs.Ytjegonmedaiccaa
open Go.RowKit Flt Ieee
attribute [local go_sem] run_fop run_cvt run_store_float

/-- The heights over the grid, in quarters. -/
def zOf (a b c : Int) (k : Nat) : Int := a * ((k : Int) % 3) + b * ((k : Int) / 3) + c

theorem isum9 (x : Nat → Int) : isum x 9 = x 0 + x 1 + x 2 + x 3 + x 4 + x 5 + x 6 + x 7 + x 8 := by
  simp only [isum]; omega

structure SlopeEx (s : Slope) (a b c : Int) : Prop where
  A : Ex .f32 s.A (4 * a)
  B : Ex .f32 s.B (4 * b)
  C : Ex .f32 s.C (4 * c)
  a0 : -4 ≤ a
  a1 : a ≤ 4
  b0 : -4 ≤ b
  b1 : b ≤ 4
  c0 : 0 ≤ c
  c1 : c ≤ 8

theorem SlopeEx.z {s : Slope} {a b c : Int} (h : SlopeEx s a b c) (k : Nat) (hk : k < 9) : HeightOk s.A s.B s.C (gX k) (gY k) ∧ Ex .f32 (s.z k) (4 * zOf a b c k) ∧ -16 ≤ zOf a b c k ∧ zOf a b c k ≤ 24 :=
  height_ex h.A h.B h.C (gX_ex k) (gY_ex k hk) h.a0 h.a1 h.b0 h.b1 h.c0 h.c1 (by omega) (by omega) (by omega) (by omega)

theorem grid_cases {P : Nat → Prop} (h0 : P 0) (h1 : P 1) (h2 : P 2) (h3 : P 3) (h4 : P 4) (h5 : P 5) (h6 : P 6) (h7 : P 7) (h8 : P 8) : ∀ k, k < 9 → P k := by
  intro k hk
  rcases (by omega : k = 0 ∨ k = 1 ∨ k = 2 ∨ k = 3 ∨ k = 4 ∨ k = 5 ∨ k = 6 ∨ k = 7 ∨ k = 8) with h | h | h | h | h | h | h | h | h <;> subst h <;> assumption

/-- The fit over the grid, exactly. -/
structure FitEx (F : Fit) (a b c : Int) : Prop where
  A : Ex .f32 F.A (4 * a)
  B : Ex .f32 F.B (4 * b)
  C : Ex .f32 F.C (4 * c)

theorem ex_is {b : Nat} {n : Int} (h : Ex .f32 b n) : Is single b ((n : Rat) / 16) := h

set_option maxHeartbeats 1000000 in
theorem fit_ex {s : Slope} {a b c : Int} (h : SlopeEx s a b c) : FitOk gX gY s.z 9 ∧ FitEx s.fit a b c := by
  have hz := fun k hk => (h.z k hk).2.1
  have hzb := fun k hk => (h.z k hk).2.2
  obtain ⟨_, _, _, a0, a1, b0, b1, c0, c1⟩ := h
  have hX : ∀ k : Nat, k < 9 → Ex .f32 (gX k) (4 * (4 * ((k : Int) % 3))) := fun k _ => gX_ex k
  have hY : ∀ k : Nat, k < 9 → Ex .f32 (gY k) (4 * (4 * ((k : Int) / 3))) := fun k hk => gY_ex k hk
  have bX : ∀ k : Nat, k < 9 → -2000 ≤ 4 * (4 * ((k : Int) % 3)) ∧ 4 * (4 * ((k : Int) % 3)) ≤ 2000 := fun k hk => by omega
  have bY : ∀ k : Nat, k < 9 → -2000 ≤ 4 * (4 * ((k : Int) / 3)) ∧ 4 * (4 * ((k : Int) / 3)) ≤ 2000 := fun k hk => by omega
  have bZ : ∀ k : Nat, k < 9 → -2000 ≤ 4 * zOf a b c k ∧ 4 * zOf a b c k ≤ 2000 := fun k hk => by have := hzb k hk; omega
  obtain ⟨mx, ex⟩ := mean_ex (x := fun k => 4 * (4 * ((k : Int) % 3))) (p := 16) hX bX (by rw [isum9]; rfl)
  obtain ⟨my, ey⟩ := mean_ex (x := fun k => 4 * (4 * ((k : Int) / 3))) (p := 16) hY bY (by rw [isum9]; rfl)
  obtain ⟨mz, ez⟩ := mean_ex (x := fun k => 4 * zOf a b c k) (p := 4 * (a + b + c)) hz bZ (by rw [isum9]; simp [zOf]; omega)
  obtain ⟨dx, ux⟩ := dev_ex hX bX ex (by omega) (by omega)
  obtain ⟨dy, uy⟩ := dev_ex hY bY ey (by omega) (by omega)
  obtain ⟨dz, uz⟩ := dev_ex hz bZ ez (by omega) (by omega)
  have ca := acc_ex (P := fun k => 16 * (((k : Int) % 3 - 1) * ((k : Int) % 3 - 1))) (n := 9) (by omega) ux ux (fun k _ => by grind) (grid_cases (by decide) (by decide) (by decide) (by decide) (by decide) (by decide) (by decide) (by decide) (by decide))
  have cb := acc_ex (P := fun k => 16 * (((k : Int) % 3 - 1) * ((k : Int) / 3 - 1))) (n := 9) (by omega) ux uy (fun k _ => by grind) (grid_cases (by decide) (by decide) (by decide) (by decide) (by decide) (by decide) (by decide) (by decide) (by decide))
  have cc := acc_ex (P := fun k => 16 * (((k : Int) / 3 - 1) * ((k : Int) / 3 - 1))) (n := 9) (by omega) uy uy (fun k _ => by grind) (grid_cases (by decide) (by decide) (by decide) (by decide) (by decide) (by decide) (by decide) (by decide) (by decide))
  have cd := acc_ex (P := fun k => 4 * (((k : Int) % 3 - 1) * (zOf a b c k - (a + b + c)))) (n := 9) (by omega) ux uz (fun k _ => by grind) (grid_cases (by simp [zOf]; omega) (by simp [zOf]) (by simp [zOf]; omega) (by simp [zOf]; omega) (by simp [zOf]) (by simp [zOf]; omega) (by simp [zOf]; omega) (by simp [zOf]) (by simp [zOf]; omega))
  have ce := acc_ex (P := fun k => 4 * (((k : Int) / 3 - 1) * (zOf a b c k - (a + b + c)))) (n := 9) (by omega) uy uz (fun k _ => by grind) (grid_cases (by simp [zOf]; omega) (by simp [zOf]; omega) (by simp [zOf]; omega) (by simp [zOf]) (by simp [zOf]) (by simp [zOf]) (by simp [zOf]; omega) (by simp [zOf]; omega) (by simp [zOf]; omega))
  have sa : Ex .f64 s.fit.a 96 := (ca 9 (by omega)).1
  have sb : Ex .f64 s.fit.b 0 := (cb 9 (by omega)).1
  have sc : Ex .f64 s.fit.c 96 := (cc 9 (by omega)).1
  have sd : Ex .f64 s.fit.d (24 * a) := by
    have := (cd 9 (by omega)).1
    rw [isum9] at this
    have e : (24 * a) = 4 * ((((0 : Nat) : Int) % 3 - 1) * (zOf a b c 0 - (a + b + c))) + 4 * ((((1 : Nat) : Int) % 3 - 1) * (zOf a b c 1 - (a + b + c))) + 4 * ((((2 : Nat) : Int) % 3 - 1) * (zOf a b c 2 - (a + b + c))) + 4 * ((((3 : Nat) : Int) % 3 - 1) * (zOf a b c 3 - (a + b + c))) + 4 * ((((4 : Nat) : Int) % 3 - 1) * (zOf a b c 4 - (a + b + c))) + 4 * ((((5 : Nat) : Int) % 3 - 1) * (zOf a b c 5 - (a + b + c))) + 4 * ((((6 : Nat) : Int) % 3 - 1) * (zOf a b c 6 - (a + b + c))) + 4 * ((((7 : Nat) : Int) % 3 - 1) * (zOf a b c 7 - (a + b + c))) + 4 * ((((8 : Nat) : Int) % 3 - 1) * (zOf a b c 8 - (a + b + c))) := by
      simp [zOf]; omega
    rw [e]
    exact this
  have se : Ex .f64 s.fit.e (24 * b) := by
    have := (ce 9 (by omega)).1
    rw [isum9] at this
    have e : (24 * b) = 4 * ((((0 : Nat) : Int) / 3 - 1) * (zOf a b c 0 - (a + b + c))) + 4 * ((((1 : Nat) : Int) / 3 - 1) * (zOf a b c 1 - (a + b + c))) + 4 * ((((2 : Nat) : Int) / 3 - 1) * (zOf a b c 2 - (a + b + c))) + 4 * ((((3 : Nat) : Int) / 3 - 1) * (zOf a b c 3 - (a + b + c))) + 4 * ((((4 : Nat) : Int) / 3 - 1) * (zOf a b c 4 - (a + b + c))) + 4 * ((((5 : Nat) : Int) / 3 - 1) * (zOf a b c 5 - (a + b + c))) + 4 * ((((6 : Nat) : Int) / 3 - 1) * (zOf a b c 6 - (a + b + c))) + 4 * ((((7 : Nat) : Int) / 3 - 1) * (zOf a b c 7 - (a + b + c))) + 4 * ((((8 : Nat) : Int) / 3 - 1) * (zOf a b c 8 - (a + b + c))) := by
      simp [zOf]; omega
    rw [e]
    exact this
  obtain ⟨r1, sf⟩ := area_gen sa sc sb sb (p := 576) (q := 0) (by omega) (by omega) (by omega) (by omega) (by omega) (by omega)
  obtain ⟨r2, s2⟩ := area_gen sd sc sb se (p := 144 * a) (q := 0) (by omega) (by omega) (by omega) (by omega) (by omega) (by omega)
  obtain ⟨r3, s3⟩ := area_gen sa se sb sd (p := 144 * b) (q := 0) (by omega) (by omega) (by omega) (by omega) (by omega) (by omega)
  have sf' : Ex .f64 s.fit.f 576 := sf
  rw [Int.sub_zero] at s2 s3
  obtain ⟨o1, s1'⟩ := s2.div sf' (by omega) (4 * a) (by omega) (by omega) (by omega)
  obtain ⟨o2, s2'⟩ := s3.div sf' (by omega) (4 * b) (by omega) (by omega) (by omega)
  have s1 : Ex .f64 s.fit.one (4 * a) := s1'
  have s2 : Ex .f64 s.fit.two (4 * b) := s2'
  have ex' : Ex .f64 s.fit.x 16 := by unfold Slope.fit fitOf; dsimp only; exact ex
  have ey' : Ex .f64 s.fit.y 16 := by unfold Slope.fit fitOf; dsimp only; exact ey
  have ez' : Ex .f64 s.fit.z (4 * (a + b + c)) := by unfold Slope.fit fitOf; dsimp only; exact ez
  obtain ⟨o3, v3⟩ := s1.mul ex' (4 * a) (by omega) (by omega) (by omega)
  obtain ⟨o4, v4⟩ := ez'.sub v3 (by omega) (by omega)
  have v4' : Ex .f64 s.fit.three (4 * (a + b + c) - 4 * a) := by unfold Fit.three; exact v4
  obtain ⟨o5, v5⟩ := s2.mul ey' (4 * b) (by omega) (by omega) (by omega)
  obtain ⟨o6, v6⟩ := v4'.sub v5 (by omega) (by omega)
  obtain ⟨o7, v7⟩ := s1.narrow (by omega) (by omega)
  obtain ⟨o8, v8⟩ := s2.narrow (by omega) (by omega)
  obtain ⟨o9, v9⟩ := v6.narrow (by omega) (by omega)
  have hA : Ex .f32 s.fit.A (4 * a) := by unfold Fit.A; exact v7
  have hB : Ex .f32 s.fit.B (4 * b) := by unfold Fit.B; exact v8
  have hC : Ex .f32 s.fit.C (4 * c) := by
    rw [show 4 * c = 4 * (a + b + c) - 4 * a - 4 * b by omega]; unfold Fit.C; exact v9
  refine ⟨⟨mx, my, mz, dx, dy, dz, fun k hk => (ca k (by omega)).2 hk, fun k hk => (cb k (by omega)).2 hk, fun k hk => (cc k (by omega)).2 hk, fun k hk => (cd k (by omega)).2 hk, fun k hk => (ce k (by omega)).2 hk, ?_⟩, ⟨hA, hB, hC⟩⟩
  refine ⟨r1, ?_, r2, o1, r3, o2, o3, o4, o7, o8, o5, o6, o9, fin_is (ex_is hA), fin_is (ex_is hB), fin_is (ex_is hC)⟩
  have : (FloatKind.f64.format.order s.fit.f 0 == some .eq) = decide ((576 : Int) = 0) := Ex.eq sf' (ex_zero .f64)
  exact this
end Go.Proofs.Ytjegonmedaiccaa
