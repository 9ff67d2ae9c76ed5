/- Walks: FitPlane. -/
import Derived.Test.YtjegonmedaiccaaPlane
import Derived.Deep.RegionWith
namespace Go.Proofs.Ytjegonmedaiccaa
open Go.RowKit Flt
attribute [local go_sem] run_fop run_cvt run_store_float

/-- Sums of products, from +0 on. -/
def accTo (g h : Nat → Nat) : Nat → Nat
  | 0 => 0
  | k + 1 => fop .add .f64 (accTo g h k) (fop .mul .f64 (g k) (h k))
def AccOk (g h : Nat → Nat) (n : Nat) : Prop := ∀ k, k < n → okf .mul .f64 (g k) (h k) = true ∧ okf .add .f64 (accTo g h k) (fop .mul .f64 (g k) (h k)) = true
theorem accTo_succ (g h : Nat → Nat) (k : Nat) : accTo g h (k + 1) = fop .add .f64 (accTo g h k) (fop .mul .f64 (g k) (h k)) := rfl
def devW (X : Nat → Nat) (m k : Nat) : Nat := fop .sub .f64 (cvt .f32 (X k) .f64) m
def DevOk (X : Nat → Nat) (m n : Nat) : Prop := ∀ k, k < n → okc .f32 (X k) .f64 = true ∧ okf .sub .f64 (cvt .f32 (X k) .f64) m = true

/-- FitPlane's numbers, of the means and the deviations. -/
structure Fit where
  x : Nat
  y : Nat
  z : Nat
  p : Nat → Nat
  q : Nat → Nat
  r : Nat → Nat
  n : Nat
namespace Fit
def a (F : Fit) : Nat := accTo F.p F.p F.n
def b (F : Fit) : Nat := accTo F.p F.q F.n
def c (F : Fit) : Nat := accTo F.q F.q F.n
def d (F : Fit) : Nat := accTo F.p F.r F.n
def e (F : Fit) : Nat := accTo F.q F.r F.n
def f (F : Fit) : Nat := areaW F.a F.c F.b F.b
def one (F : Fit) : Nat := fop .quo .f64 (areaW F.d F.c F.b F.e) F.f
def two (F : Fit) : Nat := fop .quo .f64 (areaW F.a F.e F.b F.d) F.f
def three (F : Fit) : Nat := fop .sub .f64 F.z (fop .mul .f64 F.one F.x)
def A (F : Fit) : Nat := cvt .f64 F.one .f32
def B (F : Fit) : Nat := cvt .f64 F.two .f32
def C (F : Fit) : Nat := cvt .f64 (fop .sub .f64 F.three (fop .mul .f64 F.two F.y)) .f32
/-- What the last part of FitPlane asks. -/
structure Ok (F : Fit) : Prop where
  hf : AreaOk F.a F.c F.b F.b
  hz : (FloatKind.f64.format.order F.f 0 == some .eq) = false
  h1 : AreaOk F.d F.c F.b F.e
  h2 : okf .quo .f64 (areaW F.d F.c F.b F.e) F.f = true
  h3 : AreaOk F.a F.e F.b F.d
  h4 : okf .quo .f64 (areaW F.a F.e F.b F.d) F.f = true
  h5 : okf .mul .f64 F.one F.x = true
  h6 : okf .sub .f64 F.z (fop .mul .f64 F.one F.x) = true
  h7 : okc .f64 F.one .f32 = true
  h8 : okc .f64 F.two .f32 = true
  h9 : okf .mul .f64 F.two F.y = true
  h10 : okf .sub .f64 F.three (fop .mul .f64 F.two F.y) = true
  h11 : okc .f64 (fop .sub .f64 F.three (fop .mul .f64 F.two F.y)) .f32 = true
  hA : FinOk F.A
  hB : FinOk F.B
  hC : FinOk F.C
end Fit
def fitOf (X Y Z : Nat → Nat) (n : Nat) : Fit := ⟨meanW X n, meanW Y n, meanW Z n, devW X (meanW X n), devW Y (meanW Y n), devW Z (meanW Z n), n⟩
/-- What FitPlane asks of its points. -/
structure FitOk (X Y Z : Nat → Nat) (n : Nat) : Prop where
  mx : MeanOk X n
  my : MeanOk Y n
  mz : MeanOk Z n
  dx : DevOk X (meanW X n) n
  dy : DevOk Y (meanW Y n) n
  dz : DevOk Z (meanW Z n) n
  a : AccOk (fitOf X Y Z n).p (fitOf X Y Z n).p n
  b : AccOk (fitOf X Y Z n).p (fitOf X Y Z n).q n
  c : AccOk (fitOf X Y Z n).q (fitOf X Y Z n).q n
  d : AccOk (fitOf X Y Z n).p (fitOf X Y Z n).r n
  e : AccOk (fitOf X Y Z n).q (fitOf X Y Z n).r n
  rest : (fitOf X Y Z n).Ok

/-- What is known of a new block of three words. -/
structure New3 (N : Nat) (W : World) : Prop where
  r0 : ∃ v, W.cell? ⟨N, 0, none⟩ = some v
  r1 : ∃ v, W.cell? ⟨N, 1, none⟩ = some v
  r2 : ∃ v, W.cell? ⟨N, 2, none⟩ = some v
  f0 : W.frozen? ⟨N, 0, none⟩ = false
  f1 : W.frozen? ⟨N, 1, none⟩ = false
  f2 : W.frozen? ⟨N, 2, none⟩ = false
theorem New3.of (w : World) (x y z : Value) (T : TypeId) : New3 w.heap.size (w.alloc (.cells #[x, y, z] T)) := by
  constructor
  · exact ⟨x, by go_simp⟩
  · exact ⟨y, by go_simp⟩
  · exact ⟨z, by go_simp⟩
  all_goals go_simp
theorem New3.below {N B : Nat} {W W' : World} (h : New3 N W) (hb : Below B W W') (hB : N < B) : New3 N W' := by
  obtain ⟨⟨v0, h0⟩, ⟨v1, h1⟩, ⟨v2, h2⟩, h3, h4, h5⟩ := h
  exact ⟨⟨v0, (hb.cell (p := ⟨N, 0, none⟩) hB).trans h0⟩, ⟨v1, (hb.cell (p := ⟨N, 1, none⟩) hB).trans h1⟩, ⟨v2, (hb.cell (p := ⟨N, 2, none⟩) hB).trans h2⟩,
    (hb.frozen (p := ⟨N, 0, none⟩) hB).trans h3, (hb.frozen (p := ⟨N, 1, none⟩) hB).trans h4, (hb.frozen (p := ⟨N, 2, none⟩) hB).trans h5⟩

theorem below_drewN {B : Nat} {a w : World} (h : Below B a w) (n : Nat) : Below B a (w.drewN n) := ⟨h.os, h.tape, h.output, h.size, h.block⟩

set_option maxRecDepth 100000 in
set_option maxHeartbeats 4000000 in
theorem fit_any (b n c : Nat) (X Y Z : Nat → Nat) (w : World) (hn3 : 3 ≤ n) (hn : n ≤ 256) (hb : b < w.heap.size) (hp : Pts w b n X Y Z) (hF : FitOk X Y Z n) :
    Calls Try.prog 10 #[.slice (some ⟨b, 0, none⟩) n c] w fun e w' => e = .returned (.tuple #[.agg #[.float .f32 (fitOf X Y Z n).A, .float .f32 (fitOf X Y Z n).B, .float .f32 (fitOf X Y Z n).C], .bool true]) ∧ Below w.heap.size w w' := by
  have HP := Lib.hid hp
  have HF := Lib.hid hF
  clear hp hF
  have u24 := Try.underlying24
  have u32 := Try.underlying32
  have HW : Hid (Below w.heap.size w (w.alloc (.cells #[.float .f32 0, .float .f32 0, .float .f32 0] 29))) := Lib.hid ((Below.refl _ _).alloc (Nat.le_refl w.heap.size) _)
  have HP0 := Lib.hid (HP.out.below HW.out hb)
  clear HP
  go_enter Try.func10, Try.ntmps10
  go_wp2_with (go_at_call 19; (with_reducible refine (in_yes _ _ _ _ (by omega) (by omega)).mono ?_); rintro e w' ⟨rfl, rfl⟩)
  refine (mean0_any b n c X Y Z _ (by omega) (by simp; omega) HP0.out HF.out.mx).mono ?_
  rintro e w1 ⟨rfl, hb1⟩
  have hz1 : w.heap.size + 1 ≤ w1.heap.size := by have := hb1.size; simpa using this
  have HR := Lib.hid (hb1.mono (show w.heap.size + 1 ≤ _ by simp))
  have HP1 := Lib.hid (HP0.out.below hb1 (by simp; omega))
  clear hb1
  go_wp2_with fail
  refine (mean1_any b n c X Y Z _ (by omega) (by omega) HP1.out HF.out.my).mono ?_
  rintro e w2 ⟨rfl, hb2⟩
  have hz2 : w.heap.size + 1 ≤ w2.heap.size := by have := hb2.size; omega
  have HR2 := Lib.hid (HR.out.trans (hb2.mono hz1))
  have HP2 := Lib.hid (HP1.out.below hb2 (by omega))
  clear hb2 HP1 HR
  go_wp2_with fail
  refine (mean2_any b n c X Y Z _ (by omega) (by omega) HP2.out HF.out.mz).mono ?_
  rintro e w3 ⟨rfl, hb3⟩
  have hz3 : w.heap.size + 1 ≤ w3.heap.size := by have := hb3.size; omega
  have HR3 := Lib.hid (HR2.out.trans (hb3.mono hz2))
  have HP3 := Lib.hid (HP2.out.below hb3 (by omega))
  clear hb3 HP2 HR2 hz1 hz2
  go_wp2_with fail
  go_loopw [7, 8, 9, 10, 11, 13, 14, 15, 16, 34] (fun a b_ c_ d e_ _ _ _ _ i wr => ∃ k : Nat, k ≤ n ∧ i = .int .i64 k ∧ a = .float .f64 (accTo (fitOf X Y Z n).p (fitOf X Y Z n).p k) ∧ b_ = .float .f64 (accTo (fitOf X Y Z n).p (fitOf X Y Z n).q k) ∧ c_ = .float .f64 (accTo (fitOf X Y Z n).q (fitOf X Y Z n).q k) ∧
      d = .float .f64 (accTo (fitOf X Y Z n).p (fitOf X Y Z n).r k) ∧ e_ = .float .f64 (accTo (fitOf X Y Z n).q (fitOf X Y Z n).r k) ∧ Below w3.heap.size w3 wr) (fun _ _ _ _ _ _ _ _ _ i _ => n - (intOf i).toNat)
  case atStart => exact ⟨0, Nat.zero_le _, rfl, rfl, rfl, rfl, rfl, rfl, Below.refl _ _⟩
  case round =>
    obtain ⟨k, hk, rfl, rfl, rfl, rfl, rfl, rfl, hbel⟩ := hrel
    have HB := Lib.hid hbel
    by_cases hlt : k < n
    · obtain ⟨p0, p1, p2⟩ := (HP3.out.below hbel (by omega)) k hlt
      have hz := hbel.size
      clear hbel
      obtain ⟨kx1, kx2⟩ := HF.out.dx k hlt
      obtain ⟨ky1, ky2⟩ := HF.out.dy k hlt
      obtain ⟨kz1, kz2⟩ := HF.out.dz k hlt
      have a1 : okf .mul .f64 (fop .sub .f64 (cvt .f32 (X k) .f64) (meanW X n)) (fop .sub .f64 (cvt .f32 (X k) .f64) (meanW X n)) = true := (HF.out.a k hlt).1
      have a2 : okf .add .f64 (accTo (fitOf X Y Z n).p (fitOf X Y Z n).p k) (fop .mul .f64 (fop .sub .f64 (cvt .f32 (X k) .f64) (meanW X n)) (fop .sub .f64 (cvt .f32 (X k) .f64) (meanW X n))) = true := (HF.out.a k hlt).2
      have b1 : okf .mul .f64 (fop .sub .f64 (cvt .f32 (X k) .f64) (meanW X n)) (fop .sub .f64 (cvt .f32 (Y k) .f64) (meanW Y n)) = true := (HF.out.b k hlt).1
      have b2 : okf .add .f64 (accTo (fitOf X Y Z n).p (fitOf X Y Z n).q k) (fop .mul .f64 (fop .sub .f64 (cvt .f32 (X k) .f64) (meanW X n)) (fop .sub .f64 (cvt .f32 (Y k) .f64) (meanW Y n))) = true := (HF.out.b k hlt).2
      have c1 : okf .mul .f64 (fop .sub .f64 (cvt .f32 (Y k) .f64) (meanW Y n)) (fop .sub .f64 (cvt .f32 (Y k) .f64) (meanW Y n)) = true := (HF.out.c k hlt).1
      have c2 : okf .add .f64 (accTo (fitOf X Y Z n).q (fitOf X Y Z n).q k) (fop .mul .f64 (fop .sub .f64 (cvt .f32 (Y k) .f64) (meanW Y n)) (fop .sub .f64 (cvt .f32 (Y k) .f64) (meanW Y n))) = true := (HF.out.c k hlt).2
      have d1 : okf .mul .f64 (fop .sub .f64 (cvt .f32 (X k) .f64) (meanW X n)) (fop .sub .f64 (cvt .f32 (Z k) .f64) (meanW Z n)) = true := (HF.out.d k hlt).1
      have d2 : okf .add .f64 (accTo (fitOf X Y Z n).p (fitOf X Y Z n).r k) (fop .mul .f64 (fop .sub .f64 (cvt .f32 (X k) .f64) (meanW X n)) (fop .sub .f64 (cvt .f32 (Z k) .f64) (meanW Z n))) = true := (HF.out.d k hlt).2
      have e1 : okf .mul .f64 (fop .sub .f64 (cvt .f32 (Y k) .f64) (meanW Y n)) (fop .sub .f64 (cvt .f32 (Z k) .f64) (meanW Z n)) = true := (HF.out.e k hlt).1
      have e2 : okf .add .f64 (accTo (fitOf X Y Z n).q (fitOf X Y Z n).r k) (fop .mul .f64 (fop .sub .f64 (cvt .f32 (Y k) .f64) (meanW Y n)) (fop .sub .f64 (cvt .f32 (Z k) .f64) (meanW Z n))) = true := (HF.out.e k hlt).2
      go_wp2_with fail
      go_quiet (fail)
      go_wp2
      go_roundw
      case rel => exact ⟨k + 1, by omega, by go_num, rfl, rfl, rfl, rfl, rfl, below_drewN (HB.out.alloc hz _) nq⟩
      case measure => simp [intOf]; omega
    · obtain rfl : n = k := by omega
      have hz := hbel.size
      have hz0 : w.heap.size + 1 ≤ wr.heap.size := by omega
      have HR4 := Lib.hid (HR3.out.trans (hbel.mono hz3))
      have HO := Lib.hid HF.out.rest
      clear hbel HF HP3
      generalize hFF : fitOf X Y Z n = F at *
      have hx : meanW X n = F.x := by rw [← hFF]; rfl
      have hy : meanW Y n = F.y := by rw [← hFF]; rfl
      have hzz : meanW Z n = F.z := by rw [← hFF]; rfl
      have hnn : n = F.n := by rw [← hFF]; rfl
      have e1 : accTo F.p F.p n = F.a := by rw [hnn]; rfl
      have e2 : accTo F.p F.q n = F.b := by rw [hnn]; rfl
      have e3 : accTo F.q F.q n = F.c := by rw [hnn]; rfl
      have e4 : accTo F.p F.r n = F.d := by rw [hnn]; rfl
      have e5 : accTo F.q F.r n = F.e := by rw [hnn]; rfl
      have HFF := Lib.hid hFF
      clear hnn hFF
      have e6 : areaW F.a F.c F.b F.b = F.f := rfl
      have e7 : fop .quo .f64 (areaW F.d F.c F.b F.e) F.f = F.one := rfl
      have e8 : fop .quo .f64 (areaW F.a F.e F.b F.d) F.f = F.two := rfl
      have e9 : fop .sub .f64 F.z (fop .mul .f64 F.one F.x) = F.three := rfl
      have e10 : cvt .f64 F.one .f32 = F.A := rfl
      have e11 : cvt .f64 F.two .f32 = F.B := rfl
      have e12 : cvt .f64 (fop .sub .f64 F.three (fop .mul .f64 F.two F.y)) .f32 = F.C := rfl
      have hz1 := HO.out.hz
      have h2 := HO.out.h2
      have h4 := HO.out.h4
      have h5 := HO.out.h5
      have h6 := HO.out.h6
      have h7 := HO.out.h7
      have h8 := HO.out.h8
      have h9 := HO.out.h9
      have h10 := HO.out.h10
      have h11 := HO.out.h11
      go_wp2_with (first
        | (go_at_call_of 16 (F.c); go_at_call_of 16 (F.a); (with_reducible refine (area_any _ _ _ _ _ HO.out.hf).mono ?_); rintro e w' ⟨rfl, rfl⟩)
        | (go_at_call_of 16 (F.c); (with_reducible refine (area_any _ _ _ _ _ HO.out.h1).mono ?_); rintro e w' ⟨rfl, rfl⟩)
        | (go_at_call 16; (with_reducible refine (area_any _ _ _ _ _ HO.out.h3).mono ?_); rintro e w' ⟨rfl, rfl⟩)
        | (go_at_call 17; (with_reducible refine (told_any _ _ _ _ HO.out.hA HO.out.hB HO.out.hC).mono ?_); rintro e w4 ⟨rfl, hb4⟩; have HB4 := Lib.hid hb4; have hz4 := hb4.size; obtain ⟨⟨v0, r0⟩, ⟨v1, r1⟩, ⟨v2, r2⟩, f0, f1, f2⟩ := (New3.of w _ _ _ 29).below (HR4.out.trans (hb4.mono hz0)) (by omega); clear hb4))
      refine bodyPost_ret (v := .tuple #[.agg #[.float .f32 F.A, .float .f32 F.B, .float .f32 F.C], .bool true]) (by simp [results, go_sem, r0, r1, r2]) rfl ⟨?_, ?_⟩
      · rw [HFF.out]
      · exact (((HW.out.trans (HR4.out.mono (by omega))).trans (HB4.out.mono (by omega))).setCell (by simp) _).setCell (by simp) _ |>.setCell (by simp) _
end Go.Proofs.Ytjegonmedaiccaa
