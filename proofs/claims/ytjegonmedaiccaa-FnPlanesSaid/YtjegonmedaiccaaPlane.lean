/- Walks: PlaneThrough, both ways. -/
import Derived.Test.YtjegonmedaiccaaNear
import Derived.Deep.RegionWith
namespace Go.Proofs.Ytjegonmedaiccaa
open Go.RowKit Flt
attribute [local go_sem] run_fop run_cvt run_store_float

/-- Three words: a vector, or a plane. -/
structure V3 where
  X : Nat
  Y : Nat
  Z : Nat

def plU (a b : V3) : Nat := wideW b.X a.X
def plV (a b : V3) : Nat := wideW b.Y a.Y
def plW (a b : V3) : Nat := wideW b.Z a.Z
def plE (a b c : V3) : Nat := areaW (plU a b) (plV a c) (plV a b) (plU a c)
def plA (a b c : V3) : Nat := cvt .f64 (fop .quo .f64 (areaW (plW a b) (plV a c) (plV a b) (plW a c)) (plE a b c)) .f32
def plB (a b c : V3) : Nat := cvt .f64 (fop .quo .f64 (areaW (plU a b) (plW a c) (plW a b) (plU a c)) (plE a b c)) .f32
def plC (a b c : V3) : Nat := fop .sub .f32 (fop .sub .f32 a.Z (fop .mul .f32 (plA a b c) a.X)) (fop .mul .f32 (plB a b c) a.Y)
def DiffOk (a b : V3) : Prop := WideOk b.X a.X ∧ WideOk b.Y a.Y ∧ WideOk b.Z a.Z
/-- What the first half of PlaneThrough asks. -/
def PlOk (a b c : V3) : Prop := DiffOk a b ∧ DiffOk a c ∧ AreaOk (plU a b) (plV a c) (plV a b) (plU a c)
/-- What the second half asks. -/
def PlOk2 (a b c : V3) : Prop :=
  AreaOk (plW a b) (plV a c) (plV a b) (plW a c) ∧ okf .quo .f64 (areaW (plW a b) (plV a c) (plV a b) (plW a c)) (plE a b c) = true ∧ okc .f64 (fop .quo .f64 (areaW (plW a b) (plV a c) (plV a b) (plW a c)) (plE a b c)) .f32 = true ∧
  AreaOk (plU a b) (plW a c) (plW a b) (plU a c) ∧ okf .quo .f64 (areaW (plU a b) (plW a c) (plW a b) (plU a c)) (plE a b c) = true ∧ okc .f64 (fop .quo .f64 (areaW (plU a b) (plW a c) (plW a b) (plU a c)) (plE a b c)) .f32 = true ∧
  okf .mul .f32 (plA a b c) a.X = true ∧ okf .sub .f32 a.Z (fop .mul .f32 (plA a b c) a.X) = true ∧ okf .mul .f32 (plB a b c) a.Y = true ∧
  okf .sub .f32 (fop .sub .f32 a.Z (fop .mul .f32 (plA a b c) a.X)) (fop .mul .f32 (plB a b c) a.Y) = true ∧ FinOk (plA a b c) ∧ FinOk (plB a b c) ∧ FinOk (plC a b c)

theorem same_below {P : Program} {f : FuncId} {args : Array Value} {w : World} {v : Value} (h : Calls P f args w fun e w' => e = .returned v ∧ w = w') : Calls P f args w fun e w' => e = .returned v ∧ Below w.heap.size w w' :=
  h.mono fun _ _ ⟨he, hw⟩ => ⟨he, by rw [← hw]; exact Below.refl _ _⟩

/-- The world in which PlaneThrough's body begins: three boxes and the result's block. -/
def boxes (w : World) (a b c : V3) : World :=
  (((w.alloc (.cells #[.float .f32 a.X, .float .f32 a.Y, .float .f32 a.Z] 26)).alloc (.cells #[.float .f32 b.X, .float .f32 b.Y, .float .f32 b.Z] 26)).alloc (.cells #[.float .f32 c.X, .float .f32 c.Y, .float .f32 c.Z] 26)).alloc (.cells #[.float .f32 0, .float .f32 0, .float .f32 0] 29)

theorem boxes_below (w : World) (a b c : V3) : Below w.heap.size w (boxes w a b c) :=
  ((((Below.refl _ _).alloc (Nat.le_refl _) _).alloc (by simp) _).alloc (by simp; omega) _).alloc (by simp; omega) _
theorem boxes_size (w : World) (a b c : V3) : (boxes w a b c).heap.size = w.heap.size + 4 := by simp [boxes]

/-- What is known of a world in which the boxes stand. -/
structure Boxed (N : Nat) (W : World) (a b c : V3) : Prop where
  a0 : W.cell? ⟨N, 0, none⟩ = some (.float .f32 a.X)
  a1 : W.cell? ⟨N, 1, none⟩ = some (.float .f32 a.Y)
  a2 : W.cell? ⟨N, 2, none⟩ = some (.float .f32 a.Z)
  b0 : W.cell? ⟨N + 1, 0, none⟩ = some (.float .f32 b.X)
  b1 : W.cell? ⟨N + 1, 1, none⟩ = some (.float .f32 b.Y)
  b2 : W.cell? ⟨N + 1, 2, none⟩ = some (.float .f32 b.Z)
  c0 : W.cell? ⟨N + 1 + 1, 0, none⟩ = some (.float .f32 c.X)
  c1 : W.cell? ⟨N + 1 + 1, 1, none⟩ = some (.float .f32 c.Y)
  c2 : W.cell? ⟨N + 1 + 1, 2, none⟩ = some (.float .f32 c.Z)
  r0 : W.cell? ⟨N + 1 + 1 + 1, 0, none⟩ = some (.float .f32 0)
  r1 : W.cell? ⟨N + 1 + 1 + 1, 1, none⟩ = some (.float .f32 0)
  r2 : W.cell? ⟨N + 1 + 1 + 1, 2, none⟩ = some (.float .f32 0)
  f0 : W.frozen? ⟨N + 1 + 1 + 1, 0, none⟩ = false
  f1 : W.frozen? ⟨N + 1 + 1 + 1, 1, none⟩ = false
  f2 : W.frozen? ⟨N + 1 + 1 + 1, 2, none⟩ = false

theorem boxes_facts (w : World) (a b c : V3) : Boxed w.heap.size (boxes w a b c) a b c := by
  unfold boxes
  constructor <;> go_simp

theorem Boxed.below {N : Nat} {W W' : World} {a b c : V3} (h : Boxed N W a b c) (hb : Below W.heap.size W W') (hz : N + 4 ≤ W.heap.size) : Boxed N W' a b c :=
  ⟨(hb.cell (p := ⟨_, _, none⟩) (by simp; omega)).trans h.a0, (hb.cell (p := ⟨_, _, none⟩) (by simp; omega)).trans h.a1, (hb.cell (p := ⟨_, _, none⟩) (by simp; omega)).trans h.a2,
   (hb.cell (p := ⟨_, _, none⟩) (by simp; omega)).trans h.b0, (hb.cell (p := ⟨_, _, none⟩) (by simp; omega)).trans h.b1, (hb.cell (p := ⟨_, _, none⟩) (by simp; omega)).trans h.b2,
   (hb.cell (p := ⟨_, _, none⟩) (by simp; omega)).trans h.c0, (hb.cell (p := ⟨_, _, none⟩) (by simp; omega)).trans h.c1, (hb.cell (p := ⟨_, _, none⟩) (by simp; omega)).trans h.c2,
   (hb.cell (p := ⟨_, _, none⟩) (by simp; omega)).trans h.r0, (hb.cell (p := ⟨_, _, none⟩) (by simp; omega)).trans h.r1, (hb.cell (p := ⟨_, _, none⟩) (by simp; omega)).trans h.r2,
   (hb.frozen (p := ⟨_, _, none⟩) (by simp; omega)).trans h.f0, (hb.frozen (p := ⟨_, _, none⟩) (by simp; omega)).trans h.f1, (hb.frozen (p := ⟨_, _, none⟩) (by simp; omega)).trans h.f2⟩

set_option maxRecDepth 100000 in
set_option maxHeartbeats 2000000 in
theorem plane_no (a b c : V3) (w : World) (h : PlOk a b c) (hz : (FloatKind.f64.format.order (plE a b c) 0 == some .eq) = true) :
    Calls Try.prog 6 #[.agg #[.float .f32 a.X, .float .f32 a.Y, .float .f32 a.Z], .agg #[.float .f32 b.X, .float .f32 b.Y, .float .f32 b.Z], .agg #[.float .f32 c.X, .float .f32 c.Y, .float .f32 c.Z]] w
      fun e w' => e = .returned (.tuple #[.agg #[.float .f32 0, .float .f32 0, .float .f32 0], .bool false]) ∧ Below w.heap.size w w' := by
  obtain ⟨⟨h1, h2, h3⟩, ⟨h4, h5, h6⟩, h7⟩ := h
  have H1 := Lib.hid h1
  have H2 := Lib.hid h2
  have H3 := Lib.hid h3
  have H4 := Lib.hid h4
  have H5 := Lib.hid h5
  have H6 := Lib.hid h6
  have H7 : Hid (AreaOk (wideW b.X a.X) (wideW c.Y a.Y) (wideW b.Y a.Y) (wideW c.X a.X)) := Lib.hid h7
  clear h1 h2 h3 h4 h5 h6 h7
  have HZ := Lib.hid hz
  clear hz
  go_enter Try.func6, Try.ntmps6
  go_wp2_with fail
  change Code.wp Try.prog _ _ _ (boxes w a b c)
  have HBW := Lib.hid (boxes_below w a b c)
  have hz1 := boxes_size w a b c
  have HBX := Lib.hid (boxes_facts w a b c)
  generalize boxes w a b c = W at *
  have hsz : w.heap.size + 4 ≤ W.heap.size := by omega
  clear hz1
  have a0 := cell_regrown HBX.out.a0
  have a1 := cell_regrown HBX.out.a1
  have a2 := cell_regrown HBX.out.a2
  have b0 := cell_regrown HBX.out.b0
  have b1 := cell_regrown HBX.out.b1
  have b2 := cell_regrown HBX.out.b2
  refine wp_region_quiet_below (by kernel_rfl) (by kernel_rfl) ?_
  repeat (first
    | go_big_quiet_step (((go_at_call_of 15 (b.X); exact Calls.regrown_of (same_below (wide_any _ _ _ H1.out)))))
    | go_big_quiet_step (((go_at_call_of 15 (b.Y); exact Calls.regrown_of (same_below (wide_any _ _ _ H2.out)))))
    | go_big_quiet_step (((go_at_call_of 15 (b.Z); exact Calls.regrown_of (same_below (wide_any _ _ _ H3.out))))))
  refine wpQuiet_nil ?_
  intro _ hw'
  obtain ⟨p, rfl⟩ := hw'
  have hb1 := below_regrown W p.d p.os
  have hz2 := hb1.size
  have HBX1 := Lib.hid (HBX.out.below hb1 hsz)
  have HBW1 := Lib.hid (HBW.out.trans (hb1.mono (by omega)))
  clear HBX HBW a0 a1 a2 b0 b1 b2 hb1
  generalize Sort.grow (redrawn W p.d) p.os = W1 at *
  have hsz1 : w.heap.size + 4 ≤ W1.heap.size := by omega
  clear hsz hz2
  go_wp2_with fail
  have a0 := cell_regrown HBX1.out.a0
  have a1 := cell_regrown HBX1.out.a1
  have a2 := cell_regrown HBX1.out.a2
  have c0 := cell_regrown HBX1.out.c0
  have c1 := cell_regrown HBX1.out.c1
  have c2 := cell_regrown HBX1.out.c2
  refine wp_region_quiet_below (by kernel_rfl) (by kernel_rfl) ?_
  repeat (first
    | go_big_quiet_step (((go_at_call_of 15 (c.X); exact Calls.regrown_of (same_below (wide_any _ _ _ H4.out)))))
    | go_big_quiet_step (((go_at_call_of 15 (c.Y); exact Calls.regrown_of (same_below (wide_any _ _ _ H5.out)))))
    | go_big_quiet_step (((go_at_call_of 15 (c.Z); exact Calls.regrown_of (same_below (wide_any _ _ _ H6.out))))))
  refine wpQuiet_nil ?_
  intro _ hw'
  obtain ⟨p2, rfl⟩ := hw'
  have hb1 := below_regrown W1 p2.d p2.os
  have hz2 := hb1.size
  have HBX2 := Lib.hid (HBX1.out.below hb1 hsz1)
  have HBW2 := Lib.hid (HBW1.out.trans (hb1.mono (by omega)))
  clear HBX1 HBW1 a0 a1 a2 c0 c1 c2 hb1
  generalize Sort.grow (redrawn W1 p2.d) p2.os = W2 at *
  have hsz2 : w.heap.size + 4 ≤ W2.heap.size := by omega
  clear hsz1 hz2
  have r0 := HBX2.out.r0
  have r1 := HBX2.out.r1
  have r2 := HBX2.out.r2
  have f0 := HBX2.out.f0
  have f1 := HBX2.out.f1
  have f2 := HBX2.out.f2
  have hzz : (FloatKind.f64.format.order (areaW (wideW b.X a.X) (wideW c.Y a.Y) (wideW b.Y a.Y) (wideW c.X a.X)) 0 == some .eq) = true := HZ.out
  go_wp2_with (go_at_call 16; (with_reducible refine (area_any _ _ _ _ _ H7.out).mono ?_); rintro e w' ⟨rfl, rfl⟩)
  refine bodyPost_ret (v := .tuple #[.agg #[.float .f32 0, .float .f32 0, .float .f32 0], .bool false]) (by simp [results, go_sem, r0, r1, r2]) rfl ⟨rfl, ?_⟩
  exact ((HBW2.out.setCell (by simp; omega) _).setCell (by simp; omega) _).setCell (by simp; omega) _

set_option maxRecDepth 100000 in
set_option maxHeartbeats 4000000 in
theorem plane_yes (a b c : V3) (w : World) (h : PlOk a b c) (hz : (FloatKind.f64.format.order (plE a b c) 0 == some .eq) = false) (g : PlOk2 a b c) :
    Calls Try.prog 6 #[.agg #[.float .f32 a.X, .float .f32 a.Y, .float .f32 a.Z], .agg #[.float .f32 b.X, .float .f32 b.Y, .float .f32 b.Z], .agg #[.float .f32 c.X, .float .f32 c.Y, .float .f32 c.Z]] w
      fun e w' => e = .returned (.tuple #[.agg #[.float .f32 (plA a b c), .float .f32 (plB a b c), .float .f32 (plC a b c)], .bool true]) ∧ Below w.heap.size w w' := by
  obtain ⟨⟨h1, h2, h3⟩, ⟨h4, h5, h6⟩, h7⟩ := h
  have H1 := Lib.hid h1
  have H2 := Lib.hid h2
  have H3 := Lib.hid h3
  have H4 := Lib.hid h4
  have H5 := Lib.hid h5
  have H6 := Lib.hid h6
  have H7 : Hid (AreaOk (wideW b.X a.X) (wideW c.Y a.Y) (wideW b.Y a.Y) (wideW c.X a.X)) := Lib.hid h7
  clear h1 h2 h3 h4 h5 h6 h7
  have HZ := Lib.hid hz
  have HG := Lib.hid g
  clear hz g
  go_enter Try.func6, Try.ntmps6
  go_wp2_with fail
  change Code.wp Try.prog _ _ _ (boxes w a b c)
  have HBW := Lib.hid (boxes_below w a b c)
  have hz1 := boxes_size w a b c
  have HBX := Lib.hid (boxes_facts w a b c)
  generalize boxes w a b c = W at *
  have hsz : w.heap.size + 4 ≤ W.heap.size := by omega
  clear hz1
  have a0 := cell_regrown HBX.out.a0
  have a1 := cell_regrown HBX.out.a1
  have a2 := cell_regrown HBX.out.a2
  have b0 := cell_regrown HBX.out.b0
  have b1 := cell_regrown HBX.out.b1
  have b2 := cell_regrown HBX.out.b2
  refine wp_region_quiet_below (by kernel_rfl) (by kernel_rfl) ?_
  repeat (first
    | go_big_quiet_step (((go_at_call_of 15 (b.X); exact Calls.regrown_of (same_below (wide_any _ _ _ H1.out)))))
    | go_big_quiet_step (((go_at_call_of 15 (b.Y); exact Calls.regrown_of (same_below (wide_any _ _ _ H2.out)))))
    | go_big_quiet_step (((go_at_call_of 15 (b.Z); exact Calls.regrown_of (same_below (wide_any _ _ _ H3.out))))))
  refine wpQuiet_nil ?_
  intro _ hw'
  obtain ⟨p, rfl⟩ := hw'
  have hb1 := below_regrown W p.d p.os
  have hz2 := hb1.size
  have HBX1 := Lib.hid (HBX.out.below hb1 hsz)
  have HBW1 := Lib.hid (HBW.out.trans (hb1.mono (by omega)))
  clear HBX HBW a0 a1 a2 b0 b1 b2 hb1
  generalize Sort.grow (redrawn W p.d) p.os = W1 at *
  have hsz1 : w.heap.size + 4 ≤ W1.heap.size := by omega
  clear hsz hz2
  go_wp2_with fail
  have a0 := cell_regrown HBX1.out.a0
  have a1 := cell_regrown HBX1.out.a1
  have a2 := cell_regrown HBX1.out.a2
  have c0 := cell_regrown HBX1.out.c0
  have c1 := cell_regrown HBX1.out.c1
  have c2 := cell_regrown HBX1.out.c2
  refine wp_region_quiet_below (by kernel_rfl) (by kernel_rfl) ?_
  repeat (first
    | go_big_quiet_step (((go_at_call_of 15 (c.X); exact Calls.regrown_of (same_below (wide_any _ _ _ H4.out)))))
    | go_big_quiet_step (((go_at_call_of 15 (c.Y); exact Calls.regrown_of (same_below (wide_any _ _ _ H5.out)))))
    | go_big_quiet_step (((go_at_call_of 15 (c.Z); exact Calls.regrown_of (same_below (wide_any _ _ _ H6.out))))))
  refine wpQuiet_nil ?_
  intro _ hw'
  obtain ⟨p2, rfl⟩ := hw'
  have hb1 := below_regrown W1 p2.d p2.os
  have hz2 := hb1.size
  have HBX2 := Lib.hid (HBX1.out.below hb1 hsz1)
  have HBW2 := Lib.hid (HBW1.out.trans (hb1.mono (by omega)))
  clear HBX1 HBW1 a0 a1 a2 c0 c1 c2 hb1
  generalize Sort.grow (redrawn W1 p2.d) p2.os = W2 at *
  have hsz2 : w.heap.size + 4 ≤ W2.heap.size := by omega
  clear hsz1 hz2
  obtain ⟨g1, g2, g3, g4, g5, g6, g7, g8, g9, g10, g11, g12, g13⟩ := HG.out
  have G1 : Hid (AreaOk (wideW b.Z a.Z) (wideW c.Y a.Y) (wideW b.Y a.Y) (wideW c.Z a.Z)) := Lib.hid g1
  have G4 : Hid (AreaOk (wideW b.X a.X) (wideW c.Z a.Z) (wideW b.Z a.Z) (wideW c.X a.X)) := Lib.hid g4
  have G11 := Lib.hid g11
  have G12 := Lib.hid g12
  have G13 := Lib.hid g13
  clear g1 g4 g11 g12 g13
  have e1 : wideW b.X a.X = plU a b := rfl
  have e2 : wideW b.Y a.Y = plV a b := rfl
  have e3 : wideW b.Z a.Z = plW a b := rfl
  have e4 : wideW c.X a.X = plU a c := rfl
  have e5 : wideW c.Y a.Y = plV a c := rfl
  have e6 : wideW c.Z a.Z = plW a c := rfl
  have e7 : areaW (plU a b) (plV a c) (plV a b) (plU a c) = plE a b c := rfl
  have e8 : cvt .f64 (fop .quo .f64 (areaW (plW a b) (plV a c) (plV a b) (plW a c)) (plE a b c)) .f32 = plA a b c := rfl
  have e9 : cvt .f64 (fop .quo .f64 (areaW (plU a b) (plW a c) (plW a b) (plU a c)) (plE a b c)) .f32 = plB a b c := rfl
  have e10 : fop .sub .f32 (fop .sub .f32 a.Z (fop .mul .f32 (plA a b c) a.X)) (fop .mul .f32 (plB a b c) a.Y) = plC a b c := rfl
  have G1 : Hid (AreaOk (plW a b) (plV a c) (plV a b) (plW a c)) := G1
  have G4 : Hid (AreaOk (plU a b) (plW a c) (plW a b) (plU a c)) := G4
  have H7 : Hid (AreaOk (plU a b) (plV a c) (plV a b) (plU a c)) := H7
  have hzz := HZ.out
  have a0 := HBX2.out.a0
  have a1 := HBX2.out.a1
  have a2 := HBX2.out.a2
  have u32 := Try.underlying32
  have u24 := Try.underlying24
  go_wp2_with (first
    | (go_at_call_of 16 (plW a c); go_at_call_of 16 (plV a c); (with_reducible refine (area_any _ _ _ _ _ G1.out).mono ?_); rintro e w' ⟨rfl, rfl⟩)
    | (go_at_call_of 16 (plW a c); (with_reducible refine (area_any _ _ _ _ _ G4.out).mono ?_); rintro e w' ⟨rfl, rfl⟩)
    | (go_at_call 16; (with_reducible refine (area_any _ _ _ _ _ H7.out).mono ?_); rintro e w' ⟨rfl, rfl⟩)
    | (go_at_call 17; (with_reducible refine (told_any _ _ _ _ G11.out G12.out G13.out).mono ?_); rintro e w3 ⟨rfl, hb3⟩; have HBX3 := HBX2.out.below hb3 hsz2; have r0 := HBX3.r0; have r1 := HBX3.r1; have r2 := HBX3.r2; have f0 := HBX3.f0; have f1 := HBX3.f1; have f2 := HBX3.f2; clear HBX3))
  refine bodyPost_ret (v := .tuple #[.agg #[.float .f32 (plA a b c), .float .f32 (plB a b c), .float .f32 (plC a b c)], .bool true]) (by simp [results, go_sem, r0, r1, r2]) rfl ⟨rfl, ?_⟩
  exact (((HBW2.out.trans (hb3.mono (by omega))).setCell (by simp; omega) _).setCell (by simp; omega) _).setCell (by simp; omega) _
end Go.Proofs.Ytjegonmedaiccaa
