/- More walks: off, the means, the gap, the bytes, R8Vector. -/
import Derived.Test.YtjegonmedaiccaaLeaf
namespace Go.Proofs.Ytjegonmedaiccaa
open Go.RowKit Flt
attribute [local go_sem] run_fop run_cvt run_store_float

def offW (X Y Z A B C : Nat) : Nat := absW (fop .sub .f32 Z (heightW A B C X Y))
def OffOk (X Y Z A B C : Nat) : Prop := HeightOk A B C X Y ∧ okf .sub .f32 Z (heightW A B C X Y) = true

set_option maxHeartbeats 400000 in
theorem off_any (X Y Z A B C : Nat) (w : World) (h : OffOk X Y Z A B C) :
    Calls Try.prog 18 #[.agg #[.float .f32 X, .float .f32 Y, .float .f32 Z], .agg #[.float .f32 A, .float .f32 B, .float .f32 C]] w fun e w' => e = .returned (.float .f32 (offW X Y Z A B C)) ∧ Below w.heap.size w w' := by
  obtain ⟨h1, h2⟩ := h
  have H1 := Lib.hid h1
  clear h1
  go_enter Try.func18, Try.ntmps18
  go_wp2_with fail
  have hb0 : Below w.heap.size w ((w.alloc (.cells #[.float .f32 X, .float .f32 Y, .float .f32 Z] 26)).alloc (.cells #[.float .f32 A, .float .f32 B, .float .f32 C] 29)) := ((Below.refl _ _).alloc (Nat.le_refl _) _).alloc (by simp) _
  have hz : w.heap.size + 1 < ((w.alloc (.cells #[.float .f32 X, .float .f32 Y, .float .f32 Z] 26)).alloc (.cells #[.float .f32 A, .float .f32 B, .float .f32 C] 29)).heap.size := by simp
  have c0 : ((w.alloc (.cells #[.float .f32 X, .float .f32 Y, .float .f32 Z] 26)).alloc (.cells #[.float .f32 A, .float .f32 B, .float .f32 C] 29)).cell? ⟨w.heap.size, 0, none⟩ = some (.float .f32 X) := by go_simp
  have c1 : ((w.alloc (.cells #[.float .f32 X, .float .f32 Y, .float .f32 Z] 26)).alloc (.cells #[.float .f32 A, .float .f32 B, .float .f32 C] 29)).cell? ⟨w.heap.size, 1, none⟩ = some (.float .f32 Y) := by go_simp
  have c2 : ((w.alloc (.cells #[.float .f32 X, .float .f32 Y, .float .f32 Z] 26)).alloc (.cells #[.float .f32 A, .float .f32 B, .float .f32 C] 29)).cell? ⟨w.heap.size, 2, none⟩ = some (.float .f32 Z) := by go_simp
  have d0 : ((w.alloc (.cells #[.float .f32 X, .float .f32 Y, .float .f32 Z] 26)).alloc (.cells #[.float .f32 A, .float .f32 B, .float .f32 C] 29)).cell? ⟨w.heap.size + 1, 0, none⟩ = some (.float .f32 A) := by go_simp
  have d1 : ((w.alloc (.cells #[.float .f32 X, .float .f32 Y, .float .f32 Z] 26)).alloc (.cells #[.float .f32 A, .float .f32 B, .float .f32 C] 29)).cell? ⟨w.heap.size + 1, 1, none⟩ = some (.float .f32 B) := by go_simp
  have d2 : ((w.alloc (.cells #[.float .f32 X, .float .f32 Y, .float .f32 Z] 26)).alloc (.cells #[.float .f32 A, .float .f32 B, .float .f32 C] 29)).cell? ⟨w.heap.size + 1, 2, none⟩ = some (.float .f32 C) := by go_simp
  generalize (w.alloc (.cells #[.float .f32 X, .float .f32 Y, .float .f32 Z] 26)).alloc (.cells #[.float .f32 A, .float .f32 B, .float .f32 C] 29) = W at *
  have c0 := cell_regrown c0
  have c1 := cell_regrown c1
  have c2 := cell_regrown c2
  have d0 := cell_regrown d0
  have d1 := cell_regrown d1
  have d2 := cell_regrown d2
  refine wp_region_quiet_below (by kernel_rfl) (by kernel_rfl) ?_
  repeat (first
    | go_big_quiet_step (((go_at_call 9; exact Calls.regrown_of (height_any _ _ _ _ _ _ H1.out))))
    | go_big_quiet_step (((go_at_call 26; exact Calls.regrown_of ((abs_any _ _).mono fun _ _ ⟨he, hw⟩ => ⟨he, by rw [← hw]; exact Below.refl _ _⟩)))))
  refine wpQuiet_nil ?_
  intro _ hw'
  obtain ⟨p, rfl⟩ := hw'
  have hb1 := below_regrown W p.d p.os
  generalize Sort.grow (redrawn W p.d) p.os = W1 at *
  go_wp2
  go_ret
  exact ⟨rfl, hb0.trans (hb1.mono (by omega))⟩

set_option maxHeartbeats 400000 in
theorem part0_any (X Y Z : Nat) (w : World) :
    Calls Try.prog 21 #[.agg #[.float .f32 X, .float .f32 Y, .float .f32 Z]] w fun e w' => e = .returned (.float .f32 X) ∧ Below w.heap.size w w' := by
  go_enter Try.func21, Try.ntmps21
  go_wp2
  go_ret
  exact ⟨rfl, (Below.refl _ _).alloc (Nat.le_refl _) _⟩

set_option maxHeartbeats 400000 in
theorem part1_any (X Y Z : Nat) (w : World) :
    Calls Try.prog 22 #[.agg #[.float .f32 X, .float .f32 Y, .float .f32 Z]] w fun e w' => e = .returned (.float .f32 Y) ∧ Below w.heap.size w w' := by
  go_enter Try.func22, Try.ntmps22
  go_wp2
  go_ret
  exact ⟨rfl, (Below.refl _ _).alloc (Nat.le_refl _) _⟩

set_option maxHeartbeats 400000 in
theorem part2_any (X Y Z : Nat) (w : World) :
    Calls Try.prog 23 #[.agg #[.float .f32 X, .float .f32 Y, .float .f32 Z]] w fun e w' => e = .returned (.float .f32 Z) ∧ Below w.heap.size w w' := by
  go_enter Try.func23, Try.ntmps23
  go_wp2
  go_ret
  exact ⟨rfl, (Below.refl _ _).alloc (Nat.le_refl _) _⟩

/-- The points of a slice: three words each. -/
def Pts (w : World) (b n : Nat) (X Y Z : Nat → Nat) : Prop :=
  ∀ k, k < n → w.cell? ⟨b, k * 3, none⟩ = some (.float .f32 (X k)) ∧ w.cell? ⟨b, k * 3 + 1, none⟩ = some (.float .f32 (Y k)) ∧ w.cell? ⟨b, k * 3 + 2, none⟩ = some (.float .f32 (Z k))

theorem Pts.below {w w' : World} {b n B : Nat} {X Y Z : Nat → Nat} (h : Pts w b n X Y Z) (hb : Below B w w') (hB : b < B) : Pts w' b n X Y Z := fun k hk => by
  obtain ⟨h1, h2, h3⟩ := h k hk
  exact ⟨(hb.cell (p := ⟨b, _, none⟩) hB).trans h1, (hb.cell (p := ⟨b, _, none⟩) hB).trans h2, (hb.cell (p := ⟨b, _, none⟩) hB).trans h3⟩

theorem bcell {W w1 : World} (hb : Below W.heap.size W w1) : (∀ b o, b < W.heap.size → w1.cell? ⟨b, o, none⟩ = W.cell? ⟨b, o, none⟩) ∧ (∀ b o, b < W.heap.size → w1.frozen? ⟨b, o, none⟩ = W.frozen? ⟨b, o, none⟩) :=
  ⟨fun b o h => hb.cell (p := ⟨b, o, none⟩) h, fun b o h => hb.frozen (p := ⟨b, o, none⟩) h⟩

/-- Sums of 64-bit numbers, from +0 on. -/
def sumTo (X : Nat → Nat) : Nat → Nat
  | 0 => 0
  | k + 1 => fop .add .f64 (sumTo X k) (cvt .f32 (X k) .f64)
def MeanOk (X : Nat → Nat) (n : Nat) : Prop :=
  (∀ k, k < n → okc .f32 (X k) .f64 = true ∧ okf .add .f64 (sumTo X k) (cvt .f32 (X k) .f64) = true) ∧ okf .quo .f64 (sumTo X n) (floatOfInt .f64 n) = true
def meanW (X : Nat → Nat) (n : Nat) : Nat := fop .quo .f64 (sumTo X n) (floatOfInt .f64 n)
theorem sumTo_succ (X : Nat → Nat) (k : Nat) : sumTo X (k + 1) = fop .add .f64 (sumTo X k) (cvt .f32 (X k) .f64) := rfl

set_option maxHeartbeats 1000000 in
theorem mean0_any (b n c : Nat) (X Y Z : Nat → Nat) (w : World) (hn : n ≤ 4096) (hb : b < w.heap.size) (hp : Pts w b n X Y Z) (hm : MeanOk X n) :
    Calls Try.prog 20 #[.slice (some ⟨b, 0, none⟩) n c, .func (.func 21) #[] #[]] w fun e w' => e = .returned (.float .f64 (meanW X n)) ∧ Below w.heap.size w w' := by
  have HP := Lib.hid hp
  have HM := Lib.hid hm.1
  have hq := hm.2
  clear hp hm
  have u24 := Try.underlying24
  have u32 := Try.underlying32
  go_enter Try.func20, Try.ntmps20
  go_wp2
  go_loopw [5, 7, 10] (fun s _ i wr => ∃ k : Nat, k ≤ n ∧ i = .int .i64 k ∧ s = .float .f64 (sumTo X k) ∧ Below w.heap.size w wr) (fun _ _ i _ => n - (intOf i).toNat)
  case atStart => exact ⟨0, Nat.zero_le _, rfl, rfl, Below.refl _ _⟩
  case round =>
    obtain ⟨k, hk, rfl, rfl, hbel⟩ := hrel
    have HB := Lib.hid hbel
    by_cases hlt : k < n
    · obtain ⟨p0, p1, p2⟩ := (HP.out.below hbel hb) k hlt
      obtain ⟨o1, o2⟩ := HM.out k hlt
      have hz := hbel.size
      clear hbel
      go_wp2_with ((with_reducible refine (part0_any _ _ _ _).mono ?_); rintro e w1 ⟨rfl, hb1⟩)
      go_roundw
      case rel => exact ⟨k + 1, by omega, by go_num, rfl, (HB.out.alloc hz _).trans (hb1.mono (by simp; omega))⟩
      case measure => simp [intOf]; omega
    · obtain rfl : k = n := by omega
      go_wp2
      go_ret
      exact ⟨rfl, HB.out⟩

set_option maxHeartbeats 1000000 in
theorem mean1_any (b n c : Nat) (X Y Z : Nat → Nat) (w : World) (hn : n ≤ 4096) (hb : b < w.heap.size) (hp : Pts w b n X Y Z) (hm : MeanOk Y n) :
    Calls Try.prog 20 #[.slice (some ⟨b, 0, none⟩) n c, .func (.func 22) #[] #[]] w fun e w' => e = .returned (.float .f64 (meanW Y n)) ∧ Below w.heap.size w w' := by
  have HP := Lib.hid hp
  have HM := Lib.hid hm.1
  have hq := hm.2
  clear hp hm
  have u24 := Try.underlying24
  have u32 := Try.underlying32
  go_enter Try.func20, Try.ntmps20
  go_wp2
  go_loopw [5, 7, 10] (fun s _ i wr => ∃ k : Nat, k ≤ n ∧ i = .int .i64 k ∧ s = .float .f64 (sumTo Y k) ∧ Below w.heap.size w wr) (fun _ _ i _ => n - (intOf i).toNat)
  case atStart => exact ⟨0, Nat.zero_le _, rfl, rfl, Below.refl _ _⟩
  case round =>
    obtain ⟨k, hk, rfl, rfl, hbel⟩ := hrel
    have HB := Lib.hid hbel
    by_cases hlt : k < n
    · obtain ⟨p0, p1, p2⟩ := (HP.out.below hbel hb) k hlt
      obtain ⟨o1, o2⟩ := HM.out k hlt
      have hz := hbel.size
      clear hbel
      go_wp2_with ((with_reducible refine (part1_any _ _ _ _).mono ?_); rintro e w1 ⟨rfl, hb1⟩)
      go_roundw
      case rel => exact ⟨k + 1, by omega, by go_num, rfl, (HB.out.alloc hz _).trans (hb1.mono (by simp; omega))⟩
      case measure => simp [intOf]; omega
    · obtain rfl : k = n := by omega
      go_wp2
      go_ret
      exact ⟨rfl, HB.out⟩

set_option maxHeartbeats 1000000 in
theorem mean2_any (b n c : Nat) (X Y Z : Nat → Nat) (w : World) (hn : n ≤ 4096) (hb : b < w.heap.size) (hp : Pts w b n X Y Z) (hm : MeanOk Z n) :
    Calls Try.prog 20 #[.slice (some ⟨b, 0, none⟩) n c, .func (.func 23) #[] #[]] w fun e w' => e = .returned (.float .f64 (meanW Z n)) ∧ Below w.heap.size w w' := by
  have HP := Lib.hid hp
  have HM := Lib.hid hm.1
  have hq := hm.2
  clear hp hm
  have u24 := Try.underlying24
  have u32 := Try.underlying32
  go_enter Try.func20, Try.ntmps20
  go_wp2
  go_loopw [5, 7, 10] (fun s _ i wr => ∃ k : Nat, k ≤ n ∧ i = .int .i64 k ∧ s = .float .f64 (sumTo Z k) ∧ Below w.heap.size w wr) (fun _ _ i _ => n - (intOf i).toNat)
  case atStart => exact ⟨0, Nat.zero_le _, rfl, rfl, Below.refl _ _⟩
  case round =>
    obtain ⟨k, hk, rfl, rfl, hbel⟩ := hrel
    have HB := Lib.hid hbel
    by_cases hlt : k < n
    · obtain ⟨p0, p1, p2⟩ := (HP.out.below hbel hb) k hlt
      obtain ⟨o1, o2⟩ := HM.out k hlt
      have hz := hbel.size
      clear hbel
      go_wp2_with ((with_reducible refine (part2_any _ _ _ _).mono ?_); rintro e w1 ⟨rfl, hb1⟩)
      go_roundw
      case rel => exact ⟨k + 1, by omega, by go_num, rfl, (HB.out.alloc hz _).trans (hb1.mono (by simp; omega))⟩
      case measure => simp [intOf]; omega
    · obtain rfl : k = n := by omega
      go_wp2
      go_ret
      exact ⟨rfl, HB.out⟩

/-- The greater of two 64-bit numbers, as Go's max picks it. -/
def maxW (x y : Nat) : Nat :=
  match FloatKind.f64.format.order x y with
  | some .lt => y
  | some .gt => x
  | _ => if (FloatKind.f64.decode x).neg then y else x

theorem run_maxW {P : Program} (w : World) (x y : Nat) (h : (FloatKind.f64.format.order x y).isSome = true) :
    (Builtin.max_ #[32, 32] 32 #[.float .f64 x, .float .f64 y]).run P w = .ok (.float .f64 (maxW x y)) w := by
  unfold maxW
  obtain ⟨o, ho⟩ := Option.isSome_iff_exists.1 h
  cases o <;> simp [Builtin.max_, Builtin.max2, ho]

def gapW (a b : Nat) : Nat := maxW (fop .sub .f64 a b) (fop .sub .f64 b a)
def GapOk (a b : Nat) : Prop := okf .sub .f64 a b = true ∧ okf .sub .f64 b a = true ∧ (FloatKind.f64.format.order (fop .sub .f64 a b) (fop .sub .f64 b a)).isSome = true

set_option maxHeartbeats 400000 in
theorem gap_any (a b : Nat) (w : World) (h : GapOk a b) :
    Calls Try.prog 11 #[.float .f64 a, .float .f64 b] w fun e w' => e = .returned (.float .f64 (gapW a b)) ∧ w = w' := by
  obtain ⟨h1, h2, h3⟩ := h
  have hm := fun w => run_maxW (P := Try.prog) w _ _ h3
  clear h3
  go_enter Try.func11, Try.ntmps11
  go_wp2
  go_ret
  exact ⟨rfl, rfl⟩

/-- A slice of bytes that came in. -/
def Bytes (w : World) (A : Option Addr) (n : Nat) (C : Nat → Int) : Prop :=
  ∀ k, k < n → ∃ b off, A = some ⟨b, off, none⟩ ∧ b < w.heap.size ∧ w.cell? ⟨b, off + k, none⟩ = some (.int .u8 (C k)) ∧ 0 ≤ C k ∧ C k ≤ 255

theorem Bytes.below {w w' : World} {A : Option Addr} {n : Nat} {C : Nat → Int} (h : Bytes w A n C) (hb : Below w.heap.size w w') : Bytes w' A n C := fun k hk => by
  obtain ⟨b, off, h1, h2, h3, h4⟩ := h k hk
  exact ⟨b, off, h1, Nat.lt_of_lt_of_le h2 hb.size, (hb.cell (p := ⟨b, _, none⟩) h2).trans h3, h4⟩

set_option maxHeartbeats 400000 in
theorem long_any (A A' : Option Addr) (n c n' c' : Nat) (w : World) :
    Calls Try.prog 4 #[.slice A n c, .slice A' n' c'] w fun e w' => e = .returned (.bool (decide (48 < (n : Int)) || decide (48 < (n' : Int)))) ∧ w = w' := by
  by_cases h : 48 < (n : Int)
  · go_enter Try.func4, Try.ntmps4
    go_wp2
    go_ret
    exact ⟨by simp [h], rfl⟩
  · have hd : decide (48 < (n : Int)) = false := by simpa using h
    rw [hd]
    go_enter Try.func4, Try.ntmps4
    go_wp2
    go_ret
    exact ⟨rfl, rfl⟩

def atI (n : Nat) (C : Nat → Int) (k m : Int) : Int := if k < n then C k.toNat % m else 0

set_option maxHeartbeats 400000 in
theorem at_any (A : Option Addr) (n c : Nat) (C : Nat → Int) (k m : Int) (w : World) (hk : 0 ≤ k) (hk' : k ≤ 48) (hm : 1 < m) (hm' : m ≤ 256) (hb : Bytes w A n C) :
    Calls Try.prog 8 #[.slice A n c, .int .i64 k, .int .i64 m] w fun e w' => e = .returned (.int .i64 (atI n C k m)) ∧ w = w' := by
  unfold atI
  by_cases h : k < n
  · obtain ⟨j, rfl⟩ := Int.eq_ofNat_of_zero_le hk
    have hj : j < n := by omega
    obtain ⟨b, off, rfl, _, hcell, g1, g2⟩ := hb j hj
    rw [if_pos h, Int.toNat_natCast]
    clear hb
    go_enter Try.func8, Try.ntmps8
    go_wp2
    go_ret
    exact ⟨rfl, rfl⟩
  · rw [if_neg h]
    clear hb
    go_enter Try.func8, Try.ntmps8
    go_wp2
    go_ret
    exact ⟨rfl, rfl⟩

/-- A number of R8Vector: that which the input's byte tells, or the one that stands there. -/
def pickW (n : Nat) (C : Nat → Int) (at_ : Int) (d : Nat) : Nat :=
  if at_ < n then fop .quo .f32 (floatOfInt .f32 (C at_.toNat % 17 - 8)) 1082130432 else d
def PickOk (n : Nat) (C : Nat → Int) (at_ : Int) : Prop := at_ < n → okf .quo .f32 (floatOfInt .f32 (C at_.toNat % 17 - 8)) 1082130432 = true

set_option maxHeartbeats 2000000 in
theorem vector_any (A : Option Addr) (n c : Nat) (C : Nat → Int) (p : Int) (w : World) (hp : 0 ≤ p) (hp' : p ≤ 48) (hb : Bytes w A n C)
    (h0 : PickOk n C p) (h1 : PickOk n C (p + 1)) (h2 : PickOk n C (p + 2)) :
    Calls Try.prog 5 #[.slice A n c, .int .i64 p] w fun e w' => e = .returned (.agg #[.float .f32 (pickW n C p 1065353216), .float .f32 (pickW n C (p + 1) 1056964608), .float .f32 (pickW n C (p + 2) 3196059648)]) ∧ Below w.heap.size w w' := by
  have HB := Lib.hid hb
  have H0 := Lib.hid h0
  have H1 := Lib.hid h1
  have H2 := Lib.hid h2
  clear hb h0 h1 h2
  have u24 := Try.underlying24
  have u2 := Try.underlying2
  go_enter Try.func5, Try.ntmps5
  go_wp2
  go_loopw [6] (fun i wr => ∃ (k : Nat) (x0 x1 x2 : Nat), k ≤ 3 ∧ i = .int .i64 k ∧ wr = (w.alloc (.cells #[.float .f32 0, .float .f32 0, .float .f32 0] 26)).alloc (.cells #[.float .f32 x0, .float .f32 x1, .float .f32 x2] 24) ∧
      (x0 = if k < 1 then 1065353216 else pickW n C p 1065353216) ∧ (x1 = if k < 2 then 1056964608 else pickW n C (p + 1) 1056964608) ∧ (x2 = if k < 3 then 3196059648 else pickW n C (p + 2) 3196059648)) (fun i _ => 3 - (intOf i).toNat)
  case atStart => exact ⟨0, _, _, _, Nat.zero_le _, rfl, rfl, rfl, rfl, rfl⟩
  case round =>
    obtain ⟨k, x0, x1, x2, hk, rfl, rfl, e0, e1, e2⟩ := hrel
    rcases (by omega : k = 0 ∨ k = 1 ∨ k = 2 ∨ k = 3) with rfl | rfl | rfl | rfl
    · subst e0 e1 e2
      by_cases hlt : p < n
      · obtain ⟨b, off, rfl, hbw, hcell, g1, g2⟩ := HB.out p.toNat (by omega)
        have ho := H0.out hlt
        go_wp2
        exact ⟨⟨1, _, _, _, by omega, rfl, rfl, by first | rfl | simp [pickW, hlt], by first | rfl | simp [pickW, hlt], by first | rfl | simp [pickW, hlt]⟩, by simp [intOf]⟩
      · go_wp2
        exact ⟨⟨1, _, _, _, by omega, rfl, rfl, by first | rfl | simp [pickW, hlt], by first | rfl | simp [pickW, hlt], by first | rfl | simp [pickW, hlt]⟩, by simp [intOf]⟩
    · subst e0 e1 e2
      by_cases hlt : p + 1 < n
      · obtain ⟨b, off, rfl, hbw, hcell, g1, g2⟩ := HB.out (p + 1).toNat (by omega)
        have ho := H1.out hlt
        go_wp2
        exact ⟨⟨2, _, _, _, by omega, rfl, rfl, by first | rfl | simp [pickW, hlt], by first | rfl | simp [pickW, hlt], by first | rfl | simp [pickW, hlt]⟩, by simp [intOf]⟩
      · go_wp2
        exact ⟨⟨2, _, _, _, by omega, rfl, rfl, by first | rfl | simp [pickW, hlt], by first | rfl | simp [pickW, hlt], by first | rfl | simp [pickW, hlt]⟩, by simp [intOf]⟩
    · subst e0 e1 e2
      by_cases hlt : p + 2 < n
      · obtain ⟨b, off, rfl, hbw, hcell, g1, g2⟩ := HB.out (p + 2).toNat (by omega)
        have ho := H2.out hlt
        go_wp2
        exact ⟨⟨3, _, _, _, by omega, rfl, rfl, by first | rfl | simp [pickW, hlt], by first | rfl | simp [pickW, hlt], by first | rfl | simp [pickW, hlt]⟩, by simp [intOf]⟩
      · go_wp2
        exact ⟨⟨3, _, _, _, by omega, rfl, rfl, by first | rfl | simp [pickW, hlt], by first | rfl | simp [pickW, hlt], by first | rfl | simp [pickW, hlt]⟩, by simp [intOf]⟩
    · rw [if_neg (by omega)] at e0 e1 e2
      subst e0 e1 e2
      go_wp2
      go_region
      go_wp2
      refine bodyPost_ret (v := .agg #[.float .f32 (pickW n C p 1065353216), .float .f32 (pickW n C (p + 1) 1056964608), .float .f32 (pickW n C (p + 2) 3196059648)]) (by simp [results, go_sem]) rfl ⟨rfl, ?_⟩
      exact (((Below.refl _ _).alloc (Nat.le_refl _) _).alloc (by simp) _).drew
end Go.Proofs.Ytjegonmedaiccaa
