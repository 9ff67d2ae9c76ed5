/- The walks over the leaves of FnPlanes: what each small function computes, on words. -/
import Derived.Test.YtjegonmedaiccaaRows
import Derived.Test.YtjegonmedaiccaaFlt
import Derived.WalkKit
import Derived.WalkSpells
import Derived.WalkLawsBesides
import Derived.Deep.QuietTactic
import Derived.BigQuiet
import Derived.Lib.Hide
import Derived.Lib.QuietBelow
namespace Go.Proofs.Ytjegonmedaiccaa
open Go.RowKit Flt

theorem run_store_float (P : Program) (w : World) (a : Addr) (m : Mode) (k : FloatKind) (b : Nat) : (store a (.float k b) m).run P w = stored P w a (.float k b) m := run_store P w a _ m rfl

attribute [local go_sem] run_fop run_cvt run_store_float

def wideW (a b : Nat) : Nat := fop .sub .f64 (cvt .f32 a .f64) (cvt .f32 b .f64)
def WideOk (a b : Nat) : Prop := okc .f32 a .f64 = true ∧ okc .f32 b .f64 = true ∧ okf .sub .f64 (cvt .f32 a .f64) (cvt .f32 b .f64) = true

set_option maxHeartbeats 400000 in
theorem wide_any (a b : Nat) (w : World) (h : WideOk a b) :
    Calls Try.prog 15 #[.float .f32 a, .float .f32 b] w fun e w' => e = .returned (.float .f64 (wideW a b)) ∧ w = w' := by
  obtain ⟨h1, h2, h3⟩ := h
  have u24 := Try.underlying24
  have u32 := Try.underlying32
  go_enter Try.func15, Try.ntmps15
  go_wp2
  go_ret
  exact ⟨rfl, rfl⟩

def areaW (a b c d : Nat) : Nat := fop .sub .f64 (fop .mul .f64 a b) (fop .mul .f64 c d)
def AreaOk (a b c d : Nat) : Prop := okf .mul .f64 a b = true ∧ okf .mul .f64 c d = true ∧ okf .sub .f64 (fop .mul .f64 a b) (fop .mul .f64 c d) = true

set_option maxHeartbeats 400000 in
theorem area_any (a b c d : Nat) (w : World) (h : AreaOk a b c d) :
    Calls Try.prog 16 #[.float .f64 a, .float .f64 b, .float .f64 c, .float .f64 d] w fun e w' => e = .returned (.float .f64 (areaW a b c d)) ∧ w = w' := by
  obtain ⟨h1, h2, h3⟩ := h
  go_enter Try.func16, Try.ntmps16
  go_wp2
  go_ret
  exact ⟨rfl, rfl⟩

/-- HeightAt of a plane A, B, C at x, y, on words. -/
def heightW (A B C x y : Nat) : Nat := fop .add .f32 (fop .add .f32 (fop .mul .f32 A x) (fop .mul .f32 B y)) C
def HeightOk (A B C x y : Nat) : Prop := okf .mul .f32 A x = true ∧ okf .mul .f32 B y = true ∧ okf .add .f32 (fop .mul .f32 A x) (fop .mul .f32 B y) = true ∧ okf .add .f32 (fop .add .f32 (fop .mul .f32 A x) (fop .mul .f32 B y)) C = true

set_option maxHeartbeats 400000 in
theorem height_any (A B C x y : Nat) (w : World) (h : HeightOk A B C x y) :
    Calls Try.prog 9 #[.agg #[.float .f32 A, .float .f32 B, .float .f32 C], .float .f32 x, .float .f32 y] w fun e w' => e = .returned (.float .f32 (heightW A B C x y)) ∧ Below w.heap.size w w' := by
  obtain ⟨h1, h2, h3, h4⟩ := h
  go_enter Try.func9, Try.ntmps9
  go_wp2
  go_ret
  exact ⟨rfl, (Below.refl _ _).alloc (Nat.le_refl _) _⟩

theorem andNot_sign (x : Nat) : (bits BinOp.andNot IntKind.u32 (x : Int) 2147483648).toNat = absW x := by
  have e : bits BinOp.andNot IntKind.u32 (x : Int) 2147483648 = ((BitVec.ofInt 32 (x : Int) &&& ~~~ BitVec.ofInt 32 2147483648).toNat : Int) % 4294967296 := by
    rfl
  have h1 : (~~~ BitVec.ofInt 32 2147483648).toNat = 2 ^ 31 - 1 := by decide
  have h2 : (BitVec.ofInt 32 (x : Int)).toNat = x % 4294967296 := by
    rw [BitVec.ofInt_natCast, BitVec.toNat_ofNat]
  rw [e, BitVec.toNat_and, h1, h2, Nat.and_two_pow_sub_one_eq_mod]
  unfold absW
  omega

theorem bits31 (x : Nat) (w : World) : (callFunc 31 #[.float .f32 x]).run Try.prog w = .ok (.value (.int .u32 (x : Int))) w := by
  rw [run_callFunc_extern (fn := Try.f31) (e := Extern.MathFloatBits.float32bits) (by kernel_rfl) (by kernel_rfl) (by kernel_rfl) (by kernel_rfl) (by kernel_rfl)]
  rfl
theorem frombits30 (n : Int) (w : World) : (callFunc 30 #[.int .u32 n]).run Try.prog w = .ok (.value (.float .f32 n.toNat)) w := by
  rw [run_callFunc_extern (fn := Try.f30) (e := Extern.MathFloatBits.float32frombits) (by kernel_rfl) (by kernel_rfl) (by kernel_rfl) (by kernel_rfl) (by kernel_rfl)]
  rfl

set_option maxHeartbeats 400000 in
theorem abs_any (x : Nat) (w : World) :
    Calls Try.prog 26 #[.float .f32 x] w fun e w' => e = .returned (.float .f32 (absW x)) ∧ w = w' := by
  have b1 := bits31
  have b2 := frombits30
  go_enter Try.func26, Try.ntmps26
  go_wp2
  go_ret
  exact ⟨by rw [andNot_sign]; rfl, rfl⟩

set_option maxHeartbeats 400000 in
theorem in_yes (n l h : Int) (w : World) (h1 : l ≤ n) (h2 : n ≤ h) :
    Calls Try.prog 19 #[.int .i64 n, .int .i64 l, .int .i64 h] w fun e w' => e = .returned (.bool true) ∧ w = w' := by
  go_enter Try.func19, Try.ntmps19
  go_wp2
  go_ret
  exact ⟨rfl, rfl⟩

set_option maxHeartbeats 400000 in
theorem isFinite_any (x : Nat) (w : World) (h : okf .sub .f32 x x = true) (hz : (FloatKind.f32.format.order (fop .sub .f32 x x) 0 == some .eq) = true) :
    Calls Try.prog 29 #[.float .f32 x] w fun e w' => e = .returned (.bool true) ∧ w = w' := by
  go_enter Try.func29, Try.ntmps29
  go_wp2
  go_ret
  exact ⟨rfl, rfl⟩

def FinOk (x : Nat) : Prop := okf .sub .f32 x x = true ∧ (FloatKind.f32.format.order (fop .sub .f32 x x) 0 == some .eq) = true

set_option maxHeartbeats 400000 in
theorem finite1_any (x : Nat) (w : World) (h : FinOk x) :
    Calls Try.prog 28 #[.float .f32 x] w fun e w' => e = .returned (.bool false) ∧ w = w' := by
  obtain ⟨h1, h2⟩ := h
  go_enter Try.func28, Try.ntmps28
  go_wp2_with ((with_reducible refine (isFinite_any _ _ (by assumption) (by assumption)).mono ?_); rintro e w' ⟨rfl, rfl⟩)
  go_ret
  exact ⟨rfl, rfl⟩

set_option maxHeartbeats 400000 in
theorem index_any (b n c : Nat) (X : Nat → Nat) (w : World) (hn : n ≤ 4096) (hc : ∀ k, k < n → w.cell? ⟨b, k, none⟩ = some (.float .f32 (X k))) (hf : ∀ k, k < n → FinOk (X k)) :
    Calls Try.prog 32 #[.slice (some ⟨b, 0, none⟩) n c, .func (.func 28) #[] #[]] w fun e w' => e = .returned (.int .i64 (-1)) ∧ w = w' := by
  have HC := Lib.hid hc
  have HF := Lib.hid hf
  clear hc hf
  go_enter Try.func32, Try.ntmps32
  go_wp2
  go_loop [5, 8] (fun _ i => ∃ k : Nat, k ≤ n ∧ i = .int .i64 k) (fun _ i => n - (intOf i).toNat)
  case atStart => exact ⟨0, Nat.zero_le _, rfl⟩
  case round =>
    obtain ⟨k, hk, rfl⟩ := hrel
    by_cases hlt : k < n
    · have hcell := HC.out k hlt
      have hfin := HF.out k hlt
      have HFK := Lib.hid hfin
      clear hfin
      go_wp2_with ((with_reducible refine (finite1_any _ _ HFK.out).mono ?_); rintro e w' ⟨rfl, rfl⟩)
      go_round
      case rel => exact ⟨k + 1, by omega, by go_num⟩
      case measure => simp [intOf]; omega
    · go_wp2
      go_ret
      exact ⟨rfl, rfl⟩

set_option maxHeartbeats 400000 in
theorem contains_any (b n c : Nat) (X : Nat → Nat) (w : World) (hn : n ≤ 4096) (hc : ∀ k, k < n → w.cell? ⟨b, k, none⟩ = some (.float .f32 (X k))) (hf : ∀ k, k < n → FinOk (X k)) :
    Calls Try.prog 27 #[.slice (some ⟨b, 0, none⟩) n c, .func (.func 28) #[] #[]] w fun e w' => e = .returned (.bool false) ∧ w = w' := by
  have HC := Lib.hid hc
  have HF := Lib.hid hf
  clear hc hf
  go_enter Try.func27, Try.ntmps27
  go_wp2_with ((with_reducible refine (index_any _ _ _ _ _ hn HC.out HF.out).mono ?_); rintro e w' ⟨rfl, rfl⟩)
  go_ret
  exact ⟨rfl, rfl⟩

set_option maxHeartbeats 400000 in
theorem finite_any (b n c : Nat) (X : Nat → Nat) (w : World) (hn : n ≤ 4096) (hc : ∀ k, k < n → w.cell? ⟨b, k, none⟩ = some (.float .f32 (X k))) (hf : ∀ k, k < n → FinOk (X k)) :
    Calls Try.prog 25 #[.slice (some ⟨b, 0, none⟩) n c] w fun e w' => e = .returned (.bool true) ∧ w = w' := by
  have HC := Lib.hid hc
  have HF := Lib.hid hf
  clear hc hf
  go_enter Try.func25, Try.ntmps25
  go_wp2_with ((with_reducible refine (contains_any _ _ _ _ _ hn HC.out HF.out).mono ?_); rintro e w' ⟨rfl, rfl⟩)
  go_ret
  exact ⟨rfl, rfl⟩

theorem cell_of_three (W : World) (T : TypeId) (A B C : Nat) (k : Nat) (hk : k < 3) :
    (W.alloc (.cells #[.float .f32 A, .float .f32 B, .float .f32 C] T)).cell? ⟨W.heap.size, k, none⟩ = some (.float .f32 ([A, B, C].getD k 0)) := by
  rcases k with _ | _ | _ | k
  · go_simp
  · go_simp
  · go_simp
  · omega
theorem three_ok {Q : Nat → Prop} {A B C : Nat} (h1 : Q A) (h2 : Q B) (h3 : Q C) (k : Nat) (hk : k < 3) : Q ([A, B, C].getD k 0) := by
  rcases k with _ | _ | _ | k
  · exact h1
  · exact h2
  · exact h3
  · omega

set_option maxHeartbeats 400000 in
theorem told_any (A B C : Nat) (w : World) (h1 : FinOk A) (h2 : FinOk B) (h3 : FinOk C) :
    Calls Try.prog 17 #[.float .f32 A, .float .f32 B, .float .f32 C] w fun e w' => e = .returned (.tuple #[.agg #[.float .f32 A, .float .f32 B, .float .f32 C], .bool true]) ∧ Below w.heap.size w w' := by
  have HF := Lib.hid (three_ok h1 h2 h3)
  clear h1 h2 h3
  have HC := Lib.hid (cell_of_three (w.alloc (.cells #[.float .f32 0, .float .f32 0, .float .f32 0] 29)) 24 A B C)
  go_enter Try.func17, Try.ntmps17
  go_wp2_with ((with_reducible refine (finite_any _ 3 3 _ _ (by omega) (by have := HC.out; simpa using this) HF.out).mono ?_); rintro e w' ⟨rfl, rfl⟩)
  refine bodyPost_ret (v := .tuple #[.agg #[.float .f32 A, .float .f32 B, .float .f32 C], .bool true]) (by simp [results, Try.results17, go_sem]) rfl ⟨rfl, ?_⟩
  exact ((Below.refl _ _).alloc (Nat.le_refl _) _).alloc (by simp) _
end Go.Proofs.Ytjegonmedaiccaa
