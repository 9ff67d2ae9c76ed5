/- Walks: OffPlane, nearPlane. -/
import Derived.Test.YtjegonmedaiccaaLeafB
namespace Go.Proofs.Ytjegonmedaiccaa
open Go.RowKit Flt
attribute [local go_sem] run_fop run_cvt run_store_float

/-- The greatest of the first numbers, from +0 on, as OffPlane picks it. -/
def mostTo (f : Nat → Nat) : Nat → Nat
  | 0 => 0
  | k + 1 => if (FloatKind.f32.format.order (f k) (mostTo f k) == some .gt) = true then f k else mostTo f k

set_option maxHeartbeats 1000000 in
theorem offPlane_any (b n c : Nat) (X Y Z : Nat → Nat) (A B C : Nat) (w : World) (hn : n ≤ 256) (hb : b < w.heap.size) (hp : Pts w b n X Y Z) (ho : ∀ k, k < n → OffOk (X k) (Y k) (Z k) A B C) :
    Calls Try.prog 7 #[.slice (some ⟨b, 0, none⟩) n c, .agg #[.float .f32 A, .float .f32 B, .float .f32 C]] w fun e w' => e = .returned (.tuple #[.float .f32 (mostTo (fun k => offW (X k) (Y k) (Z k) A B C) n), .bool true]) ∧ Below w.heap.size w w' := by
  have hp0 : Pts (w.alloc (.cells #[.float .f32 A, .float .f32 B, .float .f32 C] 29)) b n X Y Z := hp.below ((Below.refl _ _).alloc (Nat.le_refl w.heap.size) _) hb
  have HP := Lib.hid hp0
  have HO := Lib.hid ho
  clear hp0 hp ho
  have d0 : (w.alloc (.cells #[.float .f32 A, .float .f32 B, .float .f32 C] 29)).cell? ⟨w.heap.size, 0, none⟩ = some (.float .f32 A) := by go_simp
  have d1 : (w.alloc (.cells #[.float .f32 A, .float .f32 B, .float .f32 C] 29)).cell? ⟨w.heap.size, 1, none⟩ = some (.float .f32 B) := by go_simp
  have d2 : (w.alloc (.cells #[.float .f32 A, .float .f32 B, .float .f32 C] 29)).cell? ⟨w.heap.size, 2, none⟩ = some (.float .f32 C) := by go_simp
  have D0 := Lib.hid d0
  have D1 := Lib.hid d1
  have D2 := Lib.hid d2
  clear d0 d1 d2
  generalize hf : (fun k => offW (X k) (Y k) (Z k) A B C) = f
  have HFF : Hid (∀ k, offW (X k) (Y k) (Z k) A B C = f k) := fun k => by rw [← hf]
  clear hf
  go_enter Try.func7, Try.ntmps7
  go_wp2
  go_loopw [6, 8, 9, 15] (fun s _ _ i wr => ∃ k : Nat, k ≤ n ∧ i = .int .i64 k ∧ s = .float .f32 (mostTo f k) ∧ Below (w.heap.size + 1) (w.alloc (.cells #[.float .f32 A, .float .f32 B, .float .f32 C] 29)) wr) (fun _ _ _ i _ => n - (intOf i).toNat)
  case atStart => exact ⟨0, Nat.zero_le _, rfl, rfl, Below.refl _ _⟩
  case round =>
    obtain ⟨k, hk, rfl, rfl, hbel⟩ := hrel
    have HB := Lib.hid hbel
    by_cases hlt : k < n
    · obtain ⟨p0, p1, p2⟩ := (HP.out.below hbel (by omega)) k hlt
      have q0 := (hbel.cell (p := ⟨w.heap.size, 0, none⟩) (by simp)).trans D0.out
      have q1 := (hbel.cell (p := ⟨w.heap.size, 1, none⟩) (by simp)).trans D1.out
      have q2 := (hbel.cell (p := ⟨w.heap.size, 2, none⟩) (by simp)).trans D2.out
      have o1 := HO.out k hlt
      have O1 := Lib.hid o1
      clear o1
      have hz := hbel.size
      simp only [World.size_alloc] at hz
      have hz' : w.heap.size < wr.heap.size := by omega
      clear hbel
      go_wp2_with ((with_reducible refine (off_any _ _ _ _ _ _ _ O1.out).mono ?_); rintro e w1 ⟨rfl, hb1⟩)
      all_goals
        go_roundw
        case rel =>
          refine ⟨k + 1, by omega, by go_num, ?_, (HB.out.alloc (by omega) _).trans (hb1.mono (by simp; omega))⟩
          rw [mostTo, ← HFF.out k]
          first
            | rw [if_pos (by assumption)]
            | rw [if_neg (by rw [Bool.not_eq_true]; assumption)]
        case measure => simp [intOf]; omega
    · obtain rfl : k = n := by omega
      go_wp2
      go_ret2
      exact ⟨rfl, ((Below.refl _ _).alloc (Nat.le_refl w.heap.size) _).trans (HB.out.mono (by omega))⟩

/-- The places of the first numbers that are at most 'near'. -/
def nearTo (f : Nat → Nat) (near : Nat) : Nat → List Int
  | 0 => []
  | k + 1 => if (FloatKind.f32.format.order (f k) near == some .lt || FloatKind.f32.format.order (f k) near == some .eq) = true then nearTo f near k ++ [(k : Int)] else nearTo f near k

theorem nearTo_len (f : Nat → Nat) (near : Nat) : ∀ k, (nearTo f near k).length ≤ k
  | 0 => Nat.le_refl _
  | k + 1 => by
    have := nearTo_len f near k
    rw [nearTo]
    split
    · rw [List.length_append]; simp only [List.length_cons, List.length_nil]; omega
    · omega

theorem Try.info2 : (Try.prog.info? 2).map (fun i => (i.zero, i.size, i.bytes)) = some (some (.int .i64 0), 1, 8) := by kernel_rfl

theorem own_below {w w' : World} {base : Nat} {e : TypeId} {size n : Nat} {v : Value} {xs : List Value} (h : w.ownsRow base e size v n xs) (hb : Below w.heap.size w w') : w'.ownsRow base e size v n xs :=
  h.kept (row := none) ⟨hb.os, hb.tape, hb.output, hb.size, fun k hk _ => hb.block k hk⟩ (by cases hv : v.ownBlock <;> simp)

/-- What nearPlane hands back: new memory that holds the list. -/
def NearRes (w : World) (L : List Int) (e : Ending) (w' : World) : Prop :=
  ∃ v, e = .returned v ∧ w'.ownsRow w.heap.size 2 1 v L.length (L.map (Value.int .i64)) ∧ Below w.heap.size w w'

theorem own_mono {w : World} {base base' : Nat} {e : TypeId} {size n : Nat} {v : Value} {xs : List Value} (h : w.ownsRow base e size v n xs) (hb : base' ≤ base) : w.ownsRow base' e size v n xs := by
  obtain ⟨h1, h2⟩ := h
  refine ⟨h1, ?_⟩
  rcases h2 with h2 | ⟨g, cap, cur, hv, hg, rest⟩
  · exact .inl h2
  · exact .inr ⟨g, cap, cur, hv, Nat.le_trans hb hg, rest⟩

set_option maxHeartbeats 2000000 in
theorem near_any (b n c : Nat) (X Y Z : Nat → Nat) (A B C near : Nat) (w : World) (hn : n ≤ 256) (hb : b < w.heap.size) (hp : Pts w b n X Y Z) (ho : ∀ k, k < n → OffOk (X k) (Y k) (Z k) A B C) :
    Calls Try.prog 24 #[.slice (some ⟨b, 0, none⟩) n c, .agg #[.float .f32 A, .float .f32 B, .float .f32 C], .float .f32 near] w (NearRes w (nearTo (fun k => offW (X k) (Y k) (Z k) A B C) near n)) := by
  have hp0 : Pts (w.alloc (.cells #[.float .f32 A, .float .f32 B, .float .f32 C] 29)) b n X Y Z := hp.below ((Below.refl _ _).alloc (Nat.le_refl w.heap.size) _) hb
  have HP := Lib.hid hp0
  have HO := Lib.hid ho
  clear hp0 hp ho
  obtain ⟨i0, hi, hz0, hz1, hz2⟩ := info_parts Try.info2
  have d0 : (w.alloc (.cells #[.float .f32 A, .float .f32 B, .float .f32 C] 29)).cell? ⟨w.heap.size, 0, none⟩ = some (.float .f32 A) := by go_simp
  have d1 : (w.alloc (.cells #[.float .f32 A, .float .f32 B, .float .f32 C] 29)).cell? ⟨w.heap.size, 1, none⟩ = some (.float .f32 B) := by go_simp
  have d2 : (w.alloc (.cells #[.float .f32 A, .float .f32 B, .float .f32 C] 29)).cell? ⟨w.heap.size, 2, none⟩ = some (.float .f32 C) := by go_simp
  have D0 := Lib.hid d0
  have D1 := Lib.hid d1
  have D2 := Lib.hid d2
  have HI := Lib.hid hi
  have HZ0 := Lib.hid hz0
  have HZ1 := Lib.hid hz1
  have HZ2 := Lib.hid hz2
  clear d0 d1 d2 hi hz0 hz1 hz2
  generalize hf : (fun k => offW (X k) (Y k) (Z k) A B C) = f
  have HFF : Hid (∀ k, offW (X k) (Y k) (Z k) A B C = f k) := fun k => by rw [← hf]
  clear hf
  go_enter Try.func24, Try.ntmps24
  go_wp2
  go_loopw [7, 8, 9, 13] (fun s _ _ i wr => ∃ k : Nat, k ≤ n ∧ i = .int .i64 k ∧ wr.ownsRow (w.heap.size + 1) 2 1 s (nearTo f near k).length ((nearTo f near k).map (Value.int .i64)) ∧ Below (w.heap.size + 1) (w.alloc (.cells #[.float .f32 A, .float .f32 B, .float .f32 C] 29)) wr) (fun _ _ _ i _ => n - (intOf i).toNat)
  case atStart =>
    refine ⟨0, Nat.zero_le _, rfl, ?_, ?_⟩
    · have := World.ownsRow_made (base := w.heap.size + 1) (e := 2) (size := 1) (w.alloc (.cells #[.float .f32 A, .float .f32 B, .float .f32 C] 29)) #[] 0 (by simp) (by simp [maxLen]) (by simp)
      simpa [nearTo] using this
    · exact (Below.refl _ _).alloc (by simp) _
  case round =>
    obtain ⟨k, hk, rfl, hown, hbel⟩ := hrel
    have HB := Lib.hid hbel
    have HOWN := Lib.hid hown
    clear hown
    by_cases hlt : k < n
    · obtain ⟨p0, p1, p2⟩ := (HP.out.below hbel (by omega)) k hlt
      have q0 := (hbel.cell (p := ⟨w.heap.size, 0, none⟩) (by simp)).trans D0.out
      have q1 := (hbel.cell (p := ⟨w.heap.size, 1, none⟩) (by simp)).trans D1.out
      have q2 := (hbel.cell (p := ⟨w.heap.size, 2, none⟩) (by simp)).trans D2.out
      have o1 := HO.out k hlt
      have O1 := Lib.hid o1
      clear o1
      have hz := hbel.size
      simp only [World.size_alloc] at hz
      have hz' : w.heap.size < wr.heap.size := by omega
      clear hbel
      go_wp2_with (first | ((with_reducible refine (off_any _ _ _ _ _ _ _ O1.out).mono ?_); rintro e w1 ⟨rfl, hb1⟩; have HO1 := Lib.hid (own_below (HOWN.out.alloc _) hb1)) | (at_builtin; refine wpList_append_own _ rfl _ _ 40 rfl (w.heap.size + 1) 2 i0 (.int .i64 0) 1 8 Try.underlying40 HI.out HZ0.out HZ1.out HZ2.out rfl (by decide) _ _ _ rfl (HO1.out.alloc _) ⟨w1.heap.size, 0, none⟩ 1 1 [.int .i64 (k : Int)] rfl rfl ?c1 ?c2 ?c3 ?c4 ?c5 ?_))
      case c1 => exact cell_one_new _ _ _
      case c2 => intro u hu; simp only [List.mem_singleton] at hu; subst hu; rfl
      case c3 => have := nearTo_len f near k; simp only [maxLen]; omega
      case c4 => have := nearTo_len f near k; omega
      case c5 => have := hb1.size; simp only [World.size_alloc] at this ⊢; omega
      · intro v' w2 hown2 hg2 _
        have hor : (FloatKind.f32.format.order (offW (X k) (Y k) (Z k) A B C) near == some .lt || FloatKind.f32.format.order (offW (X k) (Y k) (Z k) A B C) near == some .eq) = true := by rw [Bool.or_eq_true]; assumption
        have hL : nearTo f near (k + 1) = nearTo f near k ++ [(k : Int)] := by rw [nearTo, ← HFF.out k, if_pos hor]
        have HF2 : Hid (w2.ownsRow (w.heap.size + 1) 2 1 v' (nearTo f near (k + 1)).length ((nearTo f near (k + 1)).map (Value.int .i64))) := by
          show w2.ownsRow _ _ _ _ _ _
          rw [hL, List.length_append, List.map_append]; exact hown2
        have hz1 := hb1.size
        simp only [World.size_alloc] at hz1
        have HB2 : Hid (Below (w.heap.size + 1) (w.alloc (.cells #[.float .f32 A, .float .f32 B, .float .f32 C] 29)) w2) :=
          ((((HB.out.alloc (by omega) _).trans (hb1.mono (by simp; omega))).alloc (by omega) _).grown hg2 (by simp; omega) (fun g hg => (HOWN.out.lt g hg).1))
        clear hown2 hg2 hor hL hb1
        go_wp2
        go_roundw
        case rel => exact ⟨k + 1, by omega, by go_num, HF2.out, HB2.out⟩
        case measure => simp [intOf]; omega
      · have hor : ¬ (FloatKind.f32.format.order (offW (X k) (Y k) (Z k) A B C) near == some .lt || FloatKind.f32.format.order (offW (X k) (Y k) (Z k) A B C) near == some .eq) = true := by rw [Bool.not_eq_true, Bool.or_eq_false_iff]; assumption
        have hL : nearTo f near (k + 1) = nearTo f near k := by rw [nearTo, ← HFF.out k, if_neg hor]
        go_roundw
        case rel => exact ⟨k + 1, by omega, by go_num, by rw [hL]; exact own_below (HOWN.out.alloc _) hb1, (HB.out.alloc (by omega) _).trans (hb1.mono (by simp; omega))⟩
        case measure => simp [intOf]; omega
    · obtain rfl : k = n := by omega
      go_wp2
      go_ret
      exact ⟨_, rfl, own_mono HOWN.out (by omega), ((Below.refl _ _).alloc (Nat.le_refl w.heap.size) _).trans (HB.out.mono (by omega))⟩
end Go.Proofs.Ytjegonmedaiccaa
