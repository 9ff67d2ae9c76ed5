/- Walks: NearPlane, r8List, BestPlane. -/
import Derived.Test.YtjegonmedaiccaaFitw
import Derived.Deep.RegionWith
import Derived.Deep.AppendLies
import Derived.Deep.RegionHeld3
namespace Go.Proofs.Ytjegonmedaiccaa
open Go.RowKit Flt
attribute [local go_sem] run_fop run_cvt run_store_float

/-- What NearPlane hands back. -/
def NearRes2 (w : World) (L : List Int) (e : Ending) (w' : World) : Prop :=
  ∃ v, e = .returned (.tuple #[v, .bool true]) ∧ w'.ownsRow w.heap.size 2 1 v L.length (L.map (Value.int .i64)) ∧ Below w.heap.size w w'

set_option maxHeartbeats 1000000 in
theorem nearPlane_any (b n c : Nat) (X Y Z : Nat → Nat) (A B C near : Nat) (w : World) (hn : n ≤ 256) (hb : b < w.heap.size) (hp : Pts w b n X Y Z) (ho : ∀ k, k < n → OffOk (X k) (Y k) (Z k) A B C) :
    Calls Try.prog 13 #[.slice (some ⟨b, 0, none⟩) n c, .agg #[.float .f32 A, .float .f32 B, .float .f32 C], .float .f32 near] w (NearRes2 w (nearTo (fun k => offW (X k) (Y k) (Z k) A B C) near n)) := by
  have hw : Below w.heap.size w (w.alloc (.cells #[.float .f32 A, .float .f32 B, .float .f32 C] 29)) := (Below.refl _ _).alloc (Nat.le_refl w.heap.size) _
  have HP := Lib.hid (hp.below hw hb)
  have HW := Lib.hid hw
  have HO := Lib.hid ho
  clear hp hw ho
  go_enter Try.func13, Try.ntmps13
  go_wp2_with (go_at_call 24; (with_reducible refine (near_any _ _ _ X Y Z _ _ _ _ _ hn (by simp; omega) HP.out HO.out).mono ?_); rintro e w1 ⟨v, rfl, hown, hb1⟩; have HB1 := Lib.hid hb1; have HOWN := Lib.hid hown; clear hb1 hown)
  go_ret2
  exact ⟨_, rfl, own_mono HOWN.out (by simp), HW.out.trans (HB1.out.mono (by simp))⟩

/-- A slice of integers that lies at the head of a block. -/
def Ints (w : World) (A : Option Addr) (n : Nat) (L : Nat → Int) : Prop :=
  ∀ k, k < n → ∃ g, A = some ⟨g, 0, none⟩ ∧ g < w.heap.size ∧ w.cell? ⟨g, k, none⟩ = some (.int .i64 (L k))

theorem Ints.below {w w' : World} {A : Option Addr} {n : Nat} {L : Nat → Int} (h : Ints w A n L) (hb : Below w.heap.size w w') : Ints w' A n L := fun k hk => by
  obtain ⟨g, h1, h2, h3⟩ := h k hk
  exact ⟨g, h1, Nat.lt_of_lt_of_le h2 hb.size, (hb.cell (p := ⟨g, _, none⟩) h2).trans h3⟩

/-- An owned row of integers is a slice value whose cells are known. -/
theorem ints_of_own {w : World} {base : Nat} {v : Value} {L : List Int} (h : w.ownsRow base 2 1 v L.length (L.map (Value.int .i64))) : ∃ A c, v = .slice A L.length c ∧ Ints w A L.length (fun k => L.getD k 0) := by
  have h0 := h
  rcases h.2 with ⟨rfl, hn⟩ | ⟨g, cap, cur, rfl, hb, hg, rest⟩
  · refine ⟨none, 0, by rw [hn], fun k hk => by omega⟩
  · refine ⟨_, _, rfl, fun k hk => ⟨g, rfl, (Array.getElem?_eq_some_iff.1 hg).1, ?_⟩⟩
    have := h0.cells (g := g) rfl k (.int .i64 (L.getD k 0)) (by rw [List.getElem?_map, List.getElem?_eq_getElem hk]; simp [List.getD_eq_getElem?_getD, List.getElem?_eq_getElem hk])
    rcases Nat.eq_zero_or_pos k with h0 | h0
    · subst h0; simpa [Addr.add] using this
    · have hne : ¬ k = 0 := by omega
      simpa [Addr.add, hne] using this

set_option maxHeartbeats 1000000 in
theorem list_same (A A' : Option Addr) (n c c' : Nat) (L : Nat → Int) (w : World) (hn : n ≤ 256) (h1 : Ints w A n L) (h2 : Ints w A' n L) :
    Calls Try.prog 14 #[.slice A n c, .slice A' n c'] w fun e w' => e = .returned (.bool true) ∧ Below w.heap.size w w' := by
  have H1 := Lib.hid h1
  have H2 := Lib.hid h2
  clear h1 h2
  go_enter Try.func14, Try.ntmps14
  go_wp2
  go_loopw [5] (fun i wr => ∃ k : Nat, k ≤ n ∧ i = .int .i64 k ∧ Below w.heap.size w wr) (fun i _ => n - (intOf i).toNat)
  case atStart => exact ⟨0, Nat.zero_le _, rfl, Below.refl _ _⟩
  case round =>
    obtain ⟨k, hk, rfl, hbel⟩ := hrel
    have HB := Lib.hid hbel
    clear hbel
    by_cases hlt : k < n
    · obtain ⟨g, rfl, _, hc⟩ := (H1.out.below HB.out) k hlt
      obtain ⟨g', rfl, _, hc'⟩ := (H2.out.below HB.out) k hlt
      go_wp2_with fail
      go_quiet (fail)
      go_wp2
      go_roundw
      case rel => exact ⟨k + 1, by omega, by go_num, below_drewN HB.out nq⟩
      case measure => simp [intOf]; omega
    · obtain rfl : k = n := by omega
      go_wp2
      go_ret
      exact ⟨rfl, HB.out⟩

/-- Three words in three cells. -/
def P3 (X Y Z : Nat → Nat) (i : Nat) : List Value := [.float .f32 (X i), .float .f32 (Y i), .float .f32 (Z i)]
theorem Try.info26 : (Try.prog.info? 26).map (fun i => (i.zero, i.size, i.bytes)) = some (some (.agg #[.float .f32 0, .float .f32 0, .float .f32 0]), 3, 12) := by kernel_rfl

/-- The points as vectors. -/
def pt (X Y Z : Nat → Nat) (i : Nat) : V3 := ⟨X i, Y i, Z i⟩

/-- What BestPlane asks of the points. -/
structure BestOk (X Y Z : Nat → Nat) (n : Nat) : Prop where
  pl : ∀ i j k, i < n → j < n → k < n → PlOk (pt X Y Z i) (pt X Y Z j) (pt X Y Z k)
  pl2 : ∀ i j k, i < n → j < n → k < n → (FloatKind.f64.format.order (plE (pt X Y Z i) (pt X Y Z j) (pt X Y Z k)) 0 == some .eq) = false → PlOk2 (pt X Y Z i) (pt X Y Z j) (pt X Y Z k)
  off : ∀ i j k, i < n → j < n → k < n → (FloatKind.f64.format.order (plE (pt X Y Z i) (pt X Y Z j) (pt X Y Z k)) 0 == some .eq) = false → ∀ m, m < n →
    OffOk (X m) (Y m) (Z m) (plA (pt X Y Z i) (pt X Y Z j) (pt X Y Z k)) (plB (pt X Y Z i) (pt X Y Z j) (pt X Y Z k)) (plC (pt X Y Z i) (pt X Y Z j) (pt X Y Z k))

/-- The points near to the plane through three of them. -/
def nearOf (X Y Z : Nat → Nat) (n near : Nat) (a b c : V3) : List Int := nearTo (fun m => offW (X m) (Y m) (Z m) (plA a b c) (plB a b c) (plC a b c)) near n

/-- What the loop of BestPlane keeps: the best plane's words and the list of the points near to it. -/
def Kept (X Y Z : Nat → Nat) (n near N : Nat) (A : Option Addr) (m c : Nat) (wr : World) : Prop :=
  ∃ i j k, i < n ∧ j < n ∧ k < n ∧ (FloatKind.f64.format.order (plE (pt X Y Z i) (pt X Y Z j) (pt X Y Z k)) 0 == some .eq) = false ∧
    m = (nearOf X Y Z n near (pt X Y Z i) (pt X Y Z j) (pt X Y Z k)).length ∧
    wr.ownsRow (N + 1 + 1) 2 1 (.slice A m c) m ((nearOf X Y Z n near (pt X Y Z i) (pt X Y Z j) (pt X Y Z k)).map (Value.int .i64)) ∧
    wr.cell? ⟨N + 1 + 1, 0, none⟩ = some (.float .f32 (plA (pt X Y Z i) (pt X Y Z j) (pt X Y Z k))) ∧ wr.cell? ⟨N + 1 + 1, 1, none⟩ = some (.float .f32 (plB (pt X Y Z i) (pt X Y Z j) (pt X Y Z k))) ∧ wr.cell? ⟨N + 1 + 1, 2, none⟩ = some (.float .f32 (plC (pt X Y Z i) (pt X Y Z j) (pt X Y Z k)))

theorem Kept.below {X Y Z : Nat → Nat} {n near N : Nat} {A : Option Addr} {m c : Nat} {w1 w2 : World} (h : Kept X Y Z n near N A m c w1) (hb : Below w1.heap.size w1 w2) (hN : N + 3 ≤ w1.heap.size) : Kept X Y Z n near N A m c w2 := by
  obtain ⟨i, j, k, h1, h2, h3, h4, h5, h6, h7, h8, h9⟩ := h
  exact ⟨i, j, k, h1, h2, h3, h4, h5, own_below h6 hb, (hb.cell (p := ⟨N + 1 + 1, 0, none⟩) (by simp; omega)).trans h7, (hb.cell (p := ⟨N + 1 + 1, 1, none⟩) (by simp; omega)).trans h8, (hb.cell (p := ⟨N + 1 + 1, 2, none⟩) (by simp; omega)).trans h9⟩

/-- What stands at the head of each round of BestPlane. -/
structure BInv (X Y Z : Nat → Nat) (n near : Nat) (w wo : World) (f : Bool) (A : Option Addr) (m c : Nat) : Prop where
  kept : f = true → Kept X Y Z n near w.heap.size A m c wo
  n0 : New3 w.heap.size wo
  n2 : New3 (w.heap.size + 1 + 1) wo
  bel : Below w.heap.size w wo
  sz : w.heap.size + 3 ≤ wo.heap.size
theorem BInv.below {X Y Z : Nat → Nat} {n near : Nat} {w wo W : World} {f : Bool} {A : Option Addr} {m c : Nat} (h : BInv X Y Z n near w wo f A m c) (hb : Below wo.heap.size wo W) : BInv X Y Z n near w W f A m c :=
  ⟨fun hf => (h.kept hf).below hb h.sz, h.n0.below hb (by have := h.sz; omega), h.n2.below hb (by have := h.sz; omega), h.bel.trans (hb.mono (by have := h.sz; omega)), Nat.le_trans h.sz hb.size⟩

theorem New3.setCell {N : Nat} {W : World} (h : New3 N W) (p : Addr) (v : Value) : New3 N (W.setCell p v) := by
  have key : ∀ (o : Nat), (∃ x, W.cell? ⟨N, o, none⟩ = some x) → ∃ x, (W.setCell p v).cell? ⟨N, o, none⟩ = some x := by
    intro o ⟨x, hx⟩
    by_cases e : (⟨N, o, none⟩ : Addr) = p
    · subst e; exact ⟨v, World.cell?_setCell_same' W _ _ (by rw [hx]; rfl)⟩
    · exact ⟨x, (World.cell?_setCell_other W p ⟨N, o, none⟩ v (fun h => e h.symm)).trans hx⟩
  have fz : ∀ (o : Nat), W.frozen? ⟨N, o, none⟩ = false → (W.setCell p v).frozen? ⟨N, o, none⟩ = false := fun o ho => by
    rw [World.frozen?_setCell]; exact ho
  exact ⟨key 0 h.r0, key 1 h.r1, key 2 h.r2, fz 0 h.f0, fz 1 h.f1, fz 2 h.f2⟩

/-- BestPlane's best plane is put down. -/
theorem BInv.store {X Y Z : Nat → Nat} {n near : Nat} {w w3 : World} {f : Bool} {A : Option Addr} {m c : Nat} (h : BInv X Y Z n near w w3 f A m c) {i j l B3 : Nat} {A3 : Option Addr} {c3 : Nat}
    (hi : i < n) (hj : j < n) (hl : l < n) (hE : (FloatKind.f64.format.order (plE (pt X Y Z i) (pt X Y Z j) (pt X Y Z l)) 0 == some .eq) = false)
    (hown : w3.ownsRow B3 2 1 (.slice A3 (nearOf X Y Z n near (pt X Y Z i) (pt X Y Z j) (pt X Y Z l)).length c3) (nearOf X Y Z n near (pt X Y Z i) (pt X Y Z j) (pt X Y Z l)).length ((nearOf X Y Z n near (pt X Y Z i) (pt X Y Z j) (pt X Y Z l)).map (Value.int .i64))) (hB : w.heap.size + 3 ≤ B3) :
    BInv X Y Z n near w (((w3.setCell ⟨w.heap.size + 1 + 1, 0, none⟩ (.float .f32 (plA (pt X Y Z i) (pt X Y Z j) (pt X Y Z l)))).setCell ⟨w.heap.size + 1 + 1, 1, none⟩ (.float .f32 (plB (pt X Y Z i) (pt X Y Z j) (pt X Y Z l)))).setCell ⟨w.heap.size + 1 + 1, 2, none⟩ (.float .f32 (plC (pt X Y Z i) (pt X Y Z j) (pt X Y Z l))))
      true A3 (nearOf X Y Z n near (pt X Y Z i) (pt X Y Z j) (pt X Y Z l)).length c3 := by
  obtain ⟨⟨v0, r0⟩, ⟨v1, r1⟩, ⟨v2, r2⟩, f0, f1, f2⟩ := h.n2
  refine ⟨fun _ => ⟨i, j, l, hi, hj, hl, hE, rfl, ?_, ?_, ?_, ?_⟩, ((h.n0.setCell _ _).setCell _ _).setCell _ _, ((h.n2.setCell _ _).setCell _ _).setCell _ _, ((h.bel.setCell (by simp; omega) _).setCell (by simp; omega) _).setCell (by simp; omega) _, by have := h.sz; simpa using this⟩
  · exact own_mono (ownsRow_setCell_below (ownsRow_setCell_below (ownsRow_setCell_below hown (by simp; omega) _) (by simp; omega) _) (by simp; omega) _) (by omega)
  · go_simp
  · go_simp
  · go_simp

/-- What BestPlane hands back. -/
def BestRes (X Y Z : Nat → Nat) (n near : Nat) (w : World) (e : Ending) (w' : World) : Prop :=
  Below w.heap.size w w' ∧
  (e = .returned (.tuple #[.agg #[.float .f32 0, .float .f32 0, .float .f32 0], .slice none 0 0, .bool false]) ∨
   ∃ i j k v, i < n ∧ j < n ∧ k < n ∧ (FloatKind.f64.format.order (plE (pt X Y Z i) (pt X Y Z j) (pt X Y Z k)) 0 == some .eq) = false ∧
     e = .returned (.tuple #[.agg #[.float .f32 (plA (pt X Y Z i) (pt X Y Z j) (pt X Y Z k)), .float .f32 (plB (pt X Y Z i) (pt X Y Z j) (pt X Y Z k)), .float .f32 (plC (pt X Y Z i) (pt X Y Z j) (pt X Y Z k))], v, .bool true]) ∧
     w'.ownsRow w.heap.size 2 1 v (nearOf X Y Z n near (pt X Y Z i) (pt X Y Z j) (pt X Y Z k)).length ((nearOf X Y Z n near (pt X Y Z i) (pt X Y Z j) (pt X Y Z k)).map (Value.int .i64)))

theorem below_realloc {N : Nat} {a w : World} {o : Obj} (h : Below N a (w.alloc o)) (hN : N ≤ w.heap.size) (o' : Obj) : Below N a (w.alloc o') :=
  ⟨h.os, h.tape, h.output, by have := h.size; simpa using this, fun k hk => by
    have h1 := h.block k hk
    rw [Below.heap_alloc _ _ _ (Nat.lt_of_lt_of_le hk hN)] at h1
    rw [Below.heap_alloc _ _ _ (Nat.lt_of_lt_of_le hk hN)]
    exact h1⟩

theorem cell_three_new (w : World) (x y z : Value) (T : TypeId) : ∀ (j : Nat) (u : Value), [x, y, z][j]? = some u → (w.alloc (.cells #[x, y, z] T)).cell? ((⟨w.heap.size, 0, none⟩ : Addr).add j) = some u := by
  intro j u hu
  rcases j with _ | _ | _ | j
  · simp only [List.getElem?_cons_zero, Option.some.injEq] at hu
    subst hu
    have : (⟨w.heap.size, 0, none⟩ : Addr).add 0 = ⟨w.heap.size, 0, none⟩ := rfl
    rw [this]; go_simp
  · simp only [List.getElem?_cons_succ, List.getElem?_cons_zero, Option.some.injEq] at hu
    subst hu
    have : (⟨w.heap.size, 0, none⟩ : Addr).add (0 + 1) = ⟨w.heap.size, 1, none⟩ := rfl
    rw [this]; go_simp
  · simp only [List.getElem?_cons_succ, List.getElem?_cons_zero, Option.some.injEq] at hu
    subst hu
    have : (⟨w.heap.size, 0, none⟩ : Addr).add (0 + 1 + 1) = ⟨w.heap.size, 2, none⟩ := rfl
    rw [this]; go_simp
  · simp at hu

set_option maxRecDepth 100000 in
set_option maxHeartbeats 4000000 in
theorem best_any (b n c : Nat) (X Y Z : Nat → Nat) (near : Nat) (s r : Int) (w : World) (hn3 : 3 ≤ n) (hn : n ≤ 256) (hb : b < w.heap.size) (hs0 : 0 ≤ s) (hs1 : s ≤ 2147483647) (hr0 : 1 ≤ r) (hr1 : r ≤ 50) (hp : Pts w b n X Y Z) (hB : BestOk X Y Z n) :
    Calls Try.prog 12 #[.slice (some ⟨b, 0, none⟩) n c, .float .f32 near, .int .i64 s, .int .i64 r] w (BestRes X Y Z n near w) := by
  have HP := Lib.hid hp
  have HBO := Lib.hid hB
  clear hp hB
  obtain ⟨i0, hi, hz0, hz1, hz2⟩ := info_parts Try.info26
  have HI := Lib.hid hi
  have HZ0 := Lib.hid hz0
  have HZ1 := Lib.hid hz1
  have HZ2 := Lib.hid hz2
  clear hi hz0 hz1 hz2
  go_enter Try.func12, Try.ntmps12
  go_wp2_with (go_at_call 19; (with_reducible refine (in_yes _ _ _ _ (by omega) (by omega)).mono ?_); rintro e w' ⟨rfl, rfl⟩)
  go_loopw [2, 13, 14, 15, 16, 17, 18, 38, 41] (fun sd ls fd _ _ _ _ ix _ wr => ∃ (k : Nat) (s : Int) (f : Bool) (A : Option Addr) (m c : Nat), (k : Int) ≤ r ∧ ix = .int .i64 k ∧ sd = .int .i64 s ∧ 0 ≤ s ∧ s ≤ 2147483647 ∧ fd = .bool f ∧ ls = .slice A m c ∧
      BInv X Y Z n near w wr f A m c) (fun _ _ _ _ _ _ _ ix _ _ => r.toNat - (intOf ix).toNat)
  case atStart =>
    refine ⟨0, s, false, _, _, _, by omega, rfl, rfl, hs0, hs1, rfl, rfl, ⟨(fun h => by cases h), ?_, ?_, ?_, by simp⟩⟩
    · exact (New3.of w _ _ _ 29).below ((Below.refl (w.heap.size + 1) _).alloc (by simp) _ |>.alloc (by simp) _) (by omega)
    · have := New3.of ((w.alloc (.cells #[.float .f32 0, .float .f32 0, .float .f32 0] 29)).alloc (.cells #[] 2)) (.float .f32 0) (.float .f32 0) (.float .f32 0) 29
      simpa using this
    · exact (((Below.refl _ _).alloc (Nat.le_refl w.heap.size) _).alloc (by simp) _).alloc (by simp; omega) _
  case round =>
    obtain ⟨k, s, f, A, m, cc, hk, rfl, rfl, hs0, hs1, rfl, rfl, hinv⟩ := hrel
    obtain ⟨wo, rfl⟩ : ∃ wo : World, wo = wr := ⟨_, rfl⟩
    have HI2 := Lib.hid hinv
    have HB := Lib.hid hinv.bel
    have hsz := hinv.sz
    clear hinv
    by_cases hlt : (k : Int) < r
    · go_wp2
      go_loopw [2, 15, 41] (fun sd th ix wi => ∃ (kk : Nat) (is : List Nat) (s : Int), kk ≤ 3 ∧ ix = .int .i64 kk ∧ is.length = kk ∧ (∀ x ∈ is, x < n) ∧ sd = .int .i64 s ∧ 0 ≤ s ∧ s ≤ 2147483647 ∧ wi.ownsRow wo.heap.size 26 3 th kk (is.flatMap (P3 X Y Z)) ∧ Below wo.heap.size wo wi) (fun _ _ ix _ => 3 - (intOf ix).toNat)
      case atStart =>
        refine ⟨0, [], s, by omega, rfl, rfl, (fun x hx => by cases hx), rfl, hs0, hs1, ?_, (Below.refl _ _).alloc (Nat.le_refl _) _⟩
        have := World.ownsRow_made (base := wo.heap.size) (e := 26) (size := 3) wo #[] 0 (by simp) (by simp [maxLen]) (by simp)
        simpa using this
      case round =>
        obtain ⟨kk, is, s, hkk, rfl, hil, hin, rfl, hs0, hs1, hown, hbi⟩ := hrel
        have HOWN := Lib.hid hown
        have HBI := Lib.hid hbi
        have HIN := Lib.hid hin
        have HIL := Lib.hid hil
        clear hown hbi hin hil
        by_cases hlt3 : kk < 3
        · obtain ⟨j, hj⟩ : ∃ j : Nat, (1103515245 * s + 12345) % 2147483648 / 65536 % (n : Int) = (j : Int) :=
            ⟨((1103515245 * s + 12345) % 2147483648 / 65536 % (n : Int)).toNat, (Int.toNat_of_nonneg (Int.emod_nonneg _ (by omega))).symm⟩
          have hjn : j < n := by
            have := Int.emod_lt_of_pos ((1103515245 * s + 12345) % 2147483648 / 65536) (show (0 : Int) < n by omega)
            omega
          obtain ⟨p0, p1, p2⟩ := (HP.out.below HB.out hb).below HBI.out (by omega) j hjn
          go_wp2_with (at_builtin; refine wpList_append_own _ rfl _ _ 33 rfl wo.heap.size 26 i0 (.agg #[.float .f32 0, .float .f32 0, .float .f32 0]) 3 12 Try.underlying33 HI.out HZ0.out HZ1.out HZ2.out rfl (by decide) _ _ _ rfl (HOWN.out.alloc _) ⟨wr.heap.size, 0, none⟩ 1 1 (P3 X Y Z j) rfl rfl ?c1 ?c2 ?c3 ?c4 ?c5 ?_)
          case c1 => exact cell_three_new _ _ _ _ _
          case c2 =>
            intro u hu
            simp only [P3, List.mem_cons, List.not_mem_nil, or_false] at hu
            rcases hu with rfl | rfl | rfl <;> rfl
          case c3 => simp only [maxLen]; omega
          case c4 => omega
          case c5 => have := HBI.out.size; simp only [World.size_alloc]; omega
          · intro v' w2 hown2 hg2 _
            have HO2 : Hid (w2.ownsRow wo.heap.size 26 3 v' (kk + 1) ((is ++ [j]).flatMap (P3 X Y Z))) := by
              show w2.ownsRow _ _ _ _ _ _
              rw [List.flatMap_append]
              simpa using hown2
            have hsz2 := HBI.out.size
            have HB2 : Hid (Below wo.heap.size wo w2) :=
              (HBI.out.alloc hsz2 _).grown hg2 (by simp; omega) (fun g hg => (HOWN.out.lt g hg).1)
            clear hown2 hg2
            go_wp2
            go_roundw
            case rel =>
              refine ⟨kk + 1, is ++ [j], _, by omega, by go_num, by simp [HIL.out], ?_, rfl, ?_, ?_, HO2.out, HB2.out⟩
              · intro x hx
                simp only [List.mem_append, List.mem_singleton] at hx
                rcases hx with hx | hx
                · exact HIN.out x hx
                · omega
              · omega
              · omega
            case measure => simp [intOf]; omega
        · obtain rfl : kk = 3 := by omega
          obtain ⟨i, j, l, rfl⟩ : ∃ i j l, is = [i, j, l] := by
            match is, HIL.out with
            | [i, j, l], _ => exact ⟨i, j, l, rfl⟩
          have hi := HIN.out i (by simp)
          have hj := HIN.out j (by simp)
          have hl := HIN.out l (by simp)
          obtain ⟨g, cap, rfl, hg1, hg2⟩ := HOWN.out.form (by omega)
          have hcells := HOWN.out.cells (g := g) rfl
          have q0 : wr.cell? ⟨g, 0, none⟩ = some (.float .f32 (X i)) := hcells 0 _ rfl
          have q1 : wr.cell? ⟨g, 1, none⟩ = some (.float .f32 (Y i)) := hcells 1 _ rfl
          have q2 : wr.cell? ⟨g, 2, none⟩ = some (.float .f32 (Z i)) := hcells 2 _ rfl
          have q3 : wr.cell? ⟨g, 3, none⟩ = some (.float .f32 (X j)) := hcells 3 _ rfl
          have q4 : wr.cell? ⟨g, 4, none⟩ = some (.float .f32 (Y j)) := hcells 4 _ rfl
          have q5 : wr.cell? ⟨g, 5, none⟩ = some (.float .f32 (Z j)) := hcells 5 _ rfl
          have q6 : wr.cell? ⟨g, 6, none⟩ = some (.float .f32 (X l)) := hcells 6 _ rfl
          have q7 : wr.cell? ⟨g, 7, none⟩ = some (.float .f32 (Y l)) := hcells 7 _ rfl
          have q8 : wr.cell? ⟨g, 8, none⟩ = some (.float .f32 (Z l)) := hcells 8 _ rfl
          clear hcells
          have HI3 := Lib.hid (HI2.out.below HBI.out)
          have hszr := HBI.out.size
          by_cases hE : (FloatKind.f64.format.order (plE (pt X Y Z i) (pt X Y Z j) (pt X Y Z l)) 0 == some .eq) = true
          · have HE := Lib.hid hE
            clear hE
            go_wp2_with fail
            have hq : ∀ w' : World, Below wr.heap.size wr w' → ∀ o, w'.cell? ⟨g, o, none⟩ = wr.cell? ⟨g, o, none⟩ := fun w' h o => (bcell h).1 _ _ hg2
            have t0 := fun (w' : World) (h : Below wr.heap.size wr w') => (hq w' h 0).trans q0
            have t1 := fun (w' : World) (h : Below wr.heap.size wr w') => (hq w' h 1).trans q1
            have t2 := fun (w' : World) (h : Below wr.heap.size wr w') => (hq w' h 2).trans q2
            have t3 := fun (w' : World) (h : Below wr.heap.size wr w') => (hq w' h 3).trans q3
            have t4 := fun (w' : World) (h : Below wr.heap.size wr w') => (hq w' h 4).trans q4
            have t5 := fun (w' : World) (h : Below wr.heap.size wr w') => (hq w' h 5).trans q5
            have t6 := fun (w' : World) (h : Below wr.heap.size wr w') => (hq w' h 6).trans q6
            have t7 := fun (w' : World) (h : Below wr.heap.size wr w') => (hq w' h 7).trans q7
            have t8 := fun (w' : World) (h : Below wr.heap.size wr w') => (hq w' h 8).trans q8
            clear q0 q1 q2 q3 q4 q5 q6 q7 q8 hq
            go_region_held3 (fun w' => Below wr.heap.size wr w') (first | exact (Below.refl _ _).drew | exact Below.trans (by assumption) (Below.mono hb2 (Below.size (by assumption))) | exact Below.alloc (by assumption) (Below.size (by assumption)) _ | assumption | exact below_realloc (by assumption) (by have := hb2.size; simp at this; omega) _ | exact Below.setCell (Below.setCell (Below.setCell (by assumption) (by simp) _) (by simp) _) (by simp) _) (first | (go_at_call 6; refine (plane_no (pt X Y Z i) (pt X Y Z j) (pt X Y Z l) _ (HBO.out.pl i j l hi hj hl) HE.out).mono ?_; rintro e w2 ⟨rfl, hb2⟩; obtain ⟨hc2, hf2⟩ := bcell hb2))
            all_goals
              clear t0 t1 t2 t3 t4 t5 t6 t7 t8 hc2 hf2 hb2
              go_wp2
              go_roundw
              case rel => exact ⟨k + 1, s, f, A, m, cc, by omega, by go_num, rfl, hs0, hs1, rfl, rfl, HI3.out.below (by assumption)⟩
              case measure => simp [intOf]; omega
          · have hE' := Bool.not_eq_true _ ▸ hE
            have HE := Lib.hid hE'
            clear hE hE'
            have HPr := Lib.hid ((HP.out.below HB.out hb).below HBI.out (by omega))
            have hbr : b < wr.heap.size := by omega
            go_wp2_with fail
            have hq : ∀ w' : World, Below wr.heap.size wr w' → ∀ o, w'.cell? ⟨g, o, none⟩ = wr.cell? ⟨g, o, none⟩ := fun w' h o => (bcell h).1 _ _ hg2
            have t0 := fun (w' : World) (h : Below wr.heap.size wr w') => (hq w' h 0).trans q0
            have t1 := fun (w' : World) (h : Below wr.heap.size wr w') => (hq w' h 1).trans q1
            have t2 := fun (w' : World) (h : Below wr.heap.size wr w') => (hq w' h 2).trans q2
            have t3 := fun (w' : World) (h : Below wr.heap.size wr w') => (hq w' h 3).trans q3
            have t4 := fun (w' : World) (h : Below wr.heap.size wr w') => (hq w' h 4).trans q4
            have t5 := fun (w' : World) (h : Below wr.heap.size wr w') => (hq w' h 5).trans q5
            have t6 := fun (w' : World) (h : Below wr.heap.size wr w') => (hq w' h 6).trans q6
            have t7 := fun (w' : World) (h : Below wr.heap.size wr w') => (hq w' h 7).trans q7
            have t8 := fun (w' : World) (h : Below wr.heap.size wr w') => (hq w' h 8).trans q8
            clear q0 q1 q2 q3 q4 q5 q6 q7 q8 hq
            go_region_held3 (fun w' => Below wr.heap.size wr w') (first | exact (Below.refl _ _).drew | exact Below.trans (by assumption) (Below.mono hb2 (Below.size (by assumption))) | exact Below.alloc (by assumption) (Below.size (by assumption)) _ | assumption | exact below_realloc (by assumption) (by have := hb2.size; simp at this; omega) _ | exact Below.setCell (Below.setCell (Below.setCell (by assumption) (by simp) _) (by simp) _) (by simp) _) (first | (go_at_call 6; refine (plane_yes (pt X Y Z i) (pt X Y Z j) (pt X Y Z l) _ (HBO.out.pl i j l hi hj hl) HE.out (HBO.out.pl2 i j l hi hj hl HE.out)).mono ?_; rintro e w2 ⟨rfl, hb2⟩; obtain ⟨hc2, hf2⟩ := bcell hb2))
            · clear t0 t1 t2 t3 t4 t5 t6 t7 t8
              have hzz := hb2.size
              simp at hzz
              cases f
              · go_wp2_with fail
                refine (near_any b n c X Y Z _ _ _ near _ hn ?_ ?_ ?_).mono ?_
                · exact Nat.lt_of_lt_of_le hbr (Below.size (by assumption))
                · exact HPr.out.below (by assumption) hbr
                · exact HBO.out.off i j l hi hj hl HE.out
                rintro e w3 ⟨v, rfl, hown3, hb3⟩
                have hb4 : Below wr.heap.size wr w3 := Below.trans (by assumption) (Below.mono hb3 (Below.size (by assumption)))
                have HI4 := Lib.hid (HI3.out.below hb4)
                obtain ⟨A3, c3, rfl, _⟩ := ints_of_own hown3
                have HOWN3 := Lib.hid (own_mono hown3 (Below.size (w := wr) (by assumption)))
                obtain ⟨hc3, hf3⟩ := bcell hb3
                obtain ⟨⟨v0, r0⟩, ⟨v1, r1⟩, ⟨v2, r2⟩, f0, f1, f2⟩ := HI4.out.n2
                clear hown3 hb3 hb4
                go_wp2
                go_roundw
                case rel => exact ⟨k + 1, s, true, _, _, _, by omega, by go_num, rfl, hs0, hs1, rfl, rfl, HI4.out.store hi hj hl HE.out HOWN3.out (by omega)⟩
                case measure => simp [intOf]; omega
              · go_wp2_with fail
                refine (near_any b n c X Y Z _ _ _ near _ hn ?_ ?_ ?_).mono ?_
                · exact Nat.lt_of_lt_of_le hbr (Below.size (by assumption))
                · exact HPr.out.below (by assumption) hbr
                · exact HBO.out.off i j l hi hj hl HE.out
                rintro e w3 ⟨v, rfl, hown3, hb3⟩
                have hb4 : Below wr.heap.size wr w3 := Below.trans (by assumption) (Below.mono hb3 (Below.size (by assumption)))
                have HI4 := Lib.hid (HI3.out.below hb4)
                obtain ⟨A3, c3, rfl, _⟩ := ints_of_own hown3
                have HOWN3 := Lib.hid (own_mono hown3 (Below.size (w := wr) (by assumption)))
                obtain ⟨hc3, hf3⟩ := bcell hb3
                obtain ⟨⟨v0, r0⟩, ⟨v1, r1⟩, ⟨v2, r2⟩, f0, f1, f2⟩ := HI4.out.n2
                clear hown3 hb3 hb4
                go_wp2
                · go_roundw
                  case rel => exact ⟨k + 1, s, true, _, _, _, by omega, by go_num, rfl, hs0, hs1, rfl, rfl, HI4.out.store hi hj hl HE.out HOWN3.out (by omega)⟩
                  case measure => simp [intOf]; omega
                · go_roundw
                  case rel => exact ⟨k + 1, s, true, A, m, cc, by omega, by go_num, rfl, hs0, hs1, rfl, rfl, HI4.out⟩
                  case measure => simp [intOf]; omega
            · clear t0 t1 t2 t3 t4 t5 t6 t7 t8
              have hzz := hb2.size
              simp at hzz
              cases f
              · go_wp2_with fail
                refine (near_any b n c X Y Z _ _ _ near _ hn ?_ ?_ ?_).mono ?_
                · exact Nat.lt_of_lt_of_le hbr (Below.size (by assumption))
                · exact HPr.out.below (by assumption) hbr
                · exact HBO.out.off i j l hi hj hl HE.out
                rintro e w3 ⟨v, rfl, hown3, hb3⟩
                have hb4 : Below wr.heap.size wr w3 := Below.trans (by assumption) (Below.mono hb3 (Below.size (by assumption)))
                have HI4 := Lib.hid (HI3.out.below hb4)
                obtain ⟨A3, c3, rfl, _⟩ := ints_of_own hown3
                have HOWN3 := Lib.hid (own_mono hown3 (Below.size (w := wr) (by assumption)))
                obtain ⟨hc3, hf3⟩ := bcell hb3
                obtain ⟨⟨v0, r0⟩, ⟨v1, r1⟩, ⟨v2, r2⟩, f0, f1, f2⟩ := HI4.out.n2
                clear hown3 hb3 hb4
                have q0 : w3.cell? ⟨wr.heap.size, 0, none⟩ = some (.float .f32 (plA (pt X Y Z i) (pt X Y Z j) (pt X Y Z l))) := (hc3 _ _ (by simp; omega)).trans (by go_simp)
                have q1 : w3.cell? ⟨wr.heap.size, 1, none⟩ = some (.float .f32 (plB (pt X Y Z i) (pt X Y Z j) (pt X Y Z l))) := (hc3 _ _ (by simp; omega)).trans (by go_simp)
                have q2 : w3.cell? ⟨wr.heap.size, 2, none⟩ = some (.float .f32 (plC (pt X Y Z i) (pt X Y Z j) (pt X Y Z l))) := (hc3 _ _ (by simp; omega)).trans (by go_simp)
                go_wp2
                go_roundw
                case rel => exact ⟨k + 1, s, true, _, _, _, by omega, by go_num, rfl, hs0, hs1, rfl, rfl, HI4.out.store hi hj hl HE.out HOWN3.out (by omega)⟩
                case measure => simp [intOf]; omega
              · go_wp2_with fail
                refine (near_any b n c X Y Z _ _ _ near _ hn ?_ ?_ ?_).mono ?_
                · exact Nat.lt_of_lt_of_le hbr (Below.size (by assumption))
                · exact HPr.out.below (by assumption) hbr
                · exact HBO.out.off i j l hi hj hl HE.out
                rintro e w3 ⟨v, rfl, hown3, hb3⟩
                have hb4 : Below wr.heap.size wr w3 := Below.trans (by assumption) (Below.mono hb3 (Below.size (by assumption)))
                have HI4 := Lib.hid (HI3.out.below hb4)
                obtain ⟨A3, c3, rfl, _⟩ := ints_of_own hown3
                have HOWN3 := Lib.hid (own_mono hown3 (Below.size (w := wr) (by assumption)))
                obtain ⟨hc3, hf3⟩ := bcell hb3
                obtain ⟨⟨v0, r0⟩, ⟨v1, r1⟩, ⟨v2, r2⟩, f0, f1, f2⟩ := HI4.out.n2
                clear hown3 hb3 hb4
                have q0 : w3.cell? ⟨wr.heap.size, 0, none⟩ = some (.float .f32 (plA (pt X Y Z i) (pt X Y Z j) (pt X Y Z l))) := (hc3 _ _ (by simp; omega)).trans (by go_simp)
                have q1 : w3.cell? ⟨wr.heap.size, 1, none⟩ = some (.float .f32 (plB (pt X Y Z i) (pt X Y Z j) (pt X Y Z l))) := (hc3 _ _ (by simp; omega)).trans (by go_simp)
                have q2 : w3.cell? ⟨wr.heap.size, 2, none⟩ = some (.float .f32 (plC (pt X Y Z i) (pt X Y Z j) (pt X Y Z l))) := (hc3 _ _ (by simp; omega)).trans (by go_simp)
                go_wp2
                · go_roundw
                  case rel => exact ⟨k + 1, s, true, _, _, _, by omega, by go_num, rfl, hs0, hs1, rfl, rfl, HI4.out.store hi hj hl HE.out HOWN3.out (by omega)⟩
                  case measure => simp [intOf]; omega
                · go_roundw
                  case rel => exact ⟨k + 1, s, true, A, m, cc, by omega, by go_num, rfl, hs0, hs1, rfl, rfl, HI4.out⟩
                  case measure => simp [intOf]; omega
    · have hge : ¬ (k : Int) < r := hlt
      obtain ⟨⟨v0, r0⟩, ⟨v1, r1⟩, ⟨v2, r2⟩, f0, f1, f2⟩ := HI2.out.n0
      cases f
      · go_wp2
        refine bodyPost_ret (v := .tuple #[.agg #[.float .f32 0, .float .f32 0, .float .f32 0], .slice none 0 0, .bool false]) (by simp [results, go_sem, r0, r1, r2]) rfl ⟨?_, .inl rfl⟩
        exact ((HI2.out.bel.setCell (by simp) _).setCell (by simp) _).setCell (by simp) _
      · obtain ⟨i, j, l, hi, hj, hl, hE, hm, hown, p0, p1, p2⟩ := HI2.out.kept rfl
        have HE := Lib.hid hE
        have HM := Lib.hid hm
        have HOWN := Lib.hid hown
        clear hE hm hown
        go_wp2
        refine bodyPost_ret (v := .tuple #[.agg #[.float .f32 (plA (pt X Y Z i) (pt X Y Z j) (pt X Y Z l)), .float .f32 (plB (pt X Y Z i) (pt X Y Z j) (pt X Y Z l)), .float .f32 (plC (pt X Y Z i) (pt X Y Z j) (pt X Y Z l))], .slice A m cc, .bool true]) (by simp [results, go_sem, r0, r1, r2]) rfl ⟨?_, .inr ⟨i, j, l, _, hi, hj, hl, HE.out, rfl, ?_⟩⟩
        · exact ((HI2.out.bel.setCell (by simp) _).setCell (by simp) _).setCell (by simp) _
        · have h1 := ownsRow_setCell_below (ownsRow_setCell_below (ownsRow_setCell_below HOWN.out (a := ⟨w.heap.size, 0, none⟩) (by simp; omega) (.float .f32 (plA (pt X Y Z i) (pt X Y Z j) (pt X Y Z l)))) (a := ⟨w.heap.size, 1, none⟩) (by simp; omega) (.float .f32 (plB (pt X Y Z i) (pt X Y Z j) (pt X Y Z l)))) (a := ⟨w.heap.size, 2, none⟩) (by simp; omega) (.float .f32 (plC (pt X Y Z i) (pt X Y Z j) (pt X Y Z l)))
          rw [HM.out] at h1 ⊢
          exact own_mono h1 (by omega)
end Go.Proofs.Ytjegonmedaiccaa
