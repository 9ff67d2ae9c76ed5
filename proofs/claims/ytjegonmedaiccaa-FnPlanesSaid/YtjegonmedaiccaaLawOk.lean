/- Walks: what the law asks of its inputs. -/
import Derived.Test.YtjegonmedaiccaaBest
import Derived.Deep.RegionWith
import Derived.Deep.AppendLies
import Derived.Deep.RegionHeld3
import Derived.Deep.DeepCutAuto
namespace Go.Proofs.Ytjegonmedaiccaa
open Go.RowKit Flt Ieee
attribute [local go_sem] run_fop run_cvt run_store_float

/-- The three numbers of R8Vector. -/
def vecOf (n : Nat) (C : Nat → Int) (p : Int) : V3 := ⟨pickW n C p 1065353216, pickW n C (p + 1) 1056964608, pickW n C (p + 2) 3196059648⟩
def VecOk (n : Nat) (C : Nat → Int) (p : Int) : Prop := PickOk n C p ∧ PickOk n C (p + 1) ∧ PickOk n C (p + 2)

theorem vec_any (A : Option Addr) (n c : Nat) (C : Nat → Int) (p : Int) (w : World) (hp : 0 ≤ p) (hp' : p ≤ 48) (hb : Bytes w A n C) (h : VecOk n C p) :
    Calls Try.prog 5 #[.slice A n c, .int .i64 p] w fun e w' => e = .returned (.agg #[.float .f32 (vecOf n C p).X, .float .f32 (vecOf n C p).Y, .float .f32 (vecOf n C p).Z]) ∧ Below w.heap.size w w' :=
  vector_any A n c C p w hp hp' hb h.1 h.2.1 h.2.2

def isZero (x : Nat) : Bool := FloatKind.f64.format.order x 0 == some .eq

/-- The three points as functions of the place. -/
def triX (a b c : V3) (k : Nat) : Nat := [a.X, b.X, c.X].getD k 0
def triY (a b c : V3) (k : Nat) : Nat := [a.Y, b.Y, c.Y].getD k 0
def triZ (a b c : V3) (k : Nat) : Nat := [a.Z, b.Z, c.Z].getD k 0
def triOff (a b c : V3) (k : Nat) : Nat := offW (triX a b c k) (triY a b c k) (triZ a b c k) (plA a b c) (plB a b c) (plC a b c)

/-- What the law's first part asks. -/
structure Part1 (a b c : V3) : Prop where
  pl : PlOk a b c
  pl2 : isZero (plE a b c) = false → PlOk2 a b c
  off : isZero (plE a b c) = false → ∀ k, k < 3 → OffOk (triX a b c k) (triY a b c k) (triZ a b c k) (plA a b c) (plB a b c) (plC a b c)
  okc : isZero (plE a b c) = false → okc .f32 (mostTo (triOff a b c) 3) .f64 = true
  le : isZero (plE a b c) = false → (FloatKind.f64.format.order (cvt .f32 (mostTo (triOff a b c) 3) .f64) 4576918229304087675 == some .gt) = false

/-- The slope's numbers. -/
def slW (n : Nat) (D : Nat → Int) (k d : Int) : Nat := fop .quo .f32 (floatOfInt .f32 (atI n D k 9 - d)) 1082130432
def gX (k : Nat) : Nat := floatOfInt .f32 ((k : Int) % 3)
def gY (k : Nat) : Nat := floatOfInt .f32 ((k : Int) / 3)
structure Slope where
  A : Nat
  B : Nat
  C : Nat
def Slope.z (s : Slope) (k : Nat) : Nat := heightW s.A s.B s.C (gX k) (gY k)
def Slope.fit (s : Slope) : Fit := fitOf gX gY s.z 9
def Slope.off (s : Slope) (k : Nat) : Nat := offW (gX k) (gY k) (s.z k) s.fit.A s.fit.B s.fit.C
def slopeOf (n : Nat) (D : Nat → Int) : Slope := ⟨slW n D 0 4, slW n D 1 4, fop .quo .f32 (floatOfInt .f32 (atI n D 2 9)) 1082130432⟩
def SmallGap (x y : Nat) : Prop := okc .f32 x .f64 = true ∧ okc .f32 y .f64 = true ∧ GapOk (cvt .f32 x .f64) (cvt .f32 y .f64) ∧ (FloatKind.f64.format.order (gapW (cvt .f32 x .f64) (cvt .f32 y .f64)) 4562254508917369340 == some .gt) = false
/-- What the law's second part asks. -/
structure Part2 (s : Slope) : Prop where
  h : ∀ k, k < 9 → HeightOk s.A s.B s.C (gX k) (gY k)
  fit : FitOk gX gY s.z 9
  off : ∀ k, k < 9 → OffOk (gX k) (gY k) (s.z k) s.fit.A s.fit.B s.fit.C
  okc : okc .f32 (mostTo s.off 9) .f64 = true
  le : (FloatKind.f64.format.order (cvt .f32 (mostTo s.off 9) .f64) 4562254508917369340 == some .gt) = false
  gapA : SmallGap s.fit.A s.A
  gapB : SmallGap s.fit.B s.B

/-- The heights, one of them raised by 5. -/
def raised (z : Nat → Nat) (j : Nat) (k : Nat) : Nat := if k = j then fop .add .f32 (z j) 1084227584 else z k
/-- What the law's third part asks. -/
structure Part3 (z : Nat → Nat) : Prop where
  best : BestOk gX gY z 9
  zero : ∀ k, k < 9 → OffOk (gX k) (gY k) (z k) 0 0 0
  some_ : ∀ i j l, i < 9 → j < 9 → l < 9 → isZero (plE (pt gX gY z i) (pt gX gY z j) (pt gX gY z l)) = false → nearOf gX gY z 9 1048576000 (pt gX gY z i) (pt gX gY z j) (pt gX gY z l) ≠ []
  range : ∀ i j l, i < 9 → j < 9 → l < 9 → isZero (plE (pt gX gY z i) (pt gX gY z j) (pt gX gY z l)) = false → ∀ x ∈ nearOf gX gY z 9 1048576000 (pt gX gY z i) (pt gX gY z j) (pt gX gY z l), ∃ m : Nat, x = (m : Int) ∧ m < 9 ∧
    HeightOk (plA (pt gX gY z i) (pt gX gY z j) (pt gX gY z l)) (plB (pt gX gY z i) (pt gX gY z j) (pt gX gY z l)) (plC (pt gX gY z i) (pt gX gY z j) (pt gX gY z l)) (gX m) (gY m) ∧
    okc .f32 (z m) .f64 = true ∧ okc .f32 (heightW (plA (pt gX gY z i) (pt gX gY z j) (pt gX gY z l)) (plB (pt gX gY z i) (pt gX gY z j) (pt gX gY z l)) (plC (pt gX gY z i) (pt gX gY z j) (pt gX gY z l)) (gX m) (gY m)) .f64 = true ∧
    GapOk (cvt .f32 (z m) .f64) (cvt .f32 (heightW (plA (pt gX gY z i) (pt gX gY z j) (pt gX gY z l)) (plB (pt gX gY z i) (pt gX gY z j) (pt gX gY z l)) (plC (pt gX gY z i) (pt gX gY z j) (pt gX gY z l)) (gX m) (gY m)) .f64) ∧
    (FloatKind.f64.format.order (gapW (cvt .f32 (z m) .f64) (cvt .f32 (heightW (plA (pt gX gY z i) (pt gX gY z j) (pt gX gY z l)) (plB (pt gX gY z i) (pt gX gY z j) (pt gX gY z l)) (plC (pt gX gY z i) (pt gX gY z j) (pt gX gY z l)) (gX m) (gY m)) .f64)) 4598177020985127364 == some .gt) = false

/-- All that the law asks of its two inputs. -/
structure LawOk (n : Nat) (C : Nat → Int) (n' : Nat) (D : Nat → Int) : Prop where
  v0 : VecOk n C 0
  v3 : VecOk n C 3
  v6 : VecOk n C 6
  p1 : Part1 (vecOf n C 0) (vecOf n C 3) (vecOf n C 6)
  s0 : okf .quo .f32 (floatOfInt .f32 (atI n' D 0 9 - 4)) 1082130432 = true
  s1 : okf .quo .f32 (floatOfInt .f32 (atI n' D 1 9 - 4)) 1082130432 = true
  s2 : okf .quo .f32 (floatOfInt .f32 (atI n' D 2 9)) 1082130432 = true
  p2 : Part2 (slopeOf n' D)
  add : okf .add .f32 ((slopeOf n' D).z (atI n' D 3 9).toNat) 1084227584 = true
  p3 : Part3 (raised (slopeOf n' D).z (atI n' D 3 9).toNat)

theorem atI_nonneg {n : Nat} {D : Nat → Int} {k m : Int} (hm : 0 < m) : 0 ≤ atI n D k m ∧ atI n D k m < m := by
  unfold atI
  split
  · exact ⟨Int.emod_nonneg _ (by omega), Int.emod_lt_of_pos _ hm⟩
  · omega

/-- A box of three words. -/
structure Box (W : World) (g x y z : Nat) : Prop where
  lt : g < W.heap.size
  c0 : W.cell? ⟨g, 0, none⟩ = some (.float .f32 x)
  c1 : W.cell? ⟨g, 1, none⟩ = some (.float .f32 y)
  c2 : W.cell? ⟨g, 2, none⟩ = some (.float .f32 z)
theorem Box.new (W : World) (x y z : Nat) (T : TypeId) : Box (W.alloc (.cells #[.float .f32 x, .float .f32 y, .float .f32 z] T)) W.heap.size x y z := by
  refine ⟨by simp, ?_, ?_, ?_⟩ <;> go_simp
theorem Box.below {W W' : World} {g x y z : Nat} (h : Box W g x y z) (hb : Below W.heap.size W W') : Box W' g x y z :=
  ⟨Nat.lt_of_lt_of_le h.lt hb.size, (hb.cell (p := ⟨g, 0, none⟩) h.lt).trans h.c0, (hb.cell (p := ⟨g, 1, none⟩) h.lt).trans h.c1, (hb.cell (p := ⟨g, 2, none⟩) h.lt).trans h.c2⟩
theorem Box.alloc {W : World} {g x y z : Nat} (h : Box W g x y z) (o : Obj) : Box (W.alloc o) g x y z := h.below ((Below.refl _ _).alloc (Nat.le_refl _) _)

/-- What PlaneThrough hands back, either way. -/
def plP (a b c : V3) : V3 := if isZero (plE a b c) then ⟨0, 0, 0⟩ else ⟨plA a b c, plB a b c, plC a b c⟩
theorem plane_both (a b c : V3) (w : World) (h : PlOk a b c) (g : isZero (plE a b c) = false → PlOk2 a b c) :
    Calls Try.prog 6 #[.agg #[.float .f32 a.X, .float .f32 a.Y, .float .f32 a.Z], .agg #[.float .f32 b.X, .float .f32 b.Y, .float .f32 b.Z], .agg #[.float .f32 c.X, .float .f32 c.Y, .float .f32 c.Z]] w
      fun e w' => e = .returned (.tuple #[.agg #[.float .f32 (plP a b c).X, .float .f32 (plP a b c).Y, .float .f32 (plP a b c).Z], .bool (!isZero (plE a b c))]) ∧ Below w.heap.size w w' := by
  by_cases hz : isZero (plE a b c) = true
  · have := plane_no a b c w h hz
    unfold plP
    rw [if_pos hz, hz]
    exact this
  · have hz' : isZero (plE a b c) = false := by simpa using hz
    have := plane_yes a b c w h hz' (g hz')
    unfold plP
    rw [if_neg hz, hz']
    exact this

theorem tri_pts (W : World) (a b c : V3) (T : TypeId) :
    Pts (W.alloc (.cells #[.float .f32 a.X, .float .f32 a.Y, .float .f32 a.Z, .float .f32 b.X, .float .f32 b.Y, .float .f32 b.Z, .float .f32 c.X, .float .f32 c.Y, .float .f32 c.Z] T)) W.heap.size 3 (triX a b c) (triY a b c) (triZ a b c) := by
  intro k hk
  rcases (by omega : k = 0 ∨ k = 1 ∨ k = 2) with rfl | rfl | rfl
  · refine ⟨?_, ?_, ?_⟩ <;> simp only [triX, triY, triZ, List.getD_cons_zero] <;> go_simp
  · refine ⟨?_, ?_, ?_⟩ <;> simp only [triX, triY, triZ, List.getD_cons_zero, List.getD_cons_succ] <;> go_simp
  · refine ⟨?_, ?_, ?_⟩ <;> simp only [triX, triY, triZ, List.getD_cons_zero, List.getD_cons_succ] <;> go_simp

theorem flat_len (X Y Z : Nat → Nat) (n : Nat) : ((List.range n).flatMap (P3 X Y Z)).length = n * 3 := by
  induction n with
  | zero => rfl
  | succ n ih => rw [List.range_succ, List.flatMap_append, List.length_append, ih]; simp [P3]; omega
theorem flat_get (X Y Z : Nat → Nat) (n : Nat) : ∀ k, k < n → ∀ j, j < 3 → ((List.range n).flatMap (P3 X Y Z))[k * 3 + j]? = (P3 X Y Z k)[j]? := by
  induction n with
  | zero => intro k hk; omega
  | succ n ih =>
    intro k hk j hj
    rw [List.range_succ, List.flatMap_append]
    by_cases h : k < n
    · rw [List.getElem?_append_left (by rw [flat_len]; omega)]
      exact ih k h j hj
    · have : k = n := by omega
      subst this
      rw [List.getElem?_append_right (by rw [flat_len]; omega), flat_len]
      have : k * 3 + j - k * 3 = j := by omega
      rw [this]
      simp

/-- The list's cells, and that they may be written. -/
theorem pts_of_own {w : World} {base n : Nat} {v : Value} {X Y Z : Nat → Nat} (h : w.ownsRow base 26 3 v n ((List.range n).flatMap (P3 X Y Z))) (hn : 0 < n) :
    ∃ g cap, v = .slice (some ⟨g, 0, none⟩) n cap ∧ base ≤ g ∧ g < w.heap.size ∧ Pts w g n X Y Z ∧ ∀ o, w.frozen? ⟨g, o, none⟩ = false := by
  have h0 := h
  rcases h.2 with ⟨_, h1⟩ | ⟨g, cap, cur, rfl, hb, hg, rest⟩
  · omega
  · have key : ∀ k, k < n → ∀ j, j < 3 → ∀ u, (P3 X Y Z k)[j]? = some u → w.cell? ⟨g, k * 3 + j, none⟩ = some u := by
      intro k hk j hj u hu
      have := h0.cells (g := g) rfl (k * 3 + j) u (by rw [flat_get X Y Z n k hk j hj]; exact hu)
      have e : (⟨g, 0, none⟩ : Addr).add (k * 3 + j) = ⟨g, k * 3 + j, none⟩ := by
        generalize k * 3 + j = o
        unfold Addr.add
        split
        · rename_i h; subst h; rfl
        · simp
      rw [e] at this
      exact this
    refine ⟨g, cap, rfl, hb, (Array.getElem?_eq_some_iff.1 hg).1, fun k hk => ⟨?_, ?_, ?_⟩, fun o => by simp [World.frozen?, hg]⟩
    · exact key k hk 0 (by omega) _ rfl
    · exact key k hk 1 (by omega) _ rfl
    · exact key k hk 2 (by omega) _ rfl

/-- One of the points is raised. -/
theorem Pts.raise {w : World} {g n : Nat} {X Y Z : Nat → Nat} (h : Pts w g n X Y Z) (j v : Nat) (hj : j < n) : Pts (w.setCell ⟨g, j * 3 + 2, none⟩ (.float .f32 v)) g n X Y (fun k => if k = j then v else Z k) := by
  have hs : (w.cell? ⟨g, j * 3 + 2, none⟩).isSome = true := by rw [(h j hj).2.2]; rfl
  have hne : ∀ o, o ≠ j * 3 + 2 → (w.setCell ⟨g, j * 3 + 2, none⟩ (.float .f32 v)).cell? ⟨g, o, none⟩ = w.cell? ⟨g, o, none⟩ := fun o ho =>
    World.cell?_setCell_other w _ _ _ (fun e => ho (by injection e with _ e2; exact e2.symm))
  intro k hk
  obtain ⟨h0, h1, h2⟩ := h k hk
  refine ⟨(hne _ (by omega)).trans h0, (hne _ (by omega)).trans h1, ?_⟩
  by_cases e : k = j
  · subst e
    show _ = some (Value.float .f32 (if k = k then v else Z k))
    rw [if_pos rfl]
    exact World.cell?_setCell_same' w _ _ hs
  · show _ = some (Value.float .f32 (if k = j then v else Z k))
    rw [if_neg e]
    exact (hne _ (by omega)).trans h2

/-- Who stands on the list of the near ones. -/
theorem nearTo_mem (f : Nat → Nat) (near : Nat) : ∀ n, ∀ x ∈ nearTo f near n, ∃ m : Nat, x = (m : Int) ∧ m < n ∧ (FloatKind.f32.format.order (f m) near == some .lt || FloatKind.f32.format.order (f m) near == some .eq) = true
  | 0, x, hx => by cases hx
  | n + 1, x, hx => by
    rw [nearTo] at hx
    split at hx
    · rename_i h
      simp only [List.mem_append, List.mem_singleton] at hx
      rcases hx with hx | rfl
      · obtain ⟨m, h1, h2, h3⟩ := nearTo_mem f near n x hx
        exact ⟨m, h1, by omega, h3⟩
      · exact ⟨n, rfl, by omega, h⟩
    · obtain ⟨m, h1, h2, h3⟩ := nearTo_mem f near n x hx
      exact ⟨m, h1, by omega, h3⟩
theorem getD_mem {L : List Int} {k : Nat} (h : k < L.length) : L.getD k 0 ∈ L := by
  rw [List.getD_eq_getElem?_getD, List.getElem?_eq_getElem h]; exact List.getElem_mem h
end Go.Proofs.Ytjegonmedaiccaa
