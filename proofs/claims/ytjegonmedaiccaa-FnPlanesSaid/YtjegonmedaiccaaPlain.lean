/- Plain facts: the plane through three points of quarters, on words. -/
import Derived.Test.YtjegonmedaiccaaLawOk
import Derived.Deep.RegionWith
import Derived.Deep.AppendLies
import Derived.Deep.RegionHeld3
import Derived.Deep.DeepCutAuto
namespace Go.Proofs.Ytjegonmedaiccaa
open Go.RowKit Flt Ieee
attribute [local go_sem] run_fop run_cvt run_store_float

/-! ### Numbers: small general facts -/

theorem read_unique {f : Format} {b : Nat} {p q : Rat} (h : Is f b p) (h' : Is f b q) : p = q := by
  obtain ⟨s, m, e, h1, rfl⟩ := h
  obtain ⟨s', m', e', h2, rfl⟩ := h'
  rw [h1] at h2
  injection h2 with a b c
  subst a b c
  rfl

theorem mul_bd {a x P Q : Rat} (h1 : -P ≤ a) (h2 : a ≤ P) (h3 : -Q ≤ x) (h4 : x ≤ Q) : -(P * Q) ≤ a * x ∧ a * x ≤ P * Q := by
  have p1 := Rat.mul_nonneg (a := P - a) (b := Q + x) (by grind) (by grind)
  have p2 := Rat.mul_nonneg (a := P + a) (b := Q - x) (by grind) (by grind)
  have p3 := Rat.mul_nonneg (a := P - a) (b := Q - x) (by grind) (by grind)
  have p4 := Rat.mul_nonneg (a := P + a) (b := Q + x) (by grind) (by grind)
  constructor <;> grind

theorem imul_bd {a x P Q : Int} (h1 : -P ≤ a) (h2 : a ≤ P) (h3 : -Q ≤ x) (h4 : x ≤ Q) : -(P * Q) ≤ a * x ∧ a * x ≤ P * Q := by
  have p1 := Int.mul_nonneg (a := P - a) (b := Q + x) (by omega) (by omega)
  have p2 := Int.mul_nonneg (a := P + a) (b := Q - x) (by omega) (by omega)
  have p3 := Int.mul_nonneg (a := P - a) (b := Q - x) (by omega) (by omega)
  have p4 := Int.mul_nonneg (a := P + a) (b := Q + x) (by omega) (by omega)
  constructor <;> grind

theorem pow_sub25 (M : Nat) : (2 : Rat) ^ ((M : Int) - 23 - 2) * 33554432 = ((2 ^ M : Nat) : Rat) := by
  have h := zadd ((M : Int) - 23 - 2) 25
  have e : (2 : Rat) ^ (25 : Int) = 33554432 := by rw [show (25 : Int) = ((25 : Nat) : Int) from rfl, znat]; rfl
  rw [show (M : Int) - 23 - 2 + 25 = (M : Int) by omega, znat, e] at h
  grind
theorem pow_sub54 (M : Nat) : (2 : Rat) ^ ((M : Int) - 52 - 2) * 18014398509481984 = ((2 ^ M : Nat) : Rat) := by
  have h := zadd ((M : Int) - 52 - 2) 54
  have e : (2 : Rat) ^ (54 : Int) = 18014398509481984 := by rw [show (54 : Int) = ((54 : Nat) : Int) from rfl, znat]; rfl
  rw [show (M : Int) - 52 - 2 + 54 = (M : Int) by omega, znat, e] at h
  grind

/-- Within P, a word of 32 bits is P / 2^25 off at the most. -/
theorem rnd_n32 {q : Rat} {b : Nat} (h : Rnd single q b) (M : Nat) (hM : M ≤ 100) (P : Rat) (hP : P = ((2 ^ M : Nat) : Rat)) (hq : q < P) (hq' : -P < q) :
    ∃ q', Is single b q' ∧ (q' - q) * 33554432 ≤ P ∧ (q - q') * 33554432 ≤ P := by
  have e := znat M
  obtain ⟨q', h1, h2, h3, _⟩ := h.near (.inl rfl) (M := (M : Int)) (by omega) (by omega) (by rw [e, ← hP]; exact hq) (by rw [e, ← hP]; exact hq')
  have h4 : (2 : Rat) ^ ((M : Int) - 23 - 2) * 33554432 = P := by rw [pow_sub25, hP]
  have h2' : q' - q ≤ (2 : Rat) ^ ((M : Int) - 23 - 2) := h2
  have h3' : q - q' ≤ (2 : Rat) ^ ((M : Int) - 23 - 2) := h3
  exact ⟨q', h1, by grind, by grind⟩
theorem rnd_n64 {q : Rat} {b : Nat} (h : Rnd double q b) (M : Nat) (hM : M ≤ 100) (P : Rat) (hP : P = ((2 ^ M : Nat) : Rat)) (hq : q < P) (hq' : -P < q) :
    ∃ q', Is double b q' ∧ (q' - q) * 18014398509481984 ≤ P ∧ (q - q') * 18014398509481984 ≤ P := by
  have e := znat M
  obtain ⟨q', h1, h2, h3, _⟩ := h.near (.inr rfl) (M := (M : Int)) (by omega) (by omega) (by rw [e, ← hP]; exact hq) (by rw [e, ← hP]; exact hq')
  have h4 : (2 : Rat) ^ ((M : Int) - 52 - 2) * 18014398509481984 = P := by rw [pow_sub54, hP]
  have h2' : q' - q ≤ (2 : Rat) ^ ((M : Int) - 52 - 2) := h2
  have h3' : q - q' ≤ (2 : Rat) ^ ((M : Int) - 52 - 2) := h3
  exact ⟨q', h1, by grind, by grind⟩

theorem small_pow {q : Rat} (h : q < 4194304) : q < 2 ^ (100 : Int) := by
  have h22 := pow_ge 22 100 (by decide)
  have e22 : ((2 ^ 22 : Nat) : Rat) = 4194304 := rfl
  rw [e22] at h22
  grind
theorem small_pow' {q : Rat} (h : -4194304 < q) : -(2 ^ (100 : Int)) < q := by
  have h22 := pow_ge 22 100 (by decide)
  have e22 : ((2 ^ 22 : Nat) : Rat) = 4194304 := rfl
  rw [e22] at h22
  grind

theorem is_zero32 : Is single 0 0 := ⟨false, 0, -149, by decide, by simp [rv]⟩
theorem rv_zero (s : Bool) (e : Int) : rv s 0 e = 0 := by
  unfold rv
  generalize (2 : Rat) ^ e = t
  have h0 : ((0 : Nat) : Rat) = 0 := rfl
  rw [h0]
  grind
theorem is_zero64 : Is double 0 0 := ⟨false, 0, -1074, by decide, rv_zero _ _⟩
theorem ex_zero (k : FloatKind) : Ex k 0 0 := by
  have e : ((0 : Int) : Rat) / 16 = 0 := by grind
  unfold Ex
  rw [e]
  cases k
  · exact is_zero32
  · exact is_zero64

theorem fin_is {x : Nat} {q : Rat} (h : Is single x q) : FinOk x := by
  obtain ⟨h1, h2⟩ := fop_sub (k := .f32) h h
  refine ⟨h1, ?_⟩
  have h3 := h2.exact (good .f32) 0 (by grind) (by omega) (by omega)
  rw [eq_is h3 is_zero32]
  simp
  grind

/-! ### The plane through three points of quarters -/

theorem wide_ex {p q : Nat} {x y : Int} (hx : Ex .f32 p (4 * x)) (hy : Ex .f32 q (4 * y)) (h1 : -100 ≤ x) (h2 : x ≤ 100) (h3 : -100 ≤ y) (h4 : y ≤ 100) : WideOk p q ∧ Ex .f64 (wideW p q) (4 * (x - y)) := by
  obtain ⟨a1, a2⟩ := hx.widen (by omega) (by omega)
  obtain ⟨b1, b2⟩ := hy.widen (by omega) (by omega)
  obtain ⟨c1, c2⟩ := a2.sub b2 (by omega) (by omega)
  refine ⟨⟨a1, b1, c1⟩, ?_⟩
  rw [show 4 * (x - y) = 4 * x - 4 * y by omega]
  exact c2

theorem area_ex {a b c d : Nat} {u v s t : Int} (ha : Ex .f64 a (4 * u)) (hb : Ex .f64 b (4 * v)) (hc : Ex .f64 c (4 * s)) (hd : Ex .f64 d (4 * t))
    (h1 : -2000 ≤ u * v) (h2 : u * v ≤ 2000) (h3 : -2000 ≤ s * t) (h4 : s * t ≤ 2000) : AreaOk a b c d ∧ Ex .f64 (areaW a b c d) (u * v - s * t) := by
  obtain ⟨a1, a2⟩ := ha.mul hb (u * v) (by grind) (by omega) (by omega)
  obtain ⟨b1, b2⟩ := hc.mul hd (s * t) (by grind) (by omega) (by omega)
  obtain ⟨c1, c2⟩ := a2.sub b2 (by omega) (by omega)
  exact ⟨⟨a1, b1, c1⟩, c2⟩

/-- The words of a vector are quarters. -/
structure Qv (v : V3) (x y z : Int) : Prop where
  hx : Ex .f32 v.X (4 * x)
  hy : Ex .f32 v.Y (4 * y)
  hz : Ex .f32 v.Z (4 * z)
  x0 : -8 ≤ x
  x1 : x ≤ 8
  y0 : -8 ≤ y
  y1 : y ≤ 8
  z0 : -44 ≤ z
  z1 : z ≤ 44

theorem diff_ok {a b : V3} {x y z x' y' z' : Int} (ha : Qv a x y z) (hb : Qv b x' y' z') : DiffOk a b ∧ Ex .f64 (plU a b) (4 * (x' - x)) ∧ Ex .f64 (plV a b) (4 * (y' - y)) ∧ Ex .f64 (plW a b) (4 * (z' - z)) := by
  obtain ⟨h1, h2, h3, a1, a2, a3, a4, a5, a6⟩ := ha
  obtain ⟨g1, g2, g3, b1, b2, b3, b4, b5, b6⟩ := hb
  obtain ⟨c1, c2⟩ := wide_ex g1 h1 (by omega) (by omega) (by omega) (by omega)
  obtain ⟨d1, d2⟩ := wide_ex g2 h2 (by omega) (by omega) (by omega) (by omega)
  obtain ⟨e1, e2⟩ := wide_ex g3 h3 (by omega) (by omega) (by omega) (by omega)
  exact ⟨⟨c1, d1, e1⟩, c2, d2, e2⟩

/-- A quotient of sixteenths, narrowed. -/
theorem quot_ex {n e : Nat} {N E : Int} (hn : Ex .f64 n N) (he : Ex .f64 e E) (hE : E ≠ 0) (h1 : -2816 ≤ N) (h2 : N ≤ 2816) :
    okf .quo .f64 n e = true ∧ okc .f64 (fop .quo .f64 n e) .f32 = true ∧ ∃ A A' : Rat, A * (E : Rat) = (N : Rat) ∧ -2816 ≤ A ∧ A ≤ 2816 ∧ Is single (cvt .f64 (fop .quo .f64 n e) .f32) A' ∧ A' - A ≤ 1 / 8000 ∧ A - A' ≤ 1 / 8000 := by
  have hE' : (E : Rat) ≠ 0 := fun h => hE (Rat.intCast_inj.1 h)
  have c1 : ((-2816 : Int) : Rat) ≤ (N : Rat) := Rat.intCast_le_intCast.2 h1
  have c2 : (N : Rat) ≤ ((2816 : Int) : Rat) := Rat.intCast_le_intCast.2 h2
  have e1 : ((-2816 : Int) : Rat) = -2816 := rfl
  have e2 : ((2816 : Int) : Rat) = 2816 := rfl
  rw [e1] at c1; rw [e2] at c2
  obtain ⟨o1, q, hq, d, hd, hd1, hd2, _⟩ := fop_div (k := .f64) hn he (by grind)
  have ed : (2 : Rat) ^ (FloatKind.f64.format.fractionBits + 2) = 18014398509481984 := by
    have : FloatKind.f64.format.fractionBits + 2 = 54 := rfl
    rw [this]; rfl
  rw [ed] at hd1 hd2
  have hA : (N : Rat) / (E : Rat) * (E : Rat) = (N : Rat) := by grind
  generalize hAA : (N : Rat) / (E : Rat) = A at *
  have hEE : (E : Rat) ≤ -1 ∨ 1 ≤ (E : Rat) := by
    have f1 : ((-1 : Int) : Rat) = -1 := rfl
    have f2 : ((1 : Int) : Rat) = 1 := rfl
    rcases (by omega : E ≤ -1 ∨ 1 ≤ E) with h | h
    · left; have := Rat.intCast_le_intCast.2 h; rw [f1] at this; exact this
    · right; have := Rat.intCast_le_intCast.2 h; rw [f2] at this; exact this
  have hA1 : -2816 ≤ A ∧ A ≤ 2816 := by
    rcases hEE with h | h
    · refine ⟨?_, ?_⟩
      · apply Decidable.byContradiction
        intro hc
        have := Rat.mul_nonneg (a := -2816 - A) (b := -1 - E) (by grind) (by grind)
        grind
      · apply Decidable.byContradiction
        intro hc
        have := Rat.mul_nonneg (a := A - 2816) (b := -1 - E) (by grind) (by grind)
        grind
    · refine ⟨?_, ?_⟩
      · apply Decidable.byContradiction
        intro hc
        have := Rat.mul_nonneg (a := -2816 - A) (b := E - 1) (by grind) (by grind)
        grind
      · apply Decidable.byContradiction
        intro hc
        have := Rat.mul_nonneg (a := A - 2816) (b := E - 1) (by grind) (by grind)
        grind
  have hqA : q = A + A * d := by
    have : (q - (A + A * d)) * (E : Rat) = 0 := by grind
    have := (Rat.mul_eq_zero.1 this)
    grind
  have hAd := mul_bd (a := A) (x := d * 18014398509481984) (P := 2816) (Q := 1) hA1.1 hA1.2 (by grind) (by grind)
  obtain ⟨q2, i2, g1, g2⟩ := rnd_n64 hq 12 (by omega) 4096 rfl (by grind) (by grind)
  obtain ⟨o2, hr⟩ := narrow i2 (small_pow (by grind)) (small_pow' (by grind))
  obtain ⟨A', i3, g3, g4⟩ := rnd_n32 hr 12 (by omega) 4096 rfl (by grind) (by grind)
  exact ⟨o1, o2, A, A', hA, hA1.1, hA1.2, i3, by grind, by grind⟩

/-- The words of a plane as numbers, with their bounds. -/
structure PlIs (wA wB wC : Nat) (A B C : Rat) : Prop where
  hA : Is single wA A
  hB : Is single wB B
  hC : Is single wC C
  A0 : -2817 ≤ A
  A1 : A ≤ 2817
  B0 : -2817 ≤ B
  B1 : B ≤ 2817
  C0 : -11300 ≤ C
  C1 : C ≤ 11300

/-- The words of a point as numbers. -/
structure PtIs (wX wY wZ : Nat) (X Y Z : Rat) : Prop where
  hX : Is single wX X
  hY : Is single wY Y
  hZ : Is single wZ Z
  X0 : -2 ≤ X
  X1 : X ≤ 2
  Y0 : -2 ≤ Y
  Y1 : Y ≤ 2
  Z0 : -11 ≤ Z
  Z1 : Z ≤ 11

theorem quarter_bd {z M : Int} (h0 : -M ≤ z) (h1 : z ≤ M) : -(M : Rat) / 4 ≤ ((4 * z : Int) : Rat) / 16 ∧ ((4 * z : Int) : Rat) / 16 ≤ (M : Rat) / 4 := by
  have c0 := Rat.intCast_le_intCast.2 h0
  have c1 := Rat.intCast_le_intCast.2 h1
  rw [Rat.intCast_neg] at c0
  rw [Rat.intCast_mul]
  have e : ((4 : Int) : Rat) = 4 := rfl
  rw [e]
  constructor <;> grind

theorem Qv.pt {v : V3} {x y z : Int} (h : Qv v x y z) : PtIs v.X v.Y v.Z ((x : Rat) / 4) ((y : Rat) / 4) ((z : Rat) / 4) := by
  have e (t : Int) : ((4 * t : Int) : Rat) / 16 = (t : Rat) / 4 := by
    rw [Rat.intCast_mul]
    have e : ((4 : Int) : Rat) = 4 := rfl
    rw [e]; grind
  have bx := quarter_bd h.x0 h.x1
  have by_ := quarter_bd h.y0 h.y1
  have bz := quarter_bd h.z0 h.z1
  rw [e] at bx by_ bz
  have f1 : ((8 : Int) : Rat) = 8 := rfl
  have f2 : ((44 : Int) : Rat) = 44 := rfl
  rw [f1] at bx by_
  rw [f2] at bz
  have hx := h.hx
  have hy := h.hy
  have hz := h.hz
  unfold Ex at hx hy hz
  rw [e] at hx hy hz
  exact ⟨hx, hy, hz, by grind, by grind, by grind, by grind, by grind, by grind⟩

/-- HeightAt of such a plane at such a point, and how far the point is off. -/
theorem off_ok {wA wB wC wX wY wZ : Nat} {A B C X Y Z : Rat} (hp : PlIs wA wB wC A B C) (hq : PtIs wX wY wZ X Y Z) :
    OffOk wX wY wZ wA wB wC ∧ ∃ h, Is single (heightW wA wB wC wX wY) h ∧ h - (A * X + B * Y + C) ≤ 1 / 512 ∧ (A * X + B * Y + C) - h ≤ 1 / 512 ∧ h ≤ 22600 ∧ -22600 ≤ h ∧
      ∃ o, Rnd single (Z - h) (fop .sub .f32 wZ (heightW wA wB wC wX wY)) ∧ Is single (fop .sub .f32 wZ (heightW wA wB wC wX wY)) o ∧ Is single (offW wX wY wZ wA wB wC) (if o < 0 then -o else o) ∧ o - (Z - h) ≤ 1 / 1024 ∧ (Z - h) - o ≤ 1 / 1024 := by
  obtain ⟨hA, hB, hC, a0, a1, b0, b1, c0, c1⟩ := hp
  obtain ⟨hX, hY, hZ, x0, x1, y0, y1, z0, z1⟩ := hq
  have m1 := mul_bd a0 a1 x0 x1
  have m2 := mul_bd b0 b1 y0 y1
  obtain ⟨o1, r1⟩ := fop_mul (k := .f32) hA hX
  obtain ⟨o2, r2⟩ := fop_mul (k := .f32) hB hY
  generalize A * X = AX at *
  generalize B * Y = BY at *
  obtain ⟨q1, i1, e1, e1'⟩ := rnd_n32 r1 13 (by omega) 8192 rfl (by grind) (by grind)
  obtain ⟨q2, i2, e2, e2'⟩ := rnd_n32 r2 13 (by omega) 8192 rfl (by grind) (by grind)
  obtain ⟨o3, r3⟩ := fop_add (k := .f32) i1 i2
  obtain ⟨q3, i3, e3, e3'⟩ := rnd_n32 r3 14 (by omega) 16384 rfl (by grind) (by grind)
  obtain ⟨o4, r4⟩ := fop_add (k := .f32) i3 hC
  obtain ⟨q4, i4, e4, e4'⟩ := rnd_n32 r4 15 (by omega) 32768 rfl (by grind) (by grind)
  obtain ⟨o5, r5⟩ := fop_sub (k := .f32) hZ i4
  obtain ⟨q5, i5, e5, e5'⟩ := rnd_n32 r5 15 (by omega) 32768 rfl (by grind) (by grind)
  exact ⟨⟨⟨o1, o2, o3, o4⟩, o5⟩, q4, i4, by grind, by grind, by grind, by grind, q5, r5, i5, absW_is i5, by grind, by grind⟩

theorem is_zero_iff {e : Nat} {E : Int} (h : Ex .f64 e E) : isZero e = decide (E = 0) := Ex.eq h (ex_zero .f64)

theorem plE_ex {a b c : V3} {x y z x' y' z' x2 y2 z2 : Int} (ha : Qv a x y z) (hb : Qv b x' y' z') (hc : Qv c x2 y2 z2) :
    PlOk a b c ∧ Ex .f64 (plE a b c) ((x' - x) * (y2 - y) - (y' - y) * (x2 - x)) := by
  obtain ⟨d1, u1, v1, w1⟩ := diff_ok ha hb
  obtain ⟨d2, u2, v2, w2⟩ := diff_ok ha hc
  obtain ⟨_, _, _, a1, a2, a3, a4, a5, a6⟩ := ha
  obtain ⟨_, _, _, b1, b2, b3, b4, b5, b6⟩ := hb
  obtain ⟨_, _, _, c1, c2, c3, c4, c5, c6⟩ := hc
  have m1 := imul_bd (a := x' - x) (x := y2 - y) (P := 16) (Q := 16) (by omega) (by omega) (by omega) (by omega)
  have m2 := imul_bd (a := y' - y) (x := x2 - x) (P := 16) (Q := 16) (by omega) (by omega) (by omega) (by omega)
  obtain ⟨k1, k2⟩ := area_ex u1 v2 v1 u2 (by omega) (by omega) (by omega) (by omega)
  exact ⟨⟨d1, d2, k1⟩, k2⟩

theorem tri_fit {A A' B B' xa ya za xp yp zp u v w E : Rat} (hA : A' - A ≤ 1 / 8000) (hA' : A - A' ≤ 1 / 8000) (hB : B' - B ≤ 1 / 8000) (hB' : B - B' ≤ 1 / 8000)
    (hu : xp - xa = u) (hv : yp - ya = v) (hw : zp - za = w) (u0 : -4 ≤ u) (u1 : u ≤ 4) (v0 : -4 ≤ v) (v1 : v ≤ 4) (hE : E ≠ 0) (key : (A * u + B * v) * E = w * E) :
    zp - (A' * xp + B' * yp + (za - A' * xa - B' * ya)) ≤ 1 / 1000 ∧ (A' * xp + B' * yp + (za - A' * xa - B' * ya)) - zp ≤ 1 / 1000 := by
  have k : A * u + B * v = w := by
    have : (A * u + B * v - w) * E = 0 := by grind
    have := Rat.mul_eq_zero.1 this
    grind
  have m1 := mul_bd (a := A' - A) (x := u) (P := 1 / 8000) (Q := 4) (by grind) (by grind) u0 u1
  have m2 := mul_bd (a := B' - B) (x := v) (P := 1 / 8000) (Q := 4) (by grind) (by grind) v0 v1
  have e : zp - (A' * xp + B' * yp + (za - A' * xa - B' * ya)) = -((A' - A) * u) - (B' - B) * v := by
    subst hu hv hw
    grind
  generalize (A' - A) * u = t1 at *
  generalize (B' - B) * v = t2 at *
  generalize A' * xp + B' * yp + (za - A' * xa - B' * ya) = H at *
  constructor <;> grind

theorem key1 {u v w s t r A B E : Rat} (hA : A * E = w * t - v * r) (hB : B * E = u * r - w * s) (hE : E = u * t - v * s) : (A * u + B * v) * E = w * E ∧ (A * s + B * t) * E = r * E := by
  constructor
  · have : (A * u + B * v) * E = (A * E) * u + (B * E) * v := by grind
    rw [this, hA, hB, hE]; grind
  · have : (A * s + B * t) * E = (A * E) * s + (B * E) * t := by grind
    rw [this, hA, hB, hE]; grind

theorem plane_is {a b c : V3} {x y z x' y' z' x2 y2 z2 : Int} (ha : Qv a x y z) (hb : Qv b x' y' z') (hc : Qv c x2 y2 z2) (hz : isZero (plE a b c) = false) :
    PlOk2 a b c ∧ ∃ A B C : Rat, PlIs (plA a b c) (plB a b c) (plC a b c) A B C ∧
      (∀ xp yp zp : Int, (xp = x ∧ yp = y ∧ zp = z) ∨ (xp = x' ∧ yp = y' ∧ zp = z') ∨ (xp = x2 ∧ yp = y2 ∧ zp = z2) →
        (zp : Rat) / 4 - (A * ((xp : Rat) / 4) + B * ((yp : Rat) / 4) + C) ≤ 1 / 400 ∧ (A * ((xp : Rat) / 4) + B * ((yp : Rat) / 4) + C) - (zp : Rat) / 4 ≤ 1 / 400) := by
  obtain ⟨_, hE⟩ := plE_ex ha hb hc
  rw [is_zero_iff hE] at hz
  have hE0 := of_decide_eq_false hz
  obtain ⟨d1, u1, v1, w1⟩ := diff_ok ha hb
  obtain ⟨d2, u2, v2, w2⟩ := diff_ok ha hc
  have hpa := ha.pt
  obtain ⟨ia1, ia2, ia3, _, _, _, _, _, _⟩ := hpa
  obtain ⟨_, _, _, a1, a2, a3, a4, a5, a6⟩ := ha
  obtain ⟨_, _, _, b1, b2, b3, b4, b5, b6⟩ := hb
  obtain ⟨_, _, _, c1, c2, c3, c4, c5, c6⟩ := hc
  have m1 := imul_bd (a := z' - z) (x := y2 - y) (P := 88) (Q := 16) (by omega) (by omega) (by omega) (by omega)
  have m2 := imul_bd (a := y' - y) (x := z2 - z) (P := 16) (Q := 88) (by omega) (by omega) (by omega) (by omega)
  have m3 := imul_bd (a := x' - x) (x := z2 - z) (P := 16) (Q := 88) (by omega) (by omega) (by omega) (by omega)
  have m4 := imul_bd (a := z' - z) (x := x2 - x) (P := 88) (Q := 16) (by omega) (by omega) (by omega) (by omega)
  obtain ⟨k1, n1⟩ := area_ex w1 v2 v1 w2 (by omega) (by omega) (by omega) (by omega)
  obtain ⟨k2, n2⟩ := area_ex u1 w2 w1 u2 (by omega) (by omega) (by omega) (by omega)
  obtain ⟨o1, o2, A, A', hA, hA0, hA1, iA, eA, eA'⟩ := quot_ex n1 hE hE0 (by omega) (by omega)
  obtain ⟨o3, o4, B, B', hB, hB0, hB1, iB, eB, eB'⟩ := quot_ex n2 hE hE0 (by omega) (by omega)
  have iA' : Is single (plA a b c) A' := iA
  have iB' : Is single (plB a b c) B' := iB
  obtain ⟨o5, r5⟩ := fop_mul (k := .f32) iA' ia1
  have t1 := mul_bd (a := A') (x := (x : Rat) / 4) (P := 2817) (Q := 2) (by grind) (by grind) (by grind) (by grind)
  have t2 := mul_bd (a := B') (x := (y : Rat) / 4) (P := 2817) (Q := 2) (by grind) (by grind) (by grind) (by grind)
  obtain ⟨q5, i5, e5, e5'⟩ := rnd_n32 r5 13 (by omega) 8192 rfl (by grind) (by grind)
  obtain ⟨o6, r6⟩ := fop_sub (k := .f32) ia3 i5
  obtain ⟨q6, i6, e6, e6'⟩ := rnd_n32 r6 13 (by omega) 8192 rfl (by grind) (by grind)
  obtain ⟨o7, r7⟩ := fop_mul (k := .f32) iB' ia2
  obtain ⟨q7, i7, e7, e7'⟩ := rnd_n32 r7 13 (by omega) 8192 rfl (by grind) (by grind)
  obtain ⟨o8, r8⟩ := fop_sub (k := .f32) i6 i7
  obtain ⟨q8, i8, e8, e8'⟩ := rnd_n32 r8 14 (by omega) 16384 rfl (by grind) (by grind)
  have iC : Is single (plC a b c) q8 := i8
  refine ⟨⟨k1, o1, o2, k2, o3, o4, o5, o6, o7, o8, fin_is iA', fin_is iB', fin_is iC⟩, A', B', q8, ⟨iA', iB', iC, by grind, by grind, by grind, by grind, by grind, by grind⟩, ?_⟩
  have hErat : (((x' - x) * (y2 - y) - (y' - y) * (x2 - x) : Int) : Rat) ≠ 0 := fun h => hE0 (Rat.intCast_inj.1 h)
  have hEE : (((x' - x) * (y2 - y) - (y' - y) * (x2 - x) : Int) : Rat) = ((x' : Rat) - x) * ((y2 : Rat) - y) - ((y' : Rat) - y) * ((x2 : Rat) - x) := by
    simp only [Rat.intCast_sub, Rat.intCast_mul]
  have hN1 : (((z' - z) * (y2 - y) - (y' - y) * (z2 - z) : Int) : Rat) = ((z' : Rat) - z) * ((y2 : Rat) - y) - ((y' : Rat) - y) * ((z2 : Rat) - z) := by
    simp only [Rat.intCast_sub, Rat.intCast_mul]
  have hN2 : (((x' - x) * (z2 - z) - (z' - z) * (x2 - x) : Int) : Rat) = ((x' : Rat) - x) * ((z2 : Rat) - z) - ((z' : Rat) - z) * ((x2 : Rat) - x) := by
    simp only [Rat.intCast_sub, Rat.intCast_mul]
  rw [hN1] at hA
  rw [hN2] at hB
  generalize (((x' - x) * (y2 - y) - (y' - y) * (x2 - x) : Int) : Rat) = E at *
  have near : q8 - ((z : Rat) / 4 - A' * ((x : Rat) / 4) - B' * ((y : Rat) / 4)) ≤ 1 / 800 ∧ ((z : Rat) / 4 - A' * ((x : Rat) / 4) - B' * ((y : Rat) / 4)) - q8 ≤ 1 / 800 := by
    constructor <;> grind
  have key := key1 hA hB hEE
  have dx1 : -4 ≤ ((x' : Rat) - x) / 4 ∧ ((x' : Rat) - x) / 4 ≤ 4 := by
    have := quarter_bd (z := x' - x) (M := 16) (by omega) (by omega)
    rw [Rat.intCast_mul, Rat.intCast_sub] at this
    have e4 : ((4 : Int) : Rat) = 4 := rfl
    have e16 : ((16 : Int) : Rat) = 16 := rfl
    rw [e4, e16] at this
    constructor <;> grind
  have dy1 : -4 ≤ ((y' : Rat) - y) / 4 ∧ ((y' : Rat) - y) / 4 ≤ 4 := by
    have := quarter_bd (z := y' - y) (M := 16) (by omega) (by omega)
    rw [Rat.intCast_mul, Rat.intCast_sub] at this
    have e4 : ((4 : Int) : Rat) = 4 := rfl
    have e16 : ((16 : Int) : Rat) = 16 := rfl
    rw [e4, e16] at this
    constructor <;> grind
  have dx2 : -4 ≤ ((x2 : Rat) - x) / 4 ∧ ((x2 : Rat) - x) / 4 ≤ 4 := by
    have := quarter_bd (z := x2 - x) (M := 16) (by omega) (by omega)
    rw [Rat.intCast_mul, Rat.intCast_sub] at this
    have e4 : ((4 : Int) : Rat) = 4 := rfl
    have e16 : ((16 : Int) : Rat) = 16 := rfl
    rw [e4, e16] at this
    constructor <;> grind
  have dy2 : -4 ≤ ((y2 : Rat) - y) / 4 ∧ ((y2 : Rat) - y) / 4 ≤ 4 := by
    have := quarter_bd (z := y2 - y) (M := 16) (by omega) (by omega)
    rw [Rat.intCast_mul, Rat.intCast_sub] at this
    have e4 : ((4 : Int) : Rat) = 4 := rfl
    have e16 : ((16 : Int) : Rat) = 16 := rfl
    rw [e4, e16] at this
    constructor <;> grind
  clear iA iB iA' iB' iC i5 i6 i7 i8 r5 r6 r7 r8 k1 k2 n1 n2 d1 d2 u1 v1 w1 u2 v2 w2 ia1 ia2 ia3 e5 e5' e6 e6' e7 e7' e8 e8' t1 t2 m1 m2 m3 m4 hA hB hEE hN1 hN2
  intro xp yp zp h
  have fin : (zp : Rat) / 4 - (A' * ((xp : Rat) / 4) + B' * ((yp : Rat) / 4) + ((z : Rat) / 4 - A' * ((x : Rat) / 4) - B' * ((y : Rat) / 4))) ≤ 1 / 1000 ∧
      (A' * ((xp : Rat) / 4) + B' * ((yp : Rat) / 4) + ((z : Rat) / 4 - A' * ((x : Rat) / 4) - B' * ((y : Rat) / 4))) - (zp : Rat) / 4 ≤ 1 / 1000 := by
    rcases h with ⟨rfl, rfl, rfl⟩ | ⟨rfl, rfl, rfl⟩ | ⟨rfl, rfl, rfl⟩
    · exact tri_fit eA eA' eB eB' (u := 0) (v := 0) (w := 0) (by grind) (by grind) (by grind) (by grind) (by grind) (by grind) (by grind) hErat (by grind)
    · exact tri_fit eA eA' eB eB' (u := ((xp : Rat) - x) / 4) (v := ((yp : Rat) - y) / 4) (w := ((zp : Rat) - z) / 4) (by grind) (by grind) (by grind) dx1.1 dx1.2 dy1.1 dy1.2 hErat (by grind)
    · exact tri_fit eA eA' eB eB' (u := ((xp : Rat) - x) / 4) (v := ((yp : Rat) - y) / 4) (w := ((zp : Rat) - z) / 4) (by grind) (by grind) (by grind) dx2.1 dx2.2 dy2.1 dy2.2 hErat (by grind)
  generalize A' * ((xp : Rat) / 4) + B' * ((yp : Rat) / 4) = H at *
  constructor <;> grind
end Go.Proofs.Ytjegonmedaiccaa
