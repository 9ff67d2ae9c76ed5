/- Walks: the law. -/
import Derived.Test.YtjegonmedaiccaaLawOk
import Derived.Deep.RegionWith
import Derived.Deep.AppendLies
import Derived.Deep.RegionHeld3
import Derived.Deep.DeepCutAuto
namespace Go.Proofs.Ytjegonmedaiccaa
open Go.RowKit Flt Ieee
attribute [local go_sem] run_fop run_cvt run_store_float

set_option maxRecDepth 100000 in
set_option maxHeartbeats 4000000 in
theorem law_any (A A' : Option Addr) (n c n' c' : Nat) (C D : Nat → Int) (w : World) (hA : Bytes w A n C) (hD : Bytes w A' n' D) (hL : n ≤ 48 → n' ≤ 48 → LawOk n C n' D) :
    Calls Try.prog 3 #[.slice A n c, .slice A' n' c'] w fun e w' => e = .returned (.bool true) ∧ Below w.heap.size w w' := by
  have HA := Lib.hid hA
  have HD := Lib.hid hD
  clear hA hD
  by_cases hlong : 48 < (n : Int) ∨ 48 < (n' : Int)
  · have hl : (decide (48 < (n : Int)) || decide (48 < (n' : Int))) = true := by simpa using hlong
    clear hL hlong
    have HL := Lib.hid hl
    clear hl
    go_enter Try.func3, Try.ntmps3
    go_wp2_with (go_at_call 4; (with_reducible refine (long_any _ _ _ _ _ _ _).mono ?_); rintro e w' ⟨rfl, rfl⟩; rw [HL.out])
    go_ret
    exact ⟨rfl, Below.refl _ _⟩
  · have hl : (decide (48 < (n : Int)) || decide (48 < (n' : Int))) = false := by simp; omega
    have HO := Lib.hid (hL (by omega) (by omega))
    have HL := Lib.hid hl
    clear hl hL hlong
    have u24 := Try.underlying24
    have u32 := Try.underlying32
    go_enter Try.func3, Try.ntmps3
    go_wp2_with (go_at_call 4; (with_reducible refine (long_any _ _ _ _ _ _ _).mono ?_); rintro e w' ⟨rfl, rfl⟩; rw [HL.out])
    refine (vec_any A n c C 0 _ (by omega) (by omega) HA.out HO.out.v0).mono ?_
    rintro e w1 ⟨rfl, hb1⟩
    have HP1 := Lib.hid HO.out.p1
    have HV3 := Lib.hid (vec_any A n c C 3 · (by omega) (by omega) · HO.out.v3)
    have HV6 := Lib.hid (vec_any A n c C 6 · (by omega) (by omega) · HO.out.v6)
    generalize vecOf n C 0 = va at *
    generalize vecOf n C 3 = vb at *
    generalize vecOf n C 6 = vc at *
    have HW1 := Lib.hid hb1
    have HA1 := Lib.hid (HA.out.below hb1)
    clear hb1
    go_wp2_with fail
    refine (HV3.out _ (HA1.out.below ((Below.refl _ _).alloc (Nat.le_refl _) _))).mono ?_
    rintro e w2 ⟨rfl, hb2⟩
    have ba := (Box.new w1 va.X va.Y va.Z 26).below hb2
    have HBA := Lib.hid ba
    have HW2 := Lib.hid ((HW1.out.alloc HW1.out.size _).trans (hb2.mono (by have := HW1.out.size; simp; omega)))
    have HA2 := Lib.hid ((HA1.out.below ((Below.refl _ _).alloc (Nat.le_refl _) _)).below hb2)
    clear ba hb2
    generalize w1.heap.size = ga at *
    go_wp2_with fail
    refine (HV6.out _ (HA2.out.below ((Below.refl _ _).alloc (Nat.le_refl _) _))).mono ?_
    rintro e w3 ⟨rfl, hb3⟩
    have HBA3 := Lib.hid ((HBA.out.alloc _).below hb3)
    have HBB3 := Lib.hid ((Box.new w2 vb.X vb.Y vb.Z 26).below hb3)
    have HW3 := Lib.hid ((HW2.out.alloc HW2.out.size _).trans (hb3.mono (by have := HW2.out.size; simp; omega)))
    clear hb3 HBA HV3 HV6
    generalize w2.heap.size = gb at *
    obtain ⟨la, a0, a1, a2⟩ := HBA3.out
    obtain ⟨lb, b0, b1, b2⟩ := HBB3.out
    go_wp2_with fail
    refine (plane_both va vb vc _ HP1.out.pl HP1.out.pl2).mono ?_
    rintro e w4 ⟨rfl, hb4⟩
    have ba := ((HBA3.out.alloc (.cells #[.float .f32 vc.X, .float .f32 vc.Y, .float .f32 vc.Z] 26)).below hb4)
    have bb := ((HBB3.out.alloc (.cells #[.float .f32 vc.X, .float .f32 vc.Y, .float .f32 vc.Z] 26)).below hb4)
    have bc := ((Box.new w3 vc.X vc.Y vc.Z 26).below hb4)
    have HW4 := Lib.hid ((HW3.out.alloc HW3.out.size _).trans (hb4.mono (by have := HW3.out.size; simp; omega)))
    clear HBA3 HBB3 hb4 la a0 a1 a2 lb b0 b1 b2
    generalize w3.heap.size = gc at *
    have HBA := Lib.hid ba
    have HBB := Lib.hid bb
    have HBC := Lib.hid bc
    obtain ⟨la, a0, a1, a2⟩ := ba
    obtain ⟨lb, b0, b1, b2⟩ := bb
    obtain ⟨lc, c0, c1, c2⟩ := bc
    obtain ⟨⟨⟨o1, o2, o3⟩, ⟨o4, o5, o6⟩, _⟩, ⟨⟨o7, o8, o9⟩, ⟨o10, o11, o12⟩, _⟩, ⟨q1, q2, q3⟩⟩ := HP1.out.pl
    have q1' : okf .mul .f64 (fop .sub .f64 (cvt .f32 vb.X .f64) (cvt .f32 va.X .f64)) (fop .sub .f64 (cvt .f32 vc.Y .f64) (cvt .f32 va.Y .f64)) = true := q1
    have q2' : okf .mul .f64 (fop .sub .f64 (cvt .f32 vb.Y .f64) (cvt .f32 va.Y .f64)) (fop .sub .f64 (cvt .f32 vc.X .f64) (cvt .f32 va.X .f64)) = true := q2
    have q3' : okf .sub .f64 (fop .mul .f64 (fop .sub .f64 (cvt .f32 vb.X .f64) (cvt .f32 va.X .f64)) (fop .sub .f64 (cvt .f32 vc.Y .f64) (cvt .f32 va.Y .f64))) (fop .mul .f64 (fop .sub .f64 (cvt .f32 vb.Y .f64) (cvt .f32 va.Y .f64)) (fop .sub .f64 (cvt .f32 vc.X .f64) (cvt .f32 va.X .f64))) = true := q3
    clear q1 q2 q3
    have hE : fop .sub .f64 (fop .mul .f64 (fop .sub .f64 (cvt .f32 vb.X .f64) (cvt .f32 va.X .f64)) (fop .sub .f64 (cvt .f32 vc.Y .f64) (cvt .f32 va.Y .f64))) (fop .mul .f64 (fop .sub .f64 (cvt .f32 vb.Y .f64) (cvt .f32 va.Y .f64)) (fop .sub .f64 (cvt .f32 vc.X .f64) (cvt .f32 va.X .f64))) = plE va vb vc := rfl
    have hne : (FloatKind.f64.format.order (plE va vb vc) 0 != some .eq) = !isZero (plE va vb vc) := rfl
    go_upto_if 85 with fail
    clear hne hE q1' q2' q3' o1 o2 o3 o4 o5 o6 o7 o8 o9 o10 o11 o12 la a0 a1 a2 lb b0 b1 b2 lc c0 c1 c2
    generalize hzz : isZero (plE va vb vc) = z at *
    have HZ := Lib.hid hzz
    clear hzz
    go_cut [12, 13] (fun _ _ wx => Below w.heap.size w wx)
    case first =>
      have HW5 : Hid (Below w.heap.size w ((w4.alloc (.cells #[.float .f32 (plP va vb vc).X, .float .f32 (plP va vb vc).Y, .float .f32 (plP va vb vc).Z] 29)).alloc (.cells #[.float .f32 va.X, .float .f32 va.Y, .float .f32 va.Z, .float .f32 vb.X, .float .f32 vb.Y, .float .f32 vb.Z, .float .f32 vc.X, .float .f32 vc.Y, .float .f32 vc.Z] 26))) :=
        Lib.hid ((HW4.out.alloc HW4.out.size _).alloc (by have := HW4.out.size; simp; omega) _)
      cases z
      · have hz' := HZ.out
        have hz : ¬ isZero (plE va vb vc) = true := by rw [hz']; decide
        have hp1 : (plP va vb vc).X = plA va vb vc := by unfold plP; rw [if_neg hz]
        have hp2 : (plP va vb vc).Y = plB va vb vc := by unfold plP; rw [if_neg hz]
        have hp3 : (plP va vb vc).Z = plC va vb vc := by unfold plP; rw [if_neg hz]
        have HO1 := Lib.hid (HP1.out.off hz')
        have hk := HP1.out.okc hz'
        have hle := HP1.out.le hz'
        have HPT := Lib.hid (tri_pts (w4.alloc (.cells #[.float .f32 (plA va vb vc), .float .f32 (plB va vb vc), .float .f32 (plC va vb vc)] 29)) va vb vc 26)
        clear hz hz'
        rw [hp1, hp2, hp3] at HW5
        go_wp2_with fail
        refine (offPlane_any (w4.heap.size + 1) 3 3 (triX va vb vc) (triY va vb vc) (triZ va vb vc) _ _ _ _ (by omega) (by simp) (by have := HPT.out; simpa using this) HO1.out).mono ?_
        rintro e w5 ⟨rfl, hb5⟩
        have HB5 := Lib.hid (HW5.out.trans (hb5.mono HW5.out.size))
        clear hb5
        have hmm : (fun k => offW (triX va vb vc k) (triY va vb vc k) (triZ va vb vc k) (plA va vb vc) (plB va vb vc) (plC va vb vc)) = triOff va vb vc := rfl
        go_wp2
        go_meet
        exact HB5.out
      · go_wp2
        go_meet
        exact HW5.out
    case rest =>
      have HWc := Lib.hid hcut
      have HDc := Lib.hid (fun (W : World) (h : Below w.heap.size w W) => HD.out.below h)
      have hs0 := HO.out.s0
      have hs1 := HO.out.s1
      have hs2 := HO.out.s2
      have hr0 := (atI_nonneg (n := n') (D := D) (k := 0) (m := 9) (by omega)).1
      have hr1 := (atI_nonneg (n := n') (D := D) (k := 1) (m := 9) (by omega)).1
      have hr2 := (atI_nonneg (n := n') (D := D) (k := 2) (m := 9) (by omega)).1
      have hr0' := (atI_nonneg (n := n') (D := D) (k := 0) (m := 9) (by omega)).2
      have hr1' := (atI_nonneg (n := n') (D := D) (k := 1) (m := 9) (by omega)).2
      have hr2' := (atI_nonneg (n := n') (D := D) (k := 2) (m := 9) (by omega)).2
      clear hcut HP1 HA1 HA2 HBA HBB HBC HW1 HW2 HW3 HW4 HZ
      have HP2 := Lib.hid HO.out.p2
      have HADD := Lib.hid HO.out.add
      have HP3 := Lib.hid HO.out.p3
      generalize hS : slopeOf n' D = S at *
      have eA : fop .quo .f32 (floatOfInt .f32 (atI n' D 0 9 - 4)) 1082130432 = S.A := by rw [← hS]; rfl
      have eB : fop .quo .f32 (floatOfInt .f32 (atI n' D 1 9 - 4)) 1082130432 = S.B := by rw [← hS]; rfl
      have eC : fop .quo .f32 (floatOfInt .f32 (atI n' D 2 9)) 1082130432 = S.C := by rw [← hS]; rfl
      clear hS
      go_wp2_with (go_at_call 8; (with_reducible refine (at_any _ _ _ D _ _ _ (by omega) (by omega) (by omega) (by omega) (HDc.out _ HWc.out)).mono ?_); rintro e w' ⟨rfl, rfl⟩)
      clear eA eB eC hs0 hs1 hs2 hr0 hr1 hr2 hr0' hr1' hr2'
      obtain ⟨i0, hi, hz0, hz1, hz2⟩ := info_parts Try.info26
      have HI := Lib.hid hi
      have HZ0 := Lib.hid hz0
      have HZ1 := Lib.hid hz1
      have HZ2 := Lib.hid hz2
      have HBS := Lib.hid (Box.new wc S.A S.B S.C 29)
      have hwc := HWc.out.size
      clear hi hz0 hz1 hz2
      go_loopw [15, 16, 17, 18] (fun l ix _ _ wr => ∃ k : Nat, k ≤ 9 ∧ ix = .int .i64 k ∧ wr.ownsRow (wc.heap.size + 1) 26 3 l k ((List.range k).flatMap (P3 gX gY S.z)) ∧ Below (wc.heap.size + 1) (wc.alloc (.cells #[.float .f32 S.A, .float .f32 S.B, .float .f32 S.C] 29)) wr) (fun _ ix _ _ _ => 9 - (intOf ix).toNat)
      case atStart =>
        refine ⟨0, Nat.zero_le _, rfl, ?_, ?_⟩
        · have := World.ownsRow_made (base := wc.heap.size + 1) (e := 26) (size := 3) (wc.alloc (.cells #[.float .f32 S.A, .float .f32 S.B, .float .f32 S.C] 29)) #[] 0 (by simp) (by simp [maxLen]) (by simp)
          simpa using this
        · exact (Below.refl _ _).alloc (by simp) _
      case round =>
        obtain ⟨k, hk, rfl, hown, hbel⟩ := hrel
        have HB := Lib.hid hbel
        have HOWN := Lib.hid hown
        have hz := hbel.size
        simp only [World.size_alloc] at hz
        have bs := HBS.out.below (hbel.mono (by simp))
        clear hown hbel
        by_cases hlt : k < 9
        · obtain ⟨_, s0, s1, s2⟩ := bs
          have HH := Lib.hid (HP2.out.h k hlt)
          have ex : floatOfInt .f32 ((k : Int) % 3) = gX k := rfl
          have ey : floatOfInt .f32 ((k : Int) / 3) = gY k := rfl
          go_wp2_with (first | (go_at_call 9; (with_reducible refine (height_any _ _ _ _ _ _ HH.out).mono ?_); rintro e w1 ⟨rfl, hb1⟩; have HOWN1 := Lib.hid (own_below HOWN.out hb1); have HB1 := Lib.hid (HB.out.trans (hb1.mono hz)); have hz1 := hb1.size; clear hb1) | (at_builtin; refine wpList_append_own _ rfl _ _ 33 rfl (wc.heap.size + 1) 26 i0 (.agg #[.float .f32 0, .float .f32 0, .float .f32 0]) 3 12 Try.underlying33 HI.out HZ0.out HZ1.out HZ2.out rfl (by decide) _ _ _ rfl (HOWN1.out.alloc _) ⟨w1.heap.size, 0, none⟩ 1 1 (P3 gX gY S.z k) rfl rfl ?c1 ?c2 ?c3 ?c4 ?c5 ?_))
          case c1 => exact cell_three_new _ _ _ _ _
          case c2 =>
            intro u hu
            simp only [P3, List.mem_cons, List.not_mem_nil, or_false] at hu
            rcases hu with rfl | rfl | rfl <;> rfl
          case c3 => simp only [maxLen]; omega
          case c4 => omega
          case c5 => simp only [World.size_alloc]; omega
          · intro v' w2 hown2 hg2 _
            have HO2 : Hid (w2.ownsRow (wc.heap.size + 1) 26 3 v' (k + 1) ((List.range (k + 1)).flatMap (P3 gX gY S.z))) := by
              show w2.ownsRow _ _ _ _ _ _
              rw [List.range_succ, List.flatMap_append]
              simpa using hown2
            have HB2 : Hid (Below (wc.heap.size + 1) (wc.alloc (.cells #[.float .f32 S.A, .float .f32 S.B, .float .f32 S.C] 29)) w2) :=
              (HB1.out.alloc (by omega) _).grown hg2 (by simp; omega) (fun g hg => (HOWN.out.lt g hg).1)
            clear hown2 hg2
            go_wp2
            go_roundw
            case rel => exact ⟨k + 1, by omega, by go_num, HO2.out, HB2.out⟩
            case measure => simp [intOf]; omega
        · obtain rfl : k = 9 := by omega
          obtain ⟨g, cap, rfl, hgb, hgl, hpts, hfz⟩ := pts_of_own HOWN.out (by omega)
          have HPT := Lib.hid hpts
          have HFZ := Lib.hid hfz
          clear hpts hfz bs HOWN
          go_wp2_with fail
          refine (fit_any g 9 cap gX gY S.z _ (by omega) (by omega) hgl HPT.out HP2.out.fit).mono ?_
          rintro e w5 ⟨rfl, hb5⟩
          have hpf : fitOf gX gY S.z 9 = S.fit := rfl
          rw [hpf]
          have HPT5 := Lib.hid (HPT.out.below hb5 hgl)
          have HB5 := Lib.hid (HB.out.trans (hb5.mono hz))
          have hz5 : wr.heap.size ≤ w5.heap.size := hb5.size
          have HFZ5 : Hid (∀ o, w5.frozen? ⟨g, o, none⟩ = false) := fun o => (hb5.frozen (p := ⟨g, o, none⟩) hgl).trans (HFZ.out o)
          clear hb5 HPT HB HFZ
          go_wp2_with fail
          refine (offPlane_any g 9 cap gX gY S.z _ _ _ _ (by omega) (by simp; omega) (HPT5.out.below ((Below.refl _ _).alloc (Nat.le_refl _) _) (by omega)) HP2.out.off).mono ?_
          rintro e w6 ⟨rfl, hb6⟩
          have hmf : (fun k => offW (gX k) (gY k) (S.z k) S.fit.A S.fit.B S.fit.C) = S.off := rfl
          rw [hmf]
          have hz6 : w5.heap.size + 1 ≤ w6.heap.size := by have := hb6.size; simpa using this
          have hgl5 : g < w5.heap.size := by omega
          have HPT6 := Lib.hid ((HPT5.out.below ((Below.refl _ _).alloc (Nat.le_refl w5.heap.size) (.cells #[.float .f32 S.fit.A, .float .f32 S.fit.B, .float .f32 S.fit.C] 29)) hgl5).below hb6 (by simp; omega))
          have HB6 := Lib.hid ((HB5.out.alloc (by omega) (.cells #[.float .f32 S.fit.A, .float .f32 S.fit.B, .float .f32 S.fit.C] 29)).trans (hb6.mono (by simp; omega)))
          have HFZ6 : Hid (∀ o, w6.frozen? ⟨g, o, none⟩ = false) := fun o => (hb6.frozen (p := ⟨g, o, none⟩) (by simp; omega)).trans (((Below.refl w5.heap.size w5).alloc (Nat.le_refl _) (.cells #[.float .f32 S.fit.A, .float .f32 S.fit.B, .float .f32 S.fit.C] 29)).frozen (p := ⟨g, o, none⟩) hgl5 |>.trans (HFZ5.out o))
          obtain ⟨_, f0, f1, f2⟩ := (Box.new w5 S.fit.A S.fit.B S.fit.C 29).below hb6
          obtain ⟨_, s0, s1, s2⟩ := HBS.out.below (HB6.out.mono (by simp))
          have hk2 := HP2.out.okc
          have hle2 := HP2.out.le
          obtain ⟨ga1, ga2, ga3, ga4⟩ := HP2.out.gapA
          obtain ⟨gb1, gb2, gb3, gb4⟩ := HP2.out.gapB
          have GA3 := Lib.hid ga3
          have GB3 := Lib.hid gb3
          clear ga3 gb3 hb6 HPT5 HB5 HFZ5
          have hr3 := (atI_nonneg (n := n') (D := D) (k := 3) (m := 9) (by omega)).1
          have hr3' := (atI_nonneg (n := n') (D := D) (k := 3) (m := 9) (by omega)).2
          have HWc6 := Lib.hid ((HWc.out.alloc HWc.out.size (.cells #[.float .f32 S.A, .float .f32 S.B, .float .f32 S.C] 29)).trans (HB6.out.mono (by omega)))
          obtain ⟨j, hj⟩ : ∃ j : Nat, atI n' D 3 9 = (j : Int) := ⟨(atI n' D 3 9).toNat, (Int.toNat_of_nonneg hr3).symm⟩
          have hj9 : j < 9 := by omega
          have hjt : (atI n' D 3 9).toNat = j := by omega
          have HADD2 : Hid (okf .add .f32 (S.z j) 1084227584 = true) := by
            show _ = true
            rw [← hjt]; exact HADD.out
          have HP3' : Hid (Part3 (raised S.z j)) := by
            show Part3 _
            rw [← hjt]; exact HP3.out
          have HJ := Lib.hid hj
          clear hj hjt HADD HP3 hr3 hr3'
          go_wp2_with (first
            | (go_at_call_of 11 (cvt FloatKind.f32 S.fit.A FloatKind.f64); (with_reducible refine (gap_any _ _ _ GA3.out).mono ?_); rintro e w' ⟨rfl, rfl⟩)
            | (go_at_call 11; (with_reducible refine (gap_any _ _ _ GB3.out).mono ?_); rintro e w' ⟨rfl, rfl⟩))
          refine (at_any A' n' c' D 3 9 _ (by omega) (by omega) (by omega) (by omega) (HDc.out _ HWc6.out)).mono ?_
          rintro e w' ⟨rfl, rfl⟩
          rw [HJ.out]
          have hadd := HADD2.out
          have hfz := HFZ6.out (j * 3 + 2)
          obtain ⟨_, _, hc2⟩ := HPT6.out j hj9
          have hsz6 := HWc6.out.size
          clear f0 f1 f2 s0 s1 s2 hk2 hle2 ga1 ga2 ga4 gb1 gb2 gb4 HP2 GA3 GB3
          have HPT7 : Hid (Pts (w6.setCell ⟨g, j * 3 + 2, none⟩ (.float .f32 (fop .add .f32 (S.z j) 1084227584))) g 9 gX gY (raised S.z j)) := Lib.hid (HPT6.out.raise j _ hj9)
          have HW7 := Lib.hid (HWc6.out.setCell (p := ⟨g, j * 3 + 2, none⟩) (by simp; omega) (.float .f32 (fop .add .f32 (S.z j) 1084227584)))
          have hgl7 : g < (w6.setCell ⟨g, j * 3 + 2, none⟩ (.float .f32 (fop .add .f32 (S.z j) 1084227584))).heap.size := by simp; omega
          go_wp2_with fail
          generalize w6.setCell ⟨g, j * 3 + 2, none⟩ (.float .f32 (fop .add .f32 (S.z j) 1084227584)) = w7 at *
          refine (at_any A' n' c' D 4 256 _ (by omega) (by omega) (by omega) (by omega) (HDc.out _ HW7.out)).mono ?_
          rintro e w' ⟨rfl, rfl⟩
          have hr4 := (atI_nonneg (n := n') (D := D) (k := 4) (m := 256) (by omega)).1
          have hr4' := (atI_nonneg (n := n') (D := D) (k := 4) (m := 256) (by omega)).2
          clear hadd hfz hc2
          generalize hZZ : raised S.z j = ZZ at *
          clear hZZ
          go_wp2_with fail
          refine (best_any g 9 cap gX gY ZZ 1048576000 _ 20 _ (by omega) (by omega) hgl7 hr4 (by omega) (by omega) (by omega) HPT7.out HP3'.out.best).mono ?_
          rintro e w8 ⟨hb8, hres⟩
          have hz8 : w7.heap.size ≤ w8.heap.size := hb8.size
          have hgl8 : g < w8.heap.size := by omega
          have HPT8 := Lib.hid (HPT7.out.below hb8 hgl7)
          have HW8 := Lib.hid (HW7.out.trans (hb8.mono (by have := HW7.out.size; omega)))
          clear hb8
          rcases hres with rfl | ⟨i, k, l, v, hi, hk, hl, hE, rfl, hown8⟩
          · go_wp2_with fail
            refine (nearPlane_any g 9 cap gX gY ZZ 0 0 0 1048576000 _ (by omega) (by simp; omega) (HPT8.out.below ((Below.refl _ _).alloc (Nat.le_refl _) _) hgl8) HP3'.out.zero).mono ?_
            rintro e w9 ⟨v9, rfl, hown9, hb9⟩
            have hmem := nearTo_mem (fun k => offW (gX k) (gY k) (ZZ k) 0 0 0) 1048576000 9
            have hL9 := nearTo_len (fun k => offW (gX k) (gY k) (ZZ k) 0 0 0) 1048576000 9
            generalize nearTo (fun k => offW (gX k) (gY k) (ZZ k) 0 0 0) 1048576000 9 = L at *
            obtain ⟨A9, c9, rfl, hints⟩ := ints_of_own hown9
            have hz9 : w8.heap.size + 1 ≤ w9.heap.size := by have := hb9.size; simpa using this
            have HPT9 := Lib.hid ((HPT8.out.below ((Below.refl w8.heap.size w8).alloc (Nat.le_refl _) (.cells #[.float .f32 0, .float .f32 0, .float .f32 0] 29)) hgl8).below hb9 (by simp; omega))
            have HW9 := Lib.hid ((HW8.out.alloc HW8.out.size (.cells #[.float .f32 0, .float .f32 0, .float .f32 0] 29)).trans (hb9.mono (by have := HW8.out.size; simp; omega)))
            have HIN := Lib.hid hints
            have HMEM := Lib.hid hmem
            clear hints hmem hown9 hb9
            go_wp2_with fail
            go_loopw [28, 29] (fun ix _ wr => ∃ k : Nat, k ≤ L.length ∧ ix = .int .i64 k ∧ Below w9.heap.size w9 wr) (fun ix _ _ => L.length - (intOf ix).toNat)
            case atStart => exact ⟨0, Nat.zero_le _, rfl, Below.refl _ _⟩
            case round =>
              obtain ⟨k, hk, rfl, hbel⟩ := hrel
              have HB := Lib.hid hbel
              clear hbel
              by_cases hlt : k < L.length
              · obtain ⟨g', rfl, _, hc⟩ := (HIN.out.below HB.out) k hlt
                obtain ⟨m, hm, hm9, _⟩ := HMEM.out _ (getD_mem hlt)
                simp only [hm] at hc
                obtain ⟨p0, p1, p2⟩ := (HPT9.out.below HB.out (by omega)) m hm9
                go_wp2_with fail
                go_quiet (fail)
                go_wp2
                go_roundw
                case rel => exact ⟨k + 1, by omega, by go_num, below_drewN (HB.out.alloc HB.out.size _) nq⟩
                case measure => simp [intOf]; omega
              · have hkl : k = L.length := by omega
                subst hkl
                go_wp2
                go_ret
                exact ⟨rfl, HW9.out.trans (HB.out.mono (by have := HW9.out.size; omega))⟩
          · obtain ⟨A8, c8, rfl, hints8⟩ := ints_of_own hown8
            have hoff := HP3'.out.best.off i k l hi hk hl hE
            have hsome := HP3'.out.some_ i k l hi hk hl hE
            have hrange := HP3'.out.range i k l hi hk hl hE
            have hlen := nearTo_len (fun m => offW (gX m) (gY m) (ZZ m) (plA (pt gX gY ZZ i) (pt gX gY ZZ k) (pt gX gY ZZ l)) (plB (pt gX gY ZZ i) (pt gX gY ZZ k) (pt gX gY ZZ l)) (plC (pt gX gY ZZ i) (pt gX gY ZZ k) (pt gX gY ZZ l))) 1048576000 9
            have hno : nearTo (fun m => offW (gX m) (gY m) (ZZ m) (plA (pt gX gY ZZ i) (pt gX gY ZZ k) (pt gX gY ZZ l)) (plB (pt gX gY ZZ i) (pt gX gY ZZ k) (pt gX gY ZZ l)) (plC (pt gX gY ZZ i) (pt gX gY ZZ k) (pt gX gY ZZ l))) 1048576000 9 = nearOf gX gY ZZ 9 1048576000 (pt gX gY ZZ i) (pt gX gY ZZ k) (pt gX gY ZZ l) := rfl
            rw [hno] at hlen
            generalize nearOf gX gY ZZ 9 1048576000 (pt gX gY ZZ i) (pt gX gY ZZ k) (pt gX gY ZZ l) = L at *
            generalize plA (pt gX gY ZZ i) (pt gX gY ZZ k) (pt gX gY ZZ l) = PA at *
            generalize plB (pt gX gY ZZ i) (pt gX gY ZZ k) (pt gX gY ZZ l) = PB at *
            generalize plC (pt gX gY ZZ i) (pt gX gY ZZ k) (pt gX gY ZZ l) = PC at *
            have HOFF := Lib.hid hoff
            have HRG := Lib.hid hrange
            have HI8 := Lib.hid hints8
            have hpos : 0 < L.length := by
              cases L with
              | nil => exact absurd rfl hsome
              | cons => simp
            clear hoff hrange hints8 hsome hown8 hE HP3'
            go_wp2_with fail
            refine (nearPlane_any g 9 cap gX gY ZZ PA PB PC 1048576000 _ (by omega) (by simp; omega) (HPT8.out.below ((Below.refl _ _).alloc (Nat.le_refl _) _) hgl8) HOFF.out).mono ?_
            rw [hno]
            rintro e w9 ⟨v9, rfl, hown9, hb9⟩
            obtain ⟨A9, c9, rfl, hints⟩ := ints_of_own hown9
            obtain ⟨g9, rfl, _, _⟩ := hints 0 hpos
            have hz9 : w8.heap.size + 1 ≤ w9.heap.size := by have := hb9.size; simpa using this
            have HPT9 := Lib.hid ((HPT8.out.below ((Below.refl w8.heap.size w8).alloc (Nat.le_refl _) (.cells #[.float .f32 PA, .float .f32 PB, .float .f32 PC] 29)) hgl8).below hb9 (by simp; omega))
            have HW9 := Lib.hid ((HW8.out.alloc HW8.out.size (.cells #[.float .f32 PA, .float .f32 PB, .float .f32 PC] 29)).trans (hb9.mono (by have := HW8.out.size; simp; omega)))
            have HIN8 := Lib.hid ((HI8.out.below ((Below.refl w8.heap.size w8).alloc (Nat.le_refl _) (.cells #[.float .f32 PA, .float .f32 PB, .float .f32 PC] 29))).below hb9)
            have HBX := Lib.hid ((Box.new w8 PA PB PC 29).below hb9)
            have HIN := Lib.hid hints
            clear hints hown9 hb9 HI8
            go_wp2_with fail
            refine (list_same (some ⟨g9, 0, none⟩) A8 L.length c9 c8 (fun k => L.getD k 0) _ (by omega) HIN.out HIN8.out).mono ?_
            rintro e wq ⟨rfl, hbq⟩
            have hzq := hbq.size
            have HPTq := Lib.hid (HPT9.out.below hbq (by omega))
            have HWq := Lib.hid (HW9.out.trans (hbq.mono (by have := HW9.out.size; omega)))
            have HINq := Lib.hid (HIN.out.below hbq)
            have HBXq := Lib.hid (HBX.out.below hbq)
            clear HPT9 HW9 HIN HIN8 HBX hbq
            have hl0 : ((L.length : Int) == 0) = false := by
              rw [beq_eq_false_iff_ne]; omega
            go_wp2_with fail
            try simp only [hl0]
            go_loopw [28, 29] (fun ix _ wr => ∃ k : Nat, k ≤ L.length ∧ ix = .int .i64 k ∧ Below wq.heap.size wq wr) (fun ix _ _ => L.length - (intOf ix).toNat)
            case atStart => exact ⟨0, Nat.zero_le _, rfl, Below.refl _ _⟩
            case round =>
              obtain ⟨y, hy, rfl, hbel⟩ := hrel
              have HB := Lib.hid hbel
              clear hbel
              by_cases hlt : y < L.length
              · obtain ⟨g', hg', _, hc⟩ := (HINq.out.below HB.out) y hlt
                injection hg' with hg'
                injection hg' with hg'
                subst hg'
                obtain ⟨m, hm, hm9, hh, ho1, ho2, ho3, hle⟩ := HRG.out _ (getD_mem hlt)
                simp only [hm] at hc
                have HH := Lib.hid hh
                have HG := Lib.hid ho3
                obtain ⟨p0, p1, p2⟩ := (HPTq.out.below HB.out (by omega)) m hm9
                obtain ⟨_, x0, x1, x2⟩ := (HBXq.out.below HB.out).alloc (.cells #[.float .f32 (gX m), .float .f32 (gY m), .float .f32 (ZZ m)] 26)
                obtain ⟨_, b0, b1, b2⟩ := Box.new wr (gX m) (gY m) (ZZ m) 26
                have HB' := Lib.hid (HB.out.alloc HB.out.size (.cells #[.float .f32 (gX m), .float .f32 (gY m), .float .f32 (ZZ m)] 26))
                clear hh ho3
                go_wp2_with fail
                clear hc p0 p1 p2 HB
                generalize wr.alloc (.cells #[.float .f32 (gX m), .float .f32 (gY m), .float .f32 (ZZ m)] 26) = W at *
                generalize wr.heap.size = gp at *
                have x0' := cell_regrown x0
                have x1' := cell_regrown x1
                have x2' := cell_regrown x2
                have b0' := cell_regrown b0
                have b1' := cell_regrown b1
                have b2' := cell_regrown b2
                refine wp_region_quiet_below (by kernel_rfl) (by kernel_rfl) ?_
                repeat (first
                  | go_big_quiet_step (((go_at_call 9; exact Calls.regrown_of (height_any _ _ _ _ _ _ HH.out))))
                  | go_big_quiet_step (((go_at_call 11; exact Calls.regrown_of (same_below (gap_any _ _ _ HG.out))))))
                refine wpQuiet_nil ?_
                intro _ hw'
                obtain ⟨p, rfl⟩ := hw'
                have HB2 := Lib.hid (HB'.out.trans ((below_regrown W p.d p.os).mono HB'.out.size))
                go_wp2
                go_roundw
                case rel => exact ⟨y + 1, by omega, by go_num, HB2.out⟩
                case measure => simp [intOf]; omega
              · have hkl : y = L.length := by omega
                subst hkl
                go_wp2
                go_ret
                exact ⟨rfl, HWq.out.trans (HB.out.mono (by have := HWq.out.size; omega))⟩
end Go.Proofs.Ytjegonmedaiccaa
