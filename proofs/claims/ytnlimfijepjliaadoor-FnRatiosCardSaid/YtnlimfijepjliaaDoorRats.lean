/-
  FnRatios: the walk of the law.
-/
import Derived.Test.YtnlimfijepjliaaDoorRatZ
import Derived.Test.YtnlimfijepjliaaDoorRatQ
import Derived.Test.YtnlimfijepjliaaDoorRdI
import Derived.Test.YtnlimfijepjliaaDoorDrawA
import Derived.Test.YtnlimfijepjliaaDoorCmp
namespace Go.Proofs.YtnlimfijepjliaaDoor
open Go.RowKit

theorem cmpR_lt' {a b c d : Int} (h1 : validR a b = true) (h2 : validR c d = true) (h : a * d < c * b) : cmpR a b c d = -1 := by
  unfold cmpR cmpI; rw [both_tt h1 h2, if_pos rfl, if_pos h]
theorem cmpR_gt' {a b c d : Int} (h1 : validR a b = true) (h2 : validR c d = true) (h : c * b < a * d) : cmpR a b c d = 1 := by
  unfold cmpR cmpI; rw [both_tt h1 h2, if_pos rfl, if_neg (by omega), if_pos h]
theorem cmpR_eq' {a b c d : Int} (h1 : validR a b = true) (h2 : validR c d = true) (h : a * d = c * b) : cmpR a b c d = 0 := by
  unfold cmpR cmpI; rw [both_tt h1 h2, if_pos rfl, if_neg (by omega), if_neg (by omega)]
/-- What stays through the law: the two ratios. -/
def KeepR (w : World) (g : Nat) (a b c d : Int) (wx : World) : Prop := Cell2 wx g (.int .i64 a) (.int .i64 b) ∧ Cell2 wx (g + 1) (.int .i64 c) (.int .i64 d) ∧ Below w.heap.size w wx
theorem KeepR.below {w wx wy : World} {g : Nat} {a b c d : Int} (h : KeepR w g a b c d wx) (hb : Below wx.heap.size wx wy) : KeepR w g a b c d wy := ⟨h.1.below hb, h.2.1.below hb, bstep h.2.2 hb⟩
set_option maxHeartbeats 8000000 in
set_option maxRecDepth 100000 in
theorem walk_FnRatios (a0 : Option Addr) (len0 cap0 : Nat) (z0 : List Int) (w : World) (h0 : IsRow .u8 w a0 len0 cap0 z0) (hL : laidMetH Tryd.prog Rows.fnRatiosRow.laid w) (hS : w.ShapedOpen Tryd.prog) :
    Calls Tryd.prog 10 #[.slice a0 len0 cap0] w fun e w' => e = .returned (.bool true) ∧ Below w.heap.size w w' := by
  obtain ⟨b0, m0⟩ := row_bytes h0
  have h : laidMet Tryd.prog Rows.fnRatiosRow.laid w := by rwa [Go.MakeChecks.laidMetH_plain _ _ _ (by kernel_rfl)] at hL
  have HT := hide (show TabB w from tab_head h.tail.tail)
  have HE := hide (show ErrB w from errB_head h.tail.tail.tail)
  have HX := hide (maxB_of hS)
  clear h0 h hL hS
  have H0 := hide b0
  clear b0
  cases hl : longB len0 0
  · have hlen : len0 ≤ 3000 := by
      unfold longB at hl
      simp only [Bool.or_eq_false_iff, decide_eq_false_iff_not] at hl
      omega
    have HL := hide hl
    clear hl
    go_enter Tryd.func10, Tryd.ntmps10
    go_wp2_with fail
    refine (a2Long_any _ _ _ _ _ _ _ m0 (Nat.zero_le _)).mono ?_
    rintro e w' ⟨rfl, rfl⟩
    rw [HL.out]
    go_wp2_with fail
    refine (a2Ratios_any a0 len0 cap0 _ H0.out (by omega)).mono ?_
    rintro e w1 ⟨a, b, c, d, rfl, hv1, hv2, hb1⟩
    have HV1 := hide hv1
    have HV2 := hide hv2
    obtain ⟨v1, v2, _⟩ := validR_true hv1
    obtain ⟨v3, v4, _⟩ := validR_true hv2
    have hK0 : KeepR w w1.heap.size a b c d ((w1.alloc (.cells #[.int .i64 a, .int .i64 b] 27)).alloc (.cells #[.int .i64 c, .int .i64 d] 27)) :=
      ⟨(pair_cells (w := w1) (.int .i64 a) (.int .i64 b) (.int .i64 c) (.int .i64 d) 27 27).1, (pair_cells (w := w1) (.int .i64 a) (.int .i64 b) (.int .i64 c) (.int .i64 d) 27 27).2, balloc (balloc hb1 _) _⟩
    have K0 := hide hK0
    have hw1 : w.heap.size ≤ w1.heap.size := hb1.size
    clear hv1 hv2 hb1 hK0
    have CA := hide (fun w => implAddRatio_any a b c d w)
    have CM := hide (fun w => implMulRatio_any a b c d w)
    have CK := hide (fun w => implCompareRatio_any a b c d w)
    have CK2 := hide (fun w => implCompareRatio_any c d a b w)
    have CB := hide (fun w => implSubRatio_any a b c d w)
    go_wp2_with fail
    refine (CA.out _).mono ?_
    rintro e w2 ⟨rfl, hb2⟩
    have HAB := hide (fun (hc : addC a b c d = 0) => add_back HV1.out HV2.out hc)
    obtain ⟨xn, hxn⟩ : ∃ xn, xn = addN a b c d := ⟨_, rfl⟩
    obtain ⟨xd, hxd⟩ : ∃ xd, xd = addD a b c d := ⟨_, rfl⟩
    obtain ⟨xc, hxc⟩ : ∃ xc, xc = addC a b c d := ⟨_, rfl⟩
    rw [← hxn, ← hxd, ← hxc] at HAB ⊢
    clear hxn hxd hxc
    obtain ⟨g, hg⟩ : ∃ g, g = w1.heap.size := ⟨_, rfl⟩
    have K2 := hide (show KeepR w g a b c d (w2.alloc (.cells #[.int .i64 xn, .int .i64 xd] 27)) by rw [hg]; exact (K0.out.below hb2).below (balloc (Below.refl _ _) _))
    have X2 := hide (cell2_new (w := w2) (u := .int .i64 xn) (v := .int .i64 xd) 27)
    have hg2 : g + 1 < w2.heap.size := by rw [hg]; exact (K0.out.2.1.below hb2).lt
    rw [← hg] at hw1
    clear hb2 K0
    go_upto_if 32 with fail
    rw [← hg]
    clear hg
    obtain ⟨w3, hw3⟩ : ∃ w3, w3 = w2.alloc (.cells #[.int .i64 xn, .int .i64 xd] 27) := ⟨_, rfl⟩
    obtain ⟨gx, hgx⟩ : ∃ gx, gx = w2.heap.size := ⟨_, rfl⟩
    rw [← hw3] at K2 X2
    rw [← hgx] at X2 hg2
    rw [← hw3, ← hgx]
    have n1 : ¬ gx = g := by omega
    have n2 : ¬ gx = g + 1 := by omega
    have hgx2 : w.heap.size ≤ gx := by omega
    clear hw3 hgx
    go_cut [3, 4, 5] (fun s3 s4 s5 wx => s3 = .pointer (some ⟨g, 0, none⟩) ∧ s4 = .pointer (some ⟨g + 1, 0, none⟩) ∧ s5 = .pointer (some ⟨gx, 0, none⟩) ∧ KeepR w g a b c d wx ∧ ∃ u v, Cell2 wx gx u v)
    case first =>
      by_cases hc1 : xc = 0
      · obtain ⟨e1, e2, e3⟩ := HAB.out hc1
        have CS := hide (fun w => implSubRatio_any xn xd c d w)
        rw [e1, e2, e3] at CS
        obtain ⟨p0, p1, p2, p3⟩ := K2.out.1
        obtain ⟨q0, q1, q2, q3⟩ := K2.out.2.1
        obtain ⟨r0, r1, r2, r3⟩ := X2.out
        subst hc1
        clear e1 e2 e3
        go_wp2_with fail
        refine (CS.out _).mono ?_
        rintro e w4 ⟨rfl, hb4⟩
        have K4 := hide ((K2.out.below hb4).below (balloc (Below.refl _ _) (.cells #[.int .i64 a, .int .i64 b] 27)))
        have X4 := hide ((X2.out.below hb4).alloc (.cells #[.int .i64 a, .int .i64 b] 27))
        obtain ⟨y0, y1, y2, y3⟩ := cell2_new (w := w4) (u := .int .i64 a) (v := .int .i64 b) 27
        obtain ⟨p0, p1, p2, p3⟩ := K4.out.1
        clear hb4
        go_wp2_with fail
        go_meet
        exact ⟨rfl, rfl, rfl, K4.out, _, _, X4.out⟩
      · have hz : (xc == 0) = false := by simpa using hc1
        go_wp2_with fail
        go_meet
        exact ⟨rfl, rfl, rfl, K2.out, _, _, X2.out⟩
    case rest =>
      obtain ⟨rfl, rfl, rfl, hk, u, v, hx⟩ := hcut
      have K3 := hide hk
      have X3 := hide hx
      obtain ⟨p0, p1, p2, p3⟩ := hk.1
      obtain ⟨q0, q1, q2, q3⟩ := hk.2.1
      clear hk hx HAB K2 X2
      go_wp2_with fail
      refine (CM.out _).mono ?_
      rintro e w4 ⟨rfl, hb4⟩
      have HMB := hide (fun (hc0 : c ≠ 0) (hc : mulC a b c d = 0) => mul_back HV1.out HV2.out hc0 hc)
      obtain ⟨yn, hyn⟩ : ∃ yn, yn = mulN a b c d := ⟨_, rfl⟩
      obtain ⟨yd, hyd⟩ : ∃ yd, yd = mulD a b c d := ⟨_, rfl⟩
      obtain ⟨yc, hyc⟩ : ∃ yc, yc = mulC a b c d := ⟨_, rfl⟩
      rw [← hyn, ← hyd, ← hyc] at HMB ⊢
      have K4 := hide (K3.out.below hb4)
      have X4 := hide (X3.out.below hb4)
      obtain ⟨r0, r1, r2, r3⟩ := X4.out
      clear hyn hyd hyc hb4 p0 p1 p2 p3 q0 q1 q2 q3
      obtain ⟨p0, p1, p2, p3⟩ := K4.out.1
      obtain ⟨q0, q1, q2, q3⟩ := K4.out.2.1
      have n3 : ¬ g = gx := fun e => n1 e.symm
      have n4 : ¬ g + 1 = gx := fun e => n2 e.symm
      go_upto_region 10 with fail
      obtain ⟨w5, hw5⟩ : ∃ w5, w5 = (w4.setCell ⟨gx, 0, none⟩ (.int .i64 yn)).setCell ⟨gx, 1, none⟩ (.int .i64 yd) := ⟨_, rfl⟩
      have K5 := hide (show KeepR w g a b c d w5 by rw [hw5]; exact ⟨K4.out.1.other n3 _ _, K4.out.2.1.other n4 _ _, bset (bset K4.out.2.2 hgx2 _) hgx2 _⟩)
      have X5 := hide (show Cell2 w5 gx (.int .i64 yn) (.int .i64 yd) by rw [hw5]; exact X4.out.set _ _)
      rw [← hw5]
      clear hw5 p0 p1 p2 p3 q0 q1 q2 q3 r0 r1 r2 r3 K3 X3 K4 X4
      obtain ⟨p0, p1, p2, p3⟩ := K5.out.1
      obtain ⟨q0, q1, q2, q3⟩ := K5.out.2.1
      obtain ⟨r0, r1, r2, r3⟩ := X5.out
      go_cut [3, 4, 5, 58] (fun s3 s4 s5 s58 wx => s3 = .pointer (some ⟨g, 0, none⟩) ∧ s4 = .pointer (some ⟨g + 1, 0, none⟩) ∧ s5 = .pointer (some ⟨gx, 0, none⟩) ∧ s58 = .bool (decide (yc = 0 ∧ c ≠ 0)) ∧ wx = w5)
      case first =>
        by_cases hc1 : yc = 0
        · subst hc1
          by_cases hc0 : c = 0
          · have hz0 : (c != 0) = false := by simpa using hc0
            have hz1 : (c == 0) = true := by simpa using hc0
            have hd : decide ((0 : Int) = 0 ∧ c ≠ 0) = false := decide_eq_false (fun h => h.2 hc0)
            clear hc0
            go_wp2_with fail
            go_meet
            exact ⟨rfl, rfl, rfl, by rw [hd], rfl⟩
          · have hz0 : (c != 0) = true := by simpa using hc0
            have hz1 : (c == 0) = false := by simpa using hc0
            have hd : decide ((0 : Int) = 0 ∧ c ≠ 0) = true := decide_eq_true ⟨rfl, hc0⟩
            clear hc0
            go_wp2_with fail
            go_meet
            exact ⟨rfl, rfl, rfl, by rw [hd], rfl⟩
        · have hz : (yc == 0) = false := by simpa using hc1
          have hd : decide (yc = 0 ∧ c ≠ 0) = false := decide_eq_false (fun h => hc1 h.1)
          clear hc1
          go_wp2_with fail
          go_meet
          exact ⟨rfl, rfl, rfl, by rw [hd], rfl⟩
      case rest =>
        obtain ⟨rfl, rfl, rfl, rfl, rfl⟩ := hcut
        go_upto_if 58 with fail
        go_cut [3, 4] (fun s3 s4 wx => s3 = .pointer (some ⟨g, 0, none⟩) ∧ s4 = .pointer (some ⟨g + 1, 0, none⟩) ∧ KeepR w g a b c d wx)
        case first =>
          by_cases hc1 : yc = 0 ∧ c ≠ 0
          · obtain ⟨hy, hc0⟩ := hc1
            obtain ⟨e1, e2, e3⟩ := HMB.out hc0 hy
            have CS := hide (fun w => implDivRatio_any yn yd c d w)
            rw [e1, e2, e3] at CS
            have hd : decide (yc = 0 ∧ c ≠ 0) = true := decide_eq_true ⟨hy, hc0⟩
            rw [hd]
            clear e1 e2 e3 hd hc0 hy
            go_wp2_with fail
            refine (CS.out _).mono ?_
            rintro e w6 ⟨rfl, hb6⟩
            have K6 := hide ((K5.out.below hb6).below (balloc (Below.refl _ _) (.cells #[.int .i64 a, .int .i64 b] 27)))
            obtain ⟨y0, y1, y2, y3⟩ := cell2_new (w := w6) (u := .int .i64 a) (v := .int .i64 b) 27
            obtain ⟨p0, p1, p2, p3⟩ := K6.out.1
            clear hb6
            go_wp2_with fail
            go_meet
            exact ⟨rfl, rfl, K6.out⟩
          · have hd : decide (yc = 0 ∧ c ≠ 0) = false := decide_eq_false hc1
            rw [hd]
            clear hd hc1
            go_wp2_with fail
            go_meet
            exact ⟨rfl, rfl, K5.out⟩
        case rest =>
          obtain ⟨rfl, rfl, hk⟩ := hcut
          have K7 := hide hk
          clear p0 p1 p2 p3 q0 q1 q2 q3 r0 r1 r2 r3 K5 X5 HMB
          obtain ⟨p0, p1, p2, p3⟩ := hk.1
          obtain ⟨q0, q1, q2, q3⟩ := hk.2.1
          clear hk
          have HSG := hide (fun (hc : subC a b c d = 0) => sub_sign HV1.out HV2.out hc)
          have HKK := hide (show (a * d < c * b → cmpR a b c d = -1) ∧ (a * d = c * b → cmpR a b c d = 0) ∧ (c * b < a * d → cmpR a b c d = 1) from ⟨fun h => cmpR_lt' HV1.out HV2.out h, fun h => cmpR_eq' HV1.out HV2.out h, fun h => cmpR_gt' HV1.out HV2.out h⟩)
          go_wp2_with fail
          refine (CK.out _).mono ?_
          rintro e w8 ⟨rfl, hb8⟩
          obtain ⟨kk, hkk⟩ : ∃ kk, kk = cmpR a b c d := ⟨_, rfl⟩
          rw [← hkk] at HKK ⊢
          have K8 := hide (K7.out.below hb8)
          clear hkk hb8 p0 p1 p2 p3 q0 q1 q2 q3
          obtain ⟨p0, p1, p2, p3⟩ := K8.out.1
          obtain ⟨q0, q1, q2, q3⟩ := K8.out.2.1
          go_wp2_with fail
          refine (CB.out _).mono ?_
          rintro e w9 ⟨rfl, hb9⟩
          obtain ⟨sn, hsn⟩ : ∃ sn, sn = subN a b c d := ⟨_, rfl⟩
          obtain ⟨sd, hsd⟩ : ∃ sd, sd = subD a b c d := ⟨_, rfl⟩
          obtain ⟨sc, hsc⟩ : ∃ sc, sc = subC a b c d := ⟨_, rfl⟩
          rw [← hsn, ← hsc] at HSG
          rw [← hsn, ← hsd, ← hsc]
          have K9 := hide ((K8.out.below hb9).below (balloc (Below.refl _ _) (.cells #[.int .i64 sn, .int .i64 sd] 27)))
          have S9 := hide (cell2_new (w := w9) (u := .int .i64 sn) (v := .int .i64 sd) 27)
          clear hsn hsd hsc hb9 p0 p1 p2 p3 q0 q1 q2 q3 K7 K8
          obtain ⟨p0, p1, p2, p3⟩ := K9.out.1
          obtain ⟨q0, q1, q2, q3⟩ := K9.out.2.1
          obtain ⟨t0, t1, t2, t3⟩ := S9.out
          go_upto_region 16 with fail
          go_cut [3, 4, 106] (fun s3 s4 s106 wx => s3 = .pointer (some ⟨g, 0, none⟩) ∧ s4 = .pointer (some ⟨g + 1, 0, none⟩) ∧ s106 = .bool false ∧ KeepR w g a b c d wx)
          case first =>
            rcases Int.lt_trichotomy (a * d) (c * b) with hlt | heq | hgt
            · skip
              by_cases hac : a = c
              · have hbd : ¬ b = d := fun e => by subst hac; subst e; omega
                have f1 : (a == c) = true := by simpa using hac
                have f2 : (b == d) = false := by simpa using hbd
                clear hac hbd
                have hkk : kk = -1 := HKK.out.1 hlt
                have CQ := hide (fun w => show Calls Tryd.prog 41 #[.agg #[.int .i64 c, .int .i64 d], .agg #[.int .i64 a, .int .i64 b]] w fun e w' => e = .returned (.int .i64 1) ∧ Below w.heap.size w w' from by
                  have h := CK2.out w
                  rw [cmpR_gt' HV2.out HV1.out hlt] at h
                  exact h)
                subst hkk
                by_cases hsc : sc = 0
                · have hd : decide (0 < sn) = false := decide_eq_false (fun h => by have := (HSG.out hsc).1 h; omega)
                  subst hsc
                  clear HSG
                  go_wp2_with fail
                  refine (CQ.out _).mono ?_
                  rintro e wA ⟨rfl, hbA⟩
                  have KA := hide (K9.out.below hbA)
                  obtain ⟨p0, p1, p2, p3⟩ := KA.out.1
                  obtain ⟨q0, q1, q2, q3⟩ := KA.out.2.1
                  clear hbA
                  go_wp2_with fail
                  go_meet
                  exact ⟨rfl, rfl, by simp, KA.out⟩
                · have hz : (sc == 0) = false := by simpa using hsc
                  clear hsc HSG
                  go_wp2_with fail
                  refine (CQ.out _).mono ?_
                  rintro e wA ⟨rfl, hbA⟩
                  have KA := hide (K9.out.below hbA)
                  obtain ⟨p0, p1, p2, p3⟩ := KA.out.1
                  obtain ⟨q0, q1, q2, q3⟩ := KA.out.2.1
                  clear hbA
                  go_wp2_with fail
                  go_meet
                  exact ⟨rfl, rfl, by simp, KA.out⟩
              · have f1 : (a == c) = false := by simpa using hac
                clear hac
                have hkk : kk = -1 := HKK.out.1 hlt
                have CQ := hide (fun w => show Calls Tryd.prog 41 #[.agg #[.int .i64 c, .int .i64 d], .agg #[.int .i64 a, .int .i64 b]] w fun e w' => e = .returned (.int .i64 1) ∧ Below w.heap.size w w' from by
                  have h := CK2.out w
                  rw [cmpR_gt' HV2.out HV1.out hlt] at h
                  exact h)
                subst hkk
                by_cases hsc : sc = 0
                · have hd : decide (0 < sn) = false := decide_eq_false (fun h => by have := (HSG.out hsc).1 h; omega)
                  subst hsc
                  clear HSG
                  go_wp2_with fail
                  refine (CQ.out _).mono ?_
                  rintro e wA ⟨rfl, hbA⟩
                  have KA := hide (K9.out.below hbA)
                  obtain ⟨p0, p1, p2, p3⟩ := KA.out.1
                  obtain ⟨q0, q1, q2, q3⟩ := KA.out.2.1
                  clear hbA
                  go_wp2_with fail
                  go_meet
                  exact ⟨rfl, rfl, by simp, KA.out⟩
                · have hz : (sc == 0) = false := by simpa using hsc
                  clear hsc HSG
                  go_wp2_with fail
                  refine (CQ.out _).mono ?_
                  rintro e wA ⟨rfl, hbA⟩
                  have KA := hide (K9.out.below hbA)
                  obtain ⟨p0, p1, p2, p3⟩ := KA.out.1
                  obtain ⟨q0, q1, q2, q3⟩ := KA.out.2.1
                  clear hbA
                  go_wp2_with fail
                  go_meet
                  exact ⟨rfl, rfl, by simp, KA.out⟩
            · obtain ⟨x1, x2⟩ := eq_ratio HV1.out HV2.out heq
              have f1 : (a == c) = true := by simpa using x1
              have f2 : (b == d) = true := by simpa using x2
              clear x1 x2
              have hkk : kk = 0 := HKK.out.2.1 heq
              have CQ := hide (fun w => show Calls Tryd.prog 41 #[.agg #[.int .i64 c, .int .i64 d], .agg #[.int .i64 a, .int .i64 b]] w fun e w' => e = .returned (.int .i64 0) ∧ Below w.heap.size w w' from by
                have h := CK2.out w
                rw [cmpR_eq' HV2.out HV1.out heq.symm] at h
                exact h)
              subst hkk
              by_cases hsc : sc = 0
              · have hd : decide (0 < sn) = false := decide_eq_false (fun h => by have := (HSG.out hsc).1 h; omega)
                subst hsc
                clear HSG
                go_wp2_with fail
                refine (CQ.out _).mono ?_
                rintro e wA ⟨rfl, hbA⟩
                have KA := hide (K9.out.below hbA)
                obtain ⟨p0, p1, p2, p3⟩ := KA.out.1
                obtain ⟨q0, q1, q2, q3⟩ := KA.out.2.1
                clear hbA
                go_wp2_with fail
                go_meet
                exact ⟨rfl, rfl, by simp, KA.out⟩
              · have hz : (sc == 0) = false := by simpa using hsc
                clear hsc HSG
                go_wp2_with fail
                refine (CQ.out _).mono ?_
                rintro e wA ⟨rfl, hbA⟩
                have KA := hide (K9.out.below hbA)
                obtain ⟨p0, p1, p2, p3⟩ := KA.out.1
                obtain ⟨q0, q1, q2, q3⟩ := KA.out.2.1
                clear hbA
                go_wp2_with fail
                go_meet
                exact ⟨rfl, rfl, by simp, KA.out⟩
            · skip
              by_cases hac : a = c
              · have hbd : ¬ b = d := fun e => by subst hac; subst e; omega
                have f1 : (a == c) = true := by simpa using hac
                have f2 : (b == d) = false := by simpa using hbd
                clear hac hbd
                have hkk : kk = 1 := HKK.out.2.2 hgt
                have CQ := hide (fun w => show Calls Tryd.prog 41 #[.agg #[.int .i64 c, .int .i64 d], .agg #[.int .i64 a, .int .i64 b]] w fun e w' => e = .returned (.int .i64 (-1)) ∧ Below w.heap.size w w' from by
                  have h := CK2.out w
                  rw [cmpR_lt' HV2.out HV1.out hgt] at h
                  exact h)
                subst hkk
                by_cases hsc : sc = 0
                · have hd : decide (0 < sn) = true := decide_eq_true ((HSG.out hsc).2 hgt)
                  subst hsc
                  clear HSG
                  go_wp2_with fail
                  refine (CQ.out _).mono ?_
                  rintro e wA ⟨rfl, hbA⟩
                  have KA := hide (K9.out.below hbA)
                  obtain ⟨p0, p1, p2, p3⟩ := KA.out.1
                  obtain ⟨q0, q1, q2, q3⟩ := KA.out.2.1
                  clear hbA
                  go_wp2_with fail
                  go_meet
                  exact ⟨rfl, rfl, by simp, KA.out⟩
                · have hz : (sc == 0) = false := by simpa using hsc
                  clear hsc HSG
                  go_wp2_with fail
                  refine (CQ.out _).mono ?_
                  rintro e wA ⟨rfl, hbA⟩
                  have KA := hide (K9.out.below hbA)
                  obtain ⟨p0, p1, p2, p3⟩ := KA.out.1
                  obtain ⟨q0, q1, q2, q3⟩ := KA.out.2.1
                  clear hbA
                  go_wp2_with fail
                  go_meet
                  exact ⟨rfl, rfl, by simp, KA.out⟩
              · have f1 : (a == c) = false := by simpa using hac
                clear hac
                have hkk : kk = 1 := HKK.out.2.2 hgt
                have CQ := hide (fun w => show Calls Tryd.prog 41 #[.agg #[.int .i64 c, .int .i64 d], .agg #[.int .i64 a, .int .i64 b]] w fun e w' => e = .returned (.int .i64 (-1)) ∧ Below w.heap.size w w' from by
                  have h := CK2.out w
                  rw [cmpR_lt' HV2.out HV1.out hgt] at h
                  exact h)
                subst hkk
                by_cases hsc : sc = 0
                · have hd : decide (0 < sn) = true := decide_eq_true ((HSG.out hsc).2 hgt)
                  subst hsc
                  clear HSG
                  go_wp2_with fail
                  refine (CQ.out _).mono ?_
                  rintro e wA ⟨rfl, hbA⟩
                  have KA := hide (K9.out.below hbA)
                  obtain ⟨p0, p1, p2, p3⟩ := KA.out.1
                  obtain ⟨q0, q1, q2, q3⟩ := KA.out.2.1
                  clear hbA
                  go_wp2_with fail
                  go_meet
                  exact ⟨rfl, rfl, by simp, KA.out⟩
                · have hz : (sc == 0) = false := by simpa using hsc
                  clear hsc HSG
                  go_wp2_with fail
                  refine (CQ.out _).mono ?_
                  rintro e wA ⟨rfl, hbA⟩
                  have KA := hide (K9.out.below hbA)
                  obtain ⟨p0, p1, p2, p3⟩ := KA.out.1
                  obtain ⟨q0, q1, q2, q3⟩ := KA.out.2.1
                  clear hbA
                  go_wp2_with fail
                  go_meet
                  exact ⟨rfl, rfl, by simp, KA.out⟩
          case rest =>
            obtain ⟨rfl, rfl, rfl, hk⟩ := hcut
            have K10 := hide hk
            clear p0 p1 p2 p3 q0 q1 q2 q3 t0 t1 t2 t3 K9 S9 HKK HSG
            obtain ⟨p0, p1, p2, p3⟩ := hk.1
            clear hk
            have CT := hide (fun w (h : TabB w) => implRatioText_any a b w h)
            have hrb := rr_back HV1.out
            have hts := ratV_size HV1.out
            obtain ⟨T, hT⟩ : ∃ T, T = ratV a b := ⟨_, rfl⟩
            rw [← hT] at CT hrb hts
            have CR := hide (fun w (h1 : TabB w) (h2 : ErrB w) (h3 : MaxB w) => show Calls Tryd.prog 33 #[.string T] w fun e w' => e = .returned (.tuple #[.agg #[.int .i64 a, .int .i64 b], .bool true]) ∧ Below w.heap.size w w' from by
              have h := implReadRatio_any T w (by omega) h1 h2 h3
              rw [hrb] at h
              exact h)
            obtain ⟨m1, m2, m3⟩ := tri_back HV1.out
            have CMK := hide (fun w => show Calls Tryd.prog 42 #[.int .i64 (3 * a), .int .i64 (3 * b)] w fun e w' => e = .returned (.tuple #[.agg #[.int .i64 a, .int .i64 b], .int .i64 0]) ∧ Below w.heap.size w w' from by
              have h := implMakeRatio_any (3 * a) (3 * b) w (by omega) (by omega)
              rw [m1, m2, m3] at h
              exact h)
            have w3a : IntKind.i64.wrap (3 * a) = 3 * a := IntWalk.i64_in _ (by omega)
            have w3b : IntKind.i64.wrap (3 * b) = 3 * b := IntWalk.i64_in _ (by omega)
            clear hT hrb hts m1 m2 m3
            go_wp2_with fail
            refine (CT.out _ (HT.out.below K10.out.2.2)).mono ?_
            rintro e w11 ⟨rfl, hb11⟩
            have K11 := hide (K10.out.below hb11)
            clear hb11 p0 p1 p2 p3
            go_wp2_with fail
            refine (CR.out _ (HT.out.below K11.out.2.2) (HE.out.below K11.out.2.2) (HX.out.below K11.out.2.2)).mono ?_
            rintro e w12 ⟨rfl, hb12⟩
            have K12 := hide ((K11.out.below hb12).below (balloc (Below.refl _ _) (.cells #[.int .i64 a, .int .i64 b] 27)))
            have R12 := hide (cell2_new (w := w12) (u := .int .i64 a) (v := .int .i64 b) 27)
            obtain ⟨p0, p1, p2, p3⟩ := K12.out.1
            clear hb12
            go_wp2_with fail
            refine (CMK.out _).mono ?_
            rintro e w13 ⟨rfl, hb13⟩
            have K13 := hide ((K12.out.below hb13).below (balloc (Below.refl _ _) (.cells #[.int .i64 a, .int .i64 b] 27)))
            have R13 := hide ((R12.out.below hb13).alloc (.cells #[.int .i64 a, .int .i64 b] 27))
            have M13 := hide (cell2_new (w := w13) (u := .int .i64 a) (v := .int .i64 b) 27)
            clear hb13 p0 p1 p2 p3
            obtain ⟨p0, p1, p2, p3⟩ := K13.out.1
            obtain ⟨q0, q1, q2, q3⟩ := R13.out
            obtain ⟨t0, t1, t2, t3⟩ := M13.out
            go_wp2_with fail
            go_ret
            exact ⟨by simp, K13.out.2.2⟩
  · have HL := hide hl
    clear hl
    go_enter Tryd.func10, Tryd.ntmps10
    go_wp2_with fail
    refine (a2Long_any _ _ _ _ _ _ _ m0 (Nat.zero_le _)).mono ?_
    rintro e w' ⟨rfl, rfl⟩
    rw [HL.out]
    go_wp2_with fail
    go_ret
    exact ⟨rfl, Below.refl _ _⟩
end Go.Proofs.YtnlimfijepjliaaDoor
