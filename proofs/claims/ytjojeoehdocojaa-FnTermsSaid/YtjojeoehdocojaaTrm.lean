/-
  The walk of the law FnTerms.
-/
import Derived.Test.YtjojeoehdocojaaConv
import Derived.Test.YtjojeoehdocojaaSides
import Derived.Test.YtjojeoehdocojaaDrawA
import Derived.Test.YtjojeoehdocojaaCmp
import Derived.Deep.RegionWith
namespace Go.Proofs.Ytjojeoehdocojaa
open Go.RowKit

theorem cmpR_neg {a b c d : Int} (h1 : validR a b = true) (h2 : validR c d = true) (h : a * d - c * b < 0) : cmpR a b c d = -1 := by
  unfold cmpR cmpI; rw [both_tt h1 h2, if_pos rfl, if_pos (by omega)]
theorem cmpR_pos {a b c d : Int} (h1 : validR a b = true) (h2 : validR c d = true) (h : 0 < a * d - c * b) : cmpR a b c d = 1 := by
  unfold cmpR cmpI; rw [both_tt h1 h2, if_pos rfl, if_neg (by omega), if_pos (by omega)]
theorem convs_get {L : List Int} {n i : Nat} (h : i < n) : (convs L n).getD i (0, 0) = ((rtR (L.take (i + 1))).1, (rtR (L.take (i + 1))).2.1) := by
  unfold convs
  simp [List.getD_eq_getElem?_getD, h]
set_option maxHeartbeats 2000000 in
set_option maxRecDepth 100000 in
theorem walk_FnTerms (a0 : Option Addr) (len0 cap0 : Nat) (z0 : List Int) (w : World) (h0 : IsRow .u8 w a0 len0 cap0 z0) :
    Calls Try.prog 6 #[.slice a0 len0 cap0] w fun e w' => e = .returned (.bool true) ∧ Below w.heap.size w w' := by
  obtain ⟨b0, m0⟩ := row_bytes h0
  clear h0
  have H0 := hide b0
  clear b0
  cases hl : longB len0 0
  · have hlen : len0 ≤ 3000 := by
      unfold longB at hl
      simp only [Bool.or_eq_false_iff, decide_eq_false_iff_not] at hl
      omega
    have HL := hide hl
    clear hl
    go_enter Try.func6, Try.ntmps6
    go_wp2_with fail
    refine (a2Long_any _ _ _ _ _ _ _ m0 (Nat.zero_le _)).mono ?_
    rintro e w' ⟨rfl, rfl⟩
    rw [HL.out]
    go_wp2_with fail
    refine (a2Ratios_any a0 len0 cap0 _ H0.out (by omega)).mono ?_
    rintro e w1 ⟨a, b, a', b', rfl, hv, _, hb1⟩
    obtain ⟨v1, v2⟩ := validR_bd' hv
    have HV := hide hv
    have K0 := hide (pair_cells (w := w1) (.int .i64 a) (.int .i64 b) (.int .i64 a') (.int .i64 b') 27 27)
    have B1 := hide (balloc (balloc hb1 (.cells #[.int .i64 a, .int .i64 b] 27)) (.cells #[.int .i64 a', .int .i64 b'] 27))
    have hcl := cf_len a b
    have hpos : 0 < (cf a b).length := by rw [cf_pos (show 0 < b by omega)]; simp
    have HT := hide (by have h := cf_tail a b (by omega) (cf a b).length hpos (Nat.le_refl _); rwa [List.take_length] at h)
    have HIN := hide (cf_in a b v1 v2.2)
    have HRT := hide (rtR_cf hv)
    have HCV := hide (show convL a b = convs (cf a b) (cf a b).length by unfold convL; rw [hv]; rfl)
    have ht1 : termsL a b = cf a b := by unfold termsL; rw [hv]; rfl
    have ht2 : termsC a b = 0 := by unfold termsC; rw [hv]; rfl
    have HTA := fun w => implTermsOf_any a b w
    have HCA := fun w => implConvergentsOf_any a b w
    rw [ht1, ht2] at HTA
    rw [ht2, HCV.out] at HCA
    have hcv : (convs (cf a b) (cf a b).length).length = (cf a b).length := convs_len _ _
    rw [hcv] at HCA
    obtain ⟨L, hLL⟩ : ∃ L, L = cf a b := ⟨_, rfl⟩
    rw [← hLL] at hcl hpos HT HIN HRT HTA HCA
    obtain ⟨n, hn⟩ : ∃ n, n = L.length := ⟨_, rfl⟩
    have HN := hide hn
    have HSD := hide (fun i (hi : i < n) => by have h := conv_at i a b v1 v2 (by rw [← hLL]; omega); rw [← hLL, ← hn] at h; exact h)
    rw [← hn] at hcl hpos HTA HCA
    have HTAA := hide HTA
    have HCAA := hide HCA
    have hn2 : n ≤ 1000000000 := by omega
    clear hv hb1 ht1 ht2 HTA HCA hcv hLL hn HCV
    go_wp2_with fail
    refine (HTAA.out _).mono ?_
    rintro e w2 ⟨ao, cap, rfl, o2, hb2⟩
    have K1 := hide (K0.out.1.below hb2)
    have B2 := hide (bstep B1.out hb2)
    obtain ⟨hx0, hc1, hc2, g2, rfl⟩ := o2.cap (by have := HN.out; omega)
    have R2 := hide o2.reads
    have HRC := hide (fun w' (hr : ReadsI w' (some ⟨g2, 0, none⟩) L) => by
      have h := implConvRT _ L cap w' hr HT.out (by have := HN.out; omega) ⟨hc1, hc2⟩ (fun j hj => by have := HIN.out _ (getD_mem L j hj); omega)
      rw [HRT.out, ← HN.out] at h
      exact (show codeOf true = 0 from rfl) ▸ h)
    clear o2 hb2 hc1 hc2 hx0
    go_wp2_with fail
    refine (HRC.out _ R2.out).mono ?_
    rintro e w3 ⟨rfl, hb3⟩
    have K2 := hide ((K1.out.below hb3).alloc (.cells #[.int .i64 a, .int .i64 b] 27))
    have BK := hide (cell2_new (w := w3) (u := .int .i64 a) (v := .int .i64 b) 27)
    have B3 := hide (balloc (bstep B2.out hb3) (.cells #[.int .i64 a, .int .i64 b] 27))
    have hlt : w1.heap.size < w3.heap.size := (K1.out.below hb3).lt
    obtain ⟨k0, k1, k2, k3⟩ := K1.out.below hb3
    clear hb3
    go_wp2_with fail
    refine (HCAA.out _).mono ?_
    rintro e w4 ⟨ao4, cap4, rfl, o4, hb4⟩
    have K3 := hide (K2.out.below hb4)
    have BK2 := hide (BK.out.below hb4)
    have B4 := hide (bstep B3.out hb4)
    have R4 := hide o4.reads
    obtain ⟨g, hg⟩ : ∃ g, g = w1.heap.size := ⟨_, rfl⟩
    rw [← hg] at K3 ⊢
    clear o4 hb4 k0 k1 k2 k3 hg hlt
    obtain ⟨b5, off5, rfl, hl5, hc5⟩ := R4.out (by rw [convs_len]; exact hpos)
    rw [convs_len] at hc5
    have HC5 := hide hc5
    obtain ⟨q0, q1⟩ := hc5 (n - 1) (by omega)
    rw [convs_get (by omega)] at q0 q1
    have hnn : n - 1 + 1 = n := by omega
    rw [hnn] at q0 q1
    have htk : L.take n = L := by rw [HN.out, List.take_length]
    rw [htk, HRT.out] at q0 q1
    simp only at q0 q1
    obtain ⟨k0, k1, k2, k3⟩ := K3.out
    obtain ⟨k4, k5, k6, k7⟩ := BK2.out
    have i1 : (0 : Int) ≤ (n : Int) - 1 := by omega
    have i2 : (n : Int) - 1 < (n : Int) := by omega
    have i3 : ((n : Int) - 1).toNat = n - 1 := by omega
    clear hc5 hnn htk
    go_wp2_with fail
    have j1 : ((n : Int) != (n : Int)) = false := by simp
    have j2 : decide ((n : Int) < 1) = false := by simp; omega
    have j3 : (a != a) = false := by simp
    have j4 : IntKind.i64.wrap ((n : Int) - 1) = (n : Int) - 1 := IntWalk.i64_in _ (by omega)
    go_quiet (fail)
    clear j1 j2 j3 j4
    clear k0 k1 k2 k3 k4 k5 k6 k7 q0 q1 i1 i2 i3
    go_wp2_with fail
    go_loopw [11, 12] (fun s11 _ wr => ∃ i : Nat, i < n ∧ s11 = .int .i64 (i : Int) ∧ Cell2 wr g (.int .i64 a) (.int .i64 b) ∧ ReadsP wr (some ⟨b5, off5, none⟩) (convs L n) ∧ Below w.heap.size w wr) (fun s11 _ _ => n - (intOf s11).toNat)
    case atStart => exact ⟨0, hpos, rfl, K3.out.below (bdrewN (Below.refl _ _) _), R4.out.below (bdrewN (Below.refl _ _) _), bdrewN B4.out _⟩
    case round =>
      obtain ⟨i, hi, rfl, c1, hr, hbel⟩ := hrel
      have J1 := hide c1
      have JR := hide hr
      have JB := hide hbel
      by_cases hlt : i + 1 < n
      · obtain ⟨m, e, g1, g2', g3, g4, g5, g6⟩ := HSD.out i hi
        have hsd := g5 hlt
        obtain ⟨b6, off6, heq, _, hc6⟩ := hr (by rw [convs_len]; omega)
        cases heq
        rw [convs_len] at hc6
        obtain ⟨r0, r1⟩ := hc6 i hi
        rw [convs_get hi, g1] at r0 r1
        simp only at r0 r1
        obtain ⟨k0, k1, k2, k3⟩ := c1
        have i1 : (0 : Int) ≤ (i : Int) := by omega
        have i2 : (i : Int) < (n : Int) := by omega
        rcases Nat.mod_two_eq_zero_or_one i with hpar | hpar
        · have hcm : cmpR m e a b = -1 := by
            unfold sideOk at hsd
            rw [if_pos hpar] at hsd
            exact cmpR_neg g2' HV.out (by rw [show m * b - a * e = m * b - a * e from rfl]; exact hsd)
          have HCM := hide (fun w => by have h := specCompareRatio_any m e a b w; rwa [hcm] at h)
          have p0 : ((i : Int) % 2 == 0) = true := by simp; omega
          have p1 : ((i : Int) % 2 == 1) = false := by simp; omega
          clear hr hbel hc6 g1 g2' g3 g4 g5 g6 hsd hcm hpar
          go_wp2_with fail
          go_region_with ((refine (HCM.out _).mono ?_; rintro e w' ⟨rfl, hb⟩; have J2 := hide ((J1.out.below (Below.refl _ _).drew).below hb); have JR2 := hide ((JR.out.below (Below.refl _ _).drew).below hb); have JB2 := hide (bstep JB.out.drew hb); clear hb))
          all_goals
            go_wp2_with fail
            go_roundw
            case rel => exact ⟨i + 1, hlt, by go_num, J2.out, JR2.out, JB2.out⟩
            case measure => simp only [intOf]; omega
        · have hcm : cmpR m e a b = 1 := by
            unfold sideOk at hsd
            rw [if_neg (by omega)] at hsd
            exact cmpR_pos g2' HV.out hsd
          have HCM := hide (fun w => by have h := specCompareRatio_any m e a b w; rwa [hcm] at h)
          have p0 : ((i : Int) % 2 == 0) = false := by simp; omega
          have p1 : ((i : Int) % 2 == 1) = true := by simp; omega
          clear hr hbel hc6 g1 g2' g3 g4 g5 g6 hsd hcm hpar
          go_wp2_with fail
          go_region_with ((refine (HCM.out _).mono ?_; rintro e w' ⟨rfl, hb⟩; have J2 := hide ((J1.out.below (Below.refl _ _).drew).below hb); have JR2 := hide ((JR.out.below (Below.refl _ _).drew).below hb); have JB2 := hide (bstep JB.out.drew hb); clear hb))
          all_goals
            go_wp2_with fail
            go_roundw
            case rel => exact ⟨i + 1, hlt, by go_num, J2.out, JR2.out, JB2.out⟩
            case measure => simp only [intOf]; omega
      · clear c1 hr hbel
        go_wp2_with fail
        go_ret
        exact ⟨rfl, JB.out⟩
  · have HL := hide hl
    clear hl
    go_enter Try.func6, Try.ntmps6
    go_wp2_with fail
    refine (a2Long_any _ _ _ _ _ _ _ m0 (Nat.zero_le _)).mono ?_
    rintro e w' ⟨rfl, rfl⟩
    rw [HL.out]
    go_wp2_with fail
    go_ret
    exact ⟨rfl, Below.refl _ _⟩
end Go.Proofs.Ytjojeoehdocojaa
