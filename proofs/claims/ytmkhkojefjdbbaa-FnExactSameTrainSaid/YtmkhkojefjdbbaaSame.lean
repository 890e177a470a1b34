/-
  SameTrain: contracts and the walk of its law.
-/
import Derived.Test.YtmkhkojefjdbbaaTrainV
import Derived.BigQuiet
namespace Go.Proofs.Ytmkhkojefjdbbaa
open Go.RowKit

set_option maxHeartbeats 1000000 in
theorem l05Same_any (ao bo : Option Addr) (ps qs : List (Int × Int)) (ca cb : Nat) (w : World) (ha : ReadsP w ao ps) (hb : ReadsP w bo qs) (hn : ps.length ≤ 1048576) (hm : qs.length ≤ 1048576) :
    Calls Try.prog 60 #[.slice ao ps.length ca, .slice bo qs.length cb] w fun e w' => e = .returned (.bool (decide (ps = qs))) ∧ Below w.heap.size w w' := by
  obtain ⟨n, hn'⟩ : ∃ n, n = ps.length := ⟨_, rfl⟩
  obtain ⟨m, hm'⟩ : ∃ m, m = qs.length := ⟨_, rfl⟩
  rw [← hn'] at hn ⊢
  rw [← hm'] at hm ⊢
  by_cases hl : n = m
  · have HL := hide (show ps.length = qs.length by omega)
    have HN := hide hn'
    have hne : ((n : Int) != (m : Int)) = false := by simp; omega
    have hle : n ≤ m := by omega
    clear hn' hm' hl
    have HA := hide ha
    have HB := hide hb
    clear ha hb
    go_enter Try.func60, Try.ntmps60
    go_wp2
    have HNE := hide hne
    clear hne
    go_loopw [5] (fun i wr => ∃ k : Nat, k ≤ n ∧ (∀ j, j < k → ps.getD j (0, 0) = qs.getD j (0, 0)) ∧ i = .int .i64 k ∧ Below w.heap.size w wr) (fun i _ => n - (intOf i).toNat)
    case atStart => exact ⟨0, by omega, by omega, rfl, Below.refl _ _⟩
    case round =>
      obtain ⟨k, hk, hall, rfl, hbel⟩ := hrel
      have HAL := hide hall
      have HBL := hide hbel
      clear hall
      by_cases hlt : k < n
      · obtain ⟨b1, off1, rfl, _, hc1⟩ := (HA.out.below hbel) (by have := HN.out; omega)
        obtain ⟨b2, off2, rfl, _, hc2⟩ := (HB.out.below hbel) (by have := HN.out; have := HL.out; omega)
        obtain ⟨q1, q2⟩ := hc1 k (by have := HN.out; omega)
        obtain ⟨q3, q4⟩ := hc2 k (by have := HN.out; have := HL.out; omega)
        obtain ⟨x, hx⟩ : ∃ x, x = ps.getD k (0, 0) := ⟨_, rfl⟩
        obtain ⟨y, hy⟩ : ∃ y, y = qs.getD k (0, 0) := ⟨_, rfl⟩
        rw [← hx] at q1 q2
        rw [← hy] at q3 q4
        have HX := hide hx
        have HY := hide hy
        obtain ⟨x1, x2⟩ := x
        obtain ⟨y1, y2⟩ := y
        simp only at q1 q2 q3 q4
        clear hx hy hc1 hc2 HA HB hbel
        have i0 : (0 : Int) ≤ (k : Int) := by omega
        have i1 : (k : Int) < (n : Int) := by omega
        have i2 : (k : Int) < (m : Int) := by omega
        by_cases hx1 : x1 = y1
        · subst hx1
          by_cases hx2 : x2 = y2
          · subst hx2
            go_wp2_with fail
            go_quiet (fail)
            go_wp2_with fail
            go_roundw
            case rel =>
              refine ⟨k + 1, by omega, fun j hj => ?_, by go_num, bdrewN HBL.out _⟩
              rcases Nat.lt_succ_iff_lt_or_eq.1 hj with h1 | rfl
              · exact HAL.out j h1
              · rw [← HX.out, ← HY.out]
            case measure => simp [intOf]; omega
          · have hd : (x2 == y2) = false := by simpa using hx2
            have HXY := hide hx2
            clear hx2
            go_wp2_with fail
            go_quiet (fail)
            go_wp2_with fail
            go_ret
            exact ⟨ret_bool (decide_eq_false (fun e => HXY.out (by have := HX.out; rw [e, ← HY.out] at this; exact (Prod.mk.inj this).2))).symm, bdrewN HBL.out _⟩
        · have hd : (x1 == y1) = false := by simpa using hx1
          have HXY := hide hx1
          clear hx1
          go_wp2_with fail
          go_quiet (fail)
          go_wp2_with fail
          go_ret
          exact ⟨ret_bool (decide_eq_false (fun e => HXY.out (by have := HX.out; rw [e, ← HY.out] at this; exact (Prod.mk.inj this).1))).symm, bdrewN HBL.out _⟩
      · go_wp2
        go_ret
        refine ⟨ret_bool (decide_eq_true ?_).symm, HBL.out⟩
        apply List.ext_getElem HL.out
        intro j h1 h2
        have := HAL.out j (by have := HN.out; omega)
        simpa [List.getD_eq_getElem?_getD, List.getElem?_eq_getElem h1, List.getElem?_eq_getElem h2] using this
  · have hne : ((n : Int) != (m : Int)) = true := by simp; omega
    have HL := hide (show ps.length ≠ qs.length by omega)
    clear hl hn' hm' ha hb
    go_enter Try.func60, Try.ntmps60
    go_wp2
    go_ret
    exact ⟨ret_bool (decide_eq_false (fun e => HL.out (by rw [e]))).symm, Below.refl _ _⟩
set_option maxHeartbeats 1000000 in
theorem slicesEqual_any (ao bo : Option Addr) (ps qs : List (Int × Int)) (ca cb : Nat) (w : World) (ha : ReadsP w ao ps) (hb : ReadsP w bo qs) (hn : ps.length ≤ 1048576) (hm : qs.length ≤ 1048576) :
    Calls Try.prog 61 #[.slice ao ps.length ca, .slice bo qs.length cb] w fun e w' => e = .returned (.bool (decide (ps = qs))) ∧ Below w.heap.size w w' := by
  obtain ⟨n, hn'⟩ : ∃ n, n = ps.length := ⟨_, rfl⟩
  obtain ⟨m, hm'⟩ : ∃ m, m = qs.length := ⟨_, rfl⟩
  rw [← hn'] at hn ⊢
  rw [← hm'] at hm ⊢
  by_cases hl : n = m
  · have HL := hide (show ps.length = qs.length by omega)
    have HN := hide hn'
    have hne : ((n : Int) != (m : Int)) = false := by simp; omega
    have hle : n ≤ m := by omega
    clear hn' hm' hl
    have HA := hide ha
    have HB := hide hb
    clear ha hb
    go_enter Try.func61, Try.ntmps61
    go_wp2
    have HNE := hide hne
    clear hne
    go_loopw [5, 13] (fun _ i wr => ∃ k : Nat, k ≤ n ∧ (∀ j, j < k → ps.getD j (0, 0) = qs.getD j (0, 0)) ∧ i = .int .i64 k ∧ Below w.heap.size w wr) (fun _ i _ => n - (intOf i).toNat)
    case atStart => exact ⟨0, by omega, by omega, rfl, Below.refl _ _⟩
    case round =>
      obtain ⟨k, hk, hall, rfl, hbel⟩ := hrel
      have HAL := hide hall
      have HBL := hide hbel
      clear hall
      by_cases hlt : k < n
      · obtain ⟨b1, off1, rfl, _, hc1⟩ := (HA.out.below hbel) (by have := HN.out; omega)
        obtain ⟨b2, off2, rfl, _, hc2⟩ := (HB.out.below hbel) (by have := HN.out; have := HL.out; omega)
        obtain ⟨q1, q2⟩ := hc1 k (by have := HN.out; omega)
        obtain ⟨q3, q4⟩ := hc2 k (by have := HN.out; have := HL.out; omega)
        obtain ⟨x, hx⟩ : ∃ x, x = ps.getD k (0, 0) := ⟨_, rfl⟩
        obtain ⟨y, hy⟩ : ∃ y, y = qs.getD k (0, 0) := ⟨_, rfl⟩
        rw [← hx] at q1 q2
        rw [← hy] at q3 q4
        have HX := hide hx
        have HY := hide hy
        obtain ⟨x1, x2⟩ := x
        obtain ⟨y1, y2⟩ := y
        simp only at q1 q2 q3 q4
        clear hx hy hc1 hc2 HA HB hbel
        have i0 : (0 : Int) ≤ (k : Int) := by omega
        have i1 : (k : Int) < (n : Int) := by omega
        have i2 : (k : Int) < (m : Int) := by omega
        by_cases hx1 : x1 = y1
        · subst hx1
          by_cases hx2 : x2 = y2
          · subst hx2
            go_wp2_with fail
            go_quiet (fail)
            go_wp2_with fail
            go_roundw
            case rel =>
              refine ⟨k + 1, by omega, fun j hj => ?_, by go_num, bdrewN HBL.out _⟩
              rcases Nat.lt_succ_iff_lt_or_eq.1 hj with h1 | rfl
              · exact HAL.out j h1
              · rw [← HX.out, ← HY.out]
            case measure => simp [intOf]; omega
          · have hd : (x2 == y2) = false := by simpa using hx2
            have HXY := hide hx2
            clear hx2
            go_wp2_with fail
            go_quiet (fail)
            go_wp2_with fail
            go_ret
            exact ⟨ret_bool (decide_eq_false (fun e => HXY.out (by have := HX.out; rw [e, ← HY.out] at this; exact (Prod.mk.inj this).2))).symm, bdrewN HBL.out _⟩
        · have hd : (x1 == y1) = false := by simpa using hx1
          have HXY := hide hx1
          clear hx1
          go_wp2_with fail
          go_quiet (fail)
          go_wp2_with fail
          go_ret
          exact ⟨ret_bool (decide_eq_false (fun e => HXY.out (by have := HX.out; rw [e, ← HY.out] at this; exact (Prod.mk.inj this).1))).symm, bdrewN HBL.out _⟩
      · go_wp2
        go_ret
        refine ⟨ret_bool (decide_eq_true ?_).symm, HBL.out⟩
        apply List.ext_getElem HL.out
        intro j h1 h2
        have := HAL.out j (by have := HN.out; omega)
        simpa [List.getD_eq_getElem?_getD, List.getElem?_eq_getElem h1, List.getElem?_eq_getElem h2] using this
  · have hne : ((n : Int) != (m : Int)) = true := by simp; omega
    have HL := hide (show ps.length ≠ qs.length by omega)
    clear hl hn' hm' ha hb
    go_enter Try.func61, Try.ntmps61
    go_wp2
    go_ret
    exact ⟨ret_bool (decide_eq_false (fun e => HL.out (by rw [e]))).symm, Below.refl _ _⟩
theorem specSameTrain_any (ao bo : Option Addr) (ps qs : List (Int × Int)) (ca cb : Nat) (w : World) (ha : ReadsP w ao ps) (hb : ReadsP w bo qs) (hn : ps.length ≤ 1048576) (hm : qs.length ≤ 1048576) :
    Calls Try.prog 42 #[.slice ao ps.length ca, .slice bo qs.length cb] w fun e w' => e = .returned (.bool (decide (ps = qs))) ∧ Below w.heap.size w w' := by
  have H := hide (l05Same_any ao bo ps qs ca cb w ha hb hn hm)
  clear ha hb
  go_enter Try.func42, Try.ntmps42
  go_wp2_with fail
  refine H.out.mono ?_
  rintro e w1 ⟨rfl, hb1⟩
  go_wp2_with fail
  go_ret
  exact ⟨rfl, hb1⟩
theorem implSameTrain_any (ao bo : Option Addr) (ps qs : List (Int × Int)) (ca cb : Nat) (w : World) (ha : ReadsP w ao ps) (hb : ReadsP w bo qs) (hn : ps.length ≤ 1048576) (hm : qs.length ≤ 1048576) :
    Calls Try.prog 43 #[.slice ao ps.length ca, .slice bo qs.length cb] w fun e w' => e = .returned (.bool (decide (ps = qs))) ∧ Below w.heap.size w w' := by
  have H := hide (slicesEqual_any ao bo ps qs ca cb w ha hb hn hm)
  clear ha hb
  go_enter Try.func43, Try.ntmps43
  go_wp2_with fail
  refine H.out.mono ?_
  rintro e w1 ⟨rfl, hb1⟩
  go_wp2_with fail
  go_ret
  exact ⟨rfl, hb1⟩
theorem walk_FnExactSameTrain (a : Option Addr) (la ca : Nat) (ps : List (Int × Int)) (b : Option Addr) (lb cb : Nat) (qs : List (Int × Int)) (w : World) (h : IsPairs w a la ca ps) (h' : IsPairs w b lb cb qs) :
    Calls Try.prog 14 #[.slice a la ca, .slice b lb cb] w fun e w' => e = .returned (.bool true) ∧ Below w.heap.size w w' := by
  obtain ⟨rfl, hm, hr⟩ := h
  obtain ⟨rfl, hm', hr'⟩ := h'
  by_cases hl : ps.length ≤ 1048576
  · have hs : szP ps.length 1048576 = 1048576 - (ps.length : Int) := by unfold szP; rw [if_pos (by omega)]
    by_cases hl' : (qs.length : Int) ≤ 1048576 - (ps.length : Int)
    · have hs' : szP qs.length (1048576 - (ps.length : Int)) = 1048576 - (ps.length : Int) - (qs.length : Int) := by unfold szP; rw [if_pos (by omega)]
      have hq : qs.length ≤ 1048576 := by omega
      have hd1 := hide (decide_eq_true (rfl : ps = ps))
      have hd2 := hide (decide_eq_true (rfl : qs = qs))
      have HR := hide hr
      have HR' := hide hr'
      obtain ⟨sm, hsm⟩ : ∃ sm, sm = decide (ps = qs) := ⟨_, rfl⟩
      have HSM := hide hsm
      clear hr hr' hsm
      go_enter Try.func14, Try.ntmps14
      go_wp2_with fail
      refine (szPairS_any a ps.length ca 1048576 _ hm (by omega)).mono ?_
      rintro e w0 ⟨rfl, rfl⟩
      go_wp2_with fail
      refine (szPairS_any b qs.length cb _ _ hm' (by omega)).mono ?_
      rintro e w0 ⟨rfl, rfl⟩
      go_wp2_with fail
      refine (toPairS_any a ps ca _ HR.out hl).mono ?_
      rintro e w1 ⟨g1, rfl, o1, b1⟩
      go_wp2_with fail
      refine (toPairS_any b qs cb _ (HR'.out.below b1) hq).mono ?_
      rintro e w2 ⟨g2, rfl, o2, b2⟩
      have B2 := bstep b1 b2
      go_wp2_with fail
      refine (specSameTrain_any _ _ ps qs _ _ _ (o1.below b2).reads o2.reads hl hq).mono ?_
      rintro e w3 ⟨rfl, b3⟩
      have B3 := bstep B2 b3
      rw [← HSM.out]
      go_wp2_with fail
      refine (toPairS_any a ps ca _ (HR.out.below B3) hl).mono ?_
      rintro e w4 ⟨g4, rfl, o4, b4⟩
      have B4 := bstep B3 b4
      go_wp2_with fail
      refine (toPairS_any b qs cb _ (HR'.out.below B4) hq).mono ?_
      rintro e w5 ⟨g5, rfl, o5, b5⟩
      have B5 := bstep B4 b5
      have o45 := o4.below b5
      go_wp2_with fail
      refine (implSameTrain_any _ _ ps qs _ _ _ o45.reads o5.reads hl hq).mono ?_
      rintro e w6 ⟨rfl, b6⟩
      have B6 := bstep B5 b6
      have o46 := o45.below b6
      have o56 := o5.below b6
      rw [← HSM.out]
      go_wp2_with fail
      refine (toPairS_any a ps ca _ (HR.out.below B6) hl).mono ?_
      rintro e w7 ⟨g7, rfl, o7, b7⟩
      have B7 := bstep B6 b7
      have o47 := o46.below b7
      have o57 := o56.below b7
      go_wp2_with fail
      refine (eqPairS_any _ _ ps ps _ _ _ o47.reads o7.reads hl hl).mono ?_
      rintro e w8 ⟨rfl, b8⟩
      have B8 := bstep B7 b8
      have o58 := o57.below b8
      have hd := hd1.out
      go_wp2_with fail
      refine (toPairS_any b qs cb _ (HR'.out.below B8) hq).mono ?_
      rintro e w9 ⟨g9, rfl, o9, b9⟩
      have B9 := bstep B8 b9
      have o59 := o58.below b9
      go_wp2_with fail
      refine (eqPairS_any _ _ qs qs _ _ _ o59.reads o9.reads hq hq).mono ?_
      rintro e w10 ⟨rfl, b10⟩
      have hd' := hd2.out
      go_wp2_with fail
      go_ret
      exact ⟨rfl, bstep B9 b10⟩
    · have hs' : szP qs.length (1048576 - (ps.length : Int)) = -1 := by unfold szP; rw [if_neg (by omega)]
      go_enter Try.func14, Try.ntmps14
      go_wp2_with fail
      refine (szPairS_any a ps.length ca 1048576 _ hm (by omega)).mono ?_
      rintro e w0 ⟨rfl, rfl⟩
      go_wp2_with fail
      refine (szPairS_any b qs.length cb _ _ hm' (by omega)).mono ?_
      rintro e w0 ⟨rfl, rfl⟩
      go_wp2_with fail
      go_ret
      exact ⟨rfl, Below.refl _ _⟩
  · have hs : szP ps.length 1048576 = -1 := by unfold szP; rw [if_neg (by omega)]
    go_enter Try.func14, Try.ntmps14
    go_wp2_with fail
    refine (szPairS_any a ps.length ca 1048576 _ hm (by omega)).mono ?_
    rintro e w0 ⟨rfl, rfl⟩
    go_wp2_with fail
    go_ret
    exact ⟨rfl, Below.refl _ _⟩
end Go.Proofs.Ytmkhkojefjdbbaa
