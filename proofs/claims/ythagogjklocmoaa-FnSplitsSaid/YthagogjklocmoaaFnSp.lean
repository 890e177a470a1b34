/-
  FnSplits: the walk of the law.
-/
import Derived.Test.YthagogjklocmoaaSplsQ
import Derived.Test.YthagogjklocmoaaSplsO
import Derived.Test.YthagogjklocmoaaNum
import Derived.Deep.Cut
import Derived.Deep.DeepCutAuto
namespace Go.Proofs.Ythagogjklocmoaa
open Go.RowKit

theorem getD_memR {rows : List (List Int)} {i : Nat} (h : i < rows.length) : rows.getD i [] ∈ rows := by
  have e : rows.getD i [] = rows[i] := by rw [List.getD_eq_getElem?_getD, List.getElem?_eq_getElem h]; rfl
  rw [e]
  exact List.getElem_mem h
set_option maxHeartbeats 4000000 in
set_option maxRecDepth 100000 in
theorem walk_FnSplits (a0 : Option Addr) (len0 cap0 : Nat) (z0 : List Int) (a1 : Option Addr) (len1 cap1 : Nat) (z1 : List Int) (w : World) (h0 : IsRow .u8 w a0 len0 cap0 z0) (h1 : IsRow .u8 w a1 len1 cap1 z1) :
    Calls Try.prog 3 #[.slice a0 len0 cap0, .slice a1 len1 cap1] w fun e w' => e = .returned (.bool true) ∧ Below w.heap.size w w' := by
  obtain ⟨b0, m0⟩ := row_bytes h0
  obtain ⟨b1, m1⟩ := row_bytes h1
  clear h0 h1
  have H0 := hide b0
  have H1 := hide b1
  clear b0 b1
  cases hl : longB len0 len1
  · have hlen : len0 ≤ 3000 ∧ len1 ≤ 3000 := by
      unfold longB at hl
      simp only [Bool.or_eq_false_iff, decide_eq_false_iff_not] at hl
      omega
    have HL := hide hl
    clear hl
    go_enter Try.func3, Try.ntmps3
    go_wp2_with fail
    refine (a2Long_any _ _ _ _ _ _ _ m0 m1).mono ?_
    rintro e w' ⟨rfl, rfl⟩
    rw [HL.out]
    go_wp2_with fail
    refine (a2Number_any a0 len0 cap0 _ H0.out (by omega)).mono ?_
    rintro e w1 ⟨N, rfl, ⟨n1, n2⟩, hb1⟩
    have B1 := hide hb1
    have HM := hide (H1.out.grown (grown_of_below' hb1 none) (fun _ _ _ => by simp))
    have u0 : N.tmod 20000 = N % 20000 := Int.tmod_eq_emod_of_nonneg (by omega)
    have uw : IntKind.i64.wrap (N % 20000) = N % 20000 := IntWalk.i64_in _ (by omega)
    have uw2 : IntKind.i64.wrap (N.tmod 20000) = N % 20000 := by rw [u0]; exact uw
    clear hb1
    go_upto_if 26 with fail
    go_cut [5] (fun s5 wx => ∃ n : Int, s5 = .int .i64 n ∧ 1 ≤ n ∧ n ≤ 20000 ∧ wx = w1)
    case first =>
      by_cases hz : N % 20000 = 0
      · have hz2 : (N % 20000 == 0) = true := by simpa using hz
        have hz3 : (N.tmod 20000 == 0) = true := by rw [u0]; exact hz2
        clear hz
        go_wp2_with fail
        go_meet
        case rel => exact ⟨360, rfl, by omega, by omega, by trivial⟩
      · have hz2 : (N % 20000 == 0) = false := by simpa using hz
        have hz3 : (N.tmod 20000 == 0) = false := by rw [u0]; exact hz2
        go_wp2_with fail
        go_meet
        case rel => exact ⟨N % 20000, by first | rfl | (rw [u0]), by omega, by omega, by trivial⟩
    case rest =>
      obtain ⟨n, rfl, hn1, hn2, rfl⟩ := hcut
      clear u0 uw uw2
      go_wp2_with fail
      refine (a2At_any a1 len1 cap1 0 9 _ HM.out (by omega) (by omega) (by omega)).mono ?_
      rintro e w' ⟨p, rfl, hp, rfl⟩
      obtain ⟨low, hlow⟩ : ∃ low, low = 1 + p := ⟨_, rfl⟩
      have hl1 : 1 ≤ low ∧ low ≤ 10 := by omega
      have wl : IntKind.i64.wrap (1 + p) = low := (IntWalk.i64_in _ (by omega)).trans hlow.symm
      clear hlow
      go_wp2_with fail
      refine (a2At_any a1 len1 cap1 1 40 _ HM.out (by omega) (by omega) (by omega)).mono ?_
      rintro e w' ⟨q, rfl, hq, rfl⟩
      obtain ⟨high, hhigh⟩ : ∃ high, high = low + q := ⟨_, rfl⟩
      have hh1 : low ≤ high ∧ high ≤ 100 := by omega
      have wh : IntKind.i64.wrap (low + q) = high := (IntWalk.i64_in _ (by omega)).trans hhigh.symm
      clear hhigh wl
      go_wp2_with fail
      refine (a2At_any a1 len1 cap1 2 3 _ HM.out (by omega) (by omega) (by omega)).mono ?_
      rintro e w' ⟨r, rfl, hr, rfl⟩
      obtain ⟨cc, hcc⟩ : ∃ cc : Nat, (cc : Int) = 1 + r := ⟨(1 + r).toNat, by omega⟩
      have wc : IntKind.i64.wrap (1 + r) = (cc : Int) := (IntWalk.i64_in _ (by omega)).trans hcc.symm
      have hc1 : 1 ≤ cc ∧ cc ≤ 4 := by omega
      have hor : okR low high (cc : Int) = true := by
        unfold okR
        rw [inR_mk (show 1 ≤ low ∧ low ≤ high by omega), inR_mk (show 1 ≤ (cc : Int) ∧ (cc : Int) ≤ 4 by omega), decide_eq_true (show high ≤ 1000000000 by omega)]
        rfl
      have ho : okS n low high (cc : Int) = true := by
        unfold okS
        rw [inR_mk (show 1 ≤ n ∧ n ≤ 1000000000 by omega), hor]
        rfl
      have HC := hide (fun W => implSplitsOf_any n low high (cc : Int) W)
      have HROW := hide (fun r (hr : r ∈ soL n low high (cc : Int)) => (soL_row r hr).1)
      have hlen := soL_len n low high (cc : Int)
      have HNR := hide (fun W => implNearestSplit_any n low high (cc : Int) W)
      have HC2 := hide (fun v W => implSplitsOf_any v low high (cc : Int) W)
      rcases soC_ok ho with hy | hy
      · rw [hy] at HC
        clear ho hor hcc hy wh
        go_wp2_with fail
        refine (HC.out _).mono ?_
        rintro e w2 ⟨x2, d2, es2, rfl, o2, b2⟩
        have B2 := hide (bstep B1.out b2)
        clear o2 b2
        go_wp2_with fail
        go_ret
        exact ⟨rfl, B2.out⟩
      · have HLAW := hide (near_law ho hy)
        rw [hy] at HC
        rw [Int.toNat_natCast] at HROW
        obtain ⟨L, hLL⟩ : ∃ L, L = soL n low high (cc : Int) := ⟨_, rfl⟩
        unfold SoPost at HC
        rw [← hLL] at HC HROW HLAW hlen
        obtain ⟨m, hm⟩ : ∃ m, m = L.length := ⟨_, rfl⟩
        have HML := hide hm
        rw [← hm] at HC HLAW hlen
        clear ho hor hcc hy wh hLL hm
        go_wp2_with fail
        refine (HC.out _).mono ?_
        rintro e w2 ⟨x2, d2, es2, rfl, o2, b2⟩
        have O2 := hide o2
        have B2 := hide (bstep B1.out b2)
        clear o2 b2
        go_wp2_with fail
        go_loopw [11, 12, 13, 14] (fun s11 _ _ _ wr => ∃ i : Nat, i ≤ m ∧ s11 = .int .i64 (i : Int) ∧ wr = w2) (fun s11 _ _ _ _ => m - (intOf s11).toNat)
        case atStart => exact ⟨0, by omega, rfl, rfl⟩
        case round =>
          obtain ⟨i, hi, rfl, rfl⟩ := hrel
          by_cases hlt : i < m
          · have hiL : i < L.length := by have := HML.out; omega
            obtain ⟨p1, q1, _, o1, _, g1, e1, f1, k1⟩ := O2.out.at_ (i := i) hiL
            rw [← HML.out] at f1
            cases f1
            have hrow := HROW.out _ (getD_memR hiL)
            obtain ⟨r1, hr1⟩ : ∃ r1, r1 = L.getD i [] := ⟨_, rfl⟩
            rw [← hr1] at o1 k1 hrow
            have hlr := hrow.1
            have HLR := hide hlr
            rw [hlr] at o1 k1
            have KC := hide (fun j (hj : j < cc) => o1.cell HLR.out.symm j (by have := HLR.out; omega))
            have HAT := hide (fun j (hj : j < cc) => row_at hrow (i := j) (by have := HLR.out; omega))
            have HRS := hide (fun j (hj : j + 1 < cc) => row_rise hrow (i := j) (by have := HLR.out; omega))
            have hpos1 : ∀ x ∈ r1, 1 ≤ x := fun x hx => by have := hrow.2.2.1 x hx; omega
            have HPR := hide (fun j => by have h := row_pre hpos1 j; rw [hrow.2.1] at h; exact h)
            have HPS := hide (fun j (hj : j < cc) => row_step (r := r1) (i := j) (by have := HLR.out; omega))
            have HPE := hide (show prodI (r1.take cc) = n by rw [List.take_of_length_le (by have := HLR.out; omega), hrow.2.1])
            have i0 : (0 : Int) ≤ (i : Int) := by omega
            have i1 : (i : Int) < (m : Int) := by omega
            have K1 := hide k1
            have d0 : ((cc : Int) != (cc : Int)) = false := by simp
            have d0' : (cc != cc) = false := by simp
            clear o1 hrow hr1 hlr hpos1 hiL
            go_wp2_with fail
            go_loopw [12, 13, 14] (fun s12 s13 _ w3 => ∃ j : Nat, j ≤ cc ∧ s12 = .int .i64 (prodI (r1.take j)) ∧ s13 = .int .i64 (j : Int) ∧ w3 = wr) (fun _ s13 _ _ => cc - (intOf s13).toNat)
            case atStart => exact ⟨0, by omega, rfl, rfl, rfl⟩
            case round =>
              obtain ⟨j, hj, rfl, rfl, rfl⟩ := hrel
              by_cases hj2 : j < cc
              · obtain ⟨x, hx⟩ : ∃ x, x = r1.getD j 0 := ⟨_, rfl⟩
                obtain ⟨pr, hpr⟩ : ∃ p, p = prodI (r1.take j) := ⟨_, rfl⟩
                obtain ⟨px, hpx⟩ : ∃ p, p = prodI (r1.take (j + 1)) := ⟨_, rfl⟩
                have c1 := KC.out j hj2
                have f1 := HAT.out j hj2
                have f2 := HPR.out j
                have f3 := HPR.out (j + 1)
                have f4 := HPS.out j hj2
                rw [← hx] at c1 f1 f4
                rw [← hpr] at f2 f4
                rw [← hpx] at f3 f4
                obtain ⟨x1, x2⟩ := f1
                obtain ⟨y1, y2⟩ := f2
                have qx : IntKind.i64.wrap (pr * x) = px := (IntWalk.i64_in _ (by rw [← f4]; omega)).trans f4.symm
                have HPX := hide hpx
                rw [← hpr]
                obtain ⟨z, hz⟩ : ∃ z, z = (j : Int) := ⟨_, rfl⟩
                have HZ := hide hz
                have j1 : (0 : Int) ≤ z := by omega
                have j2 : z < (cc : Int) := by omega
                have hzn : j = z.toNat := by omega
                rw [← hz]
                rw [hzn] at c1
                have e1 : decide (x < low) = false := decide_eq_false (by omega)
                have e2 : decide (high < x) = false := decide_eq_false (by omega)
                rcases Nat.eq_zero_or_pos j with hk0 | hk0
                · have hd : decide (0 < z) = false := decide_eq_false (by omega)
                  clear hx hpr hpx f3 f4 hk0 hz hzn
                  go_wp2_with fail
                  go_roundw
                  case rel => exact ⟨j + 1, hj2, by rw [HPX.out], by rw [HZ.out]; first | rfl | go_num, by trivial⟩
                  case measure => rw [HZ.out]; simp only [intOf]; omega
                · obtain ⟨t, ht⟩ : ∃ t, j = t + 1 := ⟨j - 1, by omega⟩
                  have htc : t < cc := by omega
                  obtain ⟨y, hy⟩ : ∃ y, y = r1.getD t 0 := ⟨_, rfl⟩
                  have f5 := HRS.out t (by omega)
                  rw [← ht, ← hx, ← hy] at f5
                  have c2 := KC.out t htc
                  rw [← hy] at c2
                  have hd : decide (0 < z) = true := decide_eq_true (by omega)
                  have hw : IntKind.i64.wrap (z - 1) = (t : Int) := (IntWalk.i64_in _ (by omega)).trans (by omega)
                  have t1 : (0 : Int) ≤ (t : Int) := by omega
                  have t2 : (t : Int) < (cc : Int) := by omega
                  have e5 : decide (x < y) = false := decide_eq_false (by omega)
                  clear hx hpr hpx f3 f4 hk0 hz hzn ht hy
                  go_wp2_with fail
                  go_roundw
                  case rel => exact ⟨j + 1, hj2, by rw [HPX.out], by rw [HZ.out]; first | rfl | go_num, by trivial⟩
                  case measure => rw [HZ.out]; simp only [intOf]; omega
              · obtain rfl : j = cc := by omega
                rw [HPE.out]
                have dn : (n != n) = false := by simp
                go_wp2_with fail
                go_roundw
                case rel => exact ⟨i + 1, by omega, by first | rfl | go_num, by trivial⟩
                case measure => simp only [intOf]; omega
          · have dn : (n == n) = true := by simp
            have dn' : (n != n) = false := by simp
            rcases HLAW.out with ⟨hpos, hns⟩ | ⟨h0, hns⟩
            · have HN := hide (fun W => by have h := HNR.out W; rw [hns] at h; exact h)
              have d0 : decide ((0 : Int) < (m : Int)) = true := decide_eq_true (by omega)
              clear hns
              go_wp2_with fail
              refine (HN.out _).mono ?_
              rintro e w3 ⟨rfl, b3⟩
              have B3 := hide (bstep B2.out b3)
              clear b3
              go_wp2_with fail
              go_ret
              exact ⟨rfl, B3.out⟩
            · have hm0 : ¬ 0 < m := by omega
              have d0 : decide ((0 : Int) < (m : Int)) = false := decide_eq_false (by omega)
              obtain ⟨v, hv⟩ : ∃ v, v = (nsV n low high (cc : Int)).1 := ⟨_, rfl⟩
              rcases hns with h3 | ⟨e0, ene, hso⟩
              · have HN := hide (fun W => by have h := HNR.out W; rw [← hv, h3] at h; exact h)
                clear h3 h0 hv
                go_wp2_with fail
                refine (HN.out _).mono ?_
                rintro e w3 ⟨rfl, b3⟩
                have B3 := hide (bstep B2.out b3)
                clear b3
                go_wp2_with fail
                go_ret
                exact ⟨rfl, B3.out⟩
              · have HN := hide (fun W => by have h := HNR.out W; rw [← hv, e0] at h; exact h)
                rw [← hv] at ene hso
                have dv : (v != n) = true := by simpa using ene
                have HV := hide (fun W => HC2.out v W)
                clear e0 h0 hv ene
                rcases hso with h5 | ⟨h6, h7⟩
                · rw [h5] at HV
                  clear h5
                  go_wp2_with fail
                  refine (HN.out _).mono ?_
                  rintro e w3 ⟨rfl, b3⟩
                  have B3 := hide (bstep B2.out b3)
                  clear b3
                  go_wp2_with fail
                  refine (HV.out _).mono ?_
                  rintro e w4 ⟨x4, d4, es4, rfl, _, b4⟩
                  have B4 := hide (bstep B3.out b4)
                  clear b4
                  go_wp2_with fail
                  go_ret
                  exact ⟨rfl, B4.out⟩
                · rw [h6] at HV
                  obtain ⟨m4, hm4⟩ : ∃ m4, m4 = (soL v low high (cc : Int)).length := ⟨_, rfl⟩
                  have HM4 := hide hm4
                  rw [← hm4] at h7
                  have d4' : decide ((0 : Int) < (m4 : Int)) = true := decide_eq_true (by omega)
                  clear h6 hm4
                  go_wp2_with fail
                  refine (HN.out _).mono ?_
                  rintro e w3 ⟨rfl, b3⟩
                  have B3 := hide (bstep B2.out b3)
                  clear b3
                  go_wp2_with fail
                  refine (HV.out _).mono ?_
                  rintro e w4 ⟨x4, d4, es4, rfl, _, b4⟩
                  have B4 := hide (bstep B3.out b4)
                  rw [← HM4.out]
                  clear b4
                  go_wp2_with fail
                  go_ret
                  exact ⟨rfl, B4.out⟩
  · have HL := hide hl
    clear hl
    go_enter Try.func3, Try.ntmps3
    go_wp2_with fail
    refine (a2Long_any _ _ _ _ _ _ _ m0 m1).mono ?_
    rintro e w' ⟨rfl, rfl⟩
    rw [HL.out]
    go_wp2_with fail
    go_ret
    exact ⟨rfl, Below.refl _ _⟩
end Go.Proofs.Ythagogjklocmoaa
