/-
  PowersText: the program's walk, and the walk of the law.
-/
import Derived.Test.YtnlimfijepjliaaDoorPow
import Derived.Test.YtnlimfijepjliaaDoorDecI
import Derived.Test.YtnlimfijepjliaaDoorMax
namespace Go.Proofs.YtnlimfijepjliaaDoor
open Go.RowKit

def lenOfV : Value → Nat
  | .slice _ n _ => n
  | _ => 0
theorem TabB.below' {a w : World} (h : TabB a) (hb : Below a.heap.size a w) : TabB w := h.below hb
set_option maxHeartbeats 8000000 in
set_option maxRecDepth 100000 in
theorem implPowersText_any (N : Int) (w : World) (ht : TabB w) :
    Calls Tryd.prog 24 #[.int .i64 N] w fun e w' => e = .returned (.string (powV N)) ∧ Below w.heap.size w w' := by
  have HT := hide ht
  clear ht
  cases hr : inR N 1 1000000000
  · have e : powV N = ⟨#[]⟩ := by unfold powV; rw [hr]; rfl
    rw [e]
    clear e
    have HR := hide hr
    clear hr
    go_enter Tryd.func24, Tryd.ntmps24
    go_wp2_with fail
    refine (countable_any _ _).mono ?_
    rintro e w' ⟨rfl, rfl⟩
    rw [HR.out]
    go_wp2_with fail
    go_ret
    exact ⟨rfl, Below.refl _ _⟩
  · have hN := inR_true hr
    have e : powV N = powS (fac 2 N) := by unfold powV; rw [hr]; rfl
    rw [e]
    clear e
    have CL := hide (fun w => primesOf_any N w hN)
    have hlen := fac_len 2 N hN.1
    have hat := fac_at hN
    obtain ⟨L, hL⟩ : ∃ L, L = fac 2 N := ⟨_, rfl⟩
    rw [← hL] at CL hlen hat ⊢
    obtain ⟨n, hn⟩ : ∃ n, n = L.length := ⟨_, rfl⟩
    rw [← hn] at CL hlen
    have hnb : n ≤ 1000000000 := by omega
    have HAT := hide hat
    have HN := hide hn
    have HR := hide hr
    clear hL hn hat hlen hr
    by_cases h0 : n = 0
    · subst h0
      have e : powS L = ⟨#[49]⟩ := by unfold powS; rw [if_pos HN.out.symm]
      rw [e]
      clear e
      go_enter Tryd.func24, Tryd.ntmps24
      go_wp2_with fail
      refine (countable_any _ _).mono ?_
      rintro e w' ⟨rfl, rfl⟩
      rw [HR.out]
      go_wp2_with fail
      refine (CL.out _).mono ?_
      rintro e w1 ⟨ao, cap, rfl, hown, hb1⟩
      have B1 := hide hb1
      clear hb1 hown
      go_wp2_with fail
      go_ret
      exact ⟨rfl, B1.out⟩
    · have e : powS L = jnB (pwAt L 0) := by unfold powS; rw [if_neg (by rw [← HN.out]; exact h0)]
      rw [e]
      clear e
      have hz : ((n : Int) == 0) = false := by simpa using h0
      have hz2 : (n == 0) = false := by simpa using h0
      go_enter Tryd.func24, Tryd.ntmps24
      go_wp2_with fail
      refine (countable_any _ _).mono ?_
      rintro e w' ⟨rfl, rfl⟩
      rw [HR.out]
      go_wp2_with fail
      refine (CL.out _).mono ?_
      rintro e w1 ⟨ao, cap, rfl, hown, hb1⟩
      rcases hown.form with ⟨_, h2⟩ | ⟨g, cap', e, hg1, hg2, hcc, _⟩
      · have h3 := HN.out
        rw [h2] at h3
        exact absurd h3 h0
      simp only [Value.slice.injEq] at e
      obtain ⟨rfl, e2, rfl⟩ := e
      clear e2
      have HC := hide (fun j (hj : j < n) => hown.cell HN.out j (by rw [← HN.out]; exact hj))
      have B1 := hide hb1
      have HT1 := hide (HT.out.below hb1)
      have HCC := hide (show n ≤ cap by have := HN.out; omega)
      clear hown hb1 hcc
      go_wp2_with fail
      go_loopw [3, 4, 5, 6] (fun s3 s4 _ _ wr => ∃ (i m : Nat) (W : List ByteArray) (a : Option Addr) (c : Nat) (ao : Option Addr) (p : Nat), i + m = n ∧ pwAt L 0 = W ++ pwAt L i ∧ W.length ≤ i ∧ (∀ x ∈ W, x.size ≤ 43) ∧ s3 = .slice a m c ∧ m ≤ c ∧ (0 < m → a = some ⟨g, i, none⟩) ∧ s4 = .slice ao W.length p ∧ OwnsS wr w1.heap.size (.slice ao W.length p) W ∧ Below w1.heap.size w1 wr) (fun s3 _ _ _ _ => lenOfV s3)
      case atStart => exact ⟨0, n, [], _, _, none, 0, by omega, rfl, by simp, by simp, rfl, HCC.out, fun _ => rfl, rfl, OwnsS.none_, Below.refl _ _⟩
      case round =>
        obtain ⟨i, m, W, a, c, ao, p, him, hpw, hWl, hWs, rfl, hmc, haa, rfl, hown, hbel⟩ := hrel
        have HB := hide hbel
        have HO := hide hown
        have HPW := hide hpw
        have HWS := hide hWs
        have HWL := hide hWl
        have HIM := hide him
        have HMC := hide hmc
        by_cases hlt : 0 < m
        · have ha := haa hlt
          subst ha
          have hin : i < n := by omega
          have hiL : i < L.length := by rw [← HN.out]; exact hin
          have eg := endR_gt hiL
          have el := endR_le (Nat.le_of_lt hiL)
          rw [← HN.out] at el
          have hpg := pwAt_go hiL
          have HRG0 := fun k (h1 : i ≤ k) (h2 : k < endR L i) => endR_go h1 h2
          have HRS0 := fun (h : endR L i < n) => endR_stop (l := L) (i := i) (by rw [← HN.out]; exact h)
          obtain ⟨R, hRR⟩ : ∃ R, endR L i = i + R := ⟨endR L i - i, by omega⟩
          rw [hRR] at eg el hpg HRG0 HRS0
          rw [show i + R - i = R by omega] at hpg
          obtain ⟨p1, p2⟩ := HAT.out i hiL
          obtain ⟨x, hx⟩ : ∃ x, x = L.getD i 0 := ⟨_, rfl⟩
          rw [← hx] at p1 p2 hpg HRG0 HRS0
          have HRG := hide HRG0
          have HRS := hide HRS0
          have HPG := hide hpg
          have HX := hide hx
          have hR1 : 1 ≤ R := by omega
          have hRm : R ≤ m := by omega
          have hmb : m ≤ 1000000000 := by omega
          have hRb : R ≤ 1000000000 := by omega
          obtain ⟨pc, hpc⟩ : ∃ pc : Nat × Nat, c = pc.1 := ⟨(c, 0), rfl⟩
          subst hpc
          clear hRR hpg hx hiL HRG0 HRS0 eg el haa him hpw hWl hWs hbel hown
          go_wp2_with fail
          go_loopw [5] (fun s5 wx => ∃ (k : Nat), 1 ≤ k ∧ k ≤ R ∧ s5 = .int .i64 (k : Int) ∧ Below w1.heap.size w1 wx ∧ Below wr.heap.size wr wx) (fun s5 _ => R - (intOf s5).toNat)
          case atStart => exact ⟨1, by omega, hR1, rfl, HB.out, Below.refl _ _⟩
          case round =>
            obtain ⟨k, hik, hkE, rfl, hbel2, hbq2⟩ := hrel
            have HB2 := hide hbel2
            have HBQ2 := hide hbq2
            have ci := (hbel2.cell (p := ⟨g, i, none⟩) hg2).trans (HC.out i hin)
            rw [← HX.out] at ci
            obtain ⟨z, hz3⟩ : ∃ z, z = (k : Int) := ⟨_, rfl⟩
            have hzt : k = z.toNat := by omega
            have z1 : (0 : Int) ≤ z := by omega
            have HZ := hide hz3
            by_cases hkn : k < m
            · have z2 : z < (m : Int) := by omega
              have d0 : decide (z < (m : Int)) = true := decide_eq_true z2
              have ck := (hbel2.cell (p := ⟨g, i + k, none⟩) hg2).trans (HC.out (i + k) (by have := HIM.out; omega))
              by_cases hkE2 : k < R
              · rw [HRG.out (i + k) (by omega) (by omega)] at ck
                have hbx : (x == x) = true := by simp
                rw [hzt] at ck
                rw [← hz3]
                clear hbel2 hbq2 hzt hz3
                go_upto_region 9 with fail
                have k1 := cell_regrown ci
                have k2 := cell_regrown ck
                refine wp_region_quiet_below (by kernel_rfl) (by kernel_rfl) ?_
                repeat (go_big_quiet_step (fail))
                refine wpQuiet_nil ?_
                intro _ hw'
                obtain ⟨⟨dq, osq⟩, hw''⟩ := hw'
                subst hw''
                have B3 := hide (bstep HB2.out (below_regrown _ dq osq))
                have BQB3 := hide (bstep HBQ2.out (below_regrown _ dq osq))
                clear k1 k2 ci ck
                go_wp2_with fail
                go_roundw
                case rel => exact ⟨k + 1, by omega, by omega, by rw [HZ.out]; first | rfl | go_num, B3.out, BQB3.out⟩
                case measure => rw [HZ.out]; simp only [intOf]; omega
              · have hkE3 : k = R := by omega
                have hnx := HRS.out (by have := HIM.out; omega)
                rw [← hkE3] at hnx
                obtain ⟨q, hq⟩ : ∃ q, q = L.getD (i + k) 0 := ⟨_, rfl⟩
                rw [← hq] at hnx ck
                have hbx : (q == x) = false := by simpa using hnx
                rw [hzt] at ck
                rw [← hz3]
                have HKE := hide hkE3
                clear hbel2 hbq2 hzt hz3 hq hnx hkE3
                go_upto_region 9 with fail
                have k1 := cell_regrown ci
                have k2 := cell_regrown ck
                refine wp_region_quiet_below (by kernel_rfl) (by kernel_rfl) ?_
                repeat (go_big_quiet_step (fail))
                refine wpQuiet_nil ?_
                intro _ hw'
                obtain ⟨⟨dq, osq⟩, hw''⟩ := hw'
                subst hw''
                have B3 := hide (bstep HB2.out (below_regrown _ dq osq))
                have BQB3 := hide (bstep HBQ2.out (below_regrown _ dq osq))
                clear k1 k2 ci ck
                have ci := (B3.out.cell (p := ⟨g, i, none⟩) hg2).trans (HC.out i hin)
                rw [← HX.out] at ci
                have CX := hide (fun w (h : TabB w) => show Calls Tryd.prog 14 #[.int .i64 x] w fun e w' => e = .returned (.string (itoaB x)) ∧ Below w.heap.size w w' from implDecimal_any x w (by omega) (by omega) h)
                have CD := hide (fun w (h : TabB w) => show Calls Tryd.prog 14 #[.int .i64 (R : Int)] w fun e w' => e = .returned (.string (itoaB (R : Int))) ∧ Below w.heap.size w w' from implDecimal_any R w (by omega) (by omega) h)
                have zx := itoaB_size x (by omega) (by omega)
                have zd := itoaB_size (R : Int) (by omega) (by omega)
                have zp := pword_size x R (by omega) (by omega)
                have hw2 : 1 < R → pword x R = itoaB x ++ (⟨#[94]⟩ ++ itoaB (R : Int)) := fun h => by unfold pword; rw [if_pos h]
                have hw1 : ¬ 1 < R → pword x R = itoaB x := fun h => by unfold pword; rw [if_neg h]
                obtain ⟨PW, hPW⟩ : ∃ PW, PW = pword x R := ⟨_, rfl⟩
                obtain ⟨NW, hNW⟩ : ∃ NW, NW = W ++ [PW] := ⟨_, rfl⟩
                rw [← hPW] at hw1 hw2 zp
                have HNEW := hide (show pwAt L 0 = NW ++ pwAt L (i + R) by rw [HPW.out, HPG.out, ← hPW, hNW, List.append_assoc]; rfl)
                have HNL := hide (show NW.length ≤ i + R by rw [hNW, List.length_append, List.length_singleton]; have := HWL.out; omega)
                have HWS2 := hide (show ∀ v ∈ NW, v.size ≤ 43 by
                  rw [hNW]
                  intro v hv
                  rcases List.mem_append.1 hv with hv | hv
                  · exact HWS.out v hv
                  · rw [List.mem_singleton.1 hv]; exact zp)
                have HNW := hide hNW
                obtain ⟨SX, hSX⟩ : ∃ SX, SX = itoaB x := ⟨_, rfl⟩
                obtain ⟨SD, hSD⟩ : ∃ SD, SD = itoaB (R : Int) := ⟨_, rfl⟩
                rw [← hSX] at CX zx hw1 hw2
                rw [← hSD] at CD zd hw2
                rw [HZ.out, HKE.out]
                have HT3 := hide (HT1.out.below' B3.out)
                have HW1 := hide hw1
                have HW2 := hide hw2
                clear hPW hNW hSX hSD zp hw1 hw2
                by_cases hD2 : 1 < R
                · have d2 : decide ((1 : Int) < (R : Int)) = true := decide_eq_true (by omega)
                  have n2 : ¬ 9223372036854775807 < 1 + SD.size := by omega
                  have n3 : ¬ 9223372036854775807 < SX.size + (1 + SD.size) := by omega
                  go_wp2_with fail
                  refine (CX.out _ HT3.out).mono ?_
                  rintro e w5 ⟨rfl, hb5⟩
                  have B5 := hide (bstep B3.out hb5)
                  have BQB5 := hide (bstep BQB3.out hb5)
                  have HT5 := hide (HT3.out.below hb5)
                  clear hb5 ci
                  go_wp2_with fail
                  refine (CD.out _ HT5.out).mono ?_
                  rintro e w6 ⟨rfl, hb6⟩
                  have B6 := hide (bstep B5.out hb6)
                  have BQB6 := hide (bstep BQB5.out hb6)
                  clear hb6
                  have hweq : PW = SX ++ ((⟨#[94]⟩ : ByteArray) ++ SD) := HW2.out hD2
                  have OX := hide ((HO.out.below BQB6.out).below (balloc (Below.refl w6.heap.size w6) (.cells #[.string (SX ++ ((⟨#[94]⟩ : ByteArray) ++ SD))] 9)))
                  have BX := hide (balloc B6.out (.cells #[.string (SX ++ ((⟨#[94]⟩ : ByteArray) ++ SD))] 9))
                  have CXX := hide (show (w6.alloc (.cells #[.string (SX ++ ((⟨#[94]⟩ : ByteArray) ++ SD))] 9)).cell? ⟨w6.heap.size, 0, none⟩ = some (.string (SX ++ ((⟨#[94]⟩ : ByteArray) ++ SD))) by simp [go_sem])
                  have hsX := (balloc B6.out (.cells #[.string (SX ++ ((⟨#[94]⟩ : ByteArray) ++ SD))] 9)).size
                  have HWEQ := hide hweq
                  clear hweq hD2
                  go_wp2_with (at_builtin; refine wpList_appendS rfl (.tmp 45) (.tmp 47) rfl w1.heap.size _ W rfl OX.out ⟨w6.heap.size, 0, none⟩ 1 1 [SX ++ ((⟨#[94]⟩ : ByteArray) ++ SD)] rfl rfl (fun j hj => ?_) (by have := HWL.out; omega) hsX fun v' w' r1 r2 _ => ?_)
                  · obtain rfl : j = 0 := by omega
                    exact CXX.out
                  · have B9 := hide (BX.out.grown r2 hsX (fun k hk => (OX.out.lt k hk).1))
                    rw [← HWEQ.out, ← HNW.out] at r1
                    rcases r1.form with ⟨_, h0⟩ | ⟨g3, cap3, rfl, _⟩
                    · exact absurd h0 (by rw [HNW.out]; simp)
                    have O3 := hide r1
                    have hlen3 : (W ++ [PW]).length = NW.length := by rw [HNW.out]
                    clear r1 r2
                    go_wp2_with fail
                    all_goals go_roundw
                    all_goals first
                      | exact ⟨i + R, _, NW, _, _, _, _, by have := HIM.out; omega, HNEW.out, HNL.out, HWS2.out, rfl, by have := HMC.out; omega, fun h => rfl, rfl, O3.out, B9.out⟩
                      | exact ⟨i + R, _, NW, _, _, _, _, by have := HIM.out; omega, HNEW.out, HNL.out, HWS2.out, rfl, by have := HMC.out; omega, fun h => absurd h (by have := HMC.out; omega), rfl, O3.out, B9.out⟩
                      | exact ⟨i + R, _, by have := HIM.out; omega, NW, HNEW.out, HNL.out, HWS2.out, _, _, ⟨rfl, rfl, rfl⟩, by have := HMC.out; omega, fun h => absurd h (by have := HMC.out; omega), _, _, ⟨rfl, rfl, rfl⟩, O3.out, B9.out⟩
                      | exact ⟨i + R, _, by have := HIM.out; omega, NW, HNEW.out, HNL.out, HWS2.out, _, _, ⟨rfl, rfl, rfl⟩, by have := HMC.out; omega, fun h => rfl, _, _, ⟨rfl, rfl, rfl⟩, O3.out, B9.out⟩
                      | omega
                      | (simp only [lenOfV]; omega)
                · have d2 : decide ((1 : Int) < (R : Int)) = false := decide_eq_false (by omega)
                  go_wp2_with fail
                  refine (CX.out _ HT3.out).mono ?_
                  rintro e w5 ⟨rfl, hb5⟩
                  have B5 := hide (bstep B3.out hb5)
                  have BQB5 := hide (bstep BQB3.out hb5)
                  clear hb5 ci
                  have hweq : PW = SX := HW1.out hD2
                  have OX := hide ((HO.out.below BQB5.out).below (balloc (Below.refl w5.heap.size w5) (.cells #[.string (SX)] 9)))
                  have BX := hide (balloc B5.out (.cells #[.string (SX)] 9))
                  have CXX := hide (show (w5.alloc (.cells #[.string (SX)] 9)).cell? ⟨w5.heap.size, 0, none⟩ = some (.string (SX)) by simp [go_sem])
                  have hsX := (balloc B5.out (.cells #[.string (SX)] 9)).size
                  have HWEQ := hide hweq
                  clear hweq hD2
                  go_wp2_with (at_builtin; refine wpList_appendS rfl (.tmp 45) (.tmp 47) rfl w1.heap.size _ W rfl OX.out ⟨w5.heap.size, 0, none⟩ 1 1 [SX] rfl rfl (fun j hj => ?_) (by have := HWL.out; omega) hsX fun v' w' r1 r2 _ => ?_)
                  · obtain rfl : j = 0 := by omega
                    exact CXX.out
                  · have B9 := hide (BX.out.grown r2 hsX (fun k hk => (OX.out.lt k hk).1))
                    rw [← HWEQ.out, ← HNW.out] at r1
                    rcases r1.form with ⟨_, h0⟩ | ⟨g3, cap3, rfl, _⟩
                    · exact absurd h0 (by rw [HNW.out]; simp)
                    have O3 := hide r1
                    have hlen3 : (W ++ [PW]).length = NW.length := by rw [HNW.out]
                    clear r1 r2
                    go_wp2_with fail
                    all_goals go_roundw
                    all_goals first
                      | exact ⟨i + R, _, NW, _, _, _, _, by have := HIM.out; omega, HNEW.out, HNL.out, HWS2.out, rfl, by have := HMC.out; omega, fun h => rfl, rfl, O3.out, B9.out⟩
                      | exact ⟨i + R, _, NW, _, _, _, _, by have := HIM.out; omega, HNEW.out, HNL.out, HWS2.out, rfl, by have := HMC.out; omega, fun h => absurd h (by have := HMC.out; omega), rfl, O3.out, B9.out⟩
                      | exact ⟨i + R, _, by have := HIM.out; omega, NW, HNEW.out, HNL.out, HWS2.out, _, _, ⟨rfl, rfl, rfl⟩, by have := HMC.out; omega, fun h => absurd h (by have := HMC.out; omega), _, _, ⟨rfl, rfl, rfl⟩, O3.out, B9.out⟩
                      | exact ⟨i + R, _, by have := HIM.out; omega, NW, HNEW.out, HNL.out, HWS2.out, _, _, ⟨rfl, rfl, rfl⟩, by have := HMC.out; omega, fun h => rfl, _, _, ⟨rfl, rfl, rfl⟩, O3.out, B9.out⟩
                      | omega
                      | (simp only [lenOfV]; omega)
            · have d0 : decide (z < (m : Int)) = false := decide_eq_false (by omega)
              have HKE := hide (show k = R by omega)
              rw [← hz3]
              clear hbel2 hbq2 hzt hz3 ci
              go_upto_region 9 with fail
              refine wp_region_quiet_below (by kernel_rfl) (by kernel_rfl) ?_
              repeat (go_big_quiet_step (fail))
              refine wpQuiet_nil ?_
              intro _ hw'
              obtain ⟨⟨dq, osq⟩, hw''⟩ := hw'
              subst hw''
              have B3 := hide (bstep HB2.out (below_regrown _ dq osq))
              have BQB3 := hide (bstep HBQ2.out (below_regrown _ dq osq))
              have ci := (B3.out.cell (p := ⟨g, i, none⟩) hg2).trans (HC.out i hin)
              rw [← HX.out] at ci
              have CX := hide (fun w (h : TabB w) => show Calls Tryd.prog 14 #[.int .i64 x] w fun e w' => e = .returned (.string (itoaB x)) ∧ Below w.heap.size w w' from implDecimal_any x w (by omega) (by omega) h)
              have CD := hide (fun w (h : TabB w) => show Calls Tryd.prog 14 #[.int .i64 (R : Int)] w fun e w' => e = .returned (.string (itoaB (R : Int))) ∧ Below w.heap.size w w' from implDecimal_any R w (by omega) (by omega) h)
              have zx := itoaB_size x (by omega) (by omega)
              have zd := itoaB_size (R : Int) (by omega) (by omega)
              have zp := pword_size x R (by omega) (by omega)
              have hw2 : 1 < R → pword x R = itoaB x ++ (⟨#[94]⟩ ++ itoaB (R : Int)) := fun h => by unfold pword; rw [if_pos h]
              have hw1 : ¬ 1 < R → pword x R = itoaB x := fun h => by unfold pword; rw [if_neg h]
              obtain ⟨PW, hPW⟩ : ∃ PW, PW = pword x R := ⟨_, rfl⟩
              obtain ⟨NW, hNW⟩ : ∃ NW, NW = W ++ [PW] := ⟨_, rfl⟩
              rw [← hPW] at hw1 hw2 zp
              have HNEW := hide (show pwAt L 0 = NW ++ pwAt L (i + R) by rw [HPW.out, HPG.out, ← hPW, hNW, List.append_assoc]; rfl)
              have HNL := hide (show NW.length ≤ i + R by rw [hNW, List.length_append, List.length_singleton]; have := HWL.out; omega)
              have HWS2 := hide (show ∀ v ∈ NW, v.size ≤ 43 by
                rw [hNW]
                intro v hv
                rcases List.mem_append.1 hv with hv | hv
                · exact HWS.out v hv
                · rw [List.mem_singleton.1 hv]; exact zp)
              have HNW := hide hNW
              obtain ⟨SX, hSX⟩ : ∃ SX, SX = itoaB x := ⟨_, rfl⟩
              obtain ⟨SD, hSD⟩ : ∃ SD, SD = itoaB (R : Int) := ⟨_, rfl⟩
              rw [← hSX] at CX zx hw1 hw2
              rw [← hSD] at CD zd hw2
              rw [HZ.out, HKE.out]
              have HT3 := hide (HT1.out.below' B3.out)
              have HW1 := hide hw1
              have HW2 := hide hw2
              clear hPW hNW hSX hSD zp hw1 hw2
              by_cases hD2 : 1 < R
              · have d2 : decide ((1 : Int) < (R : Int)) = true := decide_eq_true (by omega)
                have n2 : ¬ 9223372036854775807 < 1 + SD.size := by omega
                have n3 : ¬ 9223372036854775807 < SX.size + (1 + SD.size) := by omega
                go_wp2_with fail
                refine (CX.out _ HT3.out).mono ?_
                rintro e w5 ⟨rfl, hb5⟩
                have B5 := hide (bstep B3.out hb5)
                have BQB5 := hide (bstep BQB3.out hb5)
                have HT5 := hide (HT3.out.below hb5)
                clear hb5 ci
                go_wp2_with fail
                refine (CD.out _ HT5.out).mono ?_
                rintro e w6 ⟨rfl, hb6⟩
                have B6 := hide (bstep B5.out hb6)
                have BQB6 := hide (bstep BQB5.out hb6)
                clear hb6
                have hweq : PW = SX ++ ((⟨#[94]⟩ : ByteArray) ++ SD) := HW2.out hD2
                have OX := hide ((HO.out.below BQB6.out).below (balloc (Below.refl w6.heap.size w6) (.cells #[.string (SX ++ ((⟨#[94]⟩ : ByteArray) ++ SD))] 9)))
                have BX := hide (balloc B6.out (.cells #[.string (SX ++ ((⟨#[94]⟩ : ByteArray) ++ SD))] 9))
                have CXX := hide (show (w6.alloc (.cells #[.string (SX ++ ((⟨#[94]⟩ : ByteArray) ++ SD))] 9)).cell? ⟨w6.heap.size, 0, none⟩ = some (.string (SX ++ ((⟨#[94]⟩ : ByteArray) ++ SD))) by simp [go_sem])
                have hsX := (balloc B6.out (.cells #[.string (SX ++ ((⟨#[94]⟩ : ByteArray) ++ SD))] 9)).size
                have HWEQ := hide hweq
                clear hweq hD2
                go_wp2_with (at_builtin; refine wpList_appendS rfl (.tmp 45) (.tmp 47) rfl w1.heap.size _ W rfl OX.out ⟨w6.heap.size, 0, none⟩ 1 1 [SX ++ ((⟨#[94]⟩ : ByteArray) ++ SD)] rfl rfl (fun j hj => ?_) (by have := HWL.out; omega) hsX fun v' w' r1 r2 _ => ?_)
                · obtain rfl : j = 0 := by omega
                  exact CXX.out
                · have B9 := hide (BX.out.grown r2 hsX (fun k hk => (OX.out.lt k hk).1))
                  rw [← HWEQ.out, ← HNW.out] at r1
                  rcases r1.form with ⟨_, h0⟩ | ⟨g3, cap3, rfl, _⟩
                  · exact absurd h0 (by rw [HNW.out]; simp)
                  have O3 := hide r1
                  have hlen3 : (W ++ [PW]).length = NW.length := by rw [HNW.out]
                  clear r1 r2
                  go_wp2_with fail
                  all_goals go_roundw
                  all_goals first
                    | exact ⟨i + R, _, NW, _, _, _, _, by have := HIM.out; omega, HNEW.out, HNL.out, HWS2.out, rfl, by have := HMC.out; omega, fun h => rfl, rfl, O3.out, B9.out⟩
                    | exact ⟨i + R, _, NW, _, _, _, _, by have := HIM.out; omega, HNEW.out, HNL.out, HWS2.out, rfl, by have := HMC.out; omega, fun h => absurd h (by have := HMC.out; omega), rfl, O3.out, B9.out⟩
                    | exact ⟨i + R, _, by have := HIM.out; omega, NW, HNEW.out, HNL.out, HWS2.out, _, _, ⟨rfl, rfl, rfl⟩, by have := HMC.out; omega, fun h => absurd h (by have := HMC.out; omega), _, _, ⟨rfl, rfl, rfl⟩, O3.out, B9.out⟩
                    | exact ⟨i + R, _, by have := HIM.out; omega, NW, HNEW.out, HNL.out, HWS2.out, _, _, ⟨rfl, rfl, rfl⟩, by have := HMC.out; omega, fun h => rfl, _, _, ⟨rfl, rfl, rfl⟩, O3.out, B9.out⟩
                    | omega
                    | (simp only [lenOfV]; omega)
              · have d2 : decide ((1 : Int) < (R : Int)) = false := decide_eq_false (by omega)
                go_wp2_with fail
                refine (CX.out _ HT3.out).mono ?_
                rintro e w5 ⟨rfl, hb5⟩
                have B5 := hide (bstep B3.out hb5)
                have BQB5 := hide (bstep BQB3.out hb5)
                clear hb5 ci
                have hweq : PW = SX := HW1.out hD2
                have OX := hide ((HO.out.below BQB5.out).below (balloc (Below.refl w5.heap.size w5) (.cells #[.string (SX)] 9)))
                have BX := hide (balloc B5.out (.cells #[.string (SX)] 9))
                have CXX := hide (show (w5.alloc (.cells #[.string (SX)] 9)).cell? ⟨w5.heap.size, 0, none⟩ = some (.string (SX)) by simp [go_sem])
                have hsX := (balloc B5.out (.cells #[.string (SX)] 9)).size
                have HWEQ := hide hweq
                clear hweq hD2
                go_wp2_with (at_builtin; refine wpList_appendS rfl (.tmp 45) (.tmp 47) rfl w1.heap.size _ W rfl OX.out ⟨w5.heap.size, 0, none⟩ 1 1 [SX] rfl rfl (fun j hj => ?_) (by have := HWL.out; omega) hsX fun v' w' r1 r2 _ => ?_)
                · obtain rfl : j = 0 := by omega
                  exact CXX.out
                · have B9 := hide (BX.out.grown r2 hsX (fun k hk => (OX.out.lt k hk).1))
                  rw [← HWEQ.out, ← HNW.out] at r1
                  rcases r1.form with ⟨_, h0⟩ | ⟨g3, cap3, rfl, _⟩
                  · exact absurd h0 (by rw [HNW.out]; simp)
                  have O3 := hide r1
                  have hlen3 : (W ++ [PW]).length = NW.length := by rw [HNW.out]
                  clear r1 r2
                  go_wp2_with fail
                  all_goals go_roundw
                  all_goals first
                    | exact ⟨i + R, _, NW, _, _, _, _, by have := HIM.out; omega, HNEW.out, HNL.out, HWS2.out, rfl, by have := HMC.out; omega, fun h => rfl, rfl, O3.out, B9.out⟩
                    | exact ⟨i + R, _, NW, _, _, _, _, by have := HIM.out; omega, HNEW.out, HNL.out, HWS2.out, rfl, by have := HMC.out; omega, fun h => absurd h (by have := HMC.out; omega), rfl, O3.out, B9.out⟩
                    | exact ⟨i + R, _, by have := HIM.out; omega, NW, HNEW.out, HNL.out, HWS2.out, _, _, ⟨rfl, rfl, rfl⟩, by have := HMC.out; omega, fun h => absurd h (by have := HMC.out; omega), _, _, ⟨rfl, rfl, rfl⟩, O3.out, B9.out⟩
                    | exact ⟨i + R, _, by have := HIM.out; omega, NW, HNEW.out, HNL.out, HWS2.out, _, _, ⟨rfl, rfl, rfl⟩, by have := HMC.out; omega, fun h => rfl, _, _, ⟨rfl, rfl, rfl⟩, O3.out, B9.out⟩
                    | omega
                    | (simp only [lenOfV]; omega)
        · have hi : i = n := by omega
          have hW : W = pwAt L 0 := by rw [HPW.out, hi, pwAt_end (by rw [← HN.out]; omega), List.append_nil]
          have hWne : W ≠ [] := by
            rw [hW, pwAt_go (by rw [← HN.out]; omega)]
            simp
          have hjs := jnB_size W.length W rfl hWs
          rcases hown.form with ⟨_, hx0⟩ | ⟨g3, cap3, e3, _, hg3, hc3, _⟩
          · exact absurd hx0 hWne
          simp only [Value.slice.injEq] at e3
          obtain ⟨rfl, e4, rfl⟩ := e3
          have hjl : (Lib.join (W.map (·.data.toList)) (⟨#[32]⟩ : ByteArray).data.toList).length ≤ 140737488355328 := by
            change (jnB W).size ≤ _
            omega
          have JC := Tryd.strings_Join g3 0 p W ⟨#[32]⟩ wr (fun j x hx => by
            have hj := (List.getElem?_eq_some_iff.1 hx).1
            have h := hown.at_ j hj
            rw [List.getD_eq_getElem?_getD, hx] at h
            rw [Nat.zero_add]
            exact h) hg3 (by omega) (by omega) hjl
          have JC2 : Calls Tryd.prog 59 #[.slice (some ⟨g3, 0, none⟩) W.length p, .string ⟨#[32]⟩] wr fun e w' => e = .returned (.string (jnB W)) ∧ Below wr.heap.size wr w' := JC
          have HE := hide (show jnB W = jnB (pwAt L 0) by rw [hW])
          have HJC := hide JC2
          obtain ⟨r, hr⟩ : ∃ r, r = jnB W := ⟨_, rfl⟩
          rw [← hr] at HJC HE
          clear JC JC2 hjl hown hpw hW hWne hjs hr hg3 hc3 e4 hbel haa
          go_wp2_with fail
          refine HJC.out.mono ?_
          rintro e w4 ⟨rfl, hb4⟩
          have B4 := hide (bstep HB.out hb4)
          clear hb4
          go_wp2_with fail
          go_ret
          rw [← HE.out]
          exact ⟨rfl, bstep B1.out B4.out⟩
theorem walk_FnExactPowersText (a0 : Int) (w : World) (_h0 : -9223372036854775808 ≤ a0 ∧ a0 ≤ 9223372036854775807) (hL : laidMetH Tryd.prog Rows.fnExactPowersTextRow.laid w) (_hS : w.ShapedOpen Tryd.prog) :
    Calls Tryd.prog 6 #[.int .i64 a0] w fun e w' => e = .returned (.bool true) ∧ Below w.heap.size w w' := by
  have hT : TabB w := by
    have h : laidMet Tryd.prog Rows.fnExactPowersTextRow.laid w := by rwa [Go.MakeChecks.laidMetH_plain _ _ _ (by kernel_rfl)] at hL
    exact tab_head h.tail.tail
  have HT := hide hT
  have C1 := hide (fun w => specPowersText_any a0 w)
  have C2 := hide (fun w (h : TabB w) => implPowersText_any a0 w h)
  obtain ⟨s, hs⟩ : ∃ s, s = powV a0 := ⟨_, rfl⟩
  rw [← hs] at C1 C2
  have hne := ne_self s
  clear hT hL hs _h0 _hS
  go_enter Tryd.func6, Tryd.ntmps6
  go_wp2_with fail
  refine (C1.out _).mono ?_
  rintro e w1 ⟨rfl, hb1⟩
  have B1 := hide hb1
  have HT1 := hide (HT.out.below hb1)
  clear hb1
  go_wp2_with fail
  refine (C2.out _ HT1.out).mono ?_
  rintro e w2 ⟨rfl, hb2⟩
  have B2 := hide (bstep B1.out hb2)
  clear hb2
  go_wp2_with fail
  go_ret
  exact ⟨rfl, B2.out⟩
end Go.Proofs.YtnlimfijepjliaaDoor
