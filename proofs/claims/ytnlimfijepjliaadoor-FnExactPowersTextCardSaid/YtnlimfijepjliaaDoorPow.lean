/-
  PowersText: the reference's walk.
-/
import Derived.Test.YtnlimfijepjliaaDoorPowP
import Derived.Test.YtnlimfijepjliaaDoorPrimesW
import Derived.Test.YtnlimfijepjliaaDoorMkS
namespace Go.Proofs.YtnlimfijepjliaaDoor
open Go.RowKit

theorem strip_in (p n : Int) (hp : 2 ≤ p) (hn : 1 ≤ n) : ∀ x ∈ (strip p n).1, x = p := by
  induction n using strip.induct (p := p) with
  | case1 n h ih =>
    obtain ⟨h1, h2, h3⟩ := div_pos_of_dvd p n h.1 h.2.1 h.2.2
    rw [strip, dif_pos h]
    intro x hx
    rcases List.mem_cons.1 hx with rfl | hx
    · rfl
    · exact ih h1 x hx
  | case2 n h =>
    rw [strip, dif_neg h]
    intro x hx
    simp at hx
theorem fac_in (p n : Int) (hn : 1 ≤ n) (hb : n ≤ 1000000000) : ∀ x ∈ fac p n, 1 ≤ x ∧ x ≤ 1000000000 := by
  induction p, n using fac.induct with
  | case1 p n h ih =>
    rw [fac, dif_pos h]
    intro x hx
    have h2 := strip_bd p n hn
    have h3 := sq_bd p n h.1 h.2 hb
    rcases List.mem_append.1 hx with hx | hx
    · have := strip_in p n h.1 hn x hx
      omega
    · exact ih h2.1 (by omega) x hx
  | case2 p n h h1 =>
    rw [fac, dif_neg h, if_pos h1]
    intro x hx
    have := List.mem_singleton.1 hx
    omega
  | case3 p n h h1 =>
    rw [fac, dif_neg h, if_neg h1]
    intro x hx
    simp at hx
theorem fac_at {N : Int} (hN : 1 ≤ N ∧ N ≤ 1000000000) (j : Nat) (hj : j < (fac 2 N).length) : 1 ≤ (fac 2 N).getD j 0 ∧ (fac 2 N).getD j 0 ≤ 1000000000 := by
  refine fac_in 2 N hN.1 hN.2 _ ?_
  rw [List.getD_eq_getElem?_getD, List.getElem?_eq_getElem hj]
  exact List.getElem_mem hj
def powV (n : Int) : ByteArray := if inR n 1 1000000000 then powS (fac 2 n) else ⟨#[]⟩
theorem empty_app (a : ByteArray) : (⟨#[]⟩ : ByteArray) ++ a = a := by
  apply bext
  rw [bdata_append]
  simp
/-- The word of the run at i, laid behind the words so far. -/
theorem jn_next {W : List ByteArray} {p : Int} {k : Nat} (S : ByteArray) (hS : S = jnB W) :
    (W = [] → 1 < k → jnB (W ++ [pword p k]) = S ++ itoaB p ++ (⟨#[94]⟩ ++ itoaB (k : Int))) ∧ (W = [] → ¬ 1 < k → jnB (W ++ [pword p k]) = S ++ itoaB p) ∧
    (W ≠ [] → 1 < k → jnB (W ++ [pword p k]) = S ++ ⟨#[32]⟩ ++ itoaB p ++ (⟨#[94]⟩ ++ itoaB (k : Int))) ∧ (W ≠ [] → ¬ 1 < k → jnB (W ++ [pword p k]) = S ++ ⟨#[32]⟩ ++ itoaB p) := by
  subst hS
  refine ⟨fun h hk => ?_, fun h hk => ?_, fun h hk => ?_, fun h hk => ?_⟩
  · subst h
    rw [jnB_one, jnB_nil, empty_app, pword, if_pos hk]
  · subst h
    rw [jnB_one, jnB_nil, empty_app, pword, if_neg hk]
  · rw [jnB_snoc h, pword, if_pos hk]
    apply bext
    simp only [bdata_append, List.append_assoc]
  · rw [jnB_snoc h, pword, if_neg hk]
set_option maxHeartbeats 4000000 in
set_option maxRecDepth 100000 in
theorem specPowersText_any (N : Int) (w : World) :
    Calls Tryd.prog 23 #[.int .i64 N] w fun e w' => e = .returned (.string (powV N)) ∧ Below w.heap.size w w' := by
  cases hr : inR N 1 1000000000
  · have e : powV N = ⟨#[]⟩ := by unfold powV; rw [hr]; rfl
    rw [e]
    clear e
    have HR := hide hr
    clear hr
    go_enter Tryd.func23, Tryd.ntmps23
    go_wp2_with fail
    refine (l04Ask_any _ _).mono ?_
    rintro e w' ⟨rfl, rfl⟩
    rw [HR.out]
    go_wp2_with fail
    go_ret
    exact ⟨rfl, Below.refl _ _⟩
  · have hN := inR_true hr
    have e : powV N = powS (fac 2 N) := by unfold powV; rw [hr]; rfl
    rw [e]
    clear e
    have CL := hide (fun w => l04Primes_any N w hN)
    have hlen := fac_len 2 N hN.1
    have hat := fac_at hN
    obtain ⟨L, hL⟩ : ∃ L, L = fac 2 N := ⟨_, rfl⟩
    rw [← hL] at CL hlen hat ⊢
    obtain ⟨n, hn⟩ : ∃ n, n = L.length := ⟨_, rfl⟩
    rw [← hn] at CL hlen
    have hnb : n ≤ 1000000000 := by omega
    have HAT := hide hat
    have HN := hide hn
    have HR := hide hr
    clear hL hn hat hlen hr
    by_cases h0 : n = 0
    · subst h0
      have e : powS L = ⟨#[49]⟩ := by unfold powS; rw [if_pos HN.out.symm]
      rw [e]
      clear e
      go_enter Tryd.func23, Tryd.ntmps23
      go_wp2_with fail
      refine (l04Ask_any _ _).mono ?_
      rintro e w' ⟨rfl, rfl⟩
      rw [HR.out]
      go_wp2_with fail
      refine (CL.out _).mono ?_
      rintro e w1 ⟨ao, cap, rfl, hown, hb1⟩
      have B1 := hide hb1
      clear hb1 hown
      go_wp2_with fail
      go_ret
      exact ⟨rfl, B1.out⟩
    · have e : powS L = jnB (pwAt L 0) := by unfold powS; rw [if_neg (by rw [← HN.out]; exact h0)]
      rw [e]
      clear e
      have hz : ((n : Int) == 0) = false := by simpa using h0
      have hz2 : (n == 0) = false := by simpa using h0
      go_enter Tryd.func23, Tryd.ntmps23
      go_wp2_with fail
      refine (l04Ask_any _ _).mono ?_
      rintro e w' ⟨rfl, rfl⟩
      rw [HR.out]
      go_wp2_with fail
      refine (CL.out _).mono ?_
      rintro e w1 ⟨ao, cap, rfl, hown, hb1⟩
      rcases hown.form with ⟨_, h2⟩ | ⟨g, cap', e, hg1, hg2, _, _⟩
      · have h3 := HN.out
        rw [h2] at h3
        exact absurd h3 h0
      simp only [Value.slice.injEq] at e
      obtain ⟨rfl, e2, rfl⟩ := e
      clear e2
      have HC := hide (fun j hj => hown.cell HN.out j hj)
      have B1 := hide hb1
      clear hown hb1
      go_wp2_with fail
      go_loopw [4, 5, 6] (fun s4 s5 _ wr => ∃ (i : Nat) (W : List ByteArray), i ≤ n ∧ pwAt L 0 = W ++ pwAt L i ∧ (i = 0 ↔ W = []) ∧ W.length ≤ i ∧ (∀ x ∈ W, x.size ≤ 43) ∧ s4 = .string (jnB W) ∧ s5 = .int .i64 (i : Int) ∧ Below w1.heap.size w1 wr) (fun _ s5 _ _ => n - (intOf s5).toNat)
      case atStart => exact ⟨0, [], by omega, rfl, by simp, by simp, by simp, by rw [jnB_nil], rfl, Below.refl _ _⟩
      case round =>
        obtain ⟨i, W, hi, hpw, hiW, hWl, hWs, rfl, rfl, hbel⟩ := hrel
        have HB := hide hbel
        have HPW := hide hpw
        have HIW := hide hiW
        have HWS := hide hWs
        have hjs := jnB_size W.length W rfl hWs
        obtain ⟨S, hS⟩ : ∃ S, S = jnB W := ⟨_, rfl⟩
        rw [← hS] at hjs ⊢
        have HS := hide hS
        have hSb : S.size ≤ 44000000000 := by omega
        clear hbel hpw hiW hWs hjs hS
        by_cases hlt : i < n
        · have hiL : i < L.length := by rw [← HN.out]; exact hlt
          have eg := endR_gt hiL
          have el := endR_le (Nat.le_of_lt hiL)
          rw [← HN.out] at el
          have hpg := pwAt_go hiL
          have HRG := hide (fun k (h1 : i ≤ k) (h2 : k < endR L i) => endR_go h1 h2)
          have HRS := hide (fun (h : endR L i < n) => endR_stop (l := L) (i := i) (by rw [← HN.out]; exact h))
          obtain ⟨E, hE⟩ : ∃ E, E = endR L i := ⟨_, rfl⟩
          rw [← hE] at eg el hpg HRG HRS
          obtain ⟨p1, p2⟩ := HAT.out i hiL
          obtain ⟨x, hx⟩ : ∃ x, x = L.getD i 0 := ⟨_, rfl⟩
          rw [← hx] at p1 p2 hpg HRG HRS
          have HPG := hide hpg
          have HX := hide hx
          clear hE hpg hx hiL
          go_wp2_with fail
          go_loopw [6] (fun s6 wx => ∃ (k : Nat), i ≤ k ∧ k ≤ E ∧ s6 = .int .i64 (k : Int) ∧ Below w1.heap.size w1 wx) (fun s6 _ => E - (intOf s6).toNat)
          case atStart => exact ⟨i, Nat.le_refl _, by omega, rfl, HB.out⟩
          case round =>
            obtain ⟨k, hik, hkE, rfl, hbel2⟩ := hrel
            have HB2 := hide hbel2
            have ci := (hbel2.cell (p := ⟨g, i, none⟩) hg2).trans (HC.out i (by rw [← HN.out]; exact hlt))
            rw [← HX.out] at ci
            obtain ⟨y, hy⟩ : ∃ y, y = (i : Int) := ⟨_, rfl⟩
            have hyt : i = y.toNat := by omega
            have y1 : (0 : Int) ≤ y := by omega
            have y2 : y < (n : Int) := by omega
            have HY := hide hy
            obtain ⟨z, hz3⟩ : ∃ z, z = (k : Int) := ⟨_, rfl⟩
            have hzt : k = z.toNat := by omega
            have z1 : (0 : Int) ≤ z := by omega
            have HZ := hide hz3
            by_cases hkn : k < n
            · have z2 : z < (n : Int) := by omega
              have d0 : decide (z < (n : Int)) = true := decide_eq_true z2
              have ck := (hbel2.cell (p := ⟨g, k, none⟩) hg2).trans (HC.out k (by rw [← HN.out]; exact hkn))
              by_cases hkE2 : k < E
              · rw [HRG.out k hik hkE2] at ck
                have hbx : (x == x) = true := by simp
                rw [hyt] at ci
                rw [hzt] at ck
                rw [← hy, ← hz3]
                clear hbel2 hyt hzt hy hz3
                go_upto_region 10 with fail
                have k1 := cell_regrown ci
                have k2 := cell_regrown ck
                refine wp_region_quiet_below (by kernel_rfl) (by kernel_rfl) ?_
                repeat (go_big_quiet_step (fail))
                refine wpQuiet_nil ?_
                intro _ hw'
                obtain ⟨⟨dq, osq⟩, hw''⟩ := hw'
                subst hw''
                have B3 := hide (bstep HB2.out (below_regrown _ dq osq))
                clear k1 k2 ci ck
                go_wp2_with fail
                go_roundw
                case rel => exact ⟨k + 1, by omega, by omega, by rw [HZ.out]; first | rfl | go_num, B3.out⟩
                case measure => rw [HZ.out]; simp only [intOf]; omega
              · have hkE3 : k = E := by omega
                have hnx := HRS.out (by omega)
                rw [← hkE3] at hnx
                obtain ⟨q, hq⟩ : ∃ q, q = L.getD k 0 := ⟨_, rfl⟩
                rw [← hq] at hnx ck
                have hbx : (q == x) = false := by simpa using hnx
                rw [hyt] at ci
                rw [hzt] at ck
                rw [← hy, ← hz3]
                have HKE := hide hkE3
                clear hbel2 hyt hzt hy hz3 hq hnx hkE3
                go_upto_region 10 with fail
                have k1 := cell_regrown ci
                have k2 := cell_regrown ck
                refine wp_region_quiet_below (by kernel_rfl) (by kernel_rfl) ?_
                repeat (go_big_quiet_step (fail))
                refine wpQuiet_nil ?_
                intro _ hw'
                obtain ⟨⟨dq, osq⟩, hw''⟩ := hw'
                subst hw''
                have B3 := hide (bstep HB2.out (below_regrown _ dq osq))
                clear k1 k2 ci ck
                have ci := (B3.out.cell (p := ⟨g, i, none⟩) hg2).trans (HC.out i (by rw [← HN.out]; exact hlt))
                rw [← HX.out] at ci
                have hyt : i = y.toNat := by have := HY.out; omega
                rw [hyt] at ci
                obtain ⟨D, hD⟩ : ∃ D, D = E - i := ⟨_, rfl⟩
                have hD1 : 1 ≤ D := by omega
                have hDb : D ≤ 1000000000 := by omega
                have q1 : IntKind.i64.wrap (z - y) = (D : Int) := (IntWalk.i64_in _ (by have := HY.out; have := HZ.out; have := HKE.out; omega)).trans (by have := HY.out; have := HZ.out; have := HKE.out; omega)
                have CX := hide (fun w => show Calls Tryd.prog 47 #[.int .i64 x] w fun e w' => e = .returned (.string (itoaB x)) ∧ Below w.heap.size w w' from l01Dec_any x w (by omega) (by omega))
                have CD := hide (fun w => show Calls Tryd.prog 47 #[.int .i64 (D : Int)] w fun e w' => e = .returned (.string (itoaB (D : Int))) ∧ Below w.heap.size w w' from l01Dec_any D w (by omega) (by omega))
                have zx := itoaB_size x (by omega) (by omega)
                have zd := itoaB_size (D : Int) (by omega) (by omega)
                have JN := jn_next (W := W) (p := x) (k := D) S HS.out
                have zp := pword_size x D (by omega) hDb
                have hnew : pwAt L 0 = (W ++ [pword x D]) ++ pwAt L E := by rw [HPW.out, HPG.out, ← hD, List.append_assoc]; rfl
                have HNEW := hide hnew
                have HWS2 := hide (show ∀ v ∈ W ++ [pword x D], v.size ≤ 43 by
                  intro v hv
                  rcases List.mem_append.1 hv with hv | hv
                  · exact HWS.out v hv
                  · rw [List.mem_singleton.1 hv]; exact zp)
                obtain ⟨NW, hNW⟩ : ∃ NW, NW = W ++ [pword x D] := ⟨_, rfl⟩
                rw [← hNW] at JN HNEW HWS2
                have HNL := hide (show NW.length ≤ E ∧ NW ≠ [] from ⟨by rw [hNW, List.length_append, List.length_singleton]; omega, by rw [hNW]; simp⟩)
                obtain ⟨SX, hSX⟩ : ∃ SX, SX = itoaB x := ⟨_, rfl⟩
                obtain ⟨SD, hSD⟩ : ∃ SD, SD = itoaB (D : Int) := ⟨_, rfl⟩
                rw [← hSX] at CX zx JN
                rw [← hSD] at CD zd JN
                have HJN := hide JN
                have HEn := hide el
                have HIE := hide eg
                clear JN hnew hNW hSX hSD hyt hD zp
                by_cases hi0 : i = 0
                · have hWe : W = [] := HIW.out.1 hi0
                  have d1 : decide (0 < y) = false := decide_eq_false (by have := HY.out; omega)
                  by_cases hD2 : 1 < D
                  · have d2 : decide ((1 : Int) < (D : Int)) = true := decide_eq_true (by omega)
                    have HJ := hide (HJN.out.1 hWe hD2)
                    have n1 : ¬ 9223372036854775807 < S.size + SX.size := by omega
                    have n2 : ¬ 9223372036854775807 < 1 + SD.size := by omega
                    have n3 : ¬ 9223372036854775807 < S.size + SX.size + (1 + SD.size) := by omega
                    clear hi0 hWe hD2
                    go_wp2_with fail
                    refine (CX.out _).mono ?_
                    rintro e w5 ⟨rfl, hb5⟩
                    have B5 := hide (bstep B3.out hb5)
                    clear hb5 ci
                    go_wp2_with fail
                    refine (CD.out _).mono ?_
                    rintro e w6 ⟨rfl, hb6⟩
                    have B6 := hide (bstep B5.out hb6)
                    clear hb6
                    go_wp2_with fail
                    go_roundw
                    case rel => exact ⟨E, NW, HEn.out, HNEW.out, ⟨fun h => absurd h (by have := HIE.out; omega), fun h => absurd h HNL.out.2⟩, HNL.out.1, HWS2.out, by rw [HJ.out], by rw [HZ.out, HKE.out], B6.out⟩
                    case measure => rw [HZ.out, HKE.out]; simp only [intOf]; have := HIE.out; omega
                  · have d2 : decide ((1 : Int) < (D : Int)) = false := decide_eq_false (by omega)
                    have HJ := hide (HJN.out.2.1 hWe hD2)
                    have n1 : ¬ 9223372036854775807 < S.size + SX.size := by omega
                    clear hi0 hWe hD2
                    go_wp2_with fail
                    refine (CX.out _).mono ?_
                    rintro e w5 ⟨rfl, hb5⟩
                    have B5 := hide (bstep B3.out hb5)
                    clear hb5 ci
                    go_wp2_with fail
                    go_roundw
                    case rel => exact ⟨E, NW, HEn.out, HNEW.out, ⟨fun h => absurd h (by have := HIE.out; omega), fun h => absurd h HNL.out.2⟩, HNL.out.1, HWS2.out, by rw [HJ.out], by rw [HZ.out, HKE.out], B5.out⟩
                    case measure => rw [HZ.out, HKE.out]; simp only [intOf]; have := HIE.out; omega
                · have hWe : W ≠ [] := fun h => hi0 (HIW.out.2 h)
                  have d1 : decide (0 < y) = true := decide_eq_true (by have := HY.out; omega)
                  have n0 : ¬ 9223372036854775807 < S.size + 1 := by omega
                  by_cases hD2 : 1 < D
                  · have d2 : decide ((1 : Int) < (D : Int)) = true := decide_eq_true (by omega)
                    have HJ := hide (HJN.out.2.2.1 hWe hD2)
                    have n1 : ¬ 9223372036854775807 < S.size + 1 + SX.size := by omega
                    have n2 : ¬ 9223372036854775807 < 1 + SD.size := by omega
                    have n3 : ¬ 9223372036854775807 < S.size + 1 + SX.size + (1 + SD.size) := by omega
                    clear hi0 hWe hD2
                    go_wp2_with fail
                    refine (CX.out _).mono ?_
                    rintro e w5 ⟨rfl, hb5⟩
                    have B5 := hide (bstep B3.out hb5)
                    clear hb5 ci
                    go_wp2_with fail
                    refine (CD.out _).mono ?_
                    rintro e w6 ⟨rfl, hb6⟩
                    have B6 := hide (bstep B5.out hb6)
                    clear hb6
                    go_wp2_with fail
                    go_roundw
                    case rel => exact ⟨E, NW, HEn.out, HNEW.out, ⟨fun h => absurd h (by have := HIE.out; omega), fun h => absurd h HNL.out.2⟩, HNL.out.1, HWS2.out, by rw [HJ.out], by rw [HZ.out, HKE.out], B6.out⟩
                    case measure => rw [HZ.out, HKE.out]; simp only [intOf]; have := HIE.out; omega
                  · have d2 : decide ((1 : Int) < (D : Int)) = false := decide_eq_false (by omega)
                    have HJ := hide (HJN.out.2.2.2 hWe hD2)
                    have n1 : ¬ 9223372036854775807 < S.size + 1 + SX.size := by omega
                    clear hi0 hWe hD2
                    go_wp2_with fail
                    refine (CX.out _).mono ?_
                    rintro e w5 ⟨rfl, hb5⟩
                    have B5 := hide (bstep B3.out hb5)
                    clear hb5 ci
                    go_wp2_with fail
                    go_roundw
                    case rel => exact ⟨E, NW, HEn.out, HNEW.out, ⟨fun h => absurd h (by have := HIE.out; omega), fun h => absurd h HNL.out.2⟩, HNL.out.1, HWS2.out, by rw [HJ.out], by rw [HZ.out, HKE.out], B5.out⟩
                    case measure => rw [HZ.out, HKE.out]; simp only [intOf]; have := HIE.out; omega
            · have d0 : decide (z < (n : Int)) = false := decide_eq_false (by omega)
              have HKE := hide (show k = E by omega)
              rw [← hy, ← hz3]
              clear hbel2 hyt hzt hy hz3 ci
              go_upto_region 10 with fail
              refine wp_region_quiet_below (by kernel_rfl) (by kernel_rfl) ?_
              repeat (go_big_quiet_step (fail))
              refine wpQuiet_nil ?_
              intro _ hw'
              obtain ⟨⟨dq, osq⟩, hw''⟩ := hw'
              subst hw''
              have B3 := hide (bstep HB2.out (below_regrown _ dq osq))
              have ci := (B3.out.cell (p := ⟨g, i, none⟩) hg2).trans (HC.out i (by rw [← HN.out]; exact hlt))
              rw [← HX.out] at ci
              have hyt : i = y.toNat := by have := HY.out; omega
              rw [hyt] at ci
              obtain ⟨D, hD⟩ : ∃ D, D = E - i := ⟨_, rfl⟩
              have hD1 : 1 ≤ D := by omega
              have hDb : D ≤ 1000000000 := by omega
              have q1 : IntKind.i64.wrap (z - y) = (D : Int) := (IntWalk.i64_in _ (by have := HY.out; have := HZ.out; have := HKE.out; omega)).trans (by have := HY.out; have := HZ.out; have := HKE.out; omega)
              have CX := hide (fun w => show Calls Tryd.prog 47 #[.int .i64 x] w fun e w' => e = .returned (.string (itoaB x)) ∧ Below w.heap.size w w' from l01Dec_any x w (by omega) (by omega))
              have CD := hide (fun w => show Calls Tryd.prog 47 #[.int .i64 (D : Int)] w fun e w' => e = .returned (.string (itoaB (D : Int))) ∧ Below w.heap.size w w' from l01Dec_any D w (by omega) (by omega))
              have zx := itoaB_size x (by omega) (by omega)
              have zd := itoaB_size (D : Int) (by omega) (by omega)
              have JN := jn_next (W := W) (p := x) (k := D) S HS.out
              have zp := pword_size x D (by omega) hDb
              have hnew : pwAt L 0 = (W ++ [pword x D]) ++ pwAt L E := by rw [HPW.out, HPG.out, ← hD, List.append_assoc]; rfl
              have HNEW := hide hnew
              have HWS2 := hide (show ∀ v ∈ W ++ [pword x D], v.size ≤ 43 by
                intro v hv
                rcases List.mem_append.1 hv with hv | hv
                · exact HWS.out v hv
                · rw [List.mem_singleton.1 hv]; exact zp)
              obtain ⟨NW, hNW⟩ : ∃ NW, NW = W ++ [pword x D] := ⟨_, rfl⟩
              rw [← hNW] at JN HNEW HWS2
              have HNL := hide (show NW.length ≤ E ∧ NW ≠ [] from ⟨by rw [hNW, List.length_append, List.length_singleton]; omega, by rw [hNW]; simp⟩)
              obtain ⟨SX, hSX⟩ : ∃ SX, SX = itoaB x := ⟨_, rfl⟩
              obtain ⟨SD, hSD⟩ : ∃ SD, SD = itoaB (D : Int) := ⟨_, rfl⟩
              rw [← hSX] at CX zx JN
              rw [← hSD] at CD zd JN
              have HJN := hide JN
              have HEn := hide el
              have HIE := hide eg
              clear JN hnew hNW hSX hSD hyt hD zp
              by_cases hi0 : i = 0
              · have hWe : W = [] := HIW.out.1 hi0
                have d1 : decide (0 < y) = false := decide_eq_false (by have := HY.out; omega)
                by_cases hD2 : 1 < D
                · have d2 : decide ((1 : Int) < (D : Int)) = true := decide_eq_true (by omega)
                  have HJ := hide (HJN.out.1 hWe hD2)
                  have n1 : ¬ 9223372036854775807 < S.size + SX.size := by omega
                  have n2 : ¬ 9223372036854775807 < 1 + SD.size := by omega
                  have n3 : ¬ 9223372036854775807 < S.size + SX.size + (1 + SD.size) := by omega
                  clear hi0 hWe hD2
                  go_wp2_with fail
                  refine (CX.out _).mono ?_
                  rintro e w5 ⟨rfl, hb5⟩
                  have B5 := hide (bstep B3.out hb5)
                  clear hb5 ci
                  go_wp2_with fail
                  refine (CD.out _).mono ?_
                  rintro e w6 ⟨rfl, hb6⟩
                  have B6 := hide (bstep B5.out hb6)
                  clear hb6
                  go_wp2_with fail
                  go_roundw
                  case rel => exact ⟨E, NW, HEn.out, HNEW.out, ⟨fun h => absurd h (by have := HIE.out; omega), fun h => absurd h HNL.out.2⟩, HNL.out.1, HWS2.out, by rw [HJ.out], by rw [HZ.out, HKE.out], B6.out⟩
                  case measure => rw [HZ.out, HKE.out]; simp only [intOf]; have := HIE.out; omega
                · have d2 : decide ((1 : Int) < (D : Int)) = false := decide_eq_false (by omega)
                  have HJ := hide (HJN.out.2.1 hWe hD2)
                  have n1 : ¬ 9223372036854775807 < S.size + SX.size := by omega
                  clear hi0 hWe hD2
                  go_wp2_with fail
                  refine (CX.out _).mono ?_
                  rintro e w5 ⟨rfl, hb5⟩
                  have B5 := hide (bstep B3.out hb5)
                  clear hb5 ci
                  go_wp2_with fail
                  go_roundw
                  case rel => exact ⟨E, NW, HEn.out, HNEW.out, ⟨fun h => absurd h (by have := HIE.out; omega), fun h => absurd h HNL.out.2⟩, HNL.out.1, HWS2.out, by rw [HJ.out], by rw [HZ.out, HKE.out], B5.out⟩
                  case measure => rw [HZ.out, HKE.out]; simp only [intOf]; have := HIE.out; omega
              · have hWe : W ≠ [] := fun h => hi0 (HIW.out.2 h)
                have d1 : decide (0 < y) = true := decide_eq_true (by have := HY.out; omega)
                have n0 : ¬ 9223372036854775807 < S.size + 1 := by omega
                by_cases hD2 : 1 < D
                · have d2 : decide ((1 : Int) < (D : Int)) = true := decide_eq_true (by omega)
                  have HJ := hide (HJN.out.2.2.1 hWe hD2)
                  have n1 : ¬ 9223372036854775807 < S.size + 1 + SX.size := by omega
                  have n2 : ¬ 9223372036854775807 < 1 + SD.size := by omega
                  have n3 : ¬ 9223372036854775807 < S.size + 1 + SX.size + (1 + SD.size) := by omega
                  clear hi0 hWe hD2
                  go_wp2_with fail
                  refine (CX.out _).mono ?_
                  rintro e w5 ⟨rfl, hb5⟩
                  have B5 := hide (bstep B3.out hb5)
                  clear hb5 ci
                  go_wp2_with fail
                  refine (CD.out _).mono ?_
                  rintro e w6 ⟨rfl, hb6⟩
                  have B6 := hide (bstep B5.out hb6)
                  clear hb6
                  go_wp2_with fail
                  go_roundw
                  case rel => exact ⟨E, NW, HEn.out, HNEW.out, ⟨fun h => absurd h (by have := HIE.out; omega), fun h => absurd h HNL.out.2⟩, HNL.out.1, HWS2.out, by rw [HJ.out], by rw [HZ.out, HKE.out], B6.out⟩
                  case measure => rw [HZ.out, HKE.out]; simp only [intOf]; have := HIE.out; omega
                · have d2 : decide ((1 : Int) < (D : Int)) = false := decide_eq_false (by omega)
                  have HJ := hide (HJN.out.2.2.2 hWe hD2)
                  have n1 : ¬ 9223372036854775807 < S.size + 1 + SX.size := by omega
                  clear hi0 hWe hD2
                  go_wp2_with fail
                  refine (CX.out _).mono ?_
                  rintro e w5 ⟨rfl, hb5⟩
                  have B5 := hide (bstep B3.out hb5)
                  clear hb5 ci
                  go_wp2_with fail
                  go_roundw
                  case rel => exact ⟨E, NW, HEn.out, HNEW.out, ⟨fun h => absurd h (by have := HIE.out; omega), fun h => absurd h HNL.out.2⟩, HNL.out.1, HWS2.out, by rw [HJ.out], by rw [HZ.out, HKE.out], B5.out⟩
                  case measure => rw [HZ.out, HKE.out]; simp only [intOf]; have := HIE.out; omega
        · have hW : W = pwAt L 0 := by rw [HPW.out, pwAt_end (by rw [← HN.out]; omega), List.append_nil]
          have HE := hide (show S = jnB (pwAt L 0) by rw [HS.out, hW])
          clear hW
          go_wp2_with fail
          go_ret
          rw [HE.out]
          exact ⟨rfl, bstep B1.out HB.out⟩
end Go.Proofs.YtnlimfijepjliaaDoor
