/-
  FnPrimes: the walk of the law.
-/
import Derived.Test.YtnfllflifmijeaaPrmL
import Derived.Test.YtnfllflifmijeaaNum
import Derived.BigQuiet
import Derived.Deep.Cut
import Derived.Deep.RegionHeld3
import Derived.Lib.QuietBelow
set_option warningAsError false
namespace Go.Proofs.Ytnfllflifmijeaa
open Go.RowKit

set_option maxHeartbeats 2000000 in
set_option maxRecDepth 100000 in
theorem walk_FnPrimes (a0 : Option Addr) (len0 cap0 : Nat) (z0 : List Int) (w : World) (h0 : IsRow .u8 w a0 len0 cap0 z0) :
    Calls Try.prog 9 #[.slice a0 len0 cap0] w fun e w' => e = .returned (.bool true) ∧ Below w.heap.size w w' := by
  obtain ⟨b0, m0⟩ := row_bytes h0
  clear h0
  have H0 := hide b0
  clear b0
  cases hl : longB len0 0
  · have hlen : len0 ≤ 3000 := by
      unfold longB at hl
      simp only [Bool.or_eq_false_iff, decide_eq_false_iff_not] at hl
      omega
    have HL := hide hl
    clear hl
    go_enter Try.func9, Try.ntmps9
    go_wp2_with fail
    refine (a2Long_any _ _ _ _ _ _ _ m0 (Nat.zero_le _)).mono ?_
    rintro e w' ⟨rfl, rfl⟩
    rw [HL.out]
    go_wp2_with fail
    refine (a2Number_any a0 len0 cap0 _ H0.out (by omega)).mono ?_
    rintro e w1 ⟨N, rfl, ⟨n1, n2⟩, hb1⟩
    have B1 := hide hb1
    clear hb1
    have hP := fun w => implPrimesOf_any N w
    have hD := fun w => implDivisorsOf_any N w
    have hin : inR N 1 1000000000 = true := inR_mk (by omega)
    have e1 : primesL N = fac 2 N := by unfold primesL; rw [hin]; rfl
    have e2 : primesC N = 0 := by unfold primesC; rw [hin]; rfl
    have e3 : dsL N = divsL N := by unfold dsL; rw [hin]; rfl
    have e4 : dsC N = 0 := by unfold dsC; rw [hin]; rfl
    have hlen5 := divsL_len (n := N) (by omega)
    have hfl := fac_len 2 N n1
    have hDL := divsL_is n1
    have E1 := hide (fun i hi => fac_elem n1 (by omega : N ≤ 1000000000) (i := i) hi)
    have E2 := hide (fun i => fac_prefix n1 i)
    have E3 := hide (fun i hi => fac_step (n := N) (i := i) hi)
    have E4 := hide (fun i hi => fac_rise n1 (i := i) hi)
    have E5 := hide (fac_whole n1)
    have E6 := hide (isPrime_len n1 (by omega))
    have F1 := hide (fun i hi => divL_elem n1 hDL (i := i) hi)
    have F2 := hide (fun i hi => divL_rise n1 hDL (i := i) hi)
    have F3 := hide (divL_pos n1 hDL)
    rw [e1, e2] at hP
    rw [e3, e4] at hD
    obtain ⟨L, hLL⟩ : ∃ L, L = fac 2 N := ⟨_, rfl⟩
    obtain ⟨D, hDD⟩ : ∃ D, D = divsL N := ⟨_, rfl⟩
    rw [← hLL] at hP hfl E1 E2 E3 E4 E5 E6
    rw [← hDD] at hD hlen5 F1 F2 F3
    have HP := hide hP
    have HD := hide hD
    clear hP hD hin e1 e2 e3 e4 hDL hLL hDD
    obtain ⟨m, hm⟩ : ∃ m, m = L.length := ⟨_, rfl⟩
    obtain ⟨q, hq⟩ : ∃ q, q = D.length := ⟨_, rfl⟩
    rw [← hm] at HP hfl E1 E3 E4 E5 E6
    rw [← hq] at HD hlen5 F1 F2 F3
    have HM := hide hm
    have HQ := hide hq
    clear hm hq
    go_wp2_with fail
    refine (HP.out _).mono ?_
    rintro e w2 ⟨ao, cap, rfl, o2, hb2⟩
    have R2 := hide (o2.reads)
    have B2 := hide (bstep B1.out hb2)
    have hz2 := B2.out.size
    clear o2 hb2
    go_wp2_with fail
    go_loopw [6, 7] (fun s6 s7 wr => ∃ (k : Nat), k ≤ m ∧ s6 = .int .i64 (prodI (L.take k)) ∧ s7 = .int .i64 (k : Int) ∧ Below w2.heap.size w2 wr) (fun _ s7 _ => m - (intOf s7).toNat)
    case atStart => exact ⟨0, by omega, rfl, rfl, Below.refl _ _⟩
    case round =>
      obtain ⟨k, hk, rfl, rfl, hbel⟩ := hrel
      have HB := hide hbel
      clear hbel
      by_cases hlt : k < m
      · obtain ⟨b, off, rfl, l1, hcw⟩ := R2.out (by have := HM.out; omega)
        obtain ⟨x, hx⟩ : ∃ x, x = L.getD k 0 := ⟨_, rfl⟩
        obtain ⟨pr, hpr⟩ : ∃ p, p = prodI (L.take k) := ⟨_, rfl⟩
        obtain ⟨px, hpx⟩ : ∃ p, p = prodI (L.take (k + 1)) := ⟨_, rfl⟩
        have f1 := E1.out k hlt
        have f2 := E2.out k
        have f3 := E2.out (k + 1)
        have f4 := E3.out k hlt
        rw [← hx] at f1 f4
        rw [← hpr] at f2 f4
        rw [← hpx] at f3 f4
        obtain ⟨x2, xN, xP⟩ := f1
        obtain ⟨p1, p2⟩ := f2
        have qx : IntKind.i64.wrap (pr * x) = px := (IntWalk.i64_in _ (by rw [← f4]; omega)).trans f4.symm
        have HPX := hide hpx
        have HIP := hide (fun w => by have h := implIsPrime_any x w; rw [xP] at h; exact h)
        have C1 := hide (hcw k (by have := HM.out; omega))
        rw [← hx] at C1
        rw [← hpr]
        obtain ⟨z, hz⟩ : ∃ z, z = (k : Int) := ⟨_, rfl⟩
        have HZ := hide hz
        have i1 : (0 : Int) ≤ z := by omega
        have i2 : z < (m : Int) := by omega
        have hzn : k = z.toNat := by omega
        rw [← hz]
        rw [hzn] at C1
        have d1 : decide (x < 2) = false := by simp; omega
        have d2 : decide (N < x) = false := by simp; omega
        have d3 : decide (N < pr) = false := by simp; omega
        rcases Nat.eq_zero_or_pos k with hk0 | hk0
        · have hd : decide (0 < z) = false := by simp; omega
          have KEEP := hide (fun w' (hb : Below w2.heap.size w2 w') => show w'.cell? ⟨b, off + z.toNat, none⟩ = some (.int .i64 x) ∧ Below w2.heap.size w2 w' from ⟨(hb.cell (p := ⟨b, off + z.toNat, none⟩) l1).trans C1.out, hb⟩)
          have KS := hide (fun (c w' : World) (h : c.cell? ⟨b, off + z.toNat, none⟩ = some (.int .i64 x) ∧ Below w2.heap.size w2 c) (hb : Below c.heap.size c w') => KEEP.out w' (bstep h.2 hb))
          clear hx hpr hpx hcw f3 f4 xP hk0 hz hzn
          go_upto_region 9 with fail
          obtain ⟨c1, _⟩ := KEEP.out _ HB.out
          have k1 := cell_regrown c1
          have cP := fun d os => Calls.regrown_of (w := wr) (d := d) (os := os) (HIP.out _)
          refine wp_region_quiet_below (by kernel_rfl) (by kernel_rfl) ?_
          repeat (go_big_quiet_step (first | exact cP _ _ | exact cP _ | exact cP))
          refine wpQuiet_nil ?_
          intro _ hw'
          obtain ⟨⟨dq, osq⟩, hw''⟩ := hw'
          subst hw''
          have h2 := KEEP.out _ (bstep HB.out (below_regrown wr dq osq))
          all_goals
            have HS2 := hide h2
            obtain ⟨e0, _⟩ := h2
            go_wp2_with fail
            go_roundw
            case rel => exact ⟨k + 1, hlt, by rw [HPX.out], by rw [HZ.out]; first | rfl | go_num, HS2.out.2⟩
            case measure => rw [HZ.out]; simp only [intOf]; omega
        · obtain ⟨j, hj⟩ : ∃ j, k = j + 1 := ⟨k - 1, by omega⟩
          have hjm : j < m := by omega
          obtain ⟨y, hy⟩ : ∃ y, y = L.getD j 0 := ⟨_, rfl⟩
          have f5 := E4.out j (by omega)
          rw [← hj, ← hx, ← hy] at f5
          have C2 := hide (hcw j (by have := HM.out; omega))
          rw [← hy] at C2
          have hd : decide (0 < z) = true := by simp; omega
          have hw : IntKind.i64.wrap (z - 1) = (j : Int) := (IntWalk.i64_in _ (by omega)).trans (by omega)
          have j1 : (0 : Int) ≤ (j : Int) := by omega
          have j2 : (j : Int) < (m : Int) := by omega
          have d5 : decide (x < y) = false := by simp; omega
          have KEEP := hide (fun w' (hb : Below w2.heap.size w2 w') => show w'.cell? ⟨b, off + z.toNat, none⟩ = some (.int .i64 x) ∧ w'.cell? ⟨b, off + j, none⟩ = some (.int .i64 y) ∧ Below w2.heap.size w2 w' from ⟨(hb.cell (p := ⟨b, off + z.toNat, none⟩) l1).trans C1.out, (hb.cell (p := ⟨b, off + j, none⟩) l1).trans C2.out, hb⟩)
          have KS := hide (fun (c w' : World) (h : c.cell? ⟨b, off + z.toNat, none⟩ = some (.int .i64 x) ∧ c.cell? ⟨b, off + j, none⟩ = some (.int .i64 y) ∧ Below w2.heap.size w2 c) (hb : Below c.heap.size c w') => KEEP.out w' (bstep h.2.2 hb))
          clear hx hpr hpx hcw f3 f4 xP hj hy hz hzn hk0
          go_upto_region 9 with fail
          obtain ⟨c1, c2, _⟩ := KEEP.out _ HB.out
          have k1 := cell_regrown c1
          have k2 := cell_regrown c2
          have cP := fun d os => Calls.regrown_of (w := wr) (d := d) (os := os) (HIP.out _)
          refine wp_region_quiet_below (by kernel_rfl) (by kernel_rfl) ?_
          repeat (go_big_quiet_step (first | exact cP _ _ | exact cP _ | exact cP))
          refine wpQuiet_nil ?_
          intro _ hw'
          obtain ⟨⟨dq, osq⟩, hw''⟩ := hw'
          subst hw''
          have h2 := KEEP.out _ (bstep HB.out (below_regrown wr dq osq))
          all_goals
            have HS2 := hide h2
            obtain ⟨e0, _, _⟩ := h2
            go_wp2_with fail
            go_roundw
            case rel => exact ⟨k + 1, hlt, by rw [HPX.out], by rw [HZ.out]; first | rfl | go_num, HS2.out.2.2⟩
            case measure => rw [HZ.out]; simp only [intOf]; omega
      · obtain rfl : k = m := by omega
        rw [E5.out]
        have BB := hide (bstep B2.out HB.out)
        obtain ⟨β, hβ⟩ : ∃ β, β = ((k : Int) == 1) := ⟨_, rfl⟩
        have HIN := hide (fun w => by have h := implIsPrime_any N w; rw [E6.out, ← hβ] at h; exact h)
        have tβ : ((k : Int) == 1) = β := hβ.symm
        clear HB hβ
        go_wp2_with fail
        refine (HD.out _).mono ?_
        rintro e w3 ⟨a3, c3, rfl, o3, hb3⟩
        have R3 := hide o3.reads
        have B3 := hide (bstep BB.out hb3)
        have hq1 : decide ((q : Int) < 1) = false := decide_eq_false (by have := F3.out; omega)
        clear o3 hb3
        go_wp2_with fail
        refine (HIN.out _).mono ?_
        rintro e w4 ⟨rfl, hb4⟩
        have R4 := hide (R3.out.below hb4)
        have B4 := hide (bstep B3.out hb4)
        clear hb4
        go_wp2_with fail
        go_loopw [10] (fun s10 wr => ∃ (i : Nat), i ≤ q ∧ s10 = .int .i64 (i : Int) ∧ Below w4.heap.size w4 wr) (fun s10 _ => q - (intOf s10).toNat)
        case atStart => exact ⟨0, by omega, rfl, Below.refl _ _⟩
        case round =>
          obtain ⟨i, hi, rfl, hbel⟩ := hrel
          have HB := hide hbel
          clear hbel
          by_cases hlt : i < q
          · obtain ⟨b, off, rfl, l1, hcw⟩ := R4.out (by have := HQ.out; omega)
            have KC := hide (fun (j : Nat) (hj : j < q) => (HB.out.cell (p := ⟨b, off + j, none⟩) l1).trans (hcw j (by have := HQ.out; omega)))
            obtain ⟨x, hx⟩ : ∃ x, x = D.getD i 0 := ⟨_, rfl⟩
            obtain ⟨m2, hm2⟩ : ∃ m, m = q - 1 - i := ⟨_, rfl⟩
            obtain ⟨y, hy⟩ : ∃ y, y = D.getD m2 0 := ⟨_, rfl⟩
            have f1 := F1.out i hlt
            have f2 := F1.out m2 (by omega)
            rw [← hm2, ← hx, ← hy] at f1
            rw [← hy] at f2
            obtain ⟨x1, x2, x3⟩ := f1
            obtain ⟨y1, y2, _⟩ := f2
            have c1 := KC.out i hlt
            have c2 := KC.out m2 (by omega)
            rw [← hx] at c1
            rw [← hy] at c2
            obtain ⟨z, hz⟩ : ∃ z, z = (i : Int) := ⟨_, rfl⟩
            have HZ := hide hz
            have i1 : (0 : Int) ≤ z := by omega
            have i2 : z < (q : Int) := by omega
            have hzn : i = z.toNat := by omega
            have w1' : IntKind.i64.wrap ((q : Int) - 1) = (q : Int) - 1 := IntWalk.i64_in _ (by omega)
            have w2' : IntKind.i64.wrap ((q : Int) - 1 - z) = (m2 : Int) := (IntWalk.i64_in _ (by omega)).trans (by omega)
            have w3' : IntKind.i64.wrap (x * y) = N := (IntWalk.i64_in _ (by rw [x3]; omega)).trans x3
            have j1 : (0 : Int) ≤ (m2 : Int) := by omega
            have j2 : (m2 : Int) < (q : Int) := by omega
            have d1 : decide (x < 1) = false := decide_eq_false (by omega)
            have d2 : decide (N < x) = false := decide_eq_false (by omega)
            have d3 : decide (y < 1) = false := decide_eq_false (by omega)
            have d4 : decide (N < y) = false := decide_eq_false (by omega)
            rw [← hz]
            rw [hzn] at c1
            rcases Nat.eq_zero_or_pos i with hi0 | hi0
            · have hd : decide (0 < z) = false := decide_eq_false (by omega)
              clear hx hm2 hy x3 hz hzn hi0 hcw tβ
              go_wp2_with fail
              go_roundw
              case rel => exact ⟨i + 1, hlt, by rw [HZ.out]; first | rfl | go_num, HB.out⟩
              case measure => rw [HZ.out]; simp only [intOf]; omega
            · obtain ⟨j, hj⟩ : ∃ j, i = j + 1 := ⟨i - 1, by omega⟩
              have hjq : j < q := by omega
              obtain ⟨u, hu⟩ : ∃ u, u = D.getD j 0 := ⟨_, rfl⟩
              have f5 := F2.out j (by omega)
              rw [← hj, ← hx, ← hu] at f5
              have c3 := KC.out j hjq
              rw [← hu] at c3
              have hd : decide (0 < z) = true := decide_eq_true (by omega)
              have hw : IntKind.i64.wrap (z - 1) = (j : Int) := (IntWalk.i64_in _ (by omega)).trans (by omega)
              have k1 : (0 : Int) ≤ (j : Int) := by omega
              have k2 : (j : Int) < (q : Int) := by omega
              have d5 : decide (x ≤ u) = false := decide_eq_false (by omega)
              clear hx hm2 hy x3 hz hzn hi0 hcw tβ hj hu
              go_wp2_with fail
              go_roundw
              case rel => exact ⟨i + 1, hlt, by rw [HZ.out]; first | rfl | go_num, HB.out⟩
              case measure => rw [HZ.out]; simp only [intOf]; omega
          · go_wp2_with fail
            go_ret
            exact ⟨rfl, bstep B4.out HB.out⟩
  · have HL := hide hl
    clear hl
    go_enter Try.func9, Try.ntmps9
    go_wp2_with fail
    refine (a2Long_any _ _ _ _ _ _ _ m0 (Nat.zero_le _)).mono ?_
    rintro e w' ⟨rfl, rfl⟩
    rw [HL.out]
    go_wp2_with fail
    go_ret
    exact ⟨rfl, Below.refl _ _⟩
end Go.Proofs.Ytnfllflifmijeaa
