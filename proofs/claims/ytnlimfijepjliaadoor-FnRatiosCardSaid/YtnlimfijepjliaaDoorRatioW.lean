/-
  Contracts over ratios: validity, the reduced ratio, MakeRatio, and the walks of ValidRatio's and MakeRatio's laws.
-/
import Derived.Test.YtnlimfijepjliaaDoorInts
import Derived.Test.YtnlimfijepjliaaDoorRatio
namespace Go.Proofs.YtnlimfijepjliaaDoor
open Go.RowKit

theorem l02Size_any (n : Int) (w : World) (h : -4000000000000000000 ≤ n ∧ n ≤ 4000000000000000000) : Calls Tryd.prog 82 #[.int .i64 n] w fun e w' => e = .returned (.int .i64 (absI n)) ∧ w = w' := by
  by_cases hn : n < 0
  · go_enter Tryd.func82, Tryd.ntmps82
    go_wp2
    go_ret
    exact ⟨ret_int (absI_of_neg hn).symm, rfl⟩
  · go_enter Tryd.func82, Tryd.ntmps82
    go_wp2
    go_ret
    exact ⟨ret_int (absI_of_nonneg (by omega)).symm, rfl⟩
theorem part_neg (n : Int) (h : -9223372036854775808 ≤ n ∧ n < 0) : IntKind.u64.wrap (-(IntKind.u64.wrap n)) = -n := by
  simp [IntKind.wrap, IntKind.bits, IntKind.signed]; omega
theorem l02Part_any (n : Int) (w : World) (h : -9223372036854775808 ≤ n ∧ n ≤ 9223372036854775807) : Calls Tryd.prog 128 #[.int .i64 n] w fun e w' => e = .returned (.int .u64 (absI n)) ∧ w = w' := by
  by_cases hn : n < 0
  · go_enter Tryd.func128, Tryd.ntmps128
    go_wp2
    go_ret
    exact ⟨ret_int (by rw [absI_of_neg hn]; exact part_neg n ⟨h.1, hn⟩), rfl⟩
  · go_enter Tryd.func128, Tryd.ntmps128
    go_wp2
    go_ret
    exact ⟨ret_int (absI_of_nonneg (by omega)).symm, rfl⟩
theorem magnitude_any (n : Int) (w : World) (h : -9223372036854775808 ≤ n ∧ n ≤ 9223372036854775807) : Calls Tryd.prog 97 #[.int .i64 n] w fun e w' => e = .returned (.int .u64 (absI n)) ∧ w = w' := by
  by_cases hn : n < 0
  · go_enter Tryd.func97, Tryd.ntmps97
    go_wp2
    go_ret
    exact ⟨ret_int (by rw [absI_of_neg hn]; exact part_neg n ⟨h.1, hn⟩), rfl⟩
  · go_enter Tryd.func97, Tryd.ntmps97
    go_wp2
    go_ret
    exact ⟨ret_int (absI_of_nonneg (by omega)).symm, rfl⟩
theorem absI_bd (n : Int) (h : -9223372036854775808 ≤ n ∧ n ≤ 9223372036854775807) : absI n ≤ 9223372036854775808 := by unfold absI; omega
theorem l02Make_any (n d : Int) (w : World) (hn : -9223372036854775808 ≤ n ∧ n ≤ 9223372036854775807) (hd : -9223372036854775808 ≤ d ∧ d ≤ 9223372036854775807) (h0 : d ≠ 0) :
    Calls Tryd.prog 96 #[.int .i64 n, .int .i64 d] w fun e w' => e = .returned (.tuple #[.agg #[.int .i64 (mkN n d), .int .i64 (mkD n d)], .bool (mkOk n d)]) ∧ Below w.heap.size w w' := by
  have ha := absI_bd n hn
  have hb := absI_bd d hd
  obtain ⟨q1, q2, q3, q4, q5, q6⟩ := q_bd n d ha hb h0
  have ha0 := absI_nonneg n
  have hb0 := absI_nonneg d
  have HQ1 := hide (show absI n / gcdI n d = qN n d from rfl)
  have HQ2 := hide (show absI d / gcdI n d = qD n d from rfl)
  go_enter Tryd.func96, Tryd.ntmps96
  go_wp2_with (go_at_call 128; refine (l02Part_any _ _ (by omega)).mono ?_; rintro e w' ⟨rfl, rfl⟩)
  go_loop [8, 9] (fun x y => ∃ p q : Int, 0 ≤ p ∧ p ≤ 9223372036854775808 ∧ 0 ≤ q ∧ q ≤ 9223372036854775808 ∧ gcdI p q = gcdI n d ∧ x = .int .u64 p ∧ y = .int .u64 q) (fun _ y => (intOf y).toNat)
  case atStart => exact ⟨absI n, absI d, ha0, ha, hb0, hb, gcdI_absI n d, rfl, rfl⟩
  case round =>
    obtain ⟨p, q, hp0, hp1, hq0, hq1, hg, rfl, rfl⟩ := hrel
    have HG := hide hg
    clear hg
    by_cases hq : 0 < q
    · go_wp2
      go_round
      case rel =>
        have h1 := Int.emod_nonneg p (by omega : q ≠ 0)
        have h2 := Int.emod_lt_of_pos p hq
        exact ⟨q, p % q, by omega, by omega, by omega, by omega, (gcdI_emod p q hp0).trans HG.out, rfl, rfl⟩
      case measure =>
        have h1 := Int.emod_nonneg p (by omega : q ≠ 0)
        have h2 := Int.emod_lt_of_pos p hq
        simp [intOf]; omega
    · have e : q = 0 := by omega
      have e2 : p = gcdI n d := by
        have := HG.out
        rw [e, gcdI_zero, if_neg (by omega)] at this
        exact this
      subst e
      subst e2
      clear hq hp0 hp1 HG
      have E1 := HQ1.out
      have E2 := HQ2.out
      clear HQ1 HQ2
      by_cases c1 : qN n d ≤ 1000000000
      · by_cases c2 : qD n d ≤ 1000000000
        · have hok := hide (show mkOk n d = true by unfold mkOk; rw [decide_eq_true c1, decide_eq_true c2]; rfl)
          by_cases s1 : n < 0
          · by_cases s2 : d < 0
            · have hs := hide (show sgnd n d = false by unfold sgnd; rw [decide_eq_true s1, decide_eq_true s2]; rfl)
              go_wp2
              refine bodyPost_ret (v := .tuple #[.agg #[.int .i64 (qN n d), .int .i64 (qD n d)], .bool true]) (by simp [results, Tryd.results96, go_sem]) rfl ⟨?_, (by repeat (first | exact Below.refl _ _ | refine balloc ?_ _ | refine bdrewN ?_ _ | refine bset ?_ (Nat.le_refl _) _ | refine bset ?_ (Nat.le_succ _) _))⟩
              unfold mkN mkD; rw [hok.out, hs.out]; rfl
            · have hs := hide (show sgnd n d = true by unfold sgnd; rw [decide_eq_true s1, decide_eq_false s2]; rfl)
              go_wp2
              refine bodyPost_ret (v := .tuple #[.agg #[.int .i64 (-qN n d), .int .i64 (qD n d)], .bool true]) (by simp [results, Tryd.results96, go_sem]) rfl ⟨?_, (by repeat (first | exact Below.refl _ _ | refine balloc ?_ _ | refine bdrewN ?_ _ | refine bset ?_ (Nat.le_refl _) _ | refine bset ?_ (Nat.le_succ _) _))⟩
              unfold mkN mkD; rw [hok.out, hs.out]; rfl
          · by_cases s2 : d < 0
            · have hs := hide (show sgnd n d = true by unfold sgnd; rw [decide_eq_false s1, decide_eq_true s2]; rfl)
              go_wp2
              refine bodyPost_ret (v := .tuple #[.agg #[.int .i64 (-qN n d), .int .i64 (qD n d)], .bool true]) (by simp [results, Tryd.results96, go_sem]) rfl ⟨?_, (by repeat (first | exact Below.refl _ _ | refine balloc ?_ _ | refine bdrewN ?_ _ | refine bset ?_ (Nat.le_refl _) _ | refine bset ?_ (Nat.le_succ _) _))⟩
              unfold mkN mkD; rw [hok.out, hs.out]; rfl
            · have hs := hide (show sgnd n d = false by unfold sgnd; rw [decide_eq_false s1, decide_eq_false s2]; rfl)
              go_wp2
              refine bodyPost_ret (v := .tuple #[.agg #[.int .i64 (qN n d), .int .i64 (qD n d)], .bool true]) (by simp [results, Tryd.results96, go_sem]) rfl ⟨?_, (by repeat (first | exact Below.refl _ _ | refine balloc ?_ _ | refine bdrewN ?_ _ | refine bset ?_ (Nat.le_refl _) _ | refine bset ?_ (Nat.le_succ _) _))⟩
              unfold mkN mkD; rw [hok.out, hs.out]; rfl
        · have hok := hide (show mkOk n d = false by unfold mkOk; rw [decide_eq_false c2]; simp)
          go_wp2
          refine bodyPost_ret (v := .tuple #[.agg #[.int .i64 0, .int .i64 0], .bool false]) (by simp [results, Tryd.results96, go_sem]) rfl ⟨?_, (by repeat (first | exact Below.refl _ _ | refine balloc ?_ _ | refine bdrewN ?_ _ | refine bset ?_ (Nat.le_refl _) _ | refine bset ?_ (Nat.le_succ _) _))⟩
          unfold mkN mkD; rw [hok.out]; rfl
      · have hok := hide (show mkOk n d = false by unfold mkOk; rw [decide_eq_false c1]; rfl)
        go_wp2
        refine bodyPost_ret (v := .tuple #[.agg #[.int .i64 0, .int .i64 0], .bool false]) (by simp [results, Tryd.results96, go_sem]) rfl ⟨?_, (by repeat (first | exact Below.refl _ _ | refine balloc ?_ _ | refine bdrewN ?_ _ | refine bset ?_ (Nat.le_refl _) _ | refine bset ?_ (Nat.le_succ _) _))⟩
        unfold mkN mkD; rw [hok.out]; rfl
theorem absI_bd' (n : Int) (h : -9223372036854775808 ≤ n ∧ n ≤ 9223372036854775807) : absI n ≤ 9223372036854775808 := by unfold absI; omega
theorem reduced_any (n d : Int) (w : World) (hn : -9223372036854775808 ≤ n ∧ n ≤ 9223372036854775807) (hd : -9223372036854775808 ≤ d ∧ d ≤ 9223372036854775807) (h0 : d ≠ 0) :
    Calls Tryd.prog 73 #[.int .i64 n, .int .i64 d] w fun e w' => e = .returned (.tuple #[.agg #[.int .i64 (mkN n d), .int .i64 (mkD n d)], .bool (mkOk n d)]) ∧ Below w.heap.size w w' := by
  have ha := absI_bd' n hn
  have hb := absI_bd' d hd
  obtain ⟨q1, q2, q3, q4, q5, q6⟩ := q_bd n d ha hb h0
  have ha0 := absI_nonneg n
  have hb0 := absI_nonneg d
  have HQ1 := hide (show absI n / gcdI n d = qN n d from rfl)
  have HQ2 := hide (show absI d / gcdI n d = qD n d from rfl)
  go_enter Tryd.func73, Tryd.ntmps73
  go_wp2_with (go_at_call 97; refine (magnitude_any _ _ (by omega)).mono ?_; rintro e w' ⟨rfl, rfl⟩)
  go_loopw [8, 9] (fun x y wr => ∃ p q : Int, 0 ≤ p ∧ p ≤ 9223372036854775808 ∧ 0 ≤ q ∧ q ≤ 9223372036854775808 ∧ gcdI p q = gcdI n d ∧ x = .int .u64 p ∧ y = .int .u64 q ∧ ∃ k, wr = (w.alloc (.cells #[.int .i64 0, .int .i64 0] 27)).drewN k) (fun _ y _ => (intOf y).toNat)
  case atStart => exact ⟨absI n, absI d, ha0, ha, hb0, hb, gcdI_absI n d, rfl, rfl, 0, rfl⟩
  case round =>
    obtain ⟨p, q, hp0, hp1, hq0, hq1, hg, rfl, rfl, kd, rfl⟩ := hrel
    have HG := hide hg
    clear hg
    by_cases hq : 0 < q
    · have hq' : (q != 0) = true := by simp; omega
      go_wp2
      go_quiet (fail)
      go_wp2
      go_roundw
      case rel =>
        have h1 := Int.emod_nonneg p (by omega : q ≠ 0)
        have h2 := Int.emod_lt_of_pos p hq
        exact ⟨q, p % q, by omega, by omega, by omega, by omega, (gcdI_emod p q hp0).trans HG.out, rfl, rfl, _, World.drewN_drewN _ _ _⟩
      case measure =>
        have h1 := Int.emod_nonneg p (by omega : q ≠ 0)
        have h2 := Int.emod_lt_of_pos p hq
        simp [intOf]; omega
    · have e : q = 0 := by omega
      have e2 : p = gcdI n d := by
        have := HG.out
        rw [e, gcdI_zero, if_neg (by omega)] at this
        exact this
      subst e
      subst e2
      clear hq hp0 hp1 HG
      have E1 := HQ1.out
      have E2 := HQ2.out
      clear HQ1 HQ2
      by_cases c1 : qN n d ≤ 1000000000
      · by_cases c2 : qD n d ≤ 1000000000
        · have hok := hide (show mkOk n d = true by unfold mkOk; rw [decide_eq_true c1, decide_eq_true c2]; rfl)
          by_cases s1 : n < 0
          · by_cases s2 : d < 0
            · have hs := hide (show sgnd n d = false by unfold sgnd; rw [decide_eq_true s1, decide_eq_true s2]; rfl)
              have b1 : decide (n < 0) = true := decide_eq_true s1
              have b2 : decide (d < 0) = true := decide_eq_true s2
              go_wp2
              go_quiet (fail)
              go_wp2
              refine bodyPost_ret (v := .tuple #[.agg #[.int .i64 (qN n d), .int .i64 (qD n d)], .bool true]) (by simp [results, Tryd.results73, go_sem]) rfl ⟨?_, (by repeat (first | exact Below.refl _ _ | refine balloc ?_ _ | refine bdrewN ?_ _ | refine bset ?_ (Nat.le_refl _) _ | refine bset ?_ (Nat.le_succ _) _))⟩
              unfold mkN mkD; rw [hok.out, hs.out]; rfl
            · have hs := hide (show sgnd n d = true by unfold sgnd; rw [decide_eq_true s1, decide_eq_false s2]; rfl)
              have b1 : decide (n < 0) = true := decide_eq_true s1
              have b2 : decide (d < 0) = false := decide_eq_false s2
              go_wp2
              go_quiet (fail)
              go_wp2
              refine bodyPost_ret (v := .tuple #[.agg #[.int .i64 (-qN n d), .int .i64 (qD n d)], .bool true]) (by simp [results, Tryd.results73, go_sem]) rfl ⟨?_, (by repeat (first | exact Below.refl _ _ | refine balloc ?_ _ | refine bdrewN ?_ _ | refine bset ?_ (Nat.le_refl _) _ | refine bset ?_ (Nat.le_succ _) _))⟩
              unfold mkN mkD; rw [hok.out, hs.out]; rfl
          · by_cases s2 : d < 0
            · have hs := hide (show sgnd n d = true by unfold sgnd; rw [decide_eq_false s1, decide_eq_true s2]; rfl)
              have b1 : decide (n < 0) = false := decide_eq_false s1
              have b2 : decide (d < 0) = true := decide_eq_true s2
              go_wp2
              go_quiet (fail)
              go_wp2
              refine bodyPost_ret (v := .tuple #[.agg #[.int .i64 (-qN n d), .int .i64 (qD n d)], .bool true]) (by simp [results, Tryd.results73, go_sem]) rfl ⟨?_, (by repeat (first | exact Below.refl _ _ | refine balloc ?_ _ | refine bdrewN ?_ _ | refine bset ?_ (Nat.le_refl _) _ | refine bset ?_ (Nat.le_succ _) _))⟩
              unfold mkN mkD; rw [hok.out, hs.out]; rfl
            · have hs := hide (show sgnd n d = false by unfold sgnd; rw [decide_eq_false s1, decide_eq_false s2]; rfl)
              have b1 : decide (n < 0) = false := decide_eq_false s1
              have b2 : decide (d < 0) = false := decide_eq_false s2
              go_wp2
              go_quiet (fail)
              go_wp2
              refine bodyPost_ret (v := .tuple #[.agg #[.int .i64 (qN n d), .int .i64 (qD n d)], .bool true]) (by simp [results, Tryd.results73, go_sem]) rfl ⟨?_, (by repeat (first | exact Below.refl _ _ | refine balloc ?_ _ | refine bdrewN ?_ _ | refine bset ?_ (Nat.le_refl _) _ | refine bset ?_ (Nat.le_succ _) _))⟩
              unfold mkN mkD; rw [hok.out, hs.out]; rfl
        · have hok := hide (show mkOk n d = false by unfold mkOk; rw [decide_eq_false c2]; simp)
          go_wp2
          go_quiet (fail)
          go_wp2
          refine bodyPost_ret (v := .tuple #[.agg #[.int .i64 0, .int .i64 0], .bool false]) (by simp [results, Tryd.results73, go_sem]) rfl ⟨?_, (by repeat (first | exact Below.refl _ _ | refine balloc ?_ _ | refine bdrewN ?_ _ | refine bset ?_ (Nat.le_refl _) _ | refine bset ?_ (Nat.le_succ _) _))⟩
          unfold mkN mkD; rw [hok.out]; rfl
      · have hok := hide (show mkOk n d = false by unfold mkOk; rw [decide_eq_false c1]; rfl)
        go_wp2
        go_quiet (fail)
        go_wp2
        refine bodyPost_ret (v := .tuple #[.agg #[.int .i64 0, .int .i64 0], .bool false]) (by simp [results, Tryd.results73, go_sem]) rfl ⟨?_, (by repeat (first | exact Below.refl _ _ | refine balloc ?_ _ | refine bdrewN ?_ _ | refine bset ?_ (Nat.le_refl _) _ | refine bset ?_ (Nat.le_succ _) _))⟩
        unfold mkN mkD; rw [hok.out]; rfl
end Go.Proofs.YtnlimfijepjliaaDoor
