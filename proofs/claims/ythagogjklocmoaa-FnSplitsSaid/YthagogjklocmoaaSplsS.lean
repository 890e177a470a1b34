/-
  SplitsOf of both sides: contracts.
-/
import Derived.Test.YthagogjklocmoaaSplsR
namespace Go.Proofs.Ythagogjklocmoaa
open Go.RowKit

def soL (n low high count : Int) : List (List Int) := if okS n low high count then (if (spl 61 n low high count.toNat).length ≤ 60 then spl 61 n low high count.toNat else []) else []
def soC (n low high count : Int) : Int := if okS n low high count then (if (spl 61 n low high count.toNat).length ≤ 60 then 0 else 5) else 2
theorem soL_no {n low high count : Int} (h : okS n low high count = false) : soL n low high count = [] ∧ soC n low high count = 2 := by
  unfold soL soC
  rw [h]
  exact ⟨rfl, rfl⟩
theorem soL_full {n low high count : Int} (h : okS n low high count = true) (h2 : ¬ (spl 61 n low high count.toNat).length ≤ 60) : soL n low high count = [] ∧ soC n low high count = 5 := by
  unfold soL soC
  rw [h, if_pos rfl, if_neg h2, if_pos rfl, if_neg h2]
  exact ⟨rfl, rfl⟩
theorem soL_yes {n low high count : Int} (h : okS n low high count = true) (h2 : (spl 61 n low high count.toNat).length ≤ 60) : soL n low high count = spl 61 n low high count.toNat ∧ soC n low high count = 0 := by
  unfold soL soC
  rw [h, if_pos rfl, if_pos h2, if_pos rfl, if_pos h2]
  exact ⟨rfl, rfl⟩
def SoPost (w : World) (rows : List (List Int)) (code : Int) (e : Ending) (w' : World) : Prop := ∃ ao cap es, e = .returned (.tuple #[.slice ao rows.length cap, .int .i64 code]) ∧ Own2 w' w.heap.size (.slice ao rows.length cap) rows es ∧ Below w.heap.size w w'
theorem soPost_nil (w : World) (k : Int) : SoPost w [] k (.returned (.tuple #[.slice none 0 0, .int .i64 k])) w := ⟨none, 0, [], rfl, Own2.nil _ _, Below.refl _ _⟩
set_option maxHeartbeats 1000000 in
theorem implSplitsOf_any (n low high count : Int) (w : World) : Calls Try.prog 9 #[.int .i64 n, .int .i64 low, .int .i64 high, .int .i64 count] w (SoPost w (soL n low high count) (soC n low high count)) := by
  cases h : okS n low high count
  · obtain ⟨e1, e2⟩ := soL_no h
    rw [e1, e2]
    have H := hide h
    clear h e1 e2
    go_enter Try.func9, Try.ntmps9
    go_wp2_with fail
    refine (splittable_any _ _ _ _ _).mono ?_
    rintro e w' ⟨rfl, rfl⟩
    rw [H.out]
    go_wp2_with fail
    go_ret2
    exact soPost_nil _ _
  · obtain ⟨hn, hr⟩ := okS_true h
    obtain ⟨_, _, hct⟩ := okR_true hr
    obtain ⟨c, hc, rfl⟩ := count_nat hct
    have HC := hide (fun W => splitsOf_any n low high c 61 W hn hc (by omega))
    have hT : (((c + 1 : Nat) : Int)).toNat = c + 1 := Int.toNat_natCast _
    by_cases hl : (spl 61 n low high (c + 1)).length ≤ 60
    · obtain ⟨e1, e2⟩ := soL_yes h (by rw [hT]; exact hl)
      rw [e1, e2, hT]
      have H := hide h
      obtain ⟨cc, hcc⟩ : ∃ cc, cc = c + 1 := ⟨_, rfl⟩
      rw [← hcc] at HC H hl ⊢
      obtain ⟨rows, hrows⟩ : ∃ rows, rows = spl 61 n low high cc := ⟨_, rfl⟩
      rw [← hrows] at HC hl ⊢
      obtain ⟨m, hm⟩ : ∃ m, m = rows.length := ⟨_, rfl⟩
      have HM := hide hm
      rw [← hm] at hl
      have hl2 : ¬ 60 < m := by omega
      clear h hr hct e1 e2 hT hcc hrows hm
      go_enter Try.func9, Try.ntmps9
      go_wp2_with fail
      refine (splittable_any _ _ _ _ _).mono ?_
      rintro e w' ⟨rfl, rfl⟩
      rw [H.out]
      go_wp2_with fail
      refine (HC.out _).mono ?_
      rintro e w' ⟨ao, cap, es, rfl, ho, hb⟩
      have HO := hide ho
      have HB := hide hb
      clear ho hb
      rw [← HM.out]
      go_wp2_with fail
      go_ret2
      rw [HM.out]
      exact ⟨ao, cap, es, rfl, HO.out, HB.out⟩
    · obtain ⟨e1, e2⟩ := soL_full h (by rw [hT]; exact hl)
      rw [e1, e2]
      have H := hide h
      obtain ⟨cc, hcc⟩ : ∃ cc, cc = c + 1 := ⟨_, rfl⟩
      rw [← hcc] at HC H hl ⊢
      obtain ⟨rows, hrows⟩ : ∃ rows, rows = spl 61 n low high cc := ⟨_, rfl⟩
      rw [← hrows] at HC hl
      obtain ⟨m, hm⟩ : ∃ m, m = rows.length := ⟨_, rfl⟩
      have HM := hide hm
      rw [← hm] at hl
      have hl2 : 60 < m := by omega
      clear h hr hct e1 e2 hT hcc hrows hm
      go_enter Try.func9, Try.ntmps9
      go_wp2_with fail
      refine (splittable_any _ _ _ _ _).mono ?_
      rintro e w' ⟨rfl, rfl⟩
      rw [H.out]
      go_wp2_with fail
      refine (HC.out _).mono ?_
      rintro e w' ⟨ao, cap, es, rfl, ho, hb⟩
      have HB := hide hb
      clear ho hb
      rw [← HM.out]
      go_wp2_with fail
      go_ret2
      exact ⟨none, 0, [], rfl, Own2.nil _ _, HB.out⟩
set_option maxHeartbeats 1000000 in
theorem specSplitsOf_any (n low high count : Int) (w : World) : Calls Try.prog 12 #[.int .i64 n, .int .i64 low, .int .i64 high, .int .i64 count] w (SoPost w (soL n low high count) (soC n low high count)) := by
  cases h1 : inR n 1 1000000000
  · obtain ⟨e1, e2⟩ := soL_no (n := n) (low := low) (high := high) (count := count) (by unfold okS; rw [h1]; rfl)
    rw [e1, e2]
    have H1 := hide h1
    clear h1 e1 e2
    go_enter Try.func12, Try.ntmps12
    go_wp2_with fail
    refine (l04Ask_any _ _).mono ?_
    rintro e w' ⟨rfl, rfl⟩
    rw [H1.out]
    go_wp2_with fail
    go_ret2
    exact soPost_nil _ _
  · cases h2 : okR low high count
    · obtain ⟨e1, e2⟩ := soL_no (n := n) (low := low) (high := high) (count := count) (by unfold okS; rw [h1, h2]; rfl)
      rw [e1, e2]
      have H1 := hide h1
      have H2 := hide h2
      clear h1 h2 e1 e2
      go_enter Try.func12, Try.ntmps12
      go_wp2_with fail
      refine (l04Ask_any _ _).mono ?_
      rintro e w' ⟨rfl, rfl⟩
      rw [H1.out]
      go_wp2_with fail
      refine (l04Range_any _ _ _ _).mono ?_
      rintro e w' ⟨rfl, rfl⟩
      rw [H2.out]
      go_wp2_with fail
      go_ret2
      exact soPost_nil _ _
    · have h : okS n low high count = true := by unfold okS; rw [h1, h2]; rfl
      have hn := inR_true h1
      obtain ⟨_, hhi, hct⟩ := okR_true h2
      obtain ⟨c, hc, rfl⟩ := count_nat hct
      have HC := hide (fun W => l04Splits_any n low high c 60 W hn hhi hc (by omega))
      have hT : (((c + 1 : Nat) : Int)).toNat = c + 1 := Int.toNat_natCast _
      by_cases hl : (spl 61 n low high (c + 1)).length ≤ 60
      · obtain ⟨e1, e2⟩ := soL_yes h (by rw [hT]; exact hl)
        rw [e1, e2, hT]
        have H1 := hide h1
        have H2 := hide h2
        obtain ⟨cc, hcc⟩ : ∃ cc, cc = c + 1 := ⟨_, rfl⟩
        rw [← hcc] at HC H2 hl ⊢
        obtain ⟨rows, hrows⟩ : ∃ rows, rows = spl 61 n low high cc := ⟨_, rfl⟩
        rw [show spl (60 + 1) n low high cc = rows from hrows.symm] at HC
        rw [← hrows] at hl ⊢
        obtain ⟨m, hm⟩ : ∃ m, m = rows.length := ⟨_, rfl⟩
        have HM := hide hm
        rw [← hm] at hl
        have hl2 : ¬ 60 < m := by omega
        clear h h1 h2 hct e1 e2 hT hcc hrows hm
        go_enter Try.func12, Try.ntmps12
        go_wp2_with fail
        refine (l04Ask_any _ _).mono ?_
        rintro e w' ⟨rfl, rfl⟩
        rw [H1.out]
        go_wp2_with fail
        refine (l04Range_any _ _ _ _).mono ?_
        rintro e w' ⟨rfl, rfl⟩
        rw [H2.out]
        go_wp2_with fail
        refine (HC.out _).mono ?_
        rintro e w' ⟨ao, cap, es, rfl, ho, hb⟩
        have HO := hide ho
        have HB := hide hb
        clear ho hb
        rw [← HM.out]
        go_wp2_with fail
        go_ret2
        rw [HM.out]
        exact ⟨ao, cap, es, rfl, HO.out, HB.out⟩
      · obtain ⟨e1, e2⟩ := soL_full h (by rw [hT]; exact hl)
        rw [e1, e2]
        have H1 := hide h1
        have H2 := hide h2
        obtain ⟨cc, hcc⟩ : ∃ cc, cc = c + 1 := ⟨_, rfl⟩
        rw [← hcc] at HC H2 hl ⊢
        obtain ⟨rows, hrows⟩ : ∃ rows, rows = spl 61 n low high cc := ⟨_, rfl⟩
        rw [show spl (60 + 1) n low high cc = rows from hrows.symm] at HC
        rw [← hrows] at hl
        obtain ⟨m, hm⟩ : ∃ m, m = rows.length := ⟨_, rfl⟩
        have HM := hide hm
        rw [← hm] at hl
        have hl2 : 60 < m := by omega
        clear h h1 h2 hct e1 e2 hT hcc hrows hm
        go_enter Try.func12, Try.ntmps12
        go_wp2_with fail
        refine (l04Ask_any _ _).mono ?_
        rintro e w' ⟨rfl, rfl⟩
        rw [H1.out]
        go_wp2_with fail
        refine (l04Range_any _ _ _ _).mono ?_
        rintro e w' ⟨rfl, rfl⟩
        rw [H2.out]
        go_wp2_with fail
        refine (HC.out _).mono ?_
        rintro e w' ⟨ao, cap, es, rfl, ho, hb⟩
        have HB := hide hb
        clear ho hb
        rw [← HM.out]
        go_wp2_with fail
        go_ret2
        exact ⟨none, 0, [], rfl, Own2.nil _ _, HB.out⟩
end Go.Proofs.Ythagogjklocmoaa
