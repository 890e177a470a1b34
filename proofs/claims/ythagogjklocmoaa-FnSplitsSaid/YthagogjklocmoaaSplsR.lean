/-
  Splits: what is asked of the limits; SplitsOf of both sides.
-/
import Derived.Test.YthagogjklocmoaaSplsI
namespace Go.Proofs.Ythagogjklocmoaa
open Go.RowKit

def okR (low high count : Int) : Bool := inR low 1 high && (decide (high ≤ 1000000000) && inR count 1 4)
def okS (n low high count : Int) : Bool := inR n 1 1000000000 && okR low high count
theorem okR_true {low high count : Int} (h : okR low high count = true) : (1 ≤ low ∧ low ≤ high) ∧ high ≤ 1000000000 ∧ 1 ≤ count ∧ count ≤ 4 := by
  simp only [okR, Bool.and_eq_true] at h
  exact ⟨inR_true h.1, of_decide_eq_true h.2.1, inR_true h.2.2⟩
theorem okS_true {n low high count : Int} (h : okS n low high count = true) : (1 ≤ n ∧ n ≤ 1000000000) ∧ okR low high count = true := by
  simp only [okS, Bool.and_eq_true] at h
  exact ⟨inR_true h.1, h.2⟩
theorem count_nat {count : Int} (h : 1 ≤ count ∧ count ≤ 4) : ∃ c : Nat, c ≤ 3 ∧ count = ((c + 1 : Nat) : Int) := ⟨(count - 1).toNat, by omega, by omega⟩
theorem splittable_any (n low high count : Int) (w : World) : Calls Try.prog 20 #[.int .i64 n, .int .i64 low, .int .i64 high, .int .i64 count] w fun e w' => e = .returned (.bool (okS n low high count)) ∧ w = w' := by
  cases h1 : inR n 1 1000000000
  · have e : okS n low high count = false := by unfold okS; rw [h1]; rfl
    rw [e]
    have H1 := hide h1
    clear h1 e
    go_enter Try.func20, Try.ntmps20
    go_wp2_with fail
    refine (countable_any _ _).mono ?_
    rintro e w' ⟨rfl, rfl⟩
    rw [H1.out]
    go_wp2_with fail
    go_ret
    exact ⟨rfl, rfl⟩
  · cases h2 : inR low 1 high
    · have e : okS n low high count = false := by unfold okS okR; rw [h1, h2]; rfl
      rw [e]
      have H1 := hide h1
      have H2 := hide h2
      clear h1 h2 e
      go_enter Try.func20, Try.ntmps20
      go_wp2_with fail
      refine (countable_any _ _).mono ?_
      rintro e w' ⟨rfl, rfl⟩
      rw [H1.out]
      go_wp2_with fail
      refine (within_any _ _ _ _).mono ?_
      rintro e w' ⟨rfl, rfl⟩
      rw [H2.out]
      go_wp2_with fail
      go_ret
      exact ⟨rfl, rfl⟩
    · by_cases h3 : high ≤ 1000000000
      · have e : okS n low high count = inR count 1 4 := by unfold okS okR; rw [h1, h2, decide_eq_true h3]; rfl
        rw [e]
        have H1 := hide h1
        have H2 := hide h2
        clear h1 h2 e
        go_enter Try.func20, Try.ntmps20
        go_wp2_with fail
        refine (countable_any _ _).mono ?_
        rintro e w' ⟨rfl, rfl⟩
        rw [H1.out]
        go_wp2_with fail
        refine (within_any _ _ _ _).mono ?_
        rintro e w' ⟨rfl, rfl⟩
        rw [H2.out]
        go_wp2_with fail
        refine (within_any _ _ _ _).mono ?_
        rintro e w' ⟨rfl, rfl⟩
        go_wp2_with fail
        go_ret
        exact ⟨rfl, rfl⟩
      · have e : okS n low high count = false := by unfold okS okR; rw [h1, h2, decide_eq_false h3]; rfl
        rw [e]
        have H1 := hide h1
        have H2 := hide h2
        clear h1 h2 e
        go_enter Try.func20, Try.ntmps20
        go_wp2_with fail
        refine (countable_any _ _).mono ?_
        rintro e w' ⟨rfl, rfl⟩
        rw [H1.out]
        go_wp2_with fail
        refine (within_any _ _ _ _).mono ?_
        rintro e w' ⟨rfl, rfl⟩
        rw [H2.out]
        go_wp2_with fail
        go_ret
        exact ⟨rfl, rfl⟩
theorem l04Range_any (low high count : Int) (w : World) : Calls Try.prog 24 #[.int .i64 low, .int .i64 high, .int .i64 count] w fun e w' => e = .returned (.bool (okR low high count)) ∧ w = w' := by
  cases h2 : inR low 1 high
  · have e : okR low high count = false := by unfold okR; rw [h2]; rfl
    rw [e]
    have H2 := hide h2
    clear h2 e
    go_enter Try.func24, Try.ntmps24
    go_wp2_with fail
    refine (l00In_any _ _ _ _).mono ?_
    rintro e w' ⟨rfl, rfl⟩
    rw [H2.out]
    go_wp2_with fail
    go_ret
    exact ⟨rfl, rfl⟩
  · by_cases h3 : high ≤ 1000000000
    · have e : okR low high count = inR count 1 4 := by unfold okR; rw [h2, decide_eq_true h3]; rfl
      rw [e]
      have H2 := hide h2
      clear h2 e
      go_enter Try.func24, Try.ntmps24
      go_wp2_with fail
      refine (l00In_any _ _ _ _).mono ?_
      rintro e w' ⟨rfl, rfl⟩
      rw [H2.out]
      go_wp2_with fail
      refine (l00In_any _ _ _ _).mono ?_
      rintro e w' ⟨rfl, rfl⟩
      go_wp2_with fail
      go_ret
      exact ⟨rfl, rfl⟩
    · have e : okR low high count = false := by unfold okR; rw [h2, decide_eq_false h3]; rfl
      rw [e]
      have H2 := hide h2
      clear h2 e
      go_enter Try.func24, Try.ntmps24
      go_wp2_with fail
      refine (l00In_any _ _ _ _).mono ?_
      rintro e w' ⟨rfl, rfl⟩
      rw [H2.out]
      go_wp2_with fail
      go_ret
      exact ⟨rfl, rfl⟩
/-- Has n a split? -/
def hasS (n low high count : Int) : Bool := inR n 1 1000000000 && decide (0 < (spl 1 n low high count.toNat).length)
theorem l04Has_any (n low high count : Int) (w : World) (hh : okR low high count = true) : Calls Try.prog 25 #[.int .i64 n, .int .i64 low, .int .i64 high, .int .i64 count] w fun e w' => e = .returned (.bool (hasS n low high count)) ∧ Below w.heap.size w w' := by
  obtain ⟨_, hhi, hct⟩ := okR_true hh
  obtain ⟨c, hc, rfl⟩ := count_nat hct
  cases h1 : inR n 1 1000000000
  · have e : hasS n low high ((c + 1 : Nat) : Int) = false := by unfold hasS; rw [h1]; rfl
    rw [e]
    have H1 := hide h1
    clear h1 e hh
    go_enter Try.func25, Try.ntmps25
    go_wp2_with fail
    refine (l04Ask_any _ _).mono ?_
    rintro e w' ⟨rfl, rfl⟩
    rw [H1.out]
    go_wp2_with fail
    go_ret
    exact ⟨rfl, Below.refl _ _⟩
  · have hn := inR_true h1
    have e : hasS n low high ((c + 1 : Nat) : Int) = decide (0 < (spl 1 n low high (c + 1)).length) := by unfold hasS; rw [h1, Int.toNat_natCast]; rfl
    rw [e]
    have H1 := hide h1
    have HC := hide (fun W => l04Splits_any n low high c 0 W hn hhi hc (by omega))
    obtain ⟨cc, hcc⟩ : ∃ cc, cc = c + 1 := ⟨_, rfl⟩
    rw [← hcc] at HC ⊢
    obtain ⟨rows, hrows⟩ : ∃ rows, rows = spl (0 + 1) n low high cc := ⟨_, rfl⟩
    rw [← hrows] at HC
    rw [show spl 1 n low high cc = rows from hrows.symm]
    obtain ⟨m, hm⟩ : ∃ m, m = rows.length := ⟨_, rfl⟩
    have HM := hide hm
    rw [← hm]
    clear h1 e hh hcc hrows hm
    go_enter Try.func25, Try.ntmps25
    go_wp2_with fail
    refine (l04Ask_any _ _).mono ?_
    rintro e w' ⟨rfl, rfl⟩
    rw [H1.out]
    go_wp2_with fail
    refine (HC.out _).mono ?_
    rintro e w' ⟨ao, cap, es, rfl, _, hb⟩
    rw [← HM.out]
    go_wp2_with fail
    go_ret
    exact ⟨rfl, hb⟩
end Go.Proofs.Ythagogjklocmoaa
