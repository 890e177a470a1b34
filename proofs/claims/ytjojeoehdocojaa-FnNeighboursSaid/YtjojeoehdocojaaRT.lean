/-
  The ratio of terms: plain laws, contracts of both functions, and the walk of RatioOfTerms's law.
-/
import Derived.Test.YtjojeoehdocojaaInRows
import Derived.Test.YtjojeoehdocojaaOpsS
import Derived.Test.YtjojeoehdocojaaCell
import Derived.Deep.CutRange
import Derived.IntWalk
namespace Go.Proofs.Ytjojeoehdocojaa
open Go.RowKit

/-- The ratio n/d, carried on through the terms with the numbers k - 1 down to 0. -/
def rtGo (L : List Int) : Nat → Int → Int → Int × Int × Bool
  | 0, n, d => (n, d, true)
  | k + 1, n, d => if both (inR (L.getD k 0) (-1000000000) 1000000000) (validR (L.getD k 0 * n + d) n) then rtGo L k (L.getD k 0 * n + d) n else (0, 0, false)
def tailOk (L : List Int) : Bool := decide (0 < L.length) && (L.drop 1).all fun t => decide (1 ≤ t)
theorem tailOk_true {L : List Int} (h : tailOk L = true) : 0 < L.length ∧ ∀ j, 1 ≤ j → j < L.length → 1 ≤ L.getD j 0 := by
  unfold tailOk at h
  simp only [Bool.and_eq_true, decide_eq_true_eq, List.all_eq_true] at h
  refine ⟨h.1, fun j h1 h2 => ?_⟩
  have h3 : j - 1 < (L.drop 1).length := by rw [List.length_drop]; omega
  have h4 := h.2 _ (List.getElem_mem h3)
  rw [List.getElem_drop] at h4
  rw [List.getD_eq_getElem?_getD, List.getElem?_eq_getElem h2]
  simpa [show 1 + (j - 1) = j by omega] using h4
theorem tailOk_bad {L : List Int} {j : Nat} (h1 : 1 ≤ j) (h2 : j < L.length) (h : L.getD j 0 < 1) : tailOk L = false := by
  cases hh : tailOk L
  · rfl
  · have := (tailOk_true hh).2 j h1 h2
    omega
theorem tailOk_nil : tailOk [] = false := rfl
theorem tailOk_mk {L : List Int} (h0 : 0 < L.length) (h : ∀ j, 1 ≤ j → j < L.length → 1 ≤ L.getD j 0) : tailOk L = true := by
  unfold tailOk
  simp only [Bool.and_eq_true, decide_eq_true_eq, List.all_eq_true]
  refine ⟨h0, fun t ht => ?_⟩
  obtain ⟨j, hj, rfl⟩ := List.getElem_of_mem ht
  rw [List.length_drop] at hj
  have := h (j + 1) (by omega) (by omega)
  rw [List.getD_eq_getElem?_getD, List.getElem?_eq_getElem (by omega)] at this
  rw [List.getElem_drop]
  simpa [show 1 + j = j + 1 by omega] using this
def allIn (L : List Int) : Bool := L.all fun t => inR t (-1000000000) 1000000000
theorem allIn_bad {L : List Int} {j : Nat} (h2 : j < L.length) (h : inR (L.getD j 0) (-1000000000) 1000000000 = false) : allIn L = false := by
  unfold allIn
  rw [List.all_eq_false]
  refine ⟨L[j], List.getElem_mem h2, ?_⟩
  rw [List.getD_eq_getElem?_getD, List.getElem?_eq_getElem h2] at h
  simpa using h
theorem allIn_mk {L : List Int} (h : ∀ j, j < L.length → inR (L.getD j 0) (-1000000000) 1000000000 = true) : allIn L = true := by
  unfold allIn
  rw [List.all_eq_true]
  intro t ht
  obtain ⟨j, hj, rfl⟩ := List.getElem_of_mem ht
  have := h j hj
  rw [List.getD_eq_getElem?_getD, List.getElem?_eq_getElem hj] at this
  exact this
theorem allIn_true {L : List Int} (h : allIn L = true) (j : Nat) (hj : j < L.length) : inR (L.getD j 0) (-1000000000) 1000000000 = true := by
  cases hh : inR (L.getD j 0) (-1000000000) 1000000000
  · rw [allIn_bad hj hh] at h; exact absurd h (by simp)
  · rfl
/-- What the ratio of terms is. -/
def rtR (L : List Int) : Int × Int × Bool := if inR (L.getD (L.length - 1) 0) (-1000000000) 1000000000 then rtGo L (L.length - 1) (L.getD (L.length - 1) 0) 1 else (0, 0, false)
theorem rtGo_out {L : List Int} (k : Nat) (n d : Int) (j : Nat) (hj : j < k) (h : inR (L.getD j 0) (-1000000000) 1000000000 = false) : rtGo L k n d = (0, 0, false) := by
  induction k generalizing n d with
  | zero => omega
  | succ k ih =>
    unfold rtGo
    by_cases e : j = k
    · subst e
      rw [both_f1 h]; rfl
    · split
      · exact ih _ _ (by omega)
      · rfl
theorem rtR_out {L : List Int} (h : allIn L = false) : rtR L = (0, 0, false) := by
  unfold allIn at h
  rw [List.all_eq_false] at h
  obtain ⟨t, ht, hb⟩ := h
  obtain ⟨j, hj, rfl⟩ := List.getElem_of_mem ht
  have hb' : inR (L.getD j 0) (-1000000000) 1000000000 = false := by
    rw [List.getD_eq_getElem?_getD, List.getElem?_eq_getElem hj]
    simpa using hb
  unfold rtR
  by_cases e : j = L.length - 1
  · subst e
    rw [hb']; rfl
  · split
    · exact rtGo_out _ _ _ j (by omega) hb'
    · rfl
theorem rtGo_false {L : List Int} (k : Nat) (n d : Int) (h : (rtGo L k n d).2.2 = false) : (rtGo L k n d).1 = 0 ∧ (rtGo L k n d).2.1 = 0 := by
  induction k generalizing n d with
  | zero => simp [rtGo] at h
  | succ k ih =>
    unfold rtGo at h ⊢
    split at h
    · rename_i hc
      rw [if_pos hc]
      exact ih _ _ h
    · rename_i hc
      rw [if_neg hc]; exact ⟨rfl, rfl⟩
theorem rtR_false {L : List Int} (h : (rtR L).2.2 = false) : (rtR L).1 = 0 ∧ (rtR L).2.1 = 0 := by
  unfold rtR at h ⊢
  split at h
  · rename_i hc
    rw [if_pos hc]; exact rtGo_false _ _ _ h
  · rename_i hc
    rw [if_neg hc]; exact ⟨rfl, rfl⟩
theorem valid_int {t : Int} (h : -1000000000 ≤ t ∧ t ≤ 1000000000) : validR t 1 = true := validR_mk (by omega) h (by unfold gcdI; simp)
theorem gcd_next (t n d : Int) : gcdI (t * n + d) n = gcdI n d := by
  unfold gcdI
  congr 1
  rw [Int.gcd_comm, Int.add_comm, Int.gcd_add_mul_right_right]
/-- The reference's step: a term and the inverse are added. -/
theorem mk_step (t n d : Int) (hn : 1 ≤ n ∧ n ≤ 1000000000) (hg : gcdI n d = 1) : mkOk (t * n + d) n = validR (t * n + d) n ∧ (validR (t * n + d) n = true → mkN (t * n + d) n = t * n + d ∧ mkD (t * n + d) n = n) := by
  have g1 : gcdI (t * n + d) n = 1 := (gcd_next t n d).trans hg
  have e1 : qN (t * n + d) n = absI (t * n + d) := by unfold qN; rw [g1, Int.ediv_one]
  have e2 : qD (t * n + d) n = n := by unfold qD; rw [g1, Int.ediv_one]; exact absI_of_nonneg (by omega)
  have hk : mkOk (t * n + d) n = decide (absI (t * n + d) ≤ 1000000000) := by
    unfold mkOk; rw [e1, e2, decide_eq_true hn.2, Bool.and_true]
  have hv : validR (t * n + d) n = decide (absI (t * n + d) ≤ 1000000000) := by
    unfold validR
    rw [inR_mk hn, g1]
    simp only [Bool.true_and, beq_self_eq_true, Bool.and_true]
    unfold absI
    by_cases h : -1000000000 ≤ t * n + d ∧ t * n + d ≤ 1000000000
    · rw [inR_mk h, decide_eq_true (by omega)]
    · rw [inR_no h, decide_eq_false (by omega)]
  refine ⟨by rw [hk, hv], fun h => ?_⟩
  have hok : mkOk (t * n + d) n = true := by rw [hk, ← hv]; exact h
  unfold mkN mkD
  rw [hok, if_pos rfl, if_pos rfl, e1, e2]
  refine ⟨?_, rfl⟩
  unfold sgnd
  by_cases h0 : t * n + d < 0
  · rw [decide_eq_true h0, decide_eq_false (by omega)]
    simp only [Bool.true_bne, Bool.not_false, if_true]
    rw [absI_of_neg h0]; omega
  · rw [decide_eq_false h0, decide_eq_false (by omega)]
    simp only [bne_self_eq_false, Bool.false_eq_true, if_false]
    exact absI_of_nonneg h0
theorem mk_whole (t : Int) : mkOk t 1 = inR t (-1000000000) 1000000000 ∧ (inR t (-1000000000) 1000000000 = true → mkN t 1 = t ∧ mkD t 1 = 1) := by
  have g1 : gcdI t 1 = 1 := by unfold gcdI; simp
  have e1 : qN t 1 = absI t := by unfold qN; rw [g1, Int.ediv_one]
  have e2 : qD t 1 = 1 := by unfold qD; rw [g1, Int.ediv_one]; exact absI_of_nonneg (by omega)
  have hk : mkOk t 1 = inR t (-1000000000) 1000000000 := by
    unfold mkOk; rw [e1, e2]
    unfold absI
    by_cases h : -1000000000 ≤ t ∧ t ≤ 1000000000
    · rw [inR_mk h, decide_eq_true (by omega)]; rfl
    · rw [inR_no h, decide_eq_false (by omega)]; rfl
  refine ⟨hk, fun h => ?_⟩
  have hok : mkOk t 1 = true := by rw [hk]; exact h
  unfold mkN mkD
  rw [hok, if_pos rfl, if_pos rfl, e1, e2]
  refine ⟨?_, rfl⟩
  unfold sgnd
  by_cases h0 : t < 0
  · rw [decide_eq_true h0]
    simp only [show decide ((1 : Int) < 0) = false by decide, Bool.true_bne, Bool.not_false, if_true]
    rw [absI_of_neg h0]; omega
  · rw [decide_eq_false h0]
    simp only [show decide ((1 : Int) < 0) = false by decide, bne_self_eq_false, Bool.false_eq_true, if_false]
    exact absI_of_nonneg h0
end Go.Proofs.Ytjojeoehdocojaa
