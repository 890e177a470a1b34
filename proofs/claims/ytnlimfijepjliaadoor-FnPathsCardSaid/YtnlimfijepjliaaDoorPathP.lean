/-
  Paths: what PathOf computes, in plain Lean.
-/
import Derived.Test.YtnlimfijepjliaaDoorTerms
namespace Go.Proofs.YtnlimfijepjliaaDoor
open Go.RowKit

theorem cf_facts : ∀ (f : Nat) (n d : Int), d.toNat ≤ f → 1 ≤ n ∧ n ≤ 1000000000 → 1 ≤ d ∧ d ≤ 1000000000 → cf n d ≠ [] ∧ (∀ j, j < (cf n d).length → 0 ≤ (cf n d).getD j 0 ∧ (cf n d).getD j 0 ≤ 1000000000) ∧ 1 ≤ (cf n d).getD ((cf n d).length - 1) 0
  | 0, n, d, h, _, hd => by omega
  | f + 1, n, d, h, hn, hd => by
    rw [cf_pos (by omega)]
    have q1 : 0 ≤ n / d := Int.ediv_nonneg (by omega) (by omega)
    have q2 : n / d ≤ n := Int.ediv_le_self _ (by omega)
    have m1 : 0 ≤ n % d := Int.emod_nonneg _ (by omega)
    have m2 : n % d < d := Int.emod_lt_of_pos _ (by omega)
    refine ⟨by simp, ?_, ?_⟩
    · intro j hj
      cases j with
      | zero => simp; omega
      | succ j =>
        have hj2 : j < (cf d (n % d)).length := by simpa using hj
        by_cases hz : n % d = 0
        · rw [hz, cf_zero] at hj2
          simp at hj2
        · have ih := (cf_facts f d (n % d) (by omega) hd (by omega)).2.1 j hj2
          simpa using ih
    · by_cases hz : n % d = 0
      · rw [hz, cf_zero]
        have hdv : d ∣ n := Int.dvd_of_emod_eq_zero hz
        have := Int.ediv_pos_of_pos_of_dvd (by omega : 0 < n) (by omega) hdv
        simp
        omega
      · obtain ⟨i1, _, i3⟩ := cf_facts f d (n % d) (by omega) hd (by omega)
        have hl : (cf d (n % d)).length ≠ 0 := fun e => i1 (List.eq_nil_of_length_eq_zero e)
        obtain ⟨m, hm⟩ : ∃ m, (cf d (n % d)).length = m + 1 := ⟨(cf d (n % d)).length - 1, by omega⟩
        rw [List.length_cons, hm, Nat.add_sub_cancel]
        rw [hm, Nat.add_sub_cancel] at i3
        simpa using i3
/-- The terms with the last one made less. -/
def tdec (l : List Int) : List Int := l.set (l.length - 1) (l.getD (l.length - 1) 0 - 1)
theorem tdec_len (l : List Int) : (tdec l).length = l.length := by unfold tdec; simp
theorem getD_set' (l : List Int) (i j : Nat) (x : Int) (hj : j < l.length) : (l.set i x).getD j 0 = if i = j then x else l.getD j 0 := by
  rw [List.getD_eq_getElem?_getD, List.getElem?_set, List.getD_eq_getElem?_getD]
  by_cases h : i = j
  · subst h; simp [hj]
  · simp [h]
theorem tdec_bd {a b : Int} (ha : 1 ≤ a ∧ a ≤ 1000000000) (hb : 1 ≤ b ∧ b ≤ 1000000000) (j : Nat) (hj : j < (tdec (cf a b)).length) : 0 ≤ (tdec (cf a b)).getD j 0 ∧ (tdec (cf a b)).getD j 0 ≤ 1000000000 := by
  obtain ⟨h1, h2, h3⟩ := cf_facts b.toNat a b (Nat.le_refl _) ha hb
  rw [tdec_len] at hj
  have h4 := h2 j hj
  have h5 := h2 ((cf a b).length - 1) (by omega)
  unfold tdec
  rw [getD_set' _ _ _ _ hj]
  split <;> omega
/-- The letter of a term. -/
def ltr (i : Nat) : UInt8 := if i % 2 = 0 then 82 else 76
def pathL (ts : List Int) : Nat → List UInt8
  | 0 => []
  | i + 1 => pathL ts i ++ List.replicate (ts.getD i 0).toNat (ltr i)
theorem pathL_mono (ts : List Int) {i j : Nat} (h : i ≤ j) : (pathL ts i).length ≤ (pathL ts j).length := by
  induction j with
  | zero => rw [show i = 0 by omega]; exact Nat.le_refl _
  | succ j ih =>
    by_cases e : i = j + 1
    · rw [e]; exact Nat.le_refl _
    · have := ih (by omega)
      rw [pathL, List.length_append]
      omega
theorem pathL_len (ts : List Int) (i : Nat) : (pathL ts (i + 1)).length = (pathL ts i).length + (ts.getD i 0).toNat := by rw [pathL, List.length_append, List.length_replicate]
/-- The path of a list of terms. -/
def pathT (ts : List Int) : List UInt8 := pathL ts ts.length
def pathV (a b : Int) : List UInt8 := if validR a b = true ∧ 0 < a then (if (pathT (tdec (cf a b))).length ≤ 200 then pathT (tdec (cf a b)) else []) else []
def pathC (a b : Int) : Int := if validR a b = true then (if 0 < a then (if (pathT (tdec (cf a b))).length ≤ 200 then 0 else 5) else 2) else 1
end Go.Proofs.YtnlimfijepjliaaDoor
