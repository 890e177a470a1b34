/-
  Splits: the full enumeration, and its cut at a number of rows, in plain Lean.
-/
import Derived.Test.YthagogjklocmoaaPlain
namespace Go.Proofs.Ythagogjklocmoaa
open Go.RowKit

/-- All splits of n into c factors from low to high, out of the divisors D, in the order of the search. -/
def allS (D : List Int) (high : Int) : Nat → Int → Int → List (List Int)
  | 0, _, _ => []
  | 1, n, low => if low ≤ n ∧ n ≤ high then [[n]] else []
  | c + 2, n, low => D.flatMap fun d => if low ≤ d ∧ d ≤ high ∧ n % d = 0 then (allS D high (c + 1) (n / d) d).map (d :: ·) else []
/-- What one divisor gives. -/
def oneS (D : List Int) (high : Int) (c : Nat) (n low d : Int) : List (List Int) := if low ≤ d ∧ d ≤ high ∧ n % d = 0 then (allS D high (c + 1) (n / d) d).map (d :: ·) else []
theorem allS_one (D : List Int) (high n low : Int) : allS D high 1 n low = if low ≤ n ∧ n ≤ high then [[n]] else [] := rfl
theorem allS_two (D : List Int) (high : Int) (c : Nat) (n low : Int) : allS D high (c + 2) n low = D.flatMap (oneS D high c n low) := rfl
/-- Rows laid behind rows, at most T in all. -/
def fnd (T : Nat) (acc items : List (List Int)) : List (List Int) := (acc ++ items).take T
theorem fnd_nil {T : Nat} {acc : List (List Int)} (h : acc.length ≤ T) : fnd T acc [] = acc := by
  unfold fnd
  rw [List.append_nil, List.take_of_length_le h]
theorem fnd_len (T : Nat) (acc items : List (List Int)) : (fnd T acc items).length ≤ T := by
  unfold fnd
  rw [List.length_take]
  omega
theorem fnd_full {T : Nat} {acc : List (List Int)} (h : acc.length = T) (items : List (List Int)) : fnd T acc items = acc := by
  unfold fnd
  rw [List.take_append_of_le_length (by omega), List.take_of_length_le (by omega)]
theorem fnd_add (T : Nat) (acc x y : List (List Int)) : fnd T (fnd T acc x) y = fnd T acc (x ++ y) := by
  unfold fnd
  by_cases h : T ≤ (acc ++ x).length
  · have h1 : ((acc ++ x).take T).length = T := by rw [List.length_take]; omega
    rw [List.take_append_of_le_length (by omega), List.take_of_length_le (by omega), ← List.append_assoc, List.take_append_of_le_length h]
  · rw [List.take_of_length_le (show (acc ++ x).length ≤ T by omega), List.append_assoc]
theorem fnd_one {T : Nat} {acc : List (List Int)} (h : acc.length < T) (x : List Int) : fnd T acc [x] = acc ++ [x] := by
  unfold fnd
  rw [List.take_of_length_le (by simp; omega)]
/-- No split of less than the least factor. -/
theorem allS_small (D : List Int) (high : Int) : ∀ (c : Nat) (n low : Int), 1 ≤ n → n < low → allS D high (c + 1) n low = []
  | 0, n, low, _, h => by rw [allS_one, if_neg (by omega)]
  | c + 1, n, low, hn, h => by
    rw [allS_two, List.flatMap_eq_nil_iff]
    intro d _
    unfold oneS
    rw [if_neg]
    rintro ⟨h1, _, h3⟩
    have hd : n % d = n := Int.emod_eq_of_lt (by omega) (by omega)
    omega
theorem oneS_sq (D : List Int) (high : Int) (c : Nat) (n low d : Int) (hn : 1 ≤ n) (hd : 1 ≤ d) (h : n < d * d) : oneS D high c n low d = [] := by
  unfold oneS
  split
  · next h1 =>
    have hlt : n / d < d := Int.ediv_lt_of_lt_mul (by omega) h
    have hpos : 1 ≤ n / d := by
      have hdv : d ∣ n := Int.dvd_of_emod_eq_zero h1.2.2
      have := Int.ediv_pos_of_pos_of_dvd (by omega : 0 < n) (by omega) hdv
      omega
    rw [allS_small D high c _ _ hpos hlt]
    rfl
  · rfl
theorem oneS_high (D : List Int) (high : Int) (c : Nat) (n low d : Int) (h : high < d) : oneS D high c n low d = [] := by
  unfold oneS
  rw [if_neg (by omega)]
/-- From a place on where nothing more is given. -/
theorem rest_nil {D : List Int} {high : Int} {c : Nat} {n low : Int} {i : Nat} (h : ∀ d ∈ D.drop i, oneS D high c n low d = []) : D.flatMap (oneS D high c n low) = (D.take i).flatMap (oneS D high c n low) := by
  have e : D.flatMap (oneS D high c n low) = (D.take i ++ D.drop i).flatMap (oneS D high c n low) := by rw [List.take_append_drop]
  rw [e, List.flatMap_append, List.flatMap_eq_nil_iff.2 h, List.append_nil]
theorem flat_step {D : List Int} {f : Int → List (List Int)} {i : Nat} (h : i < D.length) : (D.take (i + 1)).flatMap f = (D.take i).flatMap f ++ f (D.getD i 0) := by
  have e : D.getD i 0 = D[i] := by rw [List.getD_eq_getElem?_getD, List.getElem?_eq_getElem h]; rfl
  rw [List.take_succ_eq_append_getElem h, List.flatMap_append, e]
  simp
theorem flat_filter {p : Int → Bool} {f g : Int → List (List Int)} (h1 : ∀ d, p d = true → f d = g d) (h2 : ∀ d, p d = false → g d = []) : ∀ D : List Int, (D.filter p).flatMap f = D.flatMap g
  | [] => rfl
  | d :: D => by
    rw [List.filter_cons, List.flatMap_cons]
    cases h : p d
    · rw [if_neg (by simp), flat_filter h1 h2 D, h2 d h, List.nil_append]
    · rw [if_pos rfl, List.flatMap_cons, flat_filter h1 h2 D, h1 d h]
/-- Only the divisors within the range count. -/
theorem allS_filter (D : List Int) (low0 high : Int) : ∀ (c : Nat) (n low : Int), low0 ≤ low → allS (D.filter fun d => decide (low0 ≤ d ∧ d ≤ high)) high c n low = allS D high c n low
  | 0, n, low, _ => rfl
  | 1, n, low, _ => rfl
  | c + 2, n, low, hl => by
    rw [allS_two, allS_two]
    refine flat_filter (fun d h => ?_) (fun d h => ?_) D
    · unfold oneS
      split
      · next h1 => rw [allS_filter D low0 high (c + 1) (n / d) d (by omega)]
      · rfl
    · have h' := of_decide_eq_false h
      unfold oneS
      rw [if_neg (by omega)]
end Go.Proofs.Ythagogjklocmoaa
