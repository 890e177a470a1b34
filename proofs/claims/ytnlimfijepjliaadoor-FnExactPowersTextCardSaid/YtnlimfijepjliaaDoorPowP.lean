/-
  PowersText: runs of equal numbers and their words, in plain Lean.
-/
import Derived.Test.YtnlimfijepjliaaDoorTrnT
namespace Go.Proofs.YtnlimfijepjliaaDoor
open Go.RowKit

def runL (p : Int) : List Int → Nat
  | [] => 0
  | x :: r => if x = p then runL p r + 1 else 0
theorem runL_le (p : Int) : ∀ l, runL p l ≤ l.length
  | [] => Nat.le_refl _
  | x :: r => by
    have := runL_le p r
    rw [runL, List.length_cons]
    split <;> omega
theorem runL_go (p : Int) : ∀ (l : List Int) (j : Nat), j < runL p l → l.getD j 0 = p
  | [], j, h => by simp [runL] at h
  | x :: r, j, h => by
    rw [runL] at h
    split at h
    · next e =>
      cases j with
      | zero => simpa using e
      | succ j =>
        have := runL_go p r j (by omega)
        simpa using this
    · omega
theorem runL_stop (p : Int) : ∀ (l : List Int), runL p l < l.length → l.getD (runL p l) 0 ≠ p
  | [], h => by simp [runL] at h
  | x :: r, h => by
    by_cases e : x = p
    · rw [runL, if_pos e, List.length_cons] at h
      have := runL_stop p r (by omega)
      rw [runL, if_pos e]
      simpa using this
    · rw [runL, if_neg e]
      simpa using e
/-- Where the run that begins at i ends. -/
def endR (l : List Int) (i : Nat) : Nat := i + runL (l.getD i 0) (l.drop i)
theorem endR_gt {l : List Int} {i : Nat} (h : i < l.length) : i < endR l i := by
  unfold endR
  rw [List.drop_eq_getElem_cons h, runL, if_pos]
  · omega
  · rw [List.getD_eq_getElem?_getD, List.getElem?_eq_getElem h]; rfl
theorem endR_le {l : List Int} {i : Nat} (h : i ≤ l.length) : endR l i ≤ l.length := by
  unfold endR
  have := runL_le (l.getD i 0) (l.drop i)
  rw [List.length_drop] at this
  omega
theorem getD_drop' (l : List Int) (i j : Nat) : (l.drop i).getD j 0 = l.getD (i + j) 0 := by
  rw [List.getD_eq_getElem?_getD, List.getElem?_drop, List.getD_eq_getElem?_getD]
theorem endR_go {l : List Int} {i k : Nat} (h1 : i ≤ k) (h2 : k < endR l i) : l.getD k 0 = l.getD i 0 := by
  unfold endR at h2
  have := runL_go (l.getD i 0) (l.drop i) (k - i) (by omega)
  rw [getD_drop', show i + (k - i) = k by omega] at this
  exact this
theorem endR_stop {l : List Int} {i : Nat} (h : endR l i < l.length) : l.getD (endR l i) 0 ≠ l.getD i 0 := by
  unfold endR at h ⊢
  have := runL_stop (l.getD i 0) (l.drop i) (by rw [List.length_drop]; omega)
  rw [getD_drop'] at this
  exact this
/-- The word of a run. -/
def pword (p : Int) (k : Nat) : ByteArray := if 1 < k then itoaB p ++ (⟨#[94]⟩ ++ itoaB (k : Int)) else itoaB p
def pwF (l : List Int) : Nat → Nat → List ByteArray
  | 0, _ => []
  | f + 1, i => if i < l.length then pword (l.getD i 0) (endR l i - i) :: pwF l f (endR l i) else []
theorem pwF_end (l : List Int) (f i : Nat) (h : ¬ i < l.length) : pwF l f i = [] := by
  cases f with
  | zero => rfl
  | succ f => rw [pwF, if_neg h]
theorem pwF_two (l : List Int) : ∀ (f g i : Nat), l.length - i ≤ f → l.length - i ≤ g → pwF l f i = pwF l g i
  | 0, g, i, h, _ => by rw [pwF_end l _ i (by omega), pwF_end l _ i (by omega)]
  | f + 1, 0, i, _, h => by rw [pwF_end l _ i (by omega), pwF_end l _ i (by omega)]
  | f + 1, g + 1, i, h, h2 => by
    by_cases hi : i < l.length
    · have hg := endR_gt hi
      rw [pwF, pwF, if_pos hi, if_pos hi, pwF_two l f g _ (by omega) (by omega)]
    · rw [pwF_end l _ i hi, pwF_end l _ i hi]
/-- The words from place i on. -/
def pwAt (l : List Int) (i : Nat) : List ByteArray := pwF l (l.length - i) i
theorem pwAt_end {l : List Int} {i : Nat} (h : ¬ i < l.length) : pwAt l i = [] := pwF_end l _ i h
theorem pwAt_go {l : List Int} {i : Nat} (h : i < l.length) : pwAt l i = pword (l.getD i 0) (endR l i - i) :: pwAt l (endR l i) := by
  have hg := endR_gt h
  obtain ⟨m, hm⟩ : ∃ m, l.length - i = m + 1 := ⟨l.length - i - 1, by omega⟩
  unfold pwAt
  rw [hm, pwF, if_pos h, pwF_two l m (l.length - endR l i) _ (by omega) (by omega)]
/-- Words with a blank between two. -/
def jnB (ws : List ByteArray) : ByteArray := ⟨(Lib.join (ws.map (·.data.toList)) [32]).toArray⟩
theorem jnB_nil : jnB [] = ⟨#[]⟩ := rfl
theorem jnB_one (w : ByteArray) : jnB ([] ++ [w]) = w := by
  apply bext
  show Lib.join [w.data.toList] [32] = _
  rw [Lib.join_one]
theorem jnB_snoc {ws : List ByteArray} (h : ws ≠ []) (w : ByteArray) : jnB (ws ++ [w]) = jnB ws ++ ⟨#[32]⟩ ++ w := by
  apply bext
  rw [bdata_append, bdata_append]
  cases ws with
  | nil => exact absurd rfl h
  | cons x r =>
    show Lib.join (((x :: r) ++ [w]).map (·.data.toList)) [32] = Lib.join ((x :: r).map (·.data.toList)) [32] ++ [32] ++ w.data.toList
    rw [List.cons_append, List.map_cons, List.map_append, List.map_cons, List.map_nil, List.map_cons, join_snoc]
theorem pword_size (p : Int) (k : Nat) (hp : -9223372036854775808 ≤ p ∧ p ≤ 9223372036854775807) (hk : k ≤ 1000000000) : (pword p k).size ≤ 43 := by
  have h1 := itoaB_size p hp.1 hp.2
  have h2 := itoaB_size (k : Int) (by omega) (by omega)
  unfold pword
  split
  · rw [bsize_append, bsize_append, bsize_one]; omega
  · omega
theorem jnB_size : ∀ (n : Nat) (ws : List ByteArray), ws.length = n → (∀ x ∈ ws, x.size ≤ 43) → (jnB ws).size ≤ 44 * n
  | 0, ws, h, _ => by
    have := List.eq_nil_of_length_eq_zero h
    subst this
    exact Nat.le_refl _
  | n + 1, ws, h, hx => by
    rcases List.eq_nil_or_concat ws with rfl | ⟨r, w, rfl⟩
    · simp at h
    · have hr : r.length = n := by simpa using h
      have ih := jnB_size n r hr (fun x hm => hx x (by simp [hm]))
      have hw := hx w (by simp)
      by_cases hn : r = []
      · subst hn
        rw [List.concat_eq_append, jnB_one]
        omega
      · rw [List.concat_eq_append, jnB_snoc hn, bsize_append, bsize_append, bsize_one]
        omega
/-- The text of a number's prime factors. -/
def powS (l : List Int) : ByteArray := if l.length = 0 then ⟨#[49]⟩ else jnB (pwAt l 0)
end Go.Proofs.YtnlimfijepjliaaDoor
