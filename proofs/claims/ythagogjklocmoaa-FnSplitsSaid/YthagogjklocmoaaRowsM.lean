/-
  Rows of rows of int64: equal, marked, held.
-/
import Derived.Test.YthagogjklocmoaaSplsI
namespace Go.Proofs.Ythagogjklocmoaa
open Go.RowKit

theorem Own2.frk {w w' : World} {B : Nat} {v : Value} {rows : List (List Int)} {es : List (Nat × Nat)} (h : Own2 w B v rows es) (hv : ∀ k, v.ownBlock = some k → w'.heap[k]? = w.heap[k]?) (he : ∀ e ∈ es, w'.heap[e.1]? = w.heap[e.1]?) : Own2 w' B v rows es := by
  refine ⟨h.1, ⟨h.2.1.1, ?_⟩, fun p hp => ⟨(h.2.2.1 p hp).1.frk fun k hk => ?_, (h.2.2.1 p hp).2⟩, h.2.2.2⟩
  · rcases h.2.1.2 with h2 | ⟨g, cap, cur, h1, h2, h3, h4⟩
    · exact .inl h2
    · exact .inr ⟨g, cap, cur, h1, h2, (hv g (by rw [h1]; rfl)).trans h3, h4⟩
  · rw [elV_block] at hk
    simp only [Option.some.injEq] at hk
    rw [← hk]
    exact he p.1 (List.of_mem_zip hp).1
/-- What lay below a world's heap is kept by all that writes above it. -/
theorem Own2.keep {w w' : World} {B : Nat} {v : Value} {rows : List (List Int)} {es : List (Nat × Nat)} (h : Own2 w B v rows es) (hb : Below w.heap.size w w') : Own2 w' B v rows es := h.below hb
theorem Own2.at_ {w : World} {B : Nat} {v : Value} {rows : List (List Int)} {es : List (Nat × Nat)} (h : Own2 w B v rows es) {i : Nat} (hi : i < rows.length) :
    ∃ p q : Nat, es[i]? = some (p, q) ∧ OwnsI w B (.slice (some ⟨p, 0, none⟩) (rows.getD i []).length q) (rows.getD i []) ∧ v.ownBlock ≠ some p ∧ ∃ g cap, v = .slice (some ⟨g, 0, none⟩) rows.length cap ∧ w.cell? ⟨g, i, none⟩ = some (.slice (some ⟨p, 0, none⟩) (rows.getD i []).length q) := by
  have hie : i < es.length := by rw [h.1]; exact hi
  have er : rows.getD i [] = rows[i] := by rw [List.getD_eq_getElem?_getD, List.getElem?_eq_getElem hi]; rfl
  obtain ⟨⟨p, q⟩, hpq⟩ : ∃ pq, es[i] = pq := ⟨_, rfl⟩
  have hz : i < (es.zip rows).length := by rw [List.length_zip, ← h.1]; omega
  have hm : ((p, q), rows[i]) ∈ es.zip rows := by
    have := List.getElem_mem hz
    rw [List.getElem_zip, hpq] at this
    exact this
  have h2 := h.2.2.1 _ hm
  rw [er]
  refine ⟨p, q, by rw [List.getElem?_eq_getElem hie, hpq], h2.1, h2.2, ?_⟩
  rcases h.2.1.form with ⟨_, h0⟩ | ⟨g, cap, hv, _⟩
  · have := h.len
    rw [h0] at this
    simp at this
    omega
  · have hl := h.len
    refine ⟨g, cap, by rw [hv, hl], ?_⟩
    have ho := h.2.1
    rw [hv] at ho
    refine ho.cell rfl i _ ?_
    rw [List.getElem?_eq_getElem (by omega), List.getElem_zipWith, hpq]
    rfl
theorem Own2.set {w w' : World} {B : Nat} {v : Value} {rows : List (List Int)} {es : List (Nat × Nat)} (h : Own2 w B v rows es) {i p q : Nat} (hi : i < rows.length) (he : es[i]? = some (p, q)) (hg : w.grownBy w' (some p)) {m : List Int} (hm : m.length = (rows.getD i []).length)
    (ho : OwnsI w' B (.slice (some ⟨p, 0, none⟩) (rows.getD i []).length q) m) : Own2 w' B v (rows.set i m) es := by
  have hie : i < es.length := by rw [h.1]; exact hi
  have he' : es[i] = (p, q) := by rw [List.getElem?_eq_getElem hie] at he; exact Option.some.inj he
  have er : rows.getD i [] = rows[i] := by rw [List.getD_eq_getElem?_getD, List.getElem?_eq_getElem hi]; rfl
  rw [er] at hm ho
  have hz : List.zipWith elV es (rows.set i m) = List.zipWith elV es rows := by
    refine List.ext_getElem (by simp) fun j h1 h2 => ?_
    rw [List.getElem_zipWith, List.getElem_zipWith, List.getElem_set]
    split
    · next e => subst e; unfold elV; rw [hm]
    · rfl
  have hvp : v.ownBlock ≠ some p := by
    obtain ⟨p', q', e1, _, e2, _⟩ := h.at_ hi
    rw [he] at e1
    cases e1
    exact e2
  refine ⟨by rw [List.length_set]; exact h.1, ?_, ?_, h.2.2.2⟩
  · rw [hz]
    exact h.2.1.same hg (.inr hvp)
  · intro pr hpr
    obtain ⟨j, hj, rfl⟩ := List.mem_iff_getElem.1 hpr
    rw [List.length_zip, List.length_set] at hj
    rw [List.getElem_zip]
    have hj2 : j < rows.length := by omega
    have hje : j < es.length := by omega
    rw [List.getElem_set]
    by_cases e : i = j
    · subst e
      rw [if_pos rfl, he']
      refine ⟨?_, hvp⟩
      show OwnsI w' B (.slice (some ⟨p, 0, none⟩) m.length q) m
      rw [hm]
      exact ho
    · rw [if_neg e]
      have hzj : j < (es.zip rows).length := by rw [List.length_zip]; omega
      have hmem := List.getElem_mem hzj
      rw [List.getElem_zip] at hmem
      have h2 := h.2.2.1 _ hmem
      refine ⟨h2.1.same hg (.inr ?_), h2.2⟩
      rw [elV_block]
      intro c
      have hn := List.pairwise_iff_getElem.mp (List.nodup_iff_pairwise_ne.mp h.2.2.2)
      have hmi : (es.map (·.1))[i]'(by simpa using hie) = p := by rw [List.getElem_map, he']
      have hmj : (es.map (·.1))[j]'(by simpa using hje) = p := by rw [List.getElem_map]; simpa using c
      rcases Nat.lt_or_ge i j with s | s
      · exact hn i j (by simpa using hie) (by simpa using hje) s (hmi.trans hmj.symm)
      · exact hn j i (by simpa using hje) (by simpa using hie) (by omega) (hmj.trans hmi.symm)
def tot (rows : List (List Int)) : Nat := (rows.map List.length).sum
theorem tot_append (xs ys : List (List Int)) : tot (xs ++ ys) = tot xs + tot ys := by simp [tot]
theorem tot_step {rows : List (List Int)} {i : Nat} (hi : i < rows.length) : tot (rows.take (i + 1)) = tot (rows.take i) + (rows.getD i []).length := by
  have er : rows.getD i [] = rows[i] := by rw [List.getD_eq_getElem?_getD, List.getElem?_eq_getElem hi]; rfl
  rw [List.take_succ_eq_append_getElem hi, er, tot_append]
  simp [tot]
theorem tot_take (rows : List (List Int)) (i : Nat) : tot (rows.take i) ≤ tot rows := by
  have e : tot rows = tot (rows.take i ++ rows.drop i) := by rw [List.take_append_drop]
  rw [e, tot_append]
  omega
/-- The marks of the first i rows are laid. -/
def MkR (rows rows' : List (List Int)) (i : Nat) : Prop := rows'.length = rows.length ∧ (∀ j, j < rows.length → (rows'.getD j []).length = (rows.getD j []).length) ∧ ∀ j, j < i → rows'.getD j [] = marks (1 + (tot (rows.take j) : Nat)) (rows.getD j []).length
theorem MkR.zero (rows : List (List Int)) : MkR rows rows 0 := ⟨rfl, fun _ _ => rfl, fun j hj => by omega⟩
theorem MkR.step {rows rows' : List (List Int)} {i : Nat} (h : MkR rows rows' i) (hi : i < rows.length) : MkR rows (rows'.set i (marks (1 + (tot (rows.take i) : Nat)) (rows.getD i []).length)) (i + 1) := by
  obtain ⟨h1, h2, h3⟩ := h
  have key : ∀ j, j < rows.length → (rows'.set i (marks (1 + (tot (rows.take i) : Nat)) (rows.getD i []).length)).getD j [] = if i = j then marks (1 + (tot (rows.take i) : Nat)) (rows.getD i []).length else rows'.getD j [] := fun j hj => by
    rw [List.getD_eq_getElem?_getD, List.getElem?_set]
    by_cases e : i = j
    · subst e
      rw [if_pos rfl, if_pos rfl, if_pos (by omega)]
      rfl
    · rw [if_neg e, if_neg e, ← List.getD_eq_getElem?_getD]
  refine ⟨by rw [List.length_set]; exact h1, fun j hj => ?_, fun j hj => ?_⟩
  · rw [key j hj]
    by_cases e : i = j
    · subst e
      rw [if_pos rfl, marks_len]
    · rw [if_neg e]
      exact h2 j hj
  · rw [key j (by omega)]
    by_cases e : i = j
    · subst e
      rw [if_pos rfl]
    · rw [if_neg e]
      exact h3 j (by omega)
end Go.Proofs.Ythagogjklocmoaa
