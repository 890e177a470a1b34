/-
  Texts cut at a byte: both readings, in plain Lean. No program in sight.
-/
import Derived.Lib.Split
import Derived.Test.YtnlimfijepjliaaDoorPlain
namespace Go.Proofs.YtnlimfijepjliaaDoor
open Go.RowKit

def consHead (c : UInt8) : List (List UInt8) → List (List UInt8)
  | [] => [[c]]
  | h :: t => (c :: h) :: t
/-- A text cut at each byte b. -/
def splitBy (b : UInt8) : List UInt8 → List (List UInt8)
  | [] => [[]]
  | c :: l => if c = b then [] :: splitBy b l else consHead c (splitBy b l)
theorem splitBy_index (b : UInt8) : ∀ l : List UInt8, (Lib.index l [b] = -1 ∧ splitBy b l = [l]) ∨ (∃ i : Nat, Lib.index l [b] = i ∧ i < l.length ∧ splitBy b l = l.take i :: splitBy b (l.drop (i + 1)))
  | [] => .inl ⟨rfl, rfl⟩
  | c :: l => by
    by_cases h : c = b
    · subst h
      refine .inr ⟨0, ?_, by simp, ?_⟩
      · simp [Lib.index, List.isPrefixOf]
      · simp [splitBy]
    · have hne : ¬ b = c := fun e => h e.symm
      have e1 : Lib.index (c :: l) [b] = if Lib.index l [b] == -1 then -1 else Lib.index l [b] + 1 := by
        rw [Lib.index, if_neg (by simp [List.isPrefixOf, hne])]
      have e2 : splitBy b (c :: l) = consHead c (splitBy b l) := by rw [splitBy, if_neg h]
      rcases splitBy_index b l with ⟨h1, h2⟩ | ⟨i, h1, h2, h3⟩
      · left
        rw [e1, e2, h1, h2]
        exact ⟨rfl, rfl⟩
      · right
        refine ⟨i + 1, ?_, by simp; omega, ?_⟩
        · rw [e1, h1, if_neg (fun e => by have := beq_iff_eq.1 e; omega)]; omega
        · rw [e2, h3]; rfl
theorem splitK_by (b : UInt8) : ∀ (fuel : Nat) (l : List UInt8), l.length < fuel → Lib.splitK [b] 0 (Lib.countFrom [b] fuel l) l = splitBy b l
  | 0, l, h => by omega
  | fuel + 1, l, h => by
    rcases splitBy_index b l with ⟨h1, h2⟩ | ⟨i, h1, h2, h3⟩
    · rw [Lib.countFrom, h1, h2]; rfl
    · have hne : ¬ (Lib.index l [b] == -1) = true := fun e => by have := beq_iff_eq.1 e; omega
      rw [Lib.countFrom, if_neg hne, Nat.add_comm 1, Lib.splitK, if_neg hne, h3]
      have e : (Lib.index l [b]).toNat = i := by omega
      rw [e, Nat.add_zero]
      congr 1
      exact splitK_by b fuel _ (by rw [List.length_drop, List.length_singleton]; omega)
theorem split_by (b : UInt8) (l : List UInt8) : Lib.split l [b] = splitBy b l := by
  unfold Lib.split Lib.count
  exact splitK_by b (l.length + 1) l (by omega)
theorem splitBy_none {b : UInt8} : ∀ {l : List UInt8}, (∀ x ∈ l, x ≠ b) → splitBy b l = [l]
  | [], _ => rfl
  | c :: l, h => by
    rw [splitBy, if_neg (h c (by simp)), splitBy_none (fun x hx => h x (by simp [hx]))]
    rfl
theorem splitBy_cons {b : UInt8} : ∀ {l : List UInt8} {r : List UInt8}, (∀ x ∈ l, x ≠ b) → splitBy b (l ++ b :: r) = l :: splitBy b r
  | [], r, _ => by rw [List.nil_append, splitBy, if_pos rfl]
  | c :: l, r, h => by
    rw [List.cons_append, splitBy, if_neg (h c (by simp)), splitBy_cons (fun x hx => h x (by simp [hx]))]
    rfl
/-- The parts of a text that are not empty. -/
def wordsL (l : List UInt8) : List (List UInt8) := (splitBy 32 l).filter fun x => !x.isEmpty
end Go.Proofs.YtnlimfijepjliaaDoor
