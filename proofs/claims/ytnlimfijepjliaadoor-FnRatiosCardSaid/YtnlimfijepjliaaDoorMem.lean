/-
  Words for memory: rows of int64 that the call owns; slices that came in; the contracts of the comparing and marking helpers.
-/
import Derived.Test.YtnlimfijepjliaaDoorInts
import Derived.Deep.Draws
import Derived.Laws.OwnMore
import Derived.OwnWalk
namespace Go.Proofs.YtnlimfijepjliaaDoor
open Go.RowKit

theorem ret_bool {a b : Bool} (h : a = b) : Ending.returned (.bool a) = .returned (.bool b) := by rw [h]

/-- The slice value v owns the int64 cells xs, in a block from base on. -/
def OwnsI (w : World) (base : Nat) (v : Value) (xs : List Int) : Prop := w.ownsRow base 2 1 v xs.length (xs.map (Value.int .i64))

theorem infoI : (Tryd.prog.info? 2).map (fun i => (i.zero, i.size, i.bytes)) = some (some (.int .i64 0), 1, 8) := by kernel_rfl

section
variable {w w' : World} {base : Nat} {v : Value} {xs : List Int}
theorem OwnsI.none_ : OwnsI w base (.slice none 0 0) [] := World.ownsRow_nil _ _ _ _
theorem OwnsI.made_ : OwnsI (w.alloc (.cells #[] 2)) w.heap.size (.slice (some ⟨w.heap.size, 0, none⟩) 0 0) [] := World.ownsRow_lit w #[] 0 (Nat.le_refl _) (Nat.zero_le _) rfl
theorem OwnsI.form (h : OwnsI w base v xs) : (v = .slice none 0 0 ∧ xs = []) ∨ ∃ g cap, v = .slice (some ⟨g, 0, none⟩) xs.length cap ∧ base ≤ g ∧ g < w.heap.size ∧ xs.length ≤ cap ∧ cap ≤ maxLen := by
  rcases h.2 with ⟨h1, h2⟩ | ⟨g, cap, cur, h1, h2, h3, h4, h5, _⟩
  · exact .inl ⟨h1, List.eq_nil_of_length_eq_zero h2⟩
  · exact .inr ⟨g, cap, h1, h2, (Array.getElem?_eq_some_iff.1 h3).1, h4, h5⟩
theorem OwnsI.same {row : Option Nat} (h : OwnsI w base v xs) (hg : w.grownBy w' row) (hne : v.ownBlock = none ∨ v.ownBlock ≠ row) : OwnsI w' base v xs := World.ownsRow.kept h hg hne
theorem grown_of_below {a w : World} (h : Below a.heap.size a w) (row : Option Nat) : a.grownBy w row := ⟨h.os, h.tape, h.output, h.size, fun i hi _ => h.block i hi⟩
theorem OwnsI.below (h : OwnsI w base v xs) (hb : Below w.heap.size w w') : OwnsI w' base v xs :=
  h.same (grown_of_below hb none) (by cases v.ownBlock <;> simp)
theorem OwnsI.lt (h : OwnsI w base v xs) : ∀ k, v.ownBlock = some k → base ≤ k ∧ k < w.heap.size := World.ownsRow.lt h
theorem OwnsI.len (h : OwnsI w base v xs) : xs.length ≤ maxLen := by
  rcases h.form with ⟨_, h2⟩ | ⟨g, cap, _, _, _, h4, h5⟩
  · subst h2; exact Nat.zero_le _
  · omega
theorem OwnsI.cell {g cap : Nat} {n : Nat} (h : OwnsI w base (.slice (some ⟨g, 0, none⟩) n cap) xs) (hn : n = xs.length) (j : Nat) (hj : j < xs.length) : w.cell? ⟨g, j, none⟩ = some (.int .i64 (xs.getD j 0)) := by
  subst hn
  have := World.ownsRow.cellAt h j (by omega)
  rw [this]
  simp [List.getElem?_map, List.getElem?_eq_getElem hj]
theorem OwnsI.frozen {g cap : Nat} {n : Nat} (h : OwnsI w base (.slice (some ⟨g, 0, none⟩) n cap) xs) (hn : n = xs.length) (j : Nat) : w.frozen? ⟨g, j, none⟩ = false := by
  subst hn; exact World.ownsRow.frozenAt h j
theorem OwnsI.stored {g cap : Nat} {n : Nat} (h : OwnsI w base (.slice (some ⟨g, 0, none⟩) n cap) xs) (hn : n = xs.length) (j : Nat) (u : Int) :
    OwnsI (w.setCell ⟨g, j, none⟩ (.int .i64 u)) base (.slice (some ⟨g, 0, none⟩) n cap) (xs.set j u) ∧ w.grownBy (w.setCell ⟨g, j, none⟩ (.int .i64 u)) (some g) := by
  subst hn
  have := World.ownsRow.stored h j (.int .i64 u)
  refine ⟨?_, this.2⟩
  unfold OwnsI
  simp only [List.length_set, List.map_set]
  exact this.1
end

theorem grown_step {a b c : World} {row : Option Nat} (h : a.grownBy b row) (k : b.grownBy c row) : a.grownBy c row :=
  ⟨k.os.trans h.os, k.tape.trans h.tape, k.output.trans h.output, Nat.le_trans h.size k.size, fun i hi hn => (k.block i (Nat.lt_of_lt_of_le hi h.size) hn).trans (h.block i hi hn)⟩
/-- k, k + 1, .. : n of them. -/
def marks (k : Int) (n : Nat) : List Int := (List.range n).map fun i => k + (i : Nat)
theorem marks_len (k : Int) (n : Nat) : (marks k n).length = n := by simp [marks]
theorem marks_get (k : Int) (n j : Nat) (h : j < n) : (marks k n).getD j 0 = k + j := by
  simp [marks, h]

theorem own_ne {w1 w2 : World} {base : Nat} {v0 v1 : Value} {xs ys : List Int} (o1 : OwnsI w1 base v0 xs) (o2 : OwnsI w2 w1.heap.size v1 ys) : v0.ownBlock = none ∨ v0.ownBlock ≠ v1.ownBlock := by
  cases h : v0.ownBlock with
  | none => exact .inl rfl
  | some k =>
    refine .inr fun e => ?_
    have h1 := o1.lt k h
    have h2 := o2.lt k e.symm
    omega
theorem below_mark {a w w' : World} {w1 w2 : World} {v : Value} {xs : List Int} (h : Below a.heap.size a w) (hg : w.grownBy w' v.ownBlock) (o : OwnsI w2 w1.heap.size v xs) (h1 : a.heap.size ≤ w1.heap.size) : Below a.heap.size a w' :=
  h.grown hg h.size (fun k hk => by have := o.lt k hk; omega)
/-- 'out = append(out, y)', out a row of int64 that the call owns. -/
theorem wpList_appendI {ops : Array Oper} {rest : List Oper} {o : Oper} {a : Act} {Q : Exit → Act → World → Prop} {w : World} (hgd : o.guard = none) (s x : Operand)
    (ho : o.op = .call { callee := .builtin .append, args := #[s, x], argTypes := #[65, 65] })
    (base : Nat) (v : Value) (xs : List Int) (hs : a.eval s = v) (hown : OwnsI w base v xs) (y : Int) (c : Nat) (hx : a.eval x = .slice (some ⟨w.heap.size, 0, none⟩) 1 c)
    (hl : xs.length ≤ 1000000000000) (hbase : base ≤ w.heap.size)
    (h : ∀ ao cap w', OwnsI w' base (.slice ao (xs.length + 1) cap) (xs ++ [y]) → w.grownBy w' v.ownBlock → wpList Tryd.prog ops Q rest (a.put o.dst (.slice ao (xs.length + 1) cap)) w') :
    wpList Tryd.prog ops Q (o :: rest) a (w.alloc (.cells #[.int .i64 y] 2)) := by
  obtain ⟨i0, hi, hz0, hz1, hz2⟩ := info_parts infoI
  refine wpList_append_own _ hgd s x 65 ho base 2 i0 (.int .i64 0) 1 8 (by rw [Tryd.underlying65]) hi hz0 hz1 hz2 rfl (by decide) v xs.length (xs.map (Value.int .i64)) hs (World.ownsRow.alloc hown _) ⟨w.heap.size, 0, none⟩ 1 c [.int .i64 y] hx rfl ?_ ?_ ?_ ?_ ?_ ?_
  · intro j u hj
    match j, hj with
    | 0, hj => simp at hj; subst hj; simp [Addr.add]
  · intro u hu; simp at hu; subst hu; rfl
  · unfold maxLen; omega
  · omega
  · simp; omega
  · intro v' w' hown' hg _
    have hown'' : OwnsI w' base v' (xs ++ [y]) := by
      unfold OwnsI
      simpa using hown'
    have hg2 : w.grownBy w' v.ownBlock := grown_step (World.grownBy_alloc w _ _) hg
    rcases hown''.form with ⟨_, h2⟩ | ⟨g, cap, h2, _⟩
    · simp at h2
    · have e : v' = .slice (some ⟨g, 0, none⟩) (xs.length + 1) cap := by rw [h2]; simp
      subst e
      exact h _ _ _ hown'' hg2

end Go.Proofs.YtnlimfijepjliaaDoor
