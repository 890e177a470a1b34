/-
  Rows of pairs that the call owns: append, marking and holding.
-/
import Derived.Test.YtnlimfijepjliaaDoorPairsW
import Derived.Test.YtnlimfijepjliaaDoorTrain
namespace Go.Proofs.YtnlimfijepjliaaDoor
open Go.RowKit

section
variable {w w' : World} {base : Nat} {v : Value} {ps : List (Int × Int)}
theorem OwnsP.none_ : OwnsP w base (.slice none 0 0) [] := World.ownsRow_nil _ _ _ _
theorem OwnsP.made_ : OwnsP (w.alloc (.cells #[] 70)) w.heap.size (.slice (some ⟨w.heap.size, 0, none⟩) 0 0) [] := World.ownsRow_lit w #[] 0 (Nat.le_refl _) (Nat.zero_le _) rfl
theorem OwnsP.len (h : OwnsP w base v ps) : ps.length ≤ maxLen := by
  rcases h.form with ⟨_, h2⟩ | ⟨g, cap, _, _, _, h4, h5⟩
  · subst h2; exact Nat.zero_le _
  · omega
theorem OwnsP.mono_base {B : Nat} (h : OwnsP w base v ps) (hb : B ≤ base) : OwnsP w B v ps := by
  refine ⟨h.1, ?_⟩
  rcases h.2 with h2 | ⟨g, cap, cur, h1, h2, h3⟩
  · exact .inl h2
  · exact .inr ⟨g, cap, cur, h1, Nat.le_trans hb h2, h3⟩
end
theorem flat_append (ps qs : List (Int × Int)) : flat (ps ++ qs) = flat ps ++ flat qs := by unfold flat; rw [List.flatMap_append]
theorem own_neP {w1 w2 : World} {base : Nat} {v0 v1 : Value} {xs ys : List (Int × Int)} (o1 : OwnsP w1 base v0 xs) (o2 : OwnsP w2 w1.heap.size v1 ys) : v0.ownBlock = none ∨ v0.ownBlock ≠ v1.ownBlock := by
  cases h : v0.ownBlock with
  | none => exact .inl rfl
  | some k =>
    refine .inr fun e => ?_
    have h1 := o1.lt k h
    have h2 := o2.lt k e.symm
    omega
theorem below_markP {a w w' : World} {w1 w2 : World} {v : Value} {xs : List (Int × Int)} (h : Below a.heap.size a w) (hg : w.grownBy w' v.ownBlock) (o : OwnsP w2 w1.heap.size v xs) (h1 : a.heap.size ≤ w1.heap.size) : Below a.heap.size a w' :=
  h.grown hg h.size (fun k hk => by have := o.lt k hk; omega)
/-- 'out = append(out, y)', out a row of pairs that the call owns. -/
theorem wpList_appendP {ops : Array Oper} {rest : List Oper} {o : Oper} {a : Act} {Q : Exit → Act → World → Prop} {w : World} (hgd : o.guard = none) (s x : Operand)
    (ho : o.op = .call { callee := .builtin .append, args := #[s, x], argTypes := #[38, 38] })
    (base : Nat) (v : Value) (xs : List (Int × Int)) (hs : a.eval s = v) (hown : OwnsP w base v xs) (y z : Int) (c : Nat) (hx : a.eval x = .slice (some ⟨w.heap.size, 0, none⟩) 1 c)
    (hl : xs.length ≤ 1000000000000) (hbase : base ≤ w.heap.size)
    (h : ∀ ao cap w', OwnsP w' base (.slice ao (xs.length + 1) cap) (xs ++ [(y, z)]) → w.grownBy w' v.ownBlock → wpList Tryd.prog ops Q rest (a.put o.dst (.slice ao (xs.length + 1) cap)) w') :
    wpList Tryd.prog ops Q (o :: rest) a (w.alloc (.cells #[.int .i64 y, .int .i64 z] 70)) := by
  obtain ⟨i0, hi, hz0, hz1, hz2⟩ := info_parts infoP
  refine wpList_append_own _ hgd s x 38 ho base 70 i0 (.agg #[.int .i64 0, .int .i64 0]) 2 16 (by rw [Tryd.underlying38]) hi hz0 hz1 hz2 rfl (by decide) v xs.length (flat xs) hs (World.ownsRow.alloc hown _) ⟨w.heap.size, 0, none⟩ 1 c [.int .i64 y, .int .i64 z] hx rfl ?_ ?_ ?_ ?_ ?_ ?_
  · intro j u hj
    match j, hj with
    | 0, hj => simp at hj; subst hj; simp [Addr.add]
    | 1, hj => simp at hj; subst hj; simp [Addr.add]
  · intro u hu
    simp at hu
    rcases hu with rfl | rfl <;> rfl
  · unfold maxLen; omega
  · omega
  · simp; omega
  · intro v' w' hown' hg _
    have hown'' : OwnsP w' base v' (xs ++ [(y, z)]) := by
      unfold OwnsP
      rw [flat_append]
      simpa [flat] using hown'
    have hg2 : w.grownBy w' v.ownBlock := grown_step (World.grownBy_alloc w _ _) hg
    rcases hown''.form with ⟨_, h2⟩ | ⟨g, cap, h2, _⟩
    · simp at h2
    · have e : v' = .slice (some ⟨g, 0, none⟩) (xs.length + 1) cap := by rw [h2]; simp
      subst e
      exact h _ _ _ hown'' hg2
/-- (k, k + 1), (k + 2, k + 3), .. : n of them. -/
def marksP (k : Int) (n : Nat) : List (Int × Int) := (List.range n).map fun i => (k + 2 * (i : Nat), k + 2 * (i : Nat) + 1)
theorem marksP_len (k : Int) (n : Nat) : (marksP k n).length = n := by simp [marksP]
theorem marksP_get (k : Int) (n j : Nat) (h : j < n) : (marksP k n).getD j (0, 0) = (k + 2 * j, k + 2 * j + 1) := by
  simp [marksP, h]
end Go.Proofs.YtnlimfijepjliaaDoor
