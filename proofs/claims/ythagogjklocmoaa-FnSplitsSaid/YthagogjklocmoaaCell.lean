/-
  Words for a variable of two cells.
-/
import Derived.Test.YthagogjklocmoaaInts
namespace Go.Proofs.Ythagogjklocmoaa
open Go.RowKit

/-- Block g holds the two cells u, v, and they may be written. -/
def Cell2 (w : World) (g : Nat) (u v : Value) : Prop := w.cell? ⟨g, 0, none⟩ = some u ∧ w.cell? ⟨g, 1, none⟩ = some v ∧ w.frozen? ⟨g, 0, none⟩ = false ∧ w.frozen? ⟨g, 1, none⟩ = false
section
variable {w w' : World} {g g' : Nat} {u v u' v' : Value}
theorem Cell2.lt (h : Cell2 w g u v) : g < w.heap.size := World.block_lt_of_cell? w _ h.1
theorem Cell2.below (h : Cell2 w g u v) (hb : Below w.heap.size w w') : Cell2 w' g u v := by
  obtain ⟨k0, k1, k2, k3⟩ := h
  have hg : g < w.heap.size := World.block_lt_of_cell? w _ k0
  exact ⟨(hb.cell hg).trans k0, (hb.cell hg).trans k1, (hb.frozen hg).trans k2, (hb.frozen hg).trans k3⟩
theorem Cell2.grown {row : Option Nat} (h : Cell2 w g u v) (hg : w.grownBy w' row) (hne : ∀ k, row = some k → g < k) : Cell2 w' g u v := by
  obtain ⟨k0, k1, k2, k3⟩ := h
  have hlt : g < w.heap.size := World.block_lt_of_cell? w _ k0
  have hb := hg.block g hlt (fun e => by have := hne g e.symm; omega)
  refine ⟨?_, ?_, ?_, ?_⟩
  · exact (World.cell?_of_block (a := ⟨g, 0, none⟩) hb).trans k0
  · exact (World.cell?_of_block (a := ⟨g, 1, none⟩) hb).trans k1
  · exact (World.frozen?_of_block (a := ⟨g, 0, none⟩) hb).trans k2
  · exact (World.frozen?_of_block (a := ⟨g, 1, none⟩) hb).trans k3
theorem Cell2.alloc (h : Cell2 w g u v) (o : Obj) : Cell2 (w.alloc o) g u v := h.below (balloc (Below.refl _ _) o)
theorem cell2_new (t : TypeId) : Cell2 (w.alloc (.cells #[u, v] t)) w.heap.size u v := by
  refine ⟨?_, ?_, ?_, ?_⟩ <;> simp [go_sem]
theorem Cell2.set (h : Cell2 w g u v) (u' v' : Value) : Cell2 ((w.setCell ⟨g, 0, none⟩ u').setCell ⟨g, 1, none⟩ v') g u' v' := by
  obtain ⟨k0, k1, k2, k3⟩ := h
  refine ⟨?_, ?_, ?_, ?_⟩
  · rw [World.cell?_setCell_other _ _ _ _ (fun e => by cases e)]
    exact World.cell?_setCell_same _ _ _ k0
  · have h1 : (w.setCell ⟨g, 0, none⟩ u').cell? ⟨g, 1, none⟩ = some v := by
      rw [World.cell?_setCell_other _ _ _ _ (fun e => by cases e)]
      exact k1
    exact World.cell?_setCell_same _ _ _ h1
  · simpa [go_sem] using k2
  · simpa [go_sem] using k3
theorem Cell2.other (h : Cell2 w g u v) (hne : g ≠ g') (u' v' : Value) : Cell2 ((w.setCell ⟨g', 0, none⟩ u').setCell ⟨g', 1, none⟩ v') g u v := by
  obtain ⟨k0, k1, k2, k3⟩ := h
  refine ⟨?_, ?_, ?_, ?_⟩
  · rw [World.cell?_setCell_other _ _ _ _ (fun e => by cases e), World.cell?_setCell_other _ _ _ _ (fun e => by cases e; exact hne rfl)]; exact k0
  · rw [World.cell?_setCell_other _ _ _ _ (fun e => by cases e; exact hne rfl), World.cell?_setCell_other _ _ _ _ (fun e => by cases e)]; exact k1
  · simpa [go_sem] using k2
  · simpa [go_sem] using k3
end
end Go.Proofs.Ythagogjklocmoaa
