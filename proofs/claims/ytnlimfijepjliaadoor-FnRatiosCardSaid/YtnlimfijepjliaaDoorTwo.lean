/-
  Words for a region that draws its order and loads two boxed structs beside calls that make memory.
-/
import Derived.Test.YtnlimfijepjliaaDoorRatioX
import Derived.Deep.RegionHeld3
import Derived.Deep.DeepCutAuto
namespace Go.Proofs.YtnlimfijepjliaaDoor
open Go.RowKit

/-- Four cells are as they were, and below w0's size nothing has turned. -/
def Held4 (g1 g2 : Nat) (a b c d : Value) (w0 w' : World) : Prop :=
  w'.cell? ⟨g1, 0, none⟩ = some a ∧ w'.cell? ⟨g1, 1, none⟩ = some b ∧ w'.cell? ⟨g2, 0, none⟩ = some c ∧ w'.cell? ⟨g2, 1, none⟩ = some d ∧ Below w0.heap.size w0 w'
section
variable {g1 g2 : Nat} {a b c d : Value} {w0 w1 w2 : World}
theorem held4_start (h1 : w0.cell? ⟨g1, 0, none⟩ = some a) (h2 : w0.cell? ⟨g1, 1, none⟩ = some b) (h3 : w0.cell? ⟨g2, 0, none⟩ = some c) (h4 : w0.cell? ⟨g2, 1, none⟩ = some d) : Held4 g1 g2 a b c d w0 w0.drew := ⟨h1, h2, h3, h4, (Below.refl _ _).drew⟩
theorem held4_step (h : Held4 g1 g2 a b c d w0 w1) (hb : Below w1.heap.size w1 w2) : Held4 g1 g2 a b c d w0 w2 := by
  obtain ⟨h1, h2, h3, h4, h5⟩ := h
  have e1 := World.block_lt_of_cell? w1 _ h1
  have e3 := World.block_lt_of_cell? w1 _ h3
  exact ⟨(hb.cell (p := ⟨g1, 0, none⟩) e1).trans h1, (hb.cell (p := ⟨g1, 1, none⟩) e1).trans h2, (hb.cell (p := ⟨g2, 0, none⟩) e3).trans h3, (hb.cell (p := ⟨g2, 1, none⟩) e3).trans h4, bstep h5 hb⟩
theorem held4_alloc (h : Held4 g1 g2 a b c d w0 w1) (o : Obj) : Held4 g1 g2 a b c d w0 (w1.alloc o) := held4_step h (balloc (Below.refl _ _) _)
theorem held4_set (h : Held4 g1 g2 a b c d w0 w1) (hg1 : g1 < w0.heap.size) (hg2 : g2 < w0.heap.size) {p : Addr} (hp : w0.heap.size ≤ p.block) (u : Value) : Held4 g1 g2 a b c d w0 (w1.setCell p u) := by
  obtain ⟨h1, h2, h3, h4, h5⟩ := h
  refine ⟨?_, ?_, ?_, ?_, h5.setCell hp u⟩
  · rw [World.cell?_setCell_other _ _ _ _ (fun e => by subst e; simp at hp; omega)]; exact h1
  · rw [World.cell?_setCell_other _ _ _ _ (fun e => by subst e; simp at hp; omega)]; exact h2
  · rw [World.cell?_setCell_other _ _ _ _ (fun e => by subst e; simp at hp; omega)]; exact h3
  · rw [World.cell?_setCell_other _ _ _ _ (fun e => by subst e; simp at hp; omega)]; exact h4
theorem held4_begin {w : World} (h1 : w1.cell? ⟨g1, 0, none⟩ = some a) (h2 : w1.cell? ⟨g1, 1, none⟩ = some b) (h3 : w1.cell? ⟨g2, 0, none⟩ = some c) (h4 : w1.cell? ⟨g2, 1, none⟩ = some d) (hb : Below w.heap.size w w1) : Held4 g1 g2 a b c d w w1.drew := ⟨h1, h2, h3, h4, hb.drew⟩
theorem held4_set2 (h : Held4 g1 g2 a b c d w0 w1) {p : Addr} (hg1 : g1 ≠ p.block) (hg2 : g2 ≠ p.block) (hp : w0.heap.size ≤ p.block) (u : Value) : Held4 g1 g2 a b c d w0 (w1.setCell p u) := by
  obtain ⟨h1, h2, h3, h4, h5⟩ := h
  refine ⟨?_, ?_, ?_, ?_, h5.setCell hp u⟩
  · rw [World.cell?_setCell_other _ _ _ _ (fun e => by subst e; exact hg1 rfl)]; exact h1
  · rw [World.cell?_setCell_other _ _ _ _ (fun e => by subst e; exact hg1 rfl)]; exact h2
  · rw [World.cell?_setCell_other _ _ _ _ (fun e => by subst e; exact hg2 rfl)]; exact h3
  · rw [World.cell?_setCell_other _ _ _ _ (fun e => by subst e; exact hg2 rfl)]; exact h4
end
/-- Behind a call: the two cells of the variable that was laid just ahead of it; and carried on behind a later call. -/
theorem held_alloc {X w' : World} {u v : Value} {t : TypeId} (hb : Below (X.alloc (.cells #[u, v] t)).heap.size (X.alloc (.cells #[u, v] t)) w') :
    w'.cell? ⟨X.heap.size, 0, none⟩ = some u ∧ w'.cell? ⟨X.heap.size, 1, none⟩ = some v ∧ w'.frozen? ⟨X.heap.size, 0, none⟩ = false ∧ w'.frozen? ⟨X.heap.size, 1, none⟩ = false := by
  refine ⟨?_, ?_, ?_, ?_⟩
  · rw [hb.cell (by simp)]; simp [go_sem]
  · rw [hb.cell (by simp)]; simp [go_sem]
  · rw [hb.frozen (by simp)]; simp [go_sem]
  · rw [hb.frozen (by simp)]; simp [go_sem]
theorem held_alloc_drew {X w' : World} {u v : Value} {t : TypeId} (hb : Below (X.alloc (.cells #[u, v] t)).drew.heap.size (X.alloc (.cells #[u, v] t)).drew w') :
    w'.cell? ⟨X.heap.size, 0, none⟩ = some u ∧ w'.cell? ⟨X.heap.size, 1, none⟩ = some v ∧ w'.frozen? ⟨X.heap.size, 0, none⟩ = false ∧ w'.frozen? ⟨X.heap.size, 1, none⟩ = false := held_alloc (X := X) ⟨hb.os, hb.tape, hb.output, hb.size, hb.block⟩
theorem held_carry {w w' : World} {g : Nat} {u v : Value} (hb : Below w.heap.size w w') (k0 : w.cell? ⟨g, 0, none⟩ = some u) (k1 : w.cell? ⟨g, 1, none⟩ = some v) (k2 : w.frozen? ⟨g, 0, none⟩ = false) (k3 : w.frozen? ⟨g, 1, none⟩ = false) :
    w'.cell? ⟨g, 0, none⟩ = some u ∧ w'.cell? ⟨g, 1, none⟩ = some v ∧ w'.frozen? ⟨g, 0, none⟩ = false ∧ w'.frozen? ⟨g, 1, none⟩ = false := by
  have hg : g < w.heap.size := World.block_lt_of_cell? w _ k0
  exact ⟨(hb.cell hg).trans k0, (hb.cell hg).trans k1, (hb.frozen hg).trans k2, (hb.frozen hg).trans k3⟩
/-- What such a region leaves: a variable of two known cells. -/
def Left2 (w0 : World) (n m : Int) (s : Value) (wx : World) : Prop := ∃ g : Nat, s = .pointer (some ⟨g, 0, none⟩) ∧ wx.cell? ⟨g, 0, none⟩ = some (.int .i64 n) ∧ wx.cell? ⟨g, 1, none⟩ = some (.int .i64 m) ∧ Below w0.heap.size w0 wx
theorem left2_alloc {g1 g2 : Nat} {a b c d : Value} {w0 w1 : World} {n m : Int} {t : TypeId} (h : Held4 g1 g2 a b c d w0 w1) : Left2 w0 n m (.pointer (some ⟨w1.heap.size, 0, none⟩)) (w1.alloc (.cells #[.int .i64 n, .int .i64 m] t)) :=
  ⟨w1.heap.size, rfl, by simp [go_sem], by simp [go_sem], balloc h.2.2.2.2 _⟩
theorem left2_set {g1 g2 g : Nat} {a b c d u v : Value} {w0 w1 : World} {n m : Int} (h : Held4 g1 g2 a b c d w0 w1) (k0 : w1.cell? ⟨g, 0, none⟩ = some u) (k1 : w1.cell? ⟨g, 1, none⟩ = some v) (hg : w0.heap.size ≤ g) :
    Left2 w0 n m (.pointer (some ⟨g, 0, none⟩)) ((w1.setCell ⟨g, 0, none⟩ (.int .i64 n)).setCell ⟨g, 1, none⟩ (.int .i64 m)) := by
  refine ⟨g, rfl, ?_, ?_, bset (bset h.2.2.2.2 hg _) hg _⟩
  · rw [World.cell?_setCell_other _ _ _ _ (fun e => by cases e)]
    exact World.cell?_setCell_same _ _ _ k0
  · have h1 : (w1.setCell ⟨g, 0, none⟩ (.int .i64 n)).cell? ⟨g, 1, none⟩ = some v := by
      rw [World.cell?_setCell_other _ _ _ _ (fun e => by cases e)]
      exact k1
    exact World.cell?_setCell_same _ _ _ h1
end Go.Proofs.YtnlimfijepjliaaDoor
