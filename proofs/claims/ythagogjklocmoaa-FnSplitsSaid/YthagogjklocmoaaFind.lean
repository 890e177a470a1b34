/-
  The reference's search for splits: its contract.
-/
import Derived.Test.YthagogjklocmoaaRows2
import Derived.Test.YthagogjklocmoaaSplsP
import Derived.Laws.AppendOwnNone
import Derived.Deep.RegionHeld3
import Derived.Lib.QuietBelow
import Derived.BigQuiet
import Derived.Deep.Cut
import Derived.Deep.Heap
namespace Go.Proofs.Ythagogjklocmoaa
open Go.RowKit

/-- A slice of int64 that is read: nil, or a block with its cells. -/
def TakenOk (w : World) (ta : Option Addr) (taken : List Int) : Prop := (ta = none ∧ taken = []) ∨ ∃ gt, ta = some ⟨gt, 0, none⟩ ∧ gt < w.heap.size ∧ ∀ j, j < taken.length → w.cell? ⟨gt, j, none⟩ = some (.int .i64 (taken.getD j 0))
def addrB (ta : Option Addr) : Option Nat := ta.map (·.block)
theorem TakenOk.below {w w' : World} {ta : Option Addr} {taken : List Int} (h : TakenOk w ta taken) (hb : Below w.heap.size w w') : TakenOk w' ta taken := by
  rcases h with h | ⟨gt, h1, h2, h3⟩
  · exact .inl h
  · exact .inr ⟨gt, h1, Nat.lt_of_lt_of_le h2 hb.size, fun j hj => (hb.cell (p := ⟨gt, j, none⟩) h2).trans (h3 j hj)⟩
theorem TakenOk.fr {w w' : World} {b : Nat} {vo po : Option Nat} {ta : Option Addr} {taken : List Int} (h : TakenOk w ta taken) (hf : Fr w w' b vo po) (h1 : addrB ta ≠ some b) (h2 : ∀ k, addrB ta = some k → vo ≠ some k) (h3 : ∀ k, addrB ta = some k → po ≠ some k) : TakenOk w' ta taken := by
  rcases h with h | ⟨gt, rfl, h4, h5⟩
  · exact .inl h
  · have hblk := hf.2.2.2.2 gt h4 (fun e => h1 (by rw [← e]; rfl)) (h2 gt rfl) (h3 gt rfl)
    exact .inr ⟨gt, rfl, Nat.lt_of_lt_of_le h4 hf.2.2.2.1, fun j hj => (World.cell?_of_block (a := ⟨gt, j, none⟩) hblk).trans (h5 j hj)⟩
theorem own_any (ta : Option Addr) (taken : List Int) (cap : Nat) (w : World) (h : TakenOk w ta taken) (hn : taken.length ≤ 1000000) :
    Calls Try.prog 44 #[.slice ta taken.length cap] w fun e w' => ∃ v, e = .returned v ∧ OwnsI w' w.heap.size v taken ∧ Below w.heap.size w w' := by
  rcases h with ⟨rfl, rfl⟩ | ⟨gt, rfl, h2, h3⟩
  · have HE := hide (OwnsI.made_ (w := w))
    go_enter Try.func44, Try.ntmps44
    go_wp2_with fail
    go_ret
    exact ⟨_, rfl, HE.out, balloc (Below.refl _ _) _⟩
  · exact l00Own_any gt taken cap w h3 (by omega)
/-- The search's struct: the divisors, the greatest factor, how many, the rows found so far. -/
def FindSt (w : World) (b gd B : Nat) (D : List Int) (dcap : Nat) (high : Int) (most : Nat) (v : Value) (acc : List (List Int)) (es : List (Nat × Nat)) : Prop :=
  (w.cell? ⟨b, 0, none⟩ = some (.slice (some ⟨gd, 0, none⟩) D.length dcap) ∧ w.cell? ⟨b, 1, none⟩ = some (.int .i64 high) ∧ w.cell? ⟨b, 2, none⟩ = some (.int .i64 (most : Int)) ∧ w.cell? ⟨b, 3, none⟩ = some v ∧ w.frozen? ⟨b, 3, none⟩ = false) ∧
  (∀ j, j < D.length → w.cell? ⟨gd, j, none⟩ = some (.int .i64 (D.getD j 0))) ∧ Own2 w B v acc es ∧ (gd < B ∧ b < B ∧ gd ≠ b ∧ B ≤ w.heap.size)
theorem FindSt.below {w w' : World} {b gd B : Nat} {D : List Int} {dcap : Nat} {high : Int} {most : Nat} {v : Value} {acc : List (List Int)} {es : List (Nat × Nat)} (h : FindSt w b gd B D dcap high most v acc es) (hb : Below w.heap.size w w') : FindSt w' b gd B D dcap high most v acc es := by
  obtain ⟨⟨k0, k1, k2, k3, k4⟩, hd, ho, h1, h2, h3, h4⟩ := h
  have hbl : b < w.heap.size := by omega
  have hgl : gd < w.heap.size := by omega
  exact ⟨⟨(hb.cell (p := ⟨b, 0, none⟩) hbl).trans k0, (hb.cell (p := ⟨b, 1, none⟩) hbl).trans k1, (hb.cell (p := ⟨b, 2, none⟩) hbl).trans k2, (hb.cell (p := ⟨b, 3, none⟩) hbl).trans k3, (hb.frozen hbl).trans k4⟩,
    fun j hj => (hb.cell (p := ⟨gd, j, none⟩) hgl).trans (hd j hj), ho.below hb, h1, h2, h3, Nat.le_trans h4 hb.size⟩
/-- The row of rows grows by one; the struct is told. -/
theorem FindSt.push {w w1 : World} {b gd B : Nat} {D : List Int} {dcap : Nat} {high : Int} {most : Nat} {v v' : Value} {acc : List (List Int)} {es : List (Nat × Nat)} (h : FindSt w b gd B D dcap high most v acc es) {x : Nat × Nat} {r : List Int} (hx : OwnsI w B (elV x r) r) (hnew : ∀ e ∈ es, e.1 ≠ x.1) (hvx : v.ownBlock ≠ some x.1)
    (ho : OwnsV w1 B v' (List.zipWith elV es acc ++ [elV x r])) (hg : w.grownBy w1 v.ownBlock) (hb : v'.ownBlock = v.ownBlock ∨ v'.ownBlock = some w.heap.size) :
    FindSt (w1.setCell ⟨b, 3, none⟩ v') b gd B D dcap high most v' (acc ++ [r]) (es ++ [x]) ∧ Fr w (w1.setCell ⟨b, 3, none⟩ v') b v.ownBlock none := by
  obtain ⟨⟨k0, k1, k2, k3, k4⟩, hd, ho2, h1, h2, h3, h4⟩ := h
  have hvb : v.ownBlock ≠ some b := fun e => by have := (ho2.v_lt b e).1; omega
  have hvg : v.ownBlock ≠ some gd := fun e => by have := (ho2.v_lt gd e).1; omega
  have eb : w1.heap[b]? = w.heap[b]? := hg.block b (by omega) (fun e => hvb e.symm)
  have eg : w1.heap[gd]? = w.heap[gd]? := hg.block gd (by omega) (fun e => hvg e.symm)
  have c3 : w1.cell? ⟨b, 3, none⟩ = some v := (World.cell?_of_block (a := ⟨b, 3, none⟩) eb).trans k3
  have hp := ho2.push hx hvx hnew ho hg hb
  have hsz := hg.size
  refine ⟨⟨⟨?_, ?_, ?_, World.cell?_setCell_same _ _ _ c3, ?_⟩, ?_, ?_, h1, h2, h3, ?_⟩, ?_⟩
  · rw [World.cell?_setCell_other _ _ _ _ (fun e => by cases e)]; exact (World.cell?_of_block (a := ⟨b, 0, none⟩) eb).trans k0
  · rw [World.cell?_setCell_other _ _ _ _ (fun e => by cases e)]; exact (World.cell?_of_block (a := ⟨b, 1, none⟩) eb).trans k1
  · rw [World.cell?_setCell_other _ _ _ _ (fun e => by cases e)]; exact (World.cell?_of_block (a := ⟨b, 2, none⟩) eb).trans k2
  · have : w1.frozen? ⟨b, 3, none⟩ = false := (World.frozen?_of_block (a := ⟨b, 3, none⟩) eb).trans k4
    simpa [go_sem] using this
  · intro j hj
    rw [World.cell?_setCell_other _ _ _ _ (fun e => by cases e; exact h3 rfl)]
    exact (World.cell?_of_block (a := ⟨gd, j, none⟩) eg).trans (hd j hj)
  · have hgs : w1.grownBy (w1.setCell ⟨b, 3, none⟩ v') (some b) := ⟨rfl, rfl, rfl, by simp, fun i _ hn => Go.Deep.blk_setCell_other _ _ _ _ (fun e => hn (by rw [e]))⟩
    refine hp.same hgs (.inr fun e => ?_) (fun e he c => ?_)
    · have := (hp.v_lt b e).1; omega
    · have := (hp.es_lt e he).1
      simp only [Option.some.injEq] at c
      omega
  · simp; omega
  · refine ⟨hg.os, hg.tape, hg.output, by simpa using hsz, fun i hi n1 n2 _ => ?_⟩
    have : (w1.setCell ⟨b, 3, none⟩ v').heap[i]? = w1.heap[i]? := Go.Deep.blk_setCell_other _ _ _ _ (fun e => n1 e)
    rw [this]
    exact hg.block i hi (fun e => n2 e.symm)
end Go.Proofs.Ythagogjklocmoaa
