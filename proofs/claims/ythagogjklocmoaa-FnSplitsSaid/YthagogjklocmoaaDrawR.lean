/-
  Drawn ratios: contracts.
-/
import Derived.Test.YthagogjklocmoaaSrc
import Derived.Test.YthagogjklocmoaaRatioX
namespace Go.Proofs.Ythagogjklocmoaa
open Go.RowKit

theorem Cell2.grown' {w w' : World} {g : Nat} {u v : Value} {row : Option Nat} (h : Cell2 w g u v) (hg : w.grownBy w' row) (hne : some g ≠ row) : Cell2 w' g u v := by
  obtain ⟨k0, k1, k2, k3⟩ := h
  have hlt : g < w.heap.size := World.block_lt_of_cell? w _ k0
  have hb := hg.block g hlt hne
  exact ⟨(World.cell?_of_block (a := ⟨g, 0, none⟩) hb).trans k0, (World.cell?_of_block (a := ⟨g, 1, none⟩) hb).trans k1, (World.frozen?_of_block (a := ⟨g, 0, none⟩) hb).trans k2, (World.frozen?_of_block (a := ⟨g, 1, none⟩) hb).trans k3⟩
theorem gal {w w' : World} {r : Option Nat} (h : w.grownBy w' r) (o : Obj) : w.grownBy (w'.alloc o) r := gtr h (World.grownBy_alloc w' o r)
theorem gbl {w w1 w2 : World} {r : Option Nat} (h : w.grownBy w1 r) (hb : Below w1.heap.size w1 w2) : w.grownBy w2 r := gtr h ⟨hb.os, hb.tape, hb.output, hb.size, fun i hi _ => hb.block i hi⟩
theorem SrcS.lt {w : World} {g : Nat} {ao : Option Addr} {n cap : Nat} {K : Int} (h : SrcS w g ao n cap K) : g < w.heap.size := by
  obtain ⟨⟨a, s, _, _, c0, _⟩, _⟩ := h
  exact World.block_lt_of_cell? w _ c0
theorem SrcS.alloc {w : World} {g : Nat} {ao : Option Addr} {n cap : Nat} {K : Int} (h : SrcS w g ao n cap K) (o : Obj) : SrcS (w.alloc o) g ao n cap K := h.below (balloc (Below.refl _ _) o)
theorem mk_big {a b : Int} (ha : -1000000000 ≤ a ∧ a ≤ 1000000000) (hb : 1 ≤ b ∧ b ≤ 1000000000) : validR (mkN a b) (mkD a b) = true := by
  have h1 : qN a b ≤ absI a := Int.ediv_le_self _ (absI_nonneg a)
  have h2 : qD a b ≤ absI b := Int.ediv_le_self _ (absI_nonneg b)
  have h3 : absI a ≤ 1000000000 := by unfold absI; omega
  have h4 : absI b ≤ 1000000000 := by unfold absI; omega
  exact mk_valid (by omega) (by omega) (by omega) (by unfold mkOk; rw [decide_eq_true (by omega), decide_eq_true (by omega)]; rfl)
theorem among_lit (g : Nat) (ao : Option Addr) (n cap : Nat) (K : Int) (vs : List Int) (t : TypeId) (w : World) (h : SrcS w g ao n cap K) (hn : n ≤ 1000000000000) (hK : K ≤ 1000000000) (hl : 1 < vs.length ∧ vs.length ≤ 1000) :
    Calls Try.prog 31 #[.pointer (some ⟨g, 0, none⟩), .slice (some ⟨w.heap.size, 0, none⟩) vs.length vs.length] (w.alloc (.cells (vs.map (Value.int .i64)).toArray t)) fun e w' => ∃ v : Int, e = .returned (.int .i64 v) ∧ v ∈ vs ∧ SrcS w' g ao n cap (K + 2) ∧ w.grownBy w' (some g) := by
  have hlt := h.lt
  refine (among_any g ao n cap K w.heap.size vs vs.length _ (h.alloc _) hn hK hl (fun j hj => ?_) (by omega) (by simp)).mono ?_
  · rw [World.cell?_alloc_at _ _ _ _ rfl]
    simp [List.getElem?_map, List.getElem?_eq_getElem hj]
  · rintro e w' ⟨v, rfl, hv, hS, hg⟩
    exact ⟨v, rfl, hv, hS, gtr (World.grownBy_alloc w _ _) hg⟩
theorem draw_end {w w' : World} {g g' : Nat} {ao : Option Addr} {n cap : Nat} {K0 K : Int} (h0 : SrcS w g ao n cap K0) (h : SrcS w' g ao n cap K) (hg : w.grownBy w' (some g)) (hge : w.heap.size ≤ g') (hne : g ≠ g') (p q : Value) (o : Obj) :
    SrcS (((w'.setCell ⟨g', 0, none⟩ p).setCell ⟨g', 1, none⟩ q).alloc o) g ao n cap K ∧ w.grownBy (((w'.setCell ⟨g', 0, none⟩ p).setCell ⟨g', 1, none⟩ q).alloc o) (some g) := by
  have hG : w.grownBy ((w'.setCell ⟨g', 0, none⟩ p).setCell ⟨g', 1, none⟩ q) (some g) := by
    have e1 := gsc w' g' 0 p
    have e2 := gsc (w'.setCell ⟨g', 0, none⟩ p) g' 1 q
    refine ⟨e2.os.trans (e1.os.trans hg.os), e2.tape.trans (e1.tape.trans hg.tape), e2.output.trans (e1.output.trans hg.output), Nat.le_trans hg.size (Nat.le_trans e1.size e2.size), fun i hi hn => ?_⟩
    have hii : i ≠ g' := by omega
    rw [e2.block i (Nat.lt_of_lt_of_le hi (Nat.le_trans hg.size e1.size)) (by simpa using hii), e1.block i (Nat.lt_of_lt_of_le hi hg.size) (by simpa using hii)]
    exact hg.block i hi hn
  refine ⟨SrcS.alloc ⟨?_, h0.2.1.grown hG (fun hp x hx => by have := h0.2.2 hp x hx; simpa using this), h0.2.2⟩ o, gal hG o⟩
  obtain ⟨a, s, h1, h2, c0, c1, c2, f1, f2⟩ := h.1
  refine ⟨a, s, h1, h2, ?_, ?_, ?_, by simpa [go_sem] using f1, by simpa [go_sem] using f2⟩
  · rw [World.cell?_setCell_other _ _ _ _ (fun e => by cases e <;> exact hne rfl), World.cell?_setCell_other _ _ _ _ (fun e => by cases e <;> exact hne rfl)]; exact c0
  · rw [World.cell?_setCell_other _ _ _ _ (fun e => by cases e <;> exact hne rfl), World.cell?_setCell_other _ _ _ _ (fun e => by cases e <;> exact hne rfl)]; exact c1
  · rw [World.cell?_setCell_other _ _ _ _ (fun e => by cases e <;> exact hne rfl), World.cell?_setCell_other _ _ _ _ (fun e => by cases e <;> exact hne rfl)]; exact c2
end Go.Proofs.Ythagogjklocmoaa
