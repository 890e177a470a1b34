/-
  The source of choices of a law over trains: contracts of l00From, a2Long, and a choice among written numbers.
-/
import Derived.Test.YtmkhkojefjdbbaaSrc
import Derived.Test.YtmkhkojefjdbbaaInRows
namespace Go.Proofs.Ytmkhkojefjdbbaa
open Go.RowKit

theorem Cell2.grown' {w w' : World} {g : Nat} {u v : Value} {row : Option Nat} (h : Cell2 w g u v) (hg : w.grownBy w' row) (hne : some g ≠ row) : Cell2 w' g u v := by
  obtain ⟨k0, k1, k2, k3⟩ := h
  have hlt : g < w.heap.size := World.block_lt_of_cell? w _ k0
  have hb := hg.block g hlt hne
  exact ⟨(World.cell?_of_block (a := ⟨g, 0, none⟩) hb).trans k0, (World.cell?_of_block (a := ⟨g, 1, none⟩) hb).trans k1, (World.frozen?_of_block (a := ⟨g, 0, none⟩) hb).trans k2, (World.frozen?_of_block (a := ⟨g, 1, none⟩) hb).trans k3⟩
theorem gal {w w' : World} {r : Option Nat} (h : w.grownBy w' r) (o : Obj) : w.grownBy (w'.alloc o) r := gtr h (World.grownBy_alloc w' o r)
theorem gbl {w w1 w2 : World} {r : Option Nat} (h : w.grownBy w1 r) (hb : Below w1.heap.size w1 w2) : w.grownBy w2 r := gtr h ⟨hb.os, hb.tape, hb.output, hb.size, fun i hi _ => hb.block i hi⟩
theorem SrcS.lt {w : World} {g : Nat} {ao : Option Addr} {n cap : Nat} {K : Int} (h : SrcS w g ao n cap K) : g < w.heap.size := by
  obtain ⟨⟨a, s, _, _, c0, _⟩, _⟩ := h
  exact World.block_lt_of_cell? w _ c0
theorem SrcS.alloc {w : World} {g : Nat} {ao : Option Addr} {n cap : Nat} {K : Int} (h : SrcS w g ao n cap K) (o : Obj) : SrcS (w.alloc o) g ao n cap K := h.below (balloc (Below.refl _ _) o)
theorem among_lit (g : Nat) (ao : Option Addr) (n cap : Nat) (K : Int) (vs : List Int) (t : TypeId) (w : World) (h : SrcS w g ao n cap K) (hn : n ≤ 1000000000000) (hK : K ≤ 1000000000) (hl : 1 < vs.length ∧ vs.length ≤ 1000) :
    Calls Try.prog 64 #[.pointer (some ⟨g, 0, none⟩), .slice (some ⟨w.heap.size, 0, none⟩) vs.length vs.length] (w.alloc (.cells (vs.map (Value.int .i64)).toArray t)) fun e w' => ∃ v : Int, e = .returned (.int .i64 v) ∧ v ∈ vs ∧ SrcS w' g ao n cap (K + 2) ∧ w.grownBy w' (some g) := by
  have hlt := h.lt
  refine (among_any g ao n cap K w.heap.size vs vs.length _ (h.alloc _) hn hK hl (fun j hj => ?_) (by omega) (by simp)).mono ?_
  · rw [World.cell?_alloc_at _ _ _ _ rfl]
    simp [List.getElem?_map, List.getElem?_eq_getElem hj]
  · rintro e w' ⟨v, rfl, hv, hS, hg⟩
    exact ⟨v, rfl, hv, hS, gtr (World.grownBy_alloc w _ _) hg⟩
theorem l00From_any (ao : Option Addr) (n cap : Nat) (w : World) (hb : BytesR w ao n) :
    Calls Try.prog 54 #[.slice ao n cap] w fun e w' => e = .returned (.pointer (some ⟨w.heap.size, 0, none⟩)) ∧ SrcS w' w.heap.size ao n cap 0 ∧ Below w.heap.size w w' := by
  go_enter Try.func54, Try.ntmps54
  go_wp2_with fail
  go_ret
  refine ⟨rfl, ⟨⟨0, 0, by omega, by omega, ?_, ?_, ?_, ?_, ?_⟩, ?_, fun hp x hx => by
    obtain ⟨b, off, e, hl, _⟩ := hb hp
    rw [hx] at e
    cases e
    show b ≠ w.heap.size
    omega⟩, balloc (Below.refl _ _) _⟩
  · simp [go_sem]
  · simp [go_sem]
  · simp [go_sem]
  · simp [go_sem]
  · simp [go_sem]
  · exact fun hp => by
      obtain ⟨b, off, e, hl, hc⟩ := hb hp
      refine ⟨b, off, e, by simp; omega, fun j hj => ?_⟩
      obtain ⟨v, hv, h0⟩ := hc j hj
      exact ⟨v, ((balloc (Below.refl w.heap.size w) _).cell (p := ⟨b, off + j, none⟩) hl).trans hv, h0⟩
/-- A row of bytes that came in. -/
theorem row_bytes {w : World} {a : Option Addr} {len cap : Nat} {zs : List Int} (h : IsRow .u8 w a len cap zs) : BytesR w a len ∧ len ≤ maxLen := by
  rcases h with ⟨rfl, rfl, rfl, rfl⟩ | ⟨x, rfl, hl, hm, hz, hc, hw⟩
  · exact ⟨fun hp => absurd hp (by omega), Nat.zero_le _⟩
  · refine ⟨fun hp => ?_, by omega⟩
    obtain ⟨b, off, spot⟩ := x
    have h0 := hc 0 (by omega)
    have hspot : spot = none := by simpa [Addr.add] using World.cell?_spot h0
    subst hspot
    have hadd : ∀ n, (⟨b, off, none⟩ : Addr).add n = ⟨b, off + n, none⟩ := fun n => by unfold Addr.add; split <;> simp_all
    refine ⟨b, off, rfl, ?_, fun j hj => ?_⟩
    · have := World.block_lt_of_cell? w _ h0
      rw [hadd] at this
      exact this
    · have h1 := hc j (by omega)
      rw [hadd] at h1
      refine ⟨_, h1, ?_⟩
      have h2 := hw (zs.getD j 0) (by
        rw [List.getD_eq_getElem?_getD, List.getElem?_eq_getElem (by omega)]
        exact List.getElem_mem _)
      exact bounds_u8 h2
def longB (n m : Nat) : Bool := decide (3000 < n) || decide (3000 < m)
theorem a2Long_any (a b : Option Addr) (n m c d : Nat) (w : World) (hn : n ≤ maxLen) (hm : m ≤ maxLen) :
    Calls Try.prog 28 #[.slice a n c, .slice b m d] w fun e w' => e = .returned (.bool (longB n m)) ∧ w = w' := by
  unfold maxLen at hn hm
  by_cases h1 : 3000 < n
  · have e : longB n m = true := by unfold longB; rw [decide_eq_true h1]; rfl
    rw [e]
    clear e
    go_enter Try.func28, Try.ntmps28
    go_wp2
    go_ret
    exact ⟨by simp, rfl⟩
  · by_cases h2 : 3000 < m
    · have e : longB n m = true := by unfold longB; rw [decide_eq_true h2, decide_eq_false h1]; rfl
      rw [e]
      clear e
      go_enter Try.func28, Try.ntmps28
      go_wp2
      go_ret
      exact ⟨by simp; omega, rfl⟩
    · have e : longB n m = false := by unfold longB; rw [decide_eq_false h2, decide_eq_false h1]; rfl
      rw [e]
      clear e
      go_enter Try.func28, Try.ntmps28
      go_wp2
      go_ret
      exact ⟨by simp; omega, rfl⟩
end Go.Proofs.Ytmkhkojefjdbbaa
