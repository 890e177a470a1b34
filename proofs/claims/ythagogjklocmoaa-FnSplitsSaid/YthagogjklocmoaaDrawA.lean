/-
  The drawn ratios of a law: contracts of l00From, A2Ratios, a2Long, a2At.
-/
import Derived.Test.YthagogjklocmoaaDrawR
import Derived.Deep.RegionWith
import Derived.Test.YthagogjklocmoaaInRows
namespace Go.Proofs.Ythagogjklocmoaa
open Go.RowKit

theorem l00From_any (ao : Option Addr) (n cap : Nat) (w : World) (hb : BytesR w ao n) :
    Calls Try.prog 16 #[.slice ao n cap] w fun e w' => e = .returned (.pointer (some ⟨w.heap.size, 0, none⟩)) ∧ SrcS w' w.heap.size ao n cap 0 ∧ Below w.heap.size w w' := by
  go_enter Try.func16, Try.ntmps16
  go_wp2_with fail
  go_ret
  refine ⟨rfl, ⟨⟨0, 0, by omega, by omega, ?_, ?_, ?_, ?_, ?_⟩, ?_, fun hp x hx => by
    obtain ⟨b, off, e, hl, _⟩ := hb hp
    rw [hx] at e
    cases e
    show b ≠ w.heap.size
    omega⟩, balloc (Below.refl _ _) _⟩
  · simp [go_sem]
  · simp [go_sem]
  · simp [go_sem]
  · simp [go_sem]
  · simp [go_sem]
  · exact fun hp => by
      obtain ⟨b, off, e, hl, hc⟩ := hb hp
      refine ⟨b, off, e, by simp; omega, fun j hj => ?_⟩
      obtain ⟨v, hv, h0⟩ := hc j hj
      exact ⟨v, ((balloc (Below.refl w.heap.size w) _).cell (p := ⟨b, off + j, none⟩) hl).trans hv, h0⟩
theorem pair_cells {w : World} (a b c d : Value) (t u : TypeId) : Cell2 ((w.alloc (.cells #[a, b] t)).alloc (.cells #[c, d] u)) w.heap.size a b ∧ Cell2 ((w.alloc (.cells #[a, b] t)).alloc (.cells #[c, d] u)) (w.heap.size + 1) c d := by
  refine ⟨⟨?_, ?_, ?_, ?_⟩, ⟨?_, ?_, ?_, ?_⟩⟩ <;> simp [go_sem, World.cell?_alloc_past]
/-- A row of bytes that came in. -/
theorem row_bytes {w : World} {a : Option Addr} {len cap : Nat} {zs : List Int} (h : IsRow .u8 w a len cap zs) : BytesR w a len ∧ len ≤ maxLen := by
  rcases h with ⟨rfl, rfl, rfl, rfl⟩ | ⟨x, rfl, hl, hm, hz, hc, hw⟩
  · exact ⟨fun hp => absurd hp (by omega), Nat.zero_le _⟩
  · refine ⟨fun hp => ?_, by omega⟩
    obtain ⟨b, off, spot⟩ := x
    have h0 := hc 0 (by omega)
    have hspot : spot = none := by simpa [Addr.add] using World.cell?_spot h0
    subst hspot
    have hadd : ∀ n, (⟨b, off, none⟩ : Addr).add n = ⟨b, off + n, none⟩ := fun n => by unfold Addr.add; split <;> simp_all
    refine ⟨b, off, rfl, ?_, fun j hj => ?_⟩
    · have := World.block_lt_of_cell? w _ h0
      rw [hadd] at this
      exact this
    · have h1 := hc j (by omega)
      rw [hadd] at h1
      refine ⟨_, h1, ?_⟩
      have h2 := hw (zs.getD j 0) (by
        rw [List.getD_eq_getElem?_getD, List.getElem?_eq_getElem (by omega)]
        exact List.getElem_mem _)
      exact bounds_u8 h2
def longB (n m : Nat) : Bool := decide (3000 < n) || decide (3000 < m)
theorem a2Long_any (a b : Option Addr) (n m c d : Nat) (w : World) (hn : n ≤ maxLen) (hm : m ≤ maxLen) :
    Calls Try.prog 6 #[.slice a n c, .slice b m d] w fun e w' => e = .returned (.bool (longB n m)) ∧ w = w' := by
  unfold maxLen at hn hm
  by_cases h1 : 3000 < n
  · have e : longB n m = true := by unfold longB; rw [decide_eq_true h1]; rfl
    rw [e]
    clear e
    go_enter Try.func6, Try.ntmps6
    go_wp2
    go_ret
    exact ⟨by simp, rfl⟩
  · by_cases h2 : 3000 < m
    · have e : longB n m = true := by unfold longB; rw [decide_eq_true h2, decide_eq_false h1]; rfl
      rw [e]
      clear e
      go_enter Try.func6, Try.ntmps6
      go_wp2
      go_ret
      exact ⟨by simp; omega, rfl⟩
    · have e : longB n m = false := by unfold longB; rw [decide_eq_false h2, decide_eq_false h1]; rfl
      rw [e]
      clear e
      go_enter Try.func6, Try.ntmps6
      go_wp2
      go_ret
      exact ⟨by simp; omega, rfl⟩
theorem a2At_any (ao : Option Addr) (n cap : Nat) (i N : Int) (w : World) (hb : BytesR w ao n) (hn : n ≤ 1000000) (hi : 0 ≤ i ∧ i ≤ 1000000) (hN : 1 ≤ N ∧ N ≤ 1000000) :
    Calls Try.prog 8 #[.slice ao n cap, .int .i64 i, .int .i64 N] w fun e w' => ∃ v : Int, e = .returned (.int .i64 v) ∧ (0 ≤ v ∧ v < N) ∧ w = w' := by
  by_cases h1 : (n : Int) ≤ i
  · go_enter Try.func8, Try.ntmps8
    go_wp2
    go_ret
    exact ⟨0, rfl, by omega, rfl⟩
  · obtain ⟨j, rfl⟩ := Int.eq_ofNat_of_zero_le hi.1
    obtain ⟨b, off, rfl, hl, hc⟩ := hb (by omega)
    obtain ⟨v, hv, v0, v1⟩ := hc j (by omega)
    have r0 := Int.emod_nonneg v (by omega : N ≠ 0)
    have r1 := Int.emod_lt_of_pos v (by omega : 0 < N)
    clear hc hb
    go_enter Try.func8, Try.ntmps8
    go_wp2
    go_ret
    exact ⟨v % N, by simp, ⟨r0, r1⟩, rfl⟩
theorem grown_of_below' {a w : World} (h : Below a.heap.size a w) (row : Option Nat) : a.grownBy w row := ⟨h.os, h.tape, h.output, h.size, fun i hi _ => h.block i hi⟩
def A2Post (w : World) (e : Ending) (w' : World) : Prop := ∃ x y x' y' : Int, e = .returned (.tuple #[.agg #[.int .i64 x, .int .i64 y], .agg #[.int .i64 x', .int .i64 y']]) ∧ validR x y = true ∧ validR x' y' = true ∧ Below w.heap.size w w'
end Go.Proofs.Ythagogjklocmoaa
