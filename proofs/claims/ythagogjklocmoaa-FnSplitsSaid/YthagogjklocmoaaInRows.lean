/-
  Words for slices of int64 that came in, and the contract of toInt64S.
-/
import Derived.Test.YthagogjklocmoaaMem
import Derived.OpenShut
namespace Go.Proofs.Ythagogjklocmoaa
open Go.RowKit

/-- An argument that is a slice of integers: nil, or a row of cap cells. -/
def IsRow (k : IntKind) (w : World) (a : Option Addr) (len cap : Nat) (zs : List Int) : Prop :=
  (a = none ∧ len = 0 ∧ cap = 0 ∧ zs = []) ∨
  ∃ x, a = some x ∧ len ≤ cap ∧ cap ≤ maxLen ∧ zs.length = cap ∧ (∀ i, i < zs.length → w.cell? (x.add i) = some (.int k (zs.getD i 0))) ∧ ∀ n ∈ zs, (Lit.int k n).wf = true
/-- The slice with address ao reads as the numbers xs. -/
def ReadsI (w : World) (ao : Option Addr) (xs : List Int) : Prop :=
  0 < xs.length → ∃ b off, ao = some ⟨b, off, none⟩ ∧ b < w.heap.size ∧ ∀ j, j < xs.length → w.cell? ⟨b, off + j, none⟩ = some (.int .i64 (xs.getD j 0))
theorem ReadsI.below {w w' : World} {ao : Option Addr} {xs : List Int} (h : ReadsI w ao xs) (hb : Below w.heap.size w w') : ReadsI w' ao xs := fun hp => by
  obtain ⟨b, off, e, hlt, hc⟩ := h hp
  exact ⟨b, off, e, Nat.lt_of_lt_of_le hlt hb.size, fun j hj => (hb.cell (p := ⟨b, off + j, none⟩) hlt).trans (hc j hj)⟩
theorem OwnsI.reads {w : World} {base : Nat} {xs : List Int} {ao : Option Addr} {n cap : Nat} (h : OwnsI w base (.slice ao n cap) xs) : ReadsI w ao xs := fun hp => by
  rcases h.form with ⟨_, h2⟩ | ⟨g, cap', h1, _, h3, _⟩
  · subst h2; simp at hp
  · simp only [Value.slice.injEq] at h1
    obtain ⟨rfl, rfl, rfl⟩ := h1
    refine ⟨g, 0, rfl, h3, fun j hj => ?_⟩
    have := h.cell rfl j hj
    simpa using this
/-- What the elements of such an argument are. -/
theorem row_reads {w : World} {a : Option Addr} {len cap : Nat} {zs : List Int} (h : IsRow .i64 w a len cap zs) :
    ∃ xs : List Int, xs.length = len ∧ len ≤ maxLen ∧ ReadsI w a xs ∧ ∀ n ∈ xs, -9223372036854775808 ≤ n ∧ n ≤ 9223372036854775807 := by
  rcases h with ⟨rfl, rfl, rfl, rfl⟩ | ⟨x, rfl, hl, hm, hz, hc, hw⟩
  · exact ⟨[], rfl, Nat.zero_le _, fun h => absurd h (by simp), by simp⟩
  · refine ⟨zs.take len, by rw [List.length_take]; omega, by omega, fun hp => ?_, fun n hn => ?_⟩
    · rw [List.length_take] at hp
      obtain ⟨b, off, spot⟩ := x
      have h0 := hc 0 (by omega)
      have hspot : spot = none := by simpa [Addr.add] using World.cell?_spot h0
      subst hspot
      have hadd : ∀ n, (⟨b, off, none⟩ : Addr).add n = ⟨b, off + n, none⟩ := fun n => by unfold Addr.add; split <;> simp_all
      refine ⟨b, off, rfl, ?_, fun j hj => ?_⟩
      · have := World.block_lt_of_cell? w _ h0
        rw [hadd] at this
        exact this
      · rw [List.length_take] at hj
        have := hc j (by omega)
        rw [hadd] at this
        rw [this]
        simp only [List.getD_eq_getElem?_getD]
        rw [List.getElem?_take_of_lt (by omega)]
    · have h1 := hw n (List.mem_of_mem_take hn)
      exact bounds_i64 h1
theorem made_ints (n : Nat) : (madeCells (Value.cells (.int .i64 0)) (n * 1)).toList = (List.replicate n (0 : Int)).map (Value.int .i64) := by
  apply List.ext_getElem
  · simp [madeCells]
  · intro j h1 h2
    simp [madeCells, Value.cells, Nat.mod_one]
theorem make_ints (w : World) (n : Nat) (hn : n ≤ 1048576) : ∃ w1, (Instr.makeSlice 29 (.int .i64 (n : Int)) (.int .i64 (n : Int))).run Try.prog w = .ok (.slice (some ⟨w.heap.size, 0, none⟩) n n) w1 ∧
    OwnsI w1 w.heap.size (.slice (some ⟨w.heap.size, 0, none⟩) n n) (List.replicate n 0) ∧ Below w.heap.size w w1 := by
  obtain ⟨i0, hi, hz0, hz1, hz2⟩ := info_parts infoI
  obtain ⟨w1, h1, h2, h3⟩ := run_make_full (P := Try.prog) w w.heap.size 29 2 i0 _ 1 (by rw [Try.underlying29]) hi hz0 hz1 .i64 .i64 n (by rw [hz2]; omega) (by unfold maxLen; omega) (Nat.le_refl _)
  refine ⟨w1, h1, ?_, (Below.refl _ _).grown h3 (Nat.le_refl _) (by simp)⟩
  unfold OwnsI
  rw [List.length_replicate, ← made_ints]
  exact h2
end Go.Proofs.Ythagogjklocmoaa
