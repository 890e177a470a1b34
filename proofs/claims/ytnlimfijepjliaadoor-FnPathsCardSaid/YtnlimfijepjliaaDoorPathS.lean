/-
  PathOf: the reference's walk.
-/
import Derived.Test.YtnlimfijepjliaaDoorPathP
import Derived.Test.YtnlimfijepjliaaDoorDec
import Derived.Lib.QuietBelow
namespace Go.Proofs.YtnlimfijepjliaaDoor
open Go.RowKit

theorem tmod_two (i : Nat) : IntKind.i64.wrap ((i : Int).tmod 2) = ((i % 2 : Nat) : Int) := by
  rw [Int.tmod_eq_emod_of_nonneg (by omega)]
  exact (IntWalk.i64_in _ (by omega)).trans (by omega)
theorem tmod_two' (i : Nat) : (i : Int).tmod 2 = ((i % 2 : Nat) : Int) := by
  rw [Int.tmod_eq_emod_of_nonneg (by omega)]
  omega
/-- A row's cells behind a store, and the store below. -/
theorem stored_facts {w w1 : World} {B : Nat} {g cap n : Nat} {xs : List Int} (h : OwnsI w1 B (.slice (some ⟨g, 0, none⟩) n cap) xs) (hn : n = xs.length) (hb : Below B w w1) (hBw : B ≤ w.heap.size) (j : Nat) (u : Int) :
    (∀ k, k < xs.length → (w1.setCell ⟨g, j, none⟩ (.int .i64 u)).cell? ⟨g, k, none⟩ = some (.int .i64 ((xs.set j u).getD k 0))) ∧ Below B w (w1.setCell ⟨g, j, none⟩ (.int .i64 u)) := by
  obtain ⟨h1, h2⟩ := h.stored hn j u
  refine ⟨fun k hk => h1.cell (by simp [hn]) k (by simpa using hk), ?_⟩
  refine hb.grown h2 ?_ (fun k hk => (h.lt k (by simpa [Value.ownBlock] using hk)).1)
  have := hb.size
  omega
end Go.Proofs.YtnlimfijepjliaaDoor
