/-
  DivisorsOf: contracts of both functions, and the walk of its law.
-/
import Derived.Test.YthagogjklocmoaaDivI
namespace Go.Proofs.Ythagogjklocmoaa
open Go.RowKit

def rootN : Nat → Nat
  | 0 => 0
  | m + 1 => if m + 1 < (rootN m + 1) * (rootN m + 1) then rootN m else rootN m + 1
theorem rootN_spec (m : Nat) : rootN m * rootN m ≤ m ∧ m < (rootN m + 1) * (rootN m + 1) := by
  induction m with
  | zero => simp [rootN]
  | succ m ih =>
    unfold rootN
    by_cases h : m + 1 < (rootN m + 1) * (rootN m + 1)
    · rw [if_pos h]; exact ⟨by omega, h⟩
    · rw [if_neg h]
      refine ⟨by omega, ?_⟩
      have e : (rootN m + 1 + 1) * (rootN m + 1 + 1) = (rootN m + 1) * (rootN m + 1) + 2 * (rootN m + 1) + 1 := by grind
      omega
def divsL (n : Int) : List Int := divAll n (rootN n.toNat)
theorem divsL_is {n : Int} (hn : 1 ≤ n) : DivL n (divsL n) := by
  obtain ⟨h1, h2⟩ := rootN_spec n.toNat
  refine ⟨_, ?_, ?_, rfl⟩
  · have : ((rootN n.toNat * rootN n.toNat : Nat) : Int) ≤ n := by omega
    simpa using this
  · have : n < (((rootN n.toNat + 1) * (rootN n.toNat + 1) : Nat) : Int) := by omega
    simpa using this
theorem divsL_len {n : Int} (hn : 1 ≤ n ∧ n ≤ 1000000000) : (divsL n).length ≤ 100000 := by
  obtain ⟨k, h1, h2, h3⟩ := divsL_is hn.1
  have hkb : k ≤ 40000 := by
    rcases Nat.lt_or_ge 40000 k with s | s
    · exfalso
      have : (40000 : Int) * 40000 ≤ (k : Int) * k := Int.mul_le_mul (by omega) (by omega) (by omega) (by omega)
      omega
    · exact s
  rw [h3]
  have h4 := lowD_len n k
  have h5 := highD_len n k
  unfold divAll
  rw [List.length_append, List.length_reverse]
  omega
theorem l04DivisorsF_any (N : Int) (w : World) (hN : 1 ≤ N ∧ N ≤ 1000000000) : Calls Try.prog 38 #[.int .i64 N] w fun e w' => ∃ ao cap, e = .returned (.slice ao (divsL N).length cap) ∧ OwnsI w' w.heap.size (.slice ao (divsL N).length cap) (divsL N) ∧ Below w.heap.size w w' :=
  (l04Divisors_any N w hN).mono fun e w' ⟨L, ao, cap, hL, _, he, ho, hb⟩ => by
    obtain rfl := divL_unique hL (divsL_is hN.1)
    exact ⟨ao, cap, he, ho, hb⟩
theorem divisorsOfF_any (N : Int) (w : World) (hN : 1 ≤ N ∧ N ≤ 1000000000) : Calls Try.prog 35 #[.int .i64 N] w fun e w' => ∃ ao cap, e = .returned (.slice ao (divsL N).length cap) ∧ OwnsI w' w.heap.size (.slice ao (divsL N).length cap) (divsL N) ∧ Below w.heap.size w w' :=
  (divisorsOf_any N w hN).mono fun e w' ⟨L, ao, cap, hL, _, he, ho, hb⟩ => by
    obtain rfl := divL_unique hL (divsL_is hN.1)
    exact ⟨ao, cap, he, ho, hb⟩
def dsL (n : Int) : List Int := if inR n 1 1000000000 then divsL n else []
def dsC (n : Int) : Int := if inR n 1 1000000000 then 0 else 2
theorem dsL_len (n : Int) : (dsL n).length ≤ 1000000000000 := by
  unfold dsL
  cases h : inR n 1 1000000000
  · simp
  · have := divsL_len (inR_true h)
    simp only [if_true]
    omega
end Go.Proofs.Ythagogjklocmoaa
