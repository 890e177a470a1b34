/-
  Contracts over the tests and divisors: ValidPair, GcdOf, LcmOf, MeetingTurns, and the walks of their laws.
-/
import Derived.Test.YthagogjklocmoaaBase
import Derived.WalkSmall
namespace Go.Proofs.Ythagogjklocmoaa
open Go.RowKit

theorem bcell {W w1 : World} (hb : Below W.heap.size W w1) : (∀ b o, b < W.heap.size → w1.cell? ⟨b, o, none⟩ = W.cell? ⟨b, o, none⟩) ∧ (∀ b o, b < W.heap.size → w1.frozen? ⟨b, o, none⟩ = W.frozen? ⟨b, o, none⟩) :=
  ⟨fun b o h => hb.cell (p := ⟨b, o, none⟩) h, fun b o h => hb.frozen (p := ⟨b, o, none⟩) h⟩

theorem balloc {a w : World} (h : Below a.heap.size a w) (o : Obj) : Below a.heap.size a (w.alloc o) := h.alloc h.size o
theorem bstep {a w w1 : World} (h : Below a.heap.size a w) (k : Below w.heap.size w w1) : Below a.heap.size a w1 := h.trans (k.mono h.size)
theorem bset {a w : World} (h : Below a.heap.size a w) {p : Addr} (hp : a.heap.size ≤ p.block) (u : Value) : Below a.heap.size a (w.setCell p u) := h.setCell hp u
theorem bdrewN {a w : World} (h : Below a.heap.size a w) (n : Nat) : Below a.heap.size a (w.drewN n) := below_drewN h n

def both (a b : Bool) : Bool := a && b
theorem both_tt {a b : Bool} (ha : a = true) (hb : b = true) : both a b = true := by subst ha hb; rfl
theorem both_f1 {a b : Bool} (ha : a = false) : both a b = false := by subst ha; rfl
theorem both_f2 {a b : Bool} (hb : b = false) : both a b = false := by subst hb; cases a <;> rfl

def pairOk (a b : Int) : Bool := both (inR a 6 240) (inR b 6 240)
theorem pairOk_true {a b : Int} (h : pairOk a b = true) : (6 ≤ a ∧ a ≤ 240) ∧ (6 ≤ b ∧ b ≤ 240) := by
  unfold pairOk both at h
  simp only [Bool.and_eq_true] at h
  exact ⟨inR_true h.1, inR_true h.2⟩
theorem quiet_left {P : Program} {f : FuncId} {args : Array Value} {w : World} {n : Nat} {v : Value}
    (h : Calls P f args (w.drewN n) fun e w' => e = .returned v ∧ w.drewN n = w') : Calls P f args (w.drewN n) fun e w'' => e = .returned v ∧ ∃ m, w'' = w.drewN m :=
  h.mono fun _ _ ⟨he, hm⟩ => ⟨he, n, hm.symm⟩
def gcdOf0 (a b : Int) : Int := if both (inR a 1 1000000000) (inR b 1 1000000000) then gcdI a b else 0
def gcdOf1 (a b : Int) : Int := if both (inR a 1 1000000000) (inR b 1 1000000000) then 0 else 2
def lcmOf0 (a b : Int) : Int := if both (inR a 1 1000000000) (inR b 1 1000000000) then a / gcdI a b * b else 0
def meet0 (a b : Int) : Int := if pairOk a b then b / gcdI a b else 0
def meet1 (a b : Int) : Int := if pairOk a b then 0 else 1

end Go.Proofs.Ythagogjklocmoaa
