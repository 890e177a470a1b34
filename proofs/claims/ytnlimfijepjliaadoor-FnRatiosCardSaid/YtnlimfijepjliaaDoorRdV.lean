/-
  Reading decimals: the value read, in plain Lean.
-/
import Derived.Test.YtnlimfijepjliaaDoorNumP
import Derived.Test.YtnlimfijepjliaaDoorTxt
namespace Go.Proofs.YtnlimfijepjliaaDoor
open Go.RowKit

def rdN (l : List UInt8) : Int := (numS l).getD 0
def rdB (l : List UInt8) : Bool := (numS l).isSome
def rdV (l : List UInt8) : Value := .tuple #[.int .i64 (rdN l), .bool (rdB l)]
theorem rdV_none {l : List UInt8} (h : numS l = none) : rdV l = .tuple #[.int .i64 0, .bool false] := by unfold rdV rdN rdB; rw [h]; rfl
theorem rdV_some {l : List UInt8} {n : Int} (h : numS l = some n) : rdV l = .tuple #[.int .i64 n, .bool true] := by unfold rdV rdN rdB; rw [h]; rfl
theorem numS_bad {l : List UInt8} (h : (Lib.trimPrefix l [45]).length < 1 ∨ 18 < (Lib.trimPrefix l [45]).length) : rdV l = .tuple #[.int .i64 0, .bool false] := rdV_none (by unfold numS; rw [if_pos h])
theorem numS_good {l : List UInt8} (h : ¬ ((Lib.trimPrefix l [45]).length < 1 ∨ 18 < (Lib.trimPrefix l [45]).length)) :
    (Lib.decFrom 0 (Lib.trimPrefix l [45]) = none → rdV l = .tuple #[.int .i64 0, .bool false]) ∧
    (∀ u, Lib.decFrom 0 (Lib.trimPrefix l [45]) = some u → rdV l = if Lib.itoa (if (Lib.trimPrefix l [45]).length < l.length then -(u : Int) else (u : Int)) = l then .tuple #[.int .i64 (if (Lib.trimPrefix l [45]).length < l.length then -(u : Int) else (u : Int)), .bool true] else .tuple #[.int .i64 0, .bool false]) := by
  refine ⟨fun hz => rdV_none (by unfold numS; rw [if_neg h, hz]), fun u hu => ?_⟩
  by_cases he : Lib.itoa (if (Lib.trimPrefix l [45]).length < l.length then -(u : Int) else (u : Int)) = l
  · rw [if_pos he]
    refine rdV_some ?_
    unfold numS
    rw [if_neg h, hu]
    exact if_pos he
  · rw [if_neg he]
    refine rdV_none ?_
    unfold numS
    rw [if_neg h, hu]
    exact if_neg he
theorem toList_ne {x y : ByteArray} (h : ¬ x = y) : (x.toList == y.toList) = false := by
  rw [toList_data', toList_data']
  simp only [beq_eq_false_iff_ne, ne_eq]
  intro e
  apply h
  obtain ⟨⟨a⟩⟩ := x
  obtain ⟨⟨b⟩⟩ := y
  simp only at e
  rw [e]
end Go.Proofs.YtnlimfijepjliaaDoor
