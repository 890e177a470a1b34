/-
  No cell of these rows narrows 'for every input' (looked for: loops, veiled, ifaces, maps, wideKeys, modest, calm, conditions, laid).
  DERIVED. THE GIVEN ROWS OF THIS SEAT. 12 by the template 'for every input the law returns true; each argument reads behind the call as it read before'; 0 by the template 'total and deterministic' (their statements: YtodldgnepiafaaaTotals.lean).
  GIVEN WITH THE SEED: the statements are not yours to turn. If you find one false, say at which input.
  Laid BY PROGRAM, IN A SANDBOX (cutbox-rows.mjs): the forced cells as the released guide's own fill.sh prints them over the translation 7663508afada5c03… (all of the seat's roots in one cut). By AI agents, Wed Nov 11 2026. No macro, syntax, notation, axiom, sorry.
-/
import Derived.Test.YtodldgnepiafaaaChecked
import GoSem.Claim
import GoSem.ClaimJoined
import GoSem.ClaimMapViews
import Derived.JoinedTies
import Derived.KernelRfl
namespace Go.Proofs.Ytodldgnepiafaaa
/- THE CELL 'sum', in the pinned program and in every row, IS THE sha256 OF THE DUMP (.gsa) THAT YtodldgnepiafaaaProg.lean LOADS. Nothing in Lean hashes anything: it is a label: what it is worth is what the hold of that sum in a sandbox is worth. -/
noncomputable def Try.pinned : Pinned := { name := "ytodldgnepiafaaa", sum := "7663508afada5c03150d96f673e8ced38d0384f136341f76078332f891cbc488", checked := Try.checked }
namespace Rows
def none {H : Type} : Left H := { results := [], args := [] }

/-- 'laws.FnExactValidRatio': WHATEVER THE INPUT: true; the input reads as it did. -/
def fnExactValidRatioSpec : ChangeSpec := { name := "fnExactValidRatio", fn := fun _ => fun
  | [d] => { results := [.lit (.bool true)], args := [d] }
  | _ => none }
def fnExactValidRatioRow : OpenClaim := { program := "ytodldgnepiafaaa", sum := "7663508afada5c03150d96f673e8ced38d0384f136341f76078332f891cbc488", func := "loop.example/g00921/laws.FnExactValidRatio", spec := "fnExactValidRatio", apart := false }
def FnExactValidRatioSaid : Prop := fnExactValidRatioRow.holds Try.pinned (OpenSpec.ofChange fnExactValidRatioSpec)

/-- ITS FALSE NEIGHBOUR: 'it returns false'. Refute it at one input. -/
def fnExactValidRatioWrong : ChangeSpec := { name := "fnExactValidRatio", fn := fun _ => fun
  | [d] => { results := [.lit (.bool false)], args := [d] }
  | _ => none }
def FnExactValidRatioWrongFalsely : Prop := fnExactValidRatioRow.holds Try.pinned (OpenSpec.ofChange fnExactValidRatioWrong)

/-- 'laws.FnExactMakeRatio': WHATEVER THE INPUT: true; the input reads as it did. -/
def fnExactMakeRatioSpec : ChangeSpec := { name := "fnExactMakeRatio", fn := fun _ => fun
  | [d1, d2] => { results := [.lit (.bool true)], args := [d1, d2] }
  | _ => none }
def fnExactMakeRatioRow : OpenClaim := { program := "ytodldgnepiafaaa", sum := "7663508afada5c03150d96f673e8ced38d0384f136341f76078332f891cbc488", func := "loop.example/g00921/laws.FnExactMakeRatio", spec := "fnExactMakeRatio", apart := false }
def FnExactMakeRatioSaid : Prop := fnExactMakeRatioRow.holds Try.pinned (OpenSpec.ofChange fnExactMakeRatioSpec)

/-- ITS FALSE NEIGHBOUR: 'it returns false'. Refute it at one input. -/
def fnExactMakeRatioWrong : ChangeSpec := { name := "fnExactMakeRatio", fn := fun _ => fun
  | [d1, d2] => { results := [.lit (.bool false)], args := [d1, d2] }
  | _ => none }
def FnExactMakeRatioWrongFalsely : Prop := fnExactMakeRatioRow.holds Try.pinned (OpenSpec.ofChange fnExactMakeRatioWrong)

/-- 'laws.FnExactAddRatio': WHATEVER THE INPUT: true; the input reads as it did. -/
def fnExactAddRatioSpec : ChangeSpec := { name := "fnExactAddRatio", fn := fun _ => fun
  | [d1, d2] => { results := [.lit (.bool true)], args := [d1, d2] }
  | _ => none }
def fnExactAddRatioRow : OpenClaim := { program := "ytodldgnepiafaaa", sum := "7663508afada5c03150d96f673e8ced38d0384f136341f76078332f891cbc488", func := "loop.example/g00921/laws.FnExactAddRatio", spec := "fnExactAddRatio", apart := false }
def FnExactAddRatioSaid : Prop := fnExactAddRatioRow.holds Try.pinned (OpenSpec.ofChange fnExactAddRatioSpec)

/-- ITS FALSE NEIGHBOUR: 'it returns false'. Refute it at one input. -/
def fnExactAddRatioWrong : ChangeSpec := { name := "fnExactAddRatio", fn := fun _ => fun
  | [d1, d2] => { results := [.lit (.bool false)], args := [d1, d2] }
  | _ => none }
def FnExactAddRatioWrongFalsely : Prop := fnExactAddRatioRow.holds Try.pinned (OpenSpec.ofChange fnExactAddRatioWrong)

/-- 'laws.FnExactSubRatio': WHATEVER THE INPUT: true; the input reads as it did. -/
def fnExactSubRatioSpec : ChangeSpec := { name := "fnExactSubRatio", fn := fun _ => fun
  | [d1, d2] => { results := [.lit (.bool true)], args := [d1, d2] }
  | _ => none }
def fnExactSubRatioRow : OpenClaim := { program := "ytodldgnepiafaaa", sum := "7663508afada5c03150d96f673e8ced38d0384f136341f76078332f891cbc488", func := "loop.example/g00921/laws.FnExactSubRatio", spec := "fnExactSubRatio", apart := false }
def FnExactSubRatioSaid : Prop := fnExactSubRatioRow.holds Try.pinned (OpenSpec.ofChange fnExactSubRatioSpec)

/-- ITS FALSE NEIGHBOUR: 'it returns false'. Refute it at one input. -/
def fnExactSubRatioWrong : ChangeSpec := { name := "fnExactSubRatio", fn := fun _ => fun
  | [d1, d2] => { results := [.lit (.bool false)], args := [d1, d2] }
  | _ => none }
def FnExactSubRatioWrongFalsely : Prop := fnExactSubRatioRow.holds Try.pinned (OpenSpec.ofChange fnExactSubRatioWrong)

/-- 'laws.FnExactMulRatio': WHATEVER THE INPUT: true; the input reads as it did. -/
def fnExactMulRatioSpec : ChangeSpec := { name := "fnExactMulRatio", fn := fun _ => fun
  | [d1, d2] => { results := [.lit (.bool true)], args := [d1, d2] }
  | _ => none }
def fnExactMulRatioRow : OpenClaim := { program := "ytodldgnepiafaaa", sum := "7663508afada5c03150d96f673e8ced38d0384f136341f76078332f891cbc488", func := "loop.example/g00921/laws.FnExactMulRatio", spec := "fnExactMulRatio", apart := false }
def FnExactMulRatioSaid : Prop := fnExactMulRatioRow.holds Try.pinned (OpenSpec.ofChange fnExactMulRatioSpec)

/-- ITS FALSE NEIGHBOUR: 'it returns false'. Refute it at one input. -/
def fnExactMulRatioWrong : ChangeSpec := { name := "fnExactMulRatio", fn := fun _ => fun
  | [d1, d2] => { results := [.lit (.bool false)], args := [d1, d2] }
  | _ => none }
def FnExactMulRatioWrongFalsely : Prop := fnExactMulRatioRow.holds Try.pinned (OpenSpec.ofChange fnExactMulRatioWrong)

/-- 'laws.FnExactDivRatio': WHATEVER THE INPUT: true; the input reads as it did. -/
def fnExactDivRatioSpec : ChangeSpec := { name := "fnExactDivRatio", fn := fun _ => fun
  | [d1, d2] => { results := [.lit (.bool true)], args := [d1, d2] }
  | _ => none }
def fnExactDivRatioRow : OpenClaim := { program := "ytodldgnepiafaaa", sum := "7663508afada5c03150d96f673e8ced38d0384f136341f76078332f891cbc488", func := "loop.example/g00921/laws.FnExactDivRatio", spec := "fnExactDivRatio", apart := false }
def FnExactDivRatioSaid : Prop := fnExactDivRatioRow.holds Try.pinned (OpenSpec.ofChange fnExactDivRatioSpec)

/-- ITS FALSE NEIGHBOUR: 'it returns false'. Refute it at one input. -/
def fnExactDivRatioWrong : ChangeSpec := { name := "fnExactDivRatio", fn := fun _ => fun
  | [d1, d2] => { results := [.lit (.bool false)], args := [d1, d2] }
  | _ => none }
def FnExactDivRatioWrongFalsely : Prop := fnExactDivRatioRow.holds Try.pinned (OpenSpec.ofChange fnExactDivRatioWrong)

/-- 'laws.FnExactCompareRatio': WHATEVER THE INPUT: true; the input reads as it did. -/
def fnExactCompareRatioSpec : ChangeSpec := { name := "fnExactCompareRatio", fn := fun _ => fun
  | [d1, d2] => { results := [.lit (.bool true)], args := [d1, d2] }
  | _ => none }
def fnExactCompareRatioRow : OpenClaim := { program := "ytodldgnepiafaaa", sum := "7663508afada5c03150d96f673e8ced38d0384f136341f76078332f891cbc488", func := "loop.example/g00921/laws.FnExactCompareRatio", spec := "fnExactCompareRatio", apart := false }
def FnExactCompareRatioSaid : Prop := fnExactCompareRatioRow.holds Try.pinned (OpenSpec.ofChange fnExactCompareRatioSpec)

/-- ITS FALSE NEIGHBOUR: 'it returns false'. Refute it at one input. -/
def fnExactCompareRatioWrong : ChangeSpec := { name := "fnExactCompareRatio", fn := fun _ => fun
  | [d1, d2] => { results := [.lit (.bool false)], args := [d1, d2] }
  | _ => none }
def FnExactCompareRatioWrongFalsely : Prop := fnExactCompareRatioRow.holds Try.pinned (OpenSpec.ofChange fnExactCompareRatioWrong)

/-- 'laws.FnExactFloorRatio': WHATEVER THE INPUT: true; the input reads as it did. -/
def fnExactFloorRatioSpec : ChangeSpec := { name := "fnExactFloorRatio", fn := fun _ => fun
  | [d] => { results := [.lit (.bool true)], args := [d] }
  | _ => none }
def fnExactFloorRatioRow : OpenClaim := { program := "ytodldgnepiafaaa", sum := "7663508afada5c03150d96f673e8ced38d0384f136341f76078332f891cbc488", func := "loop.example/g00921/laws.FnExactFloorRatio", spec := "fnExactFloorRatio", apart := false }
def FnExactFloorRatioSaid : Prop := fnExactFloorRatioRow.holds Try.pinned (OpenSpec.ofChange fnExactFloorRatioSpec)

/-- ITS FALSE NEIGHBOUR: 'it returns false'. Refute it at one input. -/
def fnExactFloorRatioWrong : ChangeSpec := { name := "fnExactFloorRatio", fn := fun _ => fun
  | [d] => { results := [.lit (.bool false)], args := [d] }
  | _ => none }
def FnExactFloorRatioWrongFalsely : Prop := fnExactFloorRatioRow.holds Try.pinned (OpenSpec.ofChange fnExactFloorRatioWrong)

/-- 'laws.FnExactRoundRatio': WHATEVER THE INPUT: true; the input reads as it did. -/
def fnExactRoundRatioSpec : ChangeSpec := { name := "fnExactRoundRatio", fn := fun _ => fun
  | [d] => { results := [.lit (.bool true)], args := [d] }
  | _ => none }
def fnExactRoundRatioRow : OpenClaim := { program := "ytodldgnepiafaaa", sum := "7663508afada5c03150d96f673e8ced38d0384f136341f76078332f891cbc488", func := "loop.example/g00921/laws.FnExactRoundRatio", spec := "fnExactRoundRatio", apart := false }
def FnExactRoundRatioSaid : Prop := fnExactRoundRatioRow.holds Try.pinned (OpenSpec.ofChange fnExactRoundRatioSpec)

/-- ITS FALSE NEIGHBOUR: 'it returns false'. Refute it at one input. -/
def fnExactRoundRatioWrong : ChangeSpec := { name := "fnExactRoundRatio", fn := fun _ => fun
  | [d] => { results := [.lit (.bool false)], args := [d] }
  | _ => none }
def FnExactRoundRatioWrongFalsely : Prop := fnExactRoundRatioRow.holds Try.pinned (OpenSpec.ofChange fnExactRoundRatioWrong)

/-- 'laws.FnExactScaleRatio': WHATEVER THE INPUT: true; the input reads as it did. -/
def fnExactScaleRatioSpec : ChangeSpec := { name := "fnExactScaleRatio", fn := fun _ => fun
  | [d1, d2] => { results := [.lit (.bool true)], args := [d1, d2] }
  | _ => none }
def fnExactScaleRatioRow : OpenClaim := { program := "ytodldgnepiafaaa", sum := "7663508afada5c03150d96f673e8ced38d0384f136341f76078332f891cbc488", func := "loop.example/g00921/laws.FnExactScaleRatio", spec := "fnExactScaleRatio", apart := false }
def FnExactScaleRatioSaid : Prop := fnExactScaleRatioRow.holds Try.pinned (OpenSpec.ofChange fnExactScaleRatioSpec)

/-- ITS FALSE NEIGHBOUR: 'it returns false'. Refute it at one input. -/
def fnExactScaleRatioWrong : ChangeSpec := { name := "fnExactScaleRatio", fn := fun _ => fun
  | [d1, d2] => { results := [.lit (.bool false)], args := [d1, d2] }
  | _ => none }
def FnExactScaleRatioWrongFalsely : Prop := fnExactScaleRatioRow.holds Try.pinned (OpenSpec.ofChange fnExactScaleRatioWrong)

/-- 'laws.FnExactMediantOf': WHATEVER THE INPUT: true; the input reads as it did. -/
def fnExactMediantOfSpec : ChangeSpec := { name := "fnExactMediantOf", fn := fun _ => fun
  | [d1, d2] => { results := [.lit (.bool true)], args := [d1, d2] }
  | _ => none }
def fnExactMediantOfRow : OpenClaim := { program := "ytodldgnepiafaaa", sum := "7663508afada5c03150d96f673e8ced38d0384f136341f76078332f891cbc488", func := "loop.example/g00921/laws.FnExactMediantOf", spec := "fnExactMediantOf", apart := false }
def FnExactMediantOfSaid : Prop := fnExactMediantOfRow.holds Try.pinned (OpenSpec.ofChange fnExactMediantOfSpec)

/-- ITS FALSE NEIGHBOUR: 'it returns false'. Refute it at one input. -/
def fnExactMediantOfWrong : ChangeSpec := { name := "fnExactMediantOf", fn := fun _ => fun
  | [d1, d2] => { results := [.lit (.bool false)], args := [d1, d2] }
  | _ => none }
def FnExactMediantOfWrongFalsely : Prop := fnExactMediantOfRow.holds Try.pinned (OpenSpec.ofChange fnExactMediantOfWrong)

/-- 'laws.FnRounding': WHATEVER THE INPUT: true; the input reads as it did. -/
def fnRoundingSpec : ChangeSpec := { name := "fnRounding", fn := fun _ => fun
  | [d1, d2] => { results := [.lit (.bool true)], args := [d1, d2] }
  | _ => none }
def fnRoundingRow : OpenClaim := { program := "ytodldgnepiafaaa", sum := "7663508afada5c03150d96f673e8ced38d0384f136341f76078332f891cbc488", func := "loop.example/g00921/laws.FnRounding", spec := "fnRounding", apart := false }
def FnRoundingSaid : Prop := fnRoundingRow.holds Try.pinned (OpenSpec.ofChange fnRoundingSpec)

/-- ITS FALSE NEIGHBOUR: 'it returns false'. Refute it at one input. -/
def fnRoundingWrong : ChangeSpec := { name := "fnRounding", fn := fun _ => fun
  | [d1, d2] => { results := [.lit (.bool false)], args := [d1, d2] }
  | _ => none }
def FnRoundingWrongFalsely : Prop := fnRoundingRow.holds Try.pinned (OpenSpec.ofChange fnRoundingWrong)

/- THE SECOND FORM. 'bulk': how many values and letters a reading holds, each counted each time it is reached (what is shared counts as often as it is met; a slice's spare places count too). A statement '..UptoSaid' is the law's where the arguments, and the package variables that the reading takes, are together of bulk at most 1048576: NARROWER than '..Said'. Prove '..Said' where nothing that the law and all that it calls make is longer than what came in: it says more and counts as full. Else prove '..UptoSaid'. A law counts once. -/
mutual
def uptoBulk {H : Type} : DataW H → Nat
  | .lit (.string bytes) => bytes.length + 1
  | .lit _ => 1
  | .nil => 1
  | .ptr d => uptoBulk d + 1
  | .slice elems spare => uptoBulkAll elems + uptoBulkAll spare + 1
  | .agg parts => uptoBulkAll parts + 1
  | .iface _ d => uptoBulk d + 1
  | .map entries => uptoBulkEntries entries + 1
  | .held _ => 1
def uptoBulkAll {H : Type} : List (DataW H) → Nat
  | [] => 0
  | d :: r => uptoBulk d + uptoBulkAll r
def uptoBulkEntries {H : Type} : List (Lit × DataW H) → Nat
  | [] => 0
  | x :: r => uptoBulkEntry x + uptoBulkEntries r
def uptoBulkEntry {H : Type} : Lit × DataW H → Nat
  | (.string bytes, d) => bytes.length + uptoBulk d + 1
  | (_, d) => uptoBulk d + 1
 end
def uptoSmall : (H : Type) → List (DataW H) → Bool := fun _ ds => decide (uptoBulkAll ds ≤ 1048576)
def OpenSpec.upto (s : _root_.Go.ChangeSpec) : _root_.Go.OpenSpec := { _root_.Go.OpenSpec.ofChange s with cond := some uptoSmall }

/-- 'laws.FnExactValidRatio', WHERE WHAT IT READS IS OF BULK AT MOST 1048576: true; the input reads as it did. -/
def fnExactValidRatioUptoRow : OpenClaim := { program := "ytodldgnepiafaaa", sum := "7663508afada5c03150d96f673e8ced38d0384f136341f76078332f891cbc488", func := "loop.example/g00921/laws.FnExactValidRatio", spec := "fnExactValidRatio", apart := false, narrowed := true }
def FnExactValidRatioUptoSaid : Prop := fnExactValidRatioUptoRow.holds Try.pinned (OpenSpec.upto fnExactValidRatioSpec)

/-- 'laws.FnExactMakeRatio', WHERE WHAT IT READS IS OF BULK AT MOST 1048576: true; the input reads as it did. -/
def fnExactMakeRatioUptoRow : OpenClaim := { program := "ytodldgnepiafaaa", sum := "7663508afada5c03150d96f673e8ced38d0384f136341f76078332f891cbc488", func := "loop.example/g00921/laws.FnExactMakeRatio", spec := "fnExactMakeRatio", apart := false, narrowed := true }
def FnExactMakeRatioUptoSaid : Prop := fnExactMakeRatioUptoRow.holds Try.pinned (OpenSpec.upto fnExactMakeRatioSpec)

/-- 'laws.FnExactAddRatio', WHERE WHAT IT READS IS OF BULK AT MOST 1048576: true; the input reads as it did. -/
def fnExactAddRatioUptoRow : OpenClaim := { program := "ytodldgnepiafaaa", sum := "7663508afada5c03150d96f673e8ced38d0384f136341f76078332f891cbc488", func := "loop.example/g00921/laws.FnExactAddRatio", spec := "fnExactAddRatio", apart := false, narrowed := true }
def FnExactAddRatioUptoSaid : Prop := fnExactAddRatioUptoRow.holds Try.pinned (OpenSpec.upto fnExactAddRatioSpec)

/-- 'laws.FnExactSubRatio', WHERE WHAT IT READS IS OF BULK AT MOST 1048576: true; the input reads as it did. -/
def fnExactSubRatioUptoRow : OpenClaim := { program := "ytodldgnepiafaaa", sum := "7663508afada5c03150d96f673e8ced38d0384f136341f76078332f891cbc488", func := "loop.example/g00921/laws.FnExactSubRatio", spec := "fnExactSubRatio", apart := false, narrowed := true }
def FnExactSubRatioUptoSaid : Prop := fnExactSubRatioUptoRow.holds Try.pinned (OpenSpec.upto fnExactSubRatioSpec)

/-- 'laws.FnExactMulRatio', WHERE WHAT IT READS IS OF BULK AT MOST 1048576: true; the input reads as it did. -/
def fnExactMulRatioUptoRow : OpenClaim := { program := "ytodldgnepiafaaa", sum := "7663508afada5c03150d96f673e8ced38d0384f136341f76078332f891cbc488", func := "loop.example/g00921/laws.FnExactMulRatio", spec := "fnExactMulRatio", apart := false, narrowed := true }
def FnExactMulRatioUptoSaid : Prop := fnExactMulRatioUptoRow.holds Try.pinned (OpenSpec.upto fnExactMulRatioSpec)

/-- 'laws.FnExactDivRatio', WHERE WHAT IT READS IS OF BULK AT MOST 1048576: true; the input reads as it did. -/
def fnExactDivRatioUptoRow : OpenClaim := { program := "ytodldgnepiafaaa", sum := "7663508afada5c03150d96f673e8ced38d0384f136341f76078332f891cbc488", func := "loop.example/g00921/laws.FnExactDivRatio", spec := "fnExactDivRatio", apart := false, narrowed := true }
def FnExactDivRatioUptoSaid : Prop := fnExactDivRatioUptoRow.holds Try.pinned (OpenSpec.upto fnExactDivRatioSpec)

/-- 'laws.FnExactCompareRatio', WHERE WHAT IT READS IS OF BULK AT MOST 1048576: true; the input reads as it did. -/
def fnExactCompareRatioUptoRow : OpenClaim := { program := "ytodldgnepiafaaa", sum := "7663508afada5c03150d96f673e8ced38d0384f136341f76078332f891cbc488", func := "loop.example/g00921/laws.FnExactCompareRatio", spec := "fnExactCompareRatio", apart := false, narrowed := true }
def FnExactCompareRatioUptoSaid : Prop := fnExactCompareRatioUptoRow.holds Try.pinned (OpenSpec.upto fnExactCompareRatioSpec)

/-- 'laws.FnExactFloorRatio', WHERE WHAT IT READS IS OF BULK AT MOST 1048576: true; the input reads as it did. -/
def fnExactFloorRatioUptoRow : OpenClaim := { program := "ytodldgnepiafaaa", sum := "7663508afada5c03150d96f673e8ced38d0384f136341f76078332f891cbc488", func := "loop.example/g00921/laws.FnExactFloorRatio", spec := "fnExactFloorRatio", apart := false, narrowed := true }
def FnExactFloorRatioUptoSaid : Prop := fnExactFloorRatioUptoRow.holds Try.pinned (OpenSpec.upto fnExactFloorRatioSpec)

/-- 'laws.FnExactRoundRatio', WHERE WHAT IT READS IS OF BULK AT MOST 1048576: true; the input reads as it did. -/
def fnExactRoundRatioUptoRow : OpenClaim := { program := "ytodldgnepiafaaa", sum := "7663508afada5c03150d96f673e8ced38d0384f136341f76078332f891cbc488", func := "loop.example/g00921/laws.FnExactRoundRatio", spec := "fnExactRoundRatio", apart := false, narrowed := true }
def FnExactRoundRatioUptoSaid : Prop := fnExactRoundRatioUptoRow.holds Try.pinned (OpenSpec.upto fnExactRoundRatioSpec)

/-- 'laws.FnExactScaleRatio', WHERE WHAT IT READS IS OF BULK AT MOST 1048576: true; the input reads as it did. -/
def fnExactScaleRatioUptoRow : OpenClaim := { program := "ytodldgnepiafaaa", sum := "7663508afada5c03150d96f673e8ced38d0384f136341f76078332f891cbc488", func := "loop.example/g00921/laws.FnExactScaleRatio", spec := "fnExactScaleRatio", apart := false, narrowed := true }
def FnExactScaleRatioUptoSaid : Prop := fnExactScaleRatioUptoRow.holds Try.pinned (OpenSpec.upto fnExactScaleRatioSpec)

/-- 'laws.FnExactMediantOf', WHERE WHAT IT READS IS OF BULK AT MOST 1048576: true; the input reads as it did. -/
def fnExactMediantOfUptoRow : OpenClaim := { program := "ytodldgnepiafaaa", sum := "7663508afada5c03150d96f673e8ced38d0384f136341f76078332f891cbc488", func := "loop.example/g00921/laws.FnExactMediantOf", spec := "fnExactMediantOf", apart := false, narrowed := true }
def FnExactMediantOfUptoSaid : Prop := fnExactMediantOfUptoRow.holds Try.pinned (OpenSpec.upto fnExactMediantOfSpec)

/-- 'laws.FnRounding', WHERE WHAT IT READS IS OF BULK AT MOST 1048576: true; the input reads as it did. -/
def fnRoundingUptoRow : OpenClaim := { program := "ytodldgnepiafaaa", sum := "7663508afada5c03150d96f673e8ced38d0384f136341f76078332f891cbc488", func := "loop.example/g00921/laws.FnRounding", spec := "fnRounding", apart := false, narrowed := true }
def FnRoundingUptoSaid : Prop := fnRoundingUptoRow.holds Try.pinned (OpenSpec.upto fnRoundingSpec)

end Rows
end Go.Proofs.Ytodldgnepiafaaa
