/-
  No cell of these rows narrows 'for every input' (looked for: loops, veiled, ifaces, maps, wideKeys, modest, calm, conditions, laid).
  DERIVED. THE GIVEN ROWS OF THIS SEAT. 11 by the template 'for every input the law returns true; each argument reads behind the call as it read before'; 0 by the template 'total and deterministic' (their statements: YtnfllflifmijeaaTotals.lean).
  GIVEN WITH THE SEED: the statements are not yours to turn. If you find one false, say at which input.
  Laid BY PROGRAM, IN A SANDBOX (cutbox-rows.mjs): the forced cells as the released guide's own fill.sh prints them over the translation c566eda51bd1b41e… (all of the seat's roots in one cut). By AI agents, Wed Nov 11 2026. No macro, syntax, notation, axiom, sorry.
-/
import Derived.Test.YtnfllflifmijeaaChecked
import GoSem.Claim
import GoSem.ClaimJoined
import GoSem.ClaimMapViews
import Derived.JoinedTies
import Derived.KernelRfl
namespace Go.Proofs.Ytnfllflifmijeaa
/- THE CELL 'sum', in the pinned program and in every row, IS THE sha256 OF THE DUMP (.gsa) THAT YtnfllflifmijeaaProg.lean LOADS. Nothing in Lean hashes anything: it is a label: what it is worth is what the hold of that sum in a sandbox is worth. -/
noncomputable def Try.pinned : Pinned := { name := "ytnfllflifmijeaa", sum := "c566eda51bd1b41e8500f10fd88c4a29999d96df682ddebb358307c683d68224", checked := Try.checked }
namespace Rows
def none {H : Type} : Left H := { results := [], args := [] }

/-- 'laws.FnExactTeethOf': WHATEVER THE INPUT: true; the input reads as it did. -/
def fnExactTeethOfSpec : ChangeSpec := { name := "fnExactTeethOf", fn := fun _ => fun
  | [d] => { results := [.lit (.bool true)], args := [d] }
  | _ => none }
def fnExactTeethOfRow : OpenClaim := { program := "ytnfllflifmijeaa", sum := "c566eda51bd1b41e8500f10fd88c4a29999d96df682ddebb358307c683d68224", func := "loop.example/g00921/laws.FnExactTeethOf", spec := "fnExactTeethOf", apart := false }
def FnExactTeethOfSaid : Prop := fnExactTeethOfRow.holds Try.pinned (OpenSpec.ofChange fnExactTeethOfSpec)

/-- ITS FALSE NEIGHBOUR: 'it returns false'. Refute it at one input. -/
def fnExactTeethOfWrong : ChangeSpec := { name := "fnExactTeethOf", fn := fun _ => fun
  | [d] => { results := [.lit (.bool false)], args := [d] }
  | _ => none }
def FnExactTeethOfWrongFalsely : Prop := fnExactTeethOfRow.holds Try.pinned (OpenSpec.ofChange fnExactTeethOfWrong)

/-- 'laws.FnExactReverseTrain': WHATEVER THE INPUT: true; the input reads as it did. -/
def fnExactReverseTrainSpec : ChangeSpec := { name := "fnExactReverseTrain", fn := fun _ => fun
  | [d] => { results := [.lit (.bool true)], args := [d] }
  | _ => none }
def fnExactReverseTrainRow : OpenClaim := { program := "ytnfllflifmijeaa", sum := "c566eda51bd1b41e8500f10fd88c4a29999d96df682ddebb358307c683d68224", func := "loop.example/g00921/laws.FnExactReverseTrain", spec := "fnExactReverseTrain", apart := false }
def FnExactReverseTrainSaid : Prop := fnExactReverseTrainRow.holds Try.pinned (OpenSpec.ofChange fnExactReverseTrainSpec)

/-- ITS FALSE NEIGHBOUR: 'it returns false'. Refute it at one input. -/
def fnExactReverseTrainWrong : ChangeSpec := { name := "fnExactReverseTrain", fn := fun _ => fun
  | [d] => { results := [.lit (.bool false)], args := [d] }
  | _ => none }
def FnExactReverseTrainWrongFalsely : Prop := fnExactReverseTrainRow.holds Try.pinned (OpenSpec.ofChange fnExactReverseTrainWrong)

/-- 'laws.FnExactTrainRatio': WHATEVER THE INPUT: true; the input reads as it did. -/
def fnExactTrainRatioSpec : ChangeSpec := { name := "fnExactTrainRatio", fn := fun _ => fun
  | [d] => { results := [.lit (.bool true)], args := [d] }
  | _ => none }
def fnExactTrainRatioRow : OpenClaim := { program := "ytnfllflifmijeaa", sum := "c566eda51bd1b41e8500f10fd88c4a29999d96df682ddebb358307c683d68224", func := "loop.example/g00921/laws.FnExactTrainRatio", spec := "fnExactTrainRatio", apart := false }
def FnExactTrainRatioSaid : Prop := fnExactTrainRatioRow.holds Try.pinned (OpenSpec.ofChange fnExactTrainRatioSpec)

/-- ITS FALSE NEIGHBOUR: 'it returns false'. Refute it at one input. -/
def fnExactTrainRatioWrong : ChangeSpec := { name := "fnExactTrainRatio", fn := fun _ => fun
  | [d] => { results := [.lit (.bool false)], args := [d] }
  | _ => none }
def FnExactTrainRatioWrongFalsely : Prop := fnExactTrainRatioRow.holds Try.pinned (OpenSpec.ofChange fnExactTrainRatioWrong)

/-- 'laws.FnExactBeatsPerHour': WHATEVER THE INPUT: true; the input reads as it did. -/
def fnExactBeatsPerHourSpec : ChangeSpec := { name := "fnExactBeatsPerHour", fn := fun _ => fun
  | [d1, d2] => { results := [.lit (.bool true)], args := [d1, d2] }
  | _ => none }
def fnExactBeatsPerHourRow : OpenClaim := { program := "ytnfllflifmijeaa", sum := "c566eda51bd1b41e8500f10fd88c4a29999d96df682ddebb358307c683d68224", func := "loop.example/g00921/laws.FnExactBeatsPerHour", spec := "fnExactBeatsPerHour", apart := false }
def FnExactBeatsPerHourSaid : Prop := fnExactBeatsPerHourRow.holds Try.pinned (OpenSpec.ofChange fnExactBeatsPerHourSpec)

/-- ITS FALSE NEIGHBOUR: 'it returns false'. Refute it at one input. -/
def fnExactBeatsPerHourWrong : ChangeSpec := { name := "fnExactBeatsPerHour", fn := fun _ => fun
  | [d1, d2] => { results := [.lit (.bool false)], args := [d1, d2] }
  | _ => none }
def FnExactBeatsPerHourWrongFalsely : Prop := fnExactBeatsPerHourRow.holds Try.pinned (OpenSpec.ofChange fnExactBeatsPerHourWrong)

/-- 'laws.FnExactCanonTrain': WHATEVER THE INPUT: true; the input reads as it did. -/
def fnExactCanonTrainSpec : ChangeSpec := { name := "fnExactCanonTrain", fn := fun _ => fun
  | [d] => { results := [.lit (.bool true)], args := [d] }
  | _ => none }
def fnExactCanonTrainRow : OpenClaim := { program := "ytnfllflifmijeaa", sum := "c566eda51bd1b41e8500f10fd88c4a29999d96df682ddebb358307c683d68224", func := "loop.example/g00921/laws.FnExactCanonTrain", spec := "fnExactCanonTrain", recurses := true, apart := false }
def FnExactCanonTrainSaid : Prop := fnExactCanonTrainRow.holds Try.pinned (OpenSpec.ofChange fnExactCanonTrainSpec)

/-- ITS FALSE NEIGHBOUR: 'it returns false'. Refute it at one input. -/
def fnExactCanonTrainWrong : ChangeSpec := { name := "fnExactCanonTrain", fn := fun _ => fun
  | [d] => { results := [.lit (.bool false)], args := [d] }
  | _ => none }
def FnExactCanonTrainWrongFalsely : Prop := fnExactCanonTrainRow.holds Try.pinned (OpenSpec.ofChange fnExactCanonTrainWrong)

/-- 'laws.FnExactDivisorsOf': WHATEVER THE INPUT: true; the input reads as it did. -/
def fnExactDivisorsOfSpec : ChangeSpec := { name := "fnExactDivisorsOf", fn := fun _ => fun
  | [d] => { results := [.lit (.bool true)], args := [d] }
  | _ => none }
def fnExactDivisorsOfRow : OpenClaim := { program := "ytnfllflifmijeaa", sum := "c566eda51bd1b41e8500f10fd88c4a29999d96df682ddebb358307c683d68224", func := "loop.example/g00921/laws.FnExactDivisorsOf", spec := "fnExactDivisorsOf", recurses := true, apart := false }
def FnExactDivisorsOfSaid : Prop := fnExactDivisorsOfRow.holds Try.pinned (OpenSpec.ofChange fnExactDivisorsOfSpec)

/-- ITS FALSE NEIGHBOUR: 'it returns false'. Refute it at one input. -/
def fnExactDivisorsOfWrong : ChangeSpec := { name := "fnExactDivisorsOf", fn := fun _ => fun
  | [d] => { results := [.lit (.bool false)], args := [d] }
  | _ => none }
def FnExactDivisorsOfWrongFalsely : Prop := fnExactDivisorsOfRow.holds Try.pinned (OpenSpec.ofChange fnExactDivisorsOfWrong)

/-- 'laws.FnPrimes': WHATEVER THE INPUT: true; the input reads as it did. -/
def fnPrimesSpec : ChangeSpec := { name := "fnPrimes", fn := fun _ => fun
  | [d] => { results := [.lit (.bool true)], args := [d] }
  | _ => none }
def fnPrimesRow : OpenClaim := { program := "ytnfllflifmijeaa", sum := "c566eda51bd1b41e8500f10fd88c4a29999d96df682ddebb358307c683d68224", func := "loop.example/g00921/laws.FnPrimes", spec := "fnPrimes", recurses := true, apart := false }
def FnPrimesSaid : Prop := fnPrimesRow.holds Try.pinned (OpenSpec.ofChange fnPrimesSpec)

/-- ITS FALSE NEIGHBOUR: 'it returns false'. Refute it at one input. -/
def fnPrimesWrong : ChangeSpec := { name := "fnPrimes", fn := fun _ => fun
  | [d] => { results := [.lit (.bool false)], args := [d] }
  | _ => none }
def FnPrimesWrongFalsely : Prop := fnPrimesRow.holds Try.pinned (OpenSpec.ofChange fnPrimesWrong)

/-- 'laws.FnExactDivisorsWithin': WHATEVER THE INPUT: true; the input reads as it did. -/
def fnExactDivisorsWithinSpec : ChangeSpec := { name := "fnExactDivisorsWithin", fn := fun _ => fun
  | [d1, d2, d3] => { results := [.lit (.bool true)], args := [d1, d2, d3] }
  | _ => none }
def fnExactDivisorsWithinRow : OpenClaim := { program := "ytnfllflifmijeaa", sum := "c566eda51bd1b41e8500f10fd88c4a29999d96df682ddebb358307c683d68224", func := "loop.example/g00921/laws.FnExactDivisorsWithin", spec := "fnExactDivisorsWithin", unfollowed := true, recurses := true, apart := false }
def FnExactDivisorsWithinSaid : Prop := fnExactDivisorsWithinRow.holds Try.pinned (OpenSpec.ofChange fnExactDivisorsWithinSpec)

/-- ITS FALSE NEIGHBOUR: 'it returns false'. Refute it at one input. -/
def fnExactDivisorsWithinWrong : ChangeSpec := { name := "fnExactDivisorsWithin", fn := fun _ => fun
  | [d1, d2, d3] => { results := [.lit (.bool false)], args := [d1, d2, d3] }
  | _ => none }
def FnExactDivisorsWithinWrongFalsely : Prop := fnExactDivisorsWithinRow.holds Try.pinned (OpenSpec.ofChange fnExactDivisorsWithinWrong)

/-- 'laws.FnExactSplitsOf': WHATEVER THE INPUT: true; the input reads as it did. -/
def fnExactSplitsOfSpec : ChangeSpec := { name := "fnExactSplitsOf", fn := fun _ => fun
  | [d1, d2, d3, d4] => { results := [.lit (.bool true)], args := [d1, d2, d3, d4] }
  | _ => none }
def fnExactSplitsOfRow : OpenClaim := { program := "ytnfllflifmijeaa", sum := "c566eda51bd1b41e8500f10fd88c4a29999d96df682ddebb358307c683d68224", func := "loop.example/g00921/laws.FnExactSplitsOf", spec := "fnExactSplitsOf", unfollowed := true, recurses := true, apart := false }
def FnExactSplitsOfSaid : Prop := fnExactSplitsOfRow.holds Try.pinned (OpenSpec.ofChange fnExactSplitsOfSpec)

/-- ITS FALSE NEIGHBOUR: 'it returns false'. Refute it at one input. -/
def fnExactSplitsOfWrong : ChangeSpec := { name := "fnExactSplitsOf", fn := fun _ => fun
  | [d1, d2, d3, d4] => { results := [.lit (.bool false)], args := [d1, d2, d3, d4] }
  | _ => none }
def FnExactSplitsOfWrongFalsely : Prop := fnExactSplitsOfRow.holds Try.pinned (OpenSpec.ofChange fnExactSplitsOfWrong)

/-- 'laws.FnSplits': WHATEVER THE INPUT: true; the input reads as it did. -/
def fnSplitsSpec : ChangeSpec := { name := "fnSplits", fn := fun _ => fun
  | [d1, d2] => { results := [.lit (.bool true)], args := [d1, d2] }
  | _ => none }
def fnSplitsRow : OpenClaim := { program := "ytnfllflifmijeaa", sum := "c566eda51bd1b41e8500f10fd88c4a29999d96df682ddebb358307c683d68224", func := "loop.example/g00921/laws.FnSplits", spec := "fnSplits", unfollowed := true, recurses := true, apart := false }
def FnSplitsSaid : Prop := fnSplitsRow.holds Try.pinned (OpenSpec.ofChange fnSplitsSpec)

/-- ITS FALSE NEIGHBOUR: 'it returns false'. Refute it at one input. -/
def fnSplitsWrong : ChangeSpec := { name := "fnSplits", fn := fun _ => fun
  | [d1, d2] => { results := [.lit (.bool false)], args := [d1, d2] }
  | _ => none }
def FnSplitsWrongFalsely : Prop := fnSplitsRow.holds Try.pinned (OpenSpec.ofChange fnSplitsWrong)

/-- 'laws.FnExactNearestSplit': WHATEVER THE INPUT: true; the input reads as it did. -/
def fnExactNearestSplitSpec : ChangeSpec := { name := "fnExactNearestSplit", fn := fun _ => fun
  | [d1, d2, d3, d4] => { results := [.lit (.bool true)], args := [d1, d2, d3, d4] }
  | _ => none }
def fnExactNearestSplitRow : OpenClaim := { program := "ytnfllflifmijeaa", sum := "c566eda51bd1b41e8500f10fd88c4a29999d96df682ddebb358307c683d68224", func := "loop.example/g00921/laws.FnExactNearestSplit", spec := "fnExactNearestSplit", unfollowed := true, recurses := true, apart := false }
def FnExactNearestSplitSaid : Prop := fnExactNearestSplitRow.holds Try.pinned (OpenSpec.ofChange fnExactNearestSplitSpec)

/-- ITS FALSE NEIGHBOUR: 'it returns false'. Refute it at one input. -/
def fnExactNearestSplitWrong : ChangeSpec := { name := "fnExactNearestSplit", fn := fun _ => fun
  | [d1, d2, d3, d4] => { results := [.lit (.bool false)], args := [d1, d2, d3, d4] }
  | _ => none }
def FnExactNearestSplitWrongFalsely : Prop := fnExactNearestSplitRow.holds Try.pinned (OpenSpec.ofChange fnExactNearestSplitWrong)

/- THE SECOND FORM. 'bulk': how many values and letters a reading holds, each counted each time it is reached (what is shared counts as often as it is met; a slice's spare places count too). A statement '..UptoSaid' is the law's where the arguments, and the package variables that the reading takes, are together of bulk at most 1048576: NARROWER than '..Said'. Prove '..Said' where nothing that the law and all that it calls make is longer than what came in: it says more and counts as full. Else prove '..UptoSaid'. A law counts once. -/
mutual
def uptoBulk {H : Type} : DataW H → Nat
  | .lit (.string bytes) => bytes.length + 1
  | .lit _ => 1
  | .nil => 1
  | .ptr d => uptoBulk d + 1
  | .slice elems spare => uptoBulkAll elems + uptoBulkAll spare + 1
  | .agg parts => uptoBulkAll parts + 1
  | .iface _ d => uptoBulk d + 1
  | .map entries => uptoBulkEntries entries + 1
  | .held _ => 1
def uptoBulkAll {H : Type} : List (DataW H) → Nat
  | [] => 0
  | d :: r => uptoBulk d + uptoBulkAll r
def uptoBulkEntries {H : Type} : List (Lit × DataW H) → Nat
  | [] => 0
  | x :: r => uptoBulkEntry x + uptoBulkEntries r
def uptoBulkEntry {H : Type} : Lit × DataW H → Nat
  | (.string bytes, d) => bytes.length + uptoBulk d + 1
  | (_, d) => uptoBulk d + 1
 end
def uptoSmall : (H : Type) → List (DataW H) → Bool := fun _ ds => decide (uptoBulkAll ds ≤ 1048576)
def OpenSpec.upto (s : _root_.Go.ChangeSpec) : _root_.Go.OpenSpec := { _root_.Go.OpenSpec.ofChange s with cond := some uptoSmall }

/-- 'laws.FnExactTeethOf', WHERE WHAT IT READS IS OF BULK AT MOST 1048576: true; the input reads as it did. -/
def fnExactTeethOfUptoRow : OpenClaim := { program := "ytnfllflifmijeaa", sum := "c566eda51bd1b41e8500f10fd88c4a29999d96df682ddebb358307c683d68224", func := "loop.example/g00921/laws.FnExactTeethOf", spec := "fnExactTeethOf", apart := false, narrowed := true }
def FnExactTeethOfUptoSaid : Prop := fnExactTeethOfUptoRow.holds Try.pinned (OpenSpec.upto fnExactTeethOfSpec)

/-- 'laws.FnExactReverseTrain', WHERE WHAT IT READS IS OF BULK AT MOST 1048576: true; the input reads as it did. -/
def fnExactReverseTrainUptoRow : OpenClaim := { program := "ytnfllflifmijeaa", sum := "c566eda51bd1b41e8500f10fd88c4a29999d96df682ddebb358307c683d68224", func := "loop.example/g00921/laws.FnExactReverseTrain", spec := "fnExactReverseTrain", apart := false, narrowed := true }
def FnExactReverseTrainUptoSaid : Prop := fnExactReverseTrainUptoRow.holds Try.pinned (OpenSpec.upto fnExactReverseTrainSpec)

/-- 'laws.FnExactTrainRatio', WHERE WHAT IT READS IS OF BULK AT MOST 1048576: true; the input reads as it did. -/
def fnExactTrainRatioUptoRow : OpenClaim := { program := "ytnfllflifmijeaa", sum := "c566eda51bd1b41e8500f10fd88c4a29999d96df682ddebb358307c683d68224", func := "loop.example/g00921/laws.FnExactTrainRatio", spec := "fnExactTrainRatio", apart := false, narrowed := true }
def FnExactTrainRatioUptoSaid : Prop := fnExactTrainRatioUptoRow.holds Try.pinned (OpenSpec.upto fnExactTrainRatioSpec)

/-- 'laws.FnExactBeatsPerHour', WHERE WHAT IT READS IS OF BULK AT MOST 1048576: true; the input reads as it did. -/
def fnExactBeatsPerHourUptoRow : OpenClaim := { program := "ytnfllflifmijeaa", sum := "c566eda51bd1b41e8500f10fd88c4a29999d96df682ddebb358307c683d68224", func := "loop.example/g00921/laws.FnExactBeatsPerHour", spec := "fnExactBeatsPerHour", apart := false, narrowed := true }
def FnExactBeatsPerHourUptoSaid : Prop := fnExactBeatsPerHourUptoRow.holds Try.pinned (OpenSpec.upto fnExactBeatsPerHourSpec)

/-- 'laws.FnExactCanonTrain', WHERE WHAT IT READS IS OF BULK AT MOST 1048576: true; the input reads as it did. -/
def fnExactCanonTrainUptoRow : OpenClaim := { program := "ytnfllflifmijeaa", sum := "c566eda51bd1b41e8500f10fd88c4a29999d96df682ddebb358307c683d68224", func := "loop.example/g00921/laws.FnExactCanonTrain", spec := "fnExactCanonTrain", recurses := true, apart := false, narrowed := true }
def FnExactCanonTrainUptoSaid : Prop := fnExactCanonTrainUptoRow.holds Try.pinned (OpenSpec.upto fnExactCanonTrainSpec)

/-- 'laws.FnExactDivisorsOf', WHERE WHAT IT READS IS OF BULK AT MOST 1048576: true; the input reads as it did. -/
def fnExactDivisorsOfUptoRow : OpenClaim := { program := "ytnfllflifmijeaa", sum := "c566eda51bd1b41e8500f10fd88c4a29999d96df682ddebb358307c683d68224", func := "loop.example/g00921/laws.FnExactDivisorsOf", spec := "fnExactDivisorsOf", recurses := true, apart := false, narrowed := true }
def FnExactDivisorsOfUptoSaid : Prop := fnExactDivisorsOfUptoRow.holds Try.pinned (OpenSpec.upto fnExactDivisorsOfSpec)

/-- 'laws.FnPrimes', WHERE WHAT IT READS IS OF BULK AT MOST 1048576: true; the input reads as it did. -/
def fnPrimesUptoRow : OpenClaim := { program := "ytnfllflifmijeaa", sum := "c566eda51bd1b41e8500f10fd88c4a29999d96df682ddebb358307c683d68224", func := "loop.example/g00921/laws.FnPrimes", spec := "fnPrimes", recurses := true, apart := false, narrowed := true }
def FnPrimesUptoSaid : Prop := fnPrimesUptoRow.holds Try.pinned (OpenSpec.upto fnPrimesSpec)

/-- 'laws.FnExactDivisorsWithin', WHERE WHAT IT READS IS OF BULK AT MOST 1048576: true; the input reads as it did. -/
def fnExactDivisorsWithinUptoRow : OpenClaim := { program := "ytnfllflifmijeaa", sum := "c566eda51bd1b41e8500f10fd88c4a29999d96df682ddebb358307c683d68224", func := "loop.example/g00921/laws.FnExactDivisorsWithin", spec := "fnExactDivisorsWithin", unfollowed := true, recurses := true, apart := false, narrowed := true }
def FnExactDivisorsWithinUptoSaid : Prop := fnExactDivisorsWithinUptoRow.holds Try.pinned (OpenSpec.upto fnExactDivisorsWithinSpec)

/-- 'laws.FnExactSplitsOf', WHERE WHAT IT READS IS OF BULK AT MOST 1048576: true; the input reads as it did. -/
def fnExactSplitsOfUptoRow : OpenClaim := { program := "ytnfllflifmijeaa", sum := "c566eda51bd1b41e8500f10fd88c4a29999d96df682ddebb358307c683d68224", func := "loop.example/g00921/laws.FnExactSplitsOf", spec := "fnExactSplitsOf", unfollowed := true, recurses := true, apart := false, narrowed := true }
def FnExactSplitsOfUptoSaid : Prop := fnExactSplitsOfUptoRow.holds Try.pinned (OpenSpec.upto fnExactSplitsOfSpec)

/-- 'laws.FnSplits', WHERE WHAT IT READS IS OF BULK AT MOST 1048576: true; the input reads as it did. -/
def fnSplitsUptoRow : OpenClaim := { program := "ytnfllflifmijeaa", sum := "c566eda51bd1b41e8500f10fd88c4a29999d96df682ddebb358307c683d68224", func := "loop.example/g00921/laws.FnSplits", spec := "fnSplits", unfollowed := true, recurses := true, apart := false, narrowed := true }
def FnSplitsUptoSaid : Prop := fnSplitsUptoRow.holds Try.pinned (OpenSpec.upto fnSplitsSpec)

/-- 'laws.FnExactNearestSplit', WHERE WHAT IT READS IS OF BULK AT MOST 1048576: true; the input reads as it did. -/
def fnExactNearestSplitUptoRow : OpenClaim := { program := "ytnfllflifmijeaa", sum := "c566eda51bd1b41e8500f10fd88c4a29999d96df682ddebb358307c683d68224", func := "loop.example/g00921/laws.FnExactNearestSplit", spec := "fnExactNearestSplit", unfollowed := true, recurses := true, apart := false, narrowed := true }
def FnExactNearestSplitUptoSaid : Prop := fnExactNearestSplitUptoRow.holds Try.pinned (OpenSpec.upto fnExactNearestSplitSpec)

end Rows
end Go.Proofs.Ytnfllflifmijeaa
