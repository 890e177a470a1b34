/-
  No cell of these rows narrows 'for every input' (looked for: loops, veiled, ifaces, maps, wideKeys, modest, calm, conditions, laid).
  DERIVED. THE GIVEN ROWS OF THIS SEAT. 12 by the template 'for every input the law returns true; each argument reads behind the call as it read before'; 0 by the template 'total and deterministic' (their statements: YtmkhkojefjdbbaaTotals.lean).
  GIVEN WITH THE SEED: the statements are not yours to turn. If you find one false, say at which input.
  Laid BY PROGRAM, IN A SANDBOX (cutbox-rows.mjs): the forced cells as the released guide's own fill.sh prints them over the translation 885f26e9143bfeba… (all of the seat's roots in one cut). By AI agents, Wed Nov 11 2026. No macro, syntax, notation, axiom, sorry.
-/
import Derived.Test.YtmkhkojefjdbbaaChecked
import GoSem.Claim
import GoSem.ClaimJoined
import GoSem.ClaimMapViews
import Derived.JoinedTies
import Derived.KernelRfl
namespace Go.Proofs.Ytmkhkojefjdbbaa
/- THE CELL 'sum', in the pinned program and in every row, IS THE sha256 OF THE DUMP (.gsa) THAT YtmkhkojefjdbbaaProg.lean LOADS. Nothing in Lean hashes anything: it is a label: what it is worth is what the hold of that sum in a sandbox is worth. -/
noncomputable def Try.pinned : Pinned := { name := "ytmkhkojefjdbbaa", sum := "885f26e9143bfebad29b6d2bccc422801953015339ed3ec203e18d3cce70d40c", checked := Try.checked }
namespace Rows
def none {H : Type} : Left H := { results := [], args := [] }

/-- 'laws.FnExactConstants': WHATEVER THE INPUT: true; the input reads as it did. -/
def fnExactConstantsSpec : ChangeSpec := { name := "fnExactConstants", fn := fun _ => fun
  | [] => { results := [.lit (.bool true)], args := [] }
  | _ => none }
def fnExactConstantsRow : OpenClaim := { program := "ytmkhkojefjdbbaa", sum := "885f26e9143bfebad29b6d2bccc422801953015339ed3ec203e18d3cce70d40c", func := "loop.example/g00921/laws.FnExactConstants", spec := "fnExactConstants", apart := false }
def FnExactConstantsSaid : Prop := fnExactConstantsRow.holds Try.pinned (OpenSpec.ofChange fnExactConstantsSpec)

/-- ITS FALSE NEIGHBOUR: 'it returns false'. Refute it at one input. -/
def fnExactConstantsWrong : ChangeSpec := { name := "fnExactConstants", fn := fun _ => fun
  | [] => { results := [.lit (.bool false)], args := [] }
  | _ => none }
def FnExactConstantsWrongFalsely : Prop := fnExactConstantsRow.holds Try.pinned (OpenSpec.ofChange fnExactConstantsWrong)

/-- 'laws.FnExactValidPair': WHATEVER THE INPUT: true; the input reads as it did. -/
def fnExactValidPairSpec : ChangeSpec := { name := "fnExactValidPair", fn := fun _ => fun
  | [d] => { results := [.lit (.bool true)], args := [d] }
  | _ => none }
def fnExactValidPairRow : OpenClaim := { program := "ytmkhkojefjdbbaa", sum := "885f26e9143bfebad29b6d2bccc422801953015339ed3ec203e18d3cce70d40c", func := "loop.example/g00921/laws.FnExactValidPair", spec := "fnExactValidPair", apart := false }
def FnExactValidPairSaid : Prop := fnExactValidPairRow.holds Try.pinned (OpenSpec.ofChange fnExactValidPairSpec)

/-- ITS FALSE NEIGHBOUR: 'it returns false'. Refute it at one input. -/
def fnExactValidPairWrong : ChangeSpec := { name := "fnExactValidPair", fn := fun _ => fun
  | [d] => { results := [.lit (.bool false)], args := [d] }
  | _ => none }
def FnExactValidPairWrongFalsely : Prop := fnExactValidPairRow.holds Try.pinned (OpenSpec.ofChange fnExactValidPairWrong)

/-- 'laws.FnExactCodeName': WHATEVER THE INPUT: true; the input reads as it did. -/
def fnExactCodeNameSpec : ChangeSpec := { name := "fnExactCodeName", fn := fun _ => fun
  | [d] => { results := [.lit (.bool true)], args := [d] }
  | _ => none }
def fnExactCodeNameRow : OpenClaim := { program := "ytmkhkojefjdbbaa", sum := "885f26e9143bfebad29b6d2bccc422801953015339ed3ec203e18d3cce70d40c", func := "loop.example/g00921/laws.FnExactCodeName", spec := "fnExactCodeName", apart := false }
def FnExactCodeNameSaid : Prop := fnExactCodeNameRow.holds Try.pinned (OpenSpec.ofChange fnExactCodeNameSpec)

/-- ITS FALSE NEIGHBOUR: 'it returns false'. Refute it at one input. -/
def fnExactCodeNameWrong : ChangeSpec := { name := "fnExactCodeName", fn := fun _ => fun
  | [d] => { results := [.lit (.bool false)], args := [d] }
  | _ => none }
def FnExactCodeNameWrongFalsely : Prop := fnExactCodeNameRow.holds Try.pinned (OpenSpec.ofChange fnExactCodeNameWrong)

/-- 'laws.FnExactIsName': WHATEVER THE INPUT: true; the input reads as it did. -/
def fnExactIsNameSpec : ChangeSpec := { name := "fnExactIsName", fn := fun _ => fun
  | [d] => { results := [.lit (.bool true)], args := [d] }
  | _ => none }
def fnExactIsNameRow : OpenClaim := { program := "ytmkhkojefjdbbaa", sum := "885f26e9143bfebad29b6d2bccc422801953015339ed3ec203e18d3cce70d40c", func := "loop.example/g00921/laws.FnExactIsName", spec := "fnExactIsName", apart := false }
def FnExactIsNameSaid : Prop := fnExactIsNameRow.holds Try.pinned (OpenSpec.ofChange fnExactIsNameSpec)

/-- ITS FALSE NEIGHBOUR: 'it returns false'. Refute it at one input. -/
def fnExactIsNameWrong : ChangeSpec := { name := "fnExactIsName", fn := fun _ => fun
  | [d] => { results := [.lit (.bool false)], args := [d] }
  | _ => none }
def FnExactIsNameWrongFalsely : Prop := fnExactIsNameRow.holds Try.pinned (OpenSpec.ofChange fnExactIsNameWrong)

/-- 'laws.FnExactGcdOf': WHATEVER THE INPUT: true; the input reads as it did. -/
def fnExactGcdOfSpec : ChangeSpec := { name := "fnExactGcdOf", fn := fun _ => fun
  | [d1, d2] => { results := [.lit (.bool true)], args := [d1, d2] }
  | _ => none }
def fnExactGcdOfRow : OpenClaim := { program := "ytmkhkojefjdbbaa", sum := "885f26e9143bfebad29b6d2bccc422801953015339ed3ec203e18d3cce70d40c", func := "loop.example/g00921/laws.FnExactGcdOf", spec := "fnExactGcdOf", apart := false }
def FnExactGcdOfSaid : Prop := fnExactGcdOfRow.holds Try.pinned (OpenSpec.ofChange fnExactGcdOfSpec)

/-- ITS FALSE NEIGHBOUR: 'it returns false'. Refute it at one input. -/
def fnExactGcdOfWrong : ChangeSpec := { name := "fnExactGcdOf", fn := fun _ => fun
  | [d1, d2] => { results := [.lit (.bool false)], args := [d1, d2] }
  | _ => none }
def FnExactGcdOfWrongFalsely : Prop := fnExactGcdOfRow.holds Try.pinned (OpenSpec.ofChange fnExactGcdOfWrong)

/-- 'laws.FnExactLcmOf': WHATEVER THE INPUT: true; the input reads as it did. -/
def fnExactLcmOfSpec : ChangeSpec := { name := "fnExactLcmOf", fn := fun _ => fun
  | [d1, d2] => { results := [.lit (.bool true)], args := [d1, d2] }
  | _ => none }
def fnExactLcmOfRow : OpenClaim := { program := "ytmkhkojefjdbbaa", sum := "885f26e9143bfebad29b6d2bccc422801953015339ed3ec203e18d3cce70d40c", func := "loop.example/g00921/laws.FnExactLcmOf", spec := "fnExactLcmOf", apart := false }
def FnExactLcmOfSaid : Prop := fnExactLcmOfRow.holds Try.pinned (OpenSpec.ofChange fnExactLcmOfSpec)

/-- ITS FALSE NEIGHBOUR: 'it returns false'. Refute it at one input. -/
def fnExactLcmOfWrong : ChangeSpec := { name := "fnExactLcmOf", fn := fun _ => fun
  | [d1, d2] => { results := [.lit (.bool false)], args := [d1, d2] }
  | _ => none }
def FnExactLcmOfWrongFalsely : Prop := fnExactLcmOfRow.holds Try.pinned (OpenSpec.ofChange fnExactLcmOfWrong)

/-- 'laws.FnExactMeetingTurns': WHATEVER THE INPUT: true; the input reads as it did. -/
def fnExactMeetingTurnsSpec : ChangeSpec := { name := "fnExactMeetingTurns", fn := fun _ => fun
  | [d] => { results := [.lit (.bool true)], args := [d] }
  | _ => none }
def fnExactMeetingTurnsRow : OpenClaim := { program := "ytmkhkojefjdbbaa", sum := "885f26e9143bfebad29b6d2bccc422801953015339ed3ec203e18d3cce70d40c", func := "loop.example/g00921/laws.FnExactMeetingTurns", spec := "fnExactMeetingTurns", apart := false }
def FnExactMeetingTurnsSaid : Prop := fnExactMeetingTurnsRow.holds Try.pinned (OpenSpec.ofChange fnExactMeetingTurnsSpec)

/-- ITS FALSE NEIGHBOUR: 'it returns false'. Refute it at one input. -/
def fnExactMeetingTurnsWrong : ChangeSpec := { name := "fnExactMeetingTurns", fn := fun _ => fun
  | [d] => { results := [.lit (.bool false)], args := [d] }
  | _ => none }
def FnExactMeetingTurnsWrongFalsely : Prop := fnExactMeetingTurnsRow.holds Try.pinned (OpenSpec.ofChange fnExactMeetingTurnsWrong)

/-- 'laws.FnMeeting': WHATEVER THE INPUT: true; the input reads as it did. -/
def fnMeetingSpec : ChangeSpec := { name := "fnMeeting", fn := fun _ => fun
  | [d] => { results := [.lit (.bool true)], args := [d] }
  | _ => none }
def fnMeetingRow : OpenClaim := { program := "ytmkhkojefjdbbaa", sum := "885f26e9143bfebad29b6d2bccc422801953015339ed3ec203e18d3cce70d40c", func := "loop.example/g00921/laws.FnMeeting", spec := "fnMeeting", apart := false }
def FnMeetingSaid : Prop := fnMeetingRow.holds Try.pinned (OpenSpec.ofChange fnMeetingSpec)

/-- ITS FALSE NEIGHBOUR: 'it returns false'. Refute it at one input. -/
def fnMeetingWrong : ChangeSpec := { name := "fnMeeting", fn := fun _ => fun
  | [d] => { results := [.lit (.bool false)], args := [d] }
  | _ => none }
def FnMeetingWrongFalsely : Prop := fnMeetingRow.holds Try.pinned (OpenSpec.ofChange fnMeetingWrong)

/-- 'laws.FnExactIsPrime': WHATEVER THE INPUT: true; the input reads as it did. -/
def fnExactIsPrimeSpec : ChangeSpec := { name := "fnExactIsPrime", fn := fun _ => fun
  | [d] => { results := [.lit (.bool true)], args := [d] }
  | _ => none }
def fnExactIsPrimeRow : OpenClaim := { program := "ytmkhkojefjdbbaa", sum := "885f26e9143bfebad29b6d2bccc422801953015339ed3ec203e18d3cce70d40c", func := "loop.example/g00921/laws.FnExactIsPrime", spec := "fnExactIsPrime", apart := false }
def FnExactIsPrimeSaid : Prop := fnExactIsPrimeRow.holds Try.pinned (OpenSpec.ofChange fnExactIsPrimeSpec)

/-- ITS FALSE NEIGHBOUR: 'it returns false'. Refute it at one input. -/
def fnExactIsPrimeWrong : ChangeSpec := { name := "fnExactIsPrime", fn := fun _ => fun
  | [d] => { results := [.lit (.bool false)], args := [d] }
  | _ => none }
def FnExactIsPrimeWrongFalsely : Prop := fnExactIsPrimeRow.holds Try.pinned (OpenSpec.ofChange fnExactIsPrimeWrong)

/-- 'laws.FnExactPrimesOf': WHATEVER THE INPUT: true; the input reads as it did. -/
def fnExactPrimesOfSpec : ChangeSpec := { name := "fnExactPrimesOf", fn := fun _ => fun
  | [d] => { results := [.lit (.bool true)], args := [d] }
  | _ => none }
def fnExactPrimesOfRow : OpenClaim := { program := "ytmkhkojefjdbbaa", sum := "885f26e9143bfebad29b6d2bccc422801953015339ed3ec203e18d3cce70d40c", func := "loop.example/g00921/laws.FnExactPrimesOf", spec := "fnExactPrimesOf", apart := false }
def FnExactPrimesOfSaid : Prop := fnExactPrimesOfRow.holds Try.pinned (OpenSpec.ofChange fnExactPrimesOfSpec)

/-- ITS FALSE NEIGHBOUR: 'it returns false'. Refute it at one input. -/
def fnExactPrimesOfWrong : ChangeSpec := { name := "fnExactPrimesOf", fn := fun _ => fun
  | [d] => { results := [.lit (.bool false)], args := [d] }
  | _ => none }
def FnExactPrimesOfWrongFalsely : Prop := fnExactPrimesOfRow.holds Try.pinned (OpenSpec.ofChange fnExactPrimesOfWrong)

/-- 'laws.FnExactValidTrain': WHATEVER THE INPUT: true; the input reads as it did. -/
def fnExactValidTrainSpec : ChangeSpec := { name := "fnExactValidTrain", fn := fun _ => fun
  | [d] => { results := [.lit (.bool true)], args := [d] }
  | _ => none }
def fnExactValidTrainRow : OpenClaim := { program := "ytmkhkojefjdbbaa", sum := "885f26e9143bfebad29b6d2bccc422801953015339ed3ec203e18d3cce70d40c", func := "loop.example/g00921/laws.FnExactValidTrain", spec := "fnExactValidTrain", apart := false }
def FnExactValidTrainSaid : Prop := fnExactValidTrainRow.holds Try.pinned (OpenSpec.ofChange fnExactValidTrainSpec)

/-- ITS FALSE NEIGHBOUR: 'it returns false'. Refute it at one input. -/
def fnExactValidTrainWrong : ChangeSpec := { name := "fnExactValidTrain", fn := fun _ => fun
  | [d] => { results := [.lit (.bool false)], args := [d] }
  | _ => none }
def FnExactValidTrainWrongFalsely : Prop := fnExactValidTrainRow.holds Try.pinned (OpenSpec.ofChange fnExactValidTrainWrong)

/-- 'laws.FnExactSameTrain': WHATEVER THE INPUT: true; the input reads as it did. -/
def fnExactSameTrainSpec : ChangeSpec := { name := "fnExactSameTrain", fn := fun _ => fun
  | [d1, d2] => { results := [.lit (.bool true)], args := [d1, d2] }
  | _ => none }
def fnExactSameTrainRow : OpenClaim := { program := "ytmkhkojefjdbbaa", sum := "885f26e9143bfebad29b6d2bccc422801953015339ed3ec203e18d3cce70d40c", func := "loop.example/g00921/laws.FnExactSameTrain", spec := "fnExactSameTrain", apart := false }
def FnExactSameTrainSaid : Prop := fnExactSameTrainRow.holds Try.pinned (OpenSpec.ofChange fnExactSameTrainSpec)

/-- ITS FALSE NEIGHBOUR: 'it returns false'. Refute it at one input. -/
def fnExactSameTrainWrong : ChangeSpec := { name := "fnExactSameTrain", fn := fun _ => fun
  | [d1, d2] => { results := [.lit (.bool false)], args := [d1, d2] }
  | _ => none }
def FnExactSameTrainWrongFalsely : Prop := fnExactSameTrainRow.holds Try.pinned (OpenSpec.ofChange fnExactSameTrainWrong)

/- THE SECOND FORM. 'bulk': how many values and letters a reading holds, each counted each time it is reached (what is shared counts as often as it is met; a slice's spare places count too). A statement '..UptoSaid' is the law's where the arguments, and the package variables that the reading takes, are together of bulk at most 1048576: NARROWER than '..Said'. Prove '..Said' where nothing that the law and all that it calls make is longer than what came in: it says more and counts as full. Else prove '..UptoSaid'. A law counts once. -/
mutual
def uptoBulk {H : Type} : DataW H → Nat
  | .lit (.string bytes) => bytes.length + 1
  | .lit _ => 1
  | .nil => 1
  | .ptr d => uptoBulk d + 1
  | .slice elems spare => uptoBulkAll elems + uptoBulkAll spare + 1
  | .agg parts => uptoBulkAll parts + 1
  | .iface _ d => uptoBulk d + 1
  | .map entries => uptoBulkEntries entries + 1
  | .held _ => 1
def uptoBulkAll {H : Type} : List (DataW H) → Nat
  | [] => 0
  | d :: r => uptoBulk d + uptoBulkAll r
def uptoBulkEntries {H : Type} : List (Lit × DataW H) → Nat
  | [] => 0
  | x :: r => uptoBulkEntry x + uptoBulkEntries r
def uptoBulkEntry {H : Type} : Lit × DataW H → Nat
  | (.string bytes, d) => bytes.length + uptoBulk d + 1
  | (_, d) => uptoBulk d + 1
 end
def uptoSmall : (H : Type) → List (DataW H) → Bool := fun _ ds => decide (uptoBulkAll ds ≤ 1048576)
def OpenSpec.upto (s : _root_.Go.ChangeSpec) : _root_.Go.OpenSpec := { _root_.Go.OpenSpec.ofChange s with cond := some uptoSmall }

/-- 'laws.FnExactConstants', WHERE WHAT IT READS IS OF BULK AT MOST 1048576: true; the input reads as it did. -/
def fnExactConstantsUptoRow : OpenClaim := { program := "ytmkhkojefjdbbaa", sum := "885f26e9143bfebad29b6d2bccc422801953015339ed3ec203e18d3cce70d40c", func := "loop.example/g00921/laws.FnExactConstants", spec := "fnExactConstants", apart := false, narrowed := true }
def FnExactConstantsUptoSaid : Prop := fnExactConstantsUptoRow.holds Try.pinned (OpenSpec.upto fnExactConstantsSpec)

/-- 'laws.FnExactValidPair', WHERE WHAT IT READS IS OF BULK AT MOST 1048576: true; the input reads as it did. -/
def fnExactValidPairUptoRow : OpenClaim := { program := "ytmkhkojefjdbbaa", sum := "885f26e9143bfebad29b6d2bccc422801953015339ed3ec203e18d3cce70d40c", func := "loop.example/g00921/laws.FnExactValidPair", spec := "fnExactValidPair", apart := false, narrowed := true }
def FnExactValidPairUptoSaid : Prop := fnExactValidPairUptoRow.holds Try.pinned (OpenSpec.upto fnExactValidPairSpec)

/-- 'laws.FnExactCodeName', WHERE WHAT IT READS IS OF BULK AT MOST 1048576: true; the input reads as it did. -/
def fnExactCodeNameUptoRow : OpenClaim := { program := "ytmkhkojefjdbbaa", sum := "885f26e9143bfebad29b6d2bccc422801953015339ed3ec203e18d3cce70d40c", func := "loop.example/g00921/laws.FnExactCodeName", spec := "fnExactCodeName", apart := false, narrowed := true }
def FnExactCodeNameUptoSaid : Prop := fnExactCodeNameUptoRow.holds Try.pinned (OpenSpec.upto fnExactCodeNameSpec)

/-- 'laws.FnExactIsName', WHERE WHAT IT READS IS OF BULK AT MOST 1048576: true; the input reads as it did. -/
def fnExactIsNameUptoRow : OpenClaim := { program := "ytmkhkojefjdbbaa", sum := "885f26e9143bfebad29b6d2bccc422801953015339ed3ec203e18d3cce70d40c", func := "loop.example/g00921/laws.FnExactIsName", spec := "fnExactIsName", apart := false, narrowed := true }
def FnExactIsNameUptoSaid : Prop := fnExactIsNameUptoRow.holds Try.pinned (OpenSpec.upto fnExactIsNameSpec)

/-- 'laws.FnExactGcdOf', WHERE WHAT IT READS IS OF BULK AT MOST 1048576: true; the input reads as it did. -/
def fnExactGcdOfUptoRow : OpenClaim := { program := "ytmkhkojefjdbbaa", sum := "885f26e9143bfebad29b6d2bccc422801953015339ed3ec203e18d3cce70d40c", func := "loop.example/g00921/laws.FnExactGcdOf", spec := "fnExactGcdOf", apart := false, narrowed := true }
def FnExactGcdOfUptoSaid : Prop := fnExactGcdOfUptoRow.holds Try.pinned (OpenSpec.upto fnExactGcdOfSpec)

/-- 'laws.FnExactLcmOf', WHERE WHAT IT READS IS OF BULK AT MOST 1048576: true; the input reads as it did. -/
def fnExactLcmOfUptoRow : OpenClaim := { program := "ytmkhkojefjdbbaa", sum := "885f26e9143bfebad29b6d2bccc422801953015339ed3ec203e18d3cce70d40c", func := "loop.example/g00921/laws.FnExactLcmOf", spec := "fnExactLcmOf", apart := false, narrowed := true }
def FnExactLcmOfUptoSaid : Prop := fnExactLcmOfUptoRow.holds Try.pinned (OpenSpec.upto fnExactLcmOfSpec)

/-- 'laws.FnExactMeetingTurns', WHERE WHAT IT READS IS OF BULK AT MOST 1048576: true; the input reads as it did. -/
def fnExactMeetingTurnsUptoRow : OpenClaim := { program := "ytmkhkojefjdbbaa", sum := "885f26e9143bfebad29b6d2bccc422801953015339ed3ec203e18d3cce70d40c", func := "loop.example/g00921/laws.FnExactMeetingTurns", spec := "fnExactMeetingTurns", apart := false, narrowed := true }
def FnExactMeetingTurnsUptoSaid : Prop := fnExactMeetingTurnsUptoRow.holds Try.pinned (OpenSpec.upto fnExactMeetingTurnsSpec)

/-- 'laws.FnMeeting', WHERE WHAT IT READS IS OF BULK AT MOST 1048576: true; the input reads as it did. -/
def fnMeetingUptoRow : OpenClaim := { program := "ytmkhkojefjdbbaa", sum := "885f26e9143bfebad29b6d2bccc422801953015339ed3ec203e18d3cce70d40c", func := "loop.example/g00921/laws.FnMeeting", spec := "fnMeeting", apart := false, narrowed := true }
def FnMeetingUptoSaid : Prop := fnMeetingUptoRow.holds Try.pinned (OpenSpec.upto fnMeetingSpec)

/-- 'laws.FnExactIsPrime', WHERE WHAT IT READS IS OF BULK AT MOST 1048576: true; the input reads as it did. -/
def fnExactIsPrimeUptoRow : OpenClaim := { program := "ytmkhkojefjdbbaa", sum := "885f26e9143bfebad29b6d2bccc422801953015339ed3ec203e18d3cce70d40c", func := "loop.example/g00921/laws.FnExactIsPrime", spec := "fnExactIsPrime", apart := false, narrowed := true }
def FnExactIsPrimeUptoSaid : Prop := fnExactIsPrimeUptoRow.holds Try.pinned (OpenSpec.upto fnExactIsPrimeSpec)

/-- 'laws.FnExactPrimesOf', WHERE WHAT IT READS IS OF BULK AT MOST 1048576: true; the input reads as it did. -/
def fnExactPrimesOfUptoRow : OpenClaim := { program := "ytmkhkojefjdbbaa", sum := "885f26e9143bfebad29b6d2bccc422801953015339ed3ec203e18d3cce70d40c", func := "loop.example/g00921/laws.FnExactPrimesOf", spec := "fnExactPrimesOf", apart := false, narrowed := true }
def FnExactPrimesOfUptoSaid : Prop := fnExactPrimesOfUptoRow.holds Try.pinned (OpenSpec.upto fnExactPrimesOfSpec)

/-- 'laws.FnExactValidTrain', WHERE WHAT IT READS IS OF BULK AT MOST 1048576: true; the input reads as it did. -/
def fnExactValidTrainUptoRow : OpenClaim := { program := "ytmkhkojefjdbbaa", sum := "885f26e9143bfebad29b6d2bccc422801953015339ed3ec203e18d3cce70d40c", func := "loop.example/g00921/laws.FnExactValidTrain", spec := "fnExactValidTrain", apart := false, narrowed := true }
def FnExactValidTrainUptoSaid : Prop := fnExactValidTrainUptoRow.holds Try.pinned (OpenSpec.upto fnExactValidTrainSpec)

/-- 'laws.FnExactSameTrain', WHERE WHAT IT READS IS OF BULK AT MOST 1048576: true; the input reads as it did. -/
def fnExactSameTrainUptoRow : OpenClaim := { program := "ytmkhkojefjdbbaa", sum := "885f26e9143bfebad29b6d2bccc422801953015339ed3ec203e18d3cce70d40c", func := "loop.example/g00921/laws.FnExactSameTrain", spec := "fnExactSameTrain", apart := false, narrowed := true }
def FnExactSameTrainUptoSaid : Prop := fnExactSameTrainUptoRow.holds Try.pinned (OpenSpec.upto fnExactSameTrainSpec)

end Rows
end Go.Proofs.Ytmkhkojefjdbbaa
