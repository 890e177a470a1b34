/-
  Decimal: contracts of both functions, and the walk of its law, over the library's table of powers of ten.
-/
import Derived.Test.YtnlimfijepjliaaDoorDec
import Derived.Test.YtnlimfijepjliaaDoorShelf
import Derived.Test.YtnlimfijepjliaaDoorRows
import Derived.Lib.AppendIntMem
import Derived.Lib.LaidTab
import Derived.Stop.LaidErr
import Derived.OpenShut
import Derived.LaidMore
import Derived.MakeChecks
namespace Go.Proofs.YtnlimfijepjliaaDoor
open Go.RowKit

/-- The library's table of powers of ten lies as the library lays it. -/
def TabB (w : World) : Prop := Lib.TabIs Tryd.prog w "internal/strconv.uint64pow10" .u64 Lib.pow10Tab
theorem TabB.below {w w' : World} (h : TabB w) (hb : Below w.heap.size w w') : TabB w' := Lib.tabBelow_of_tabIs h w' hb
theorem below_growN (w : World) (n : Nat) (os : Array Obj) : Below w.heap.size w (Go.Sort.grow (w.drewN n) os) :=
  ⟨rfl, rfl, rfl, by show w.heap.size ≤ (w.heap ++ os).size; rw [Array.size_append]; omega, fun _ hj => Go.Sort.heap_grow_old (w.drewN n) os hj⟩
theorem gP10 : Tryd.prog.globalNamed "internal/strconv.uint64pow10" = some 0 := by kernel_rfl
theorem tP10 : (Tryd.prog.globals[0]?).map (·.type) = some 145 := by kernel_rfl
theorem tab_head {W : World} {rest : List (String × DataW Unit)} (h : laidMet Tryd.prog (("internal/strconv.uint64pow10", Rows.laid_internal_strconv_uint64pow10) :: rest) W) : TabB W :=
  Lib.tabIs_of_head gP10 tP10 Tryd.underlying145 Tryd.underlying101 (by kernel_rfl) (by kernel_rfl) (show laidMet Tryd.prog (("internal/strconv.uint64pow10", Lib.tabData .u64 Lib.pow10Tab) :: rest) W from h)
theorem implDecimal_any (n : Int) (w : World) (h1 : -9223372036854775808 ≤ n) (h2 : n ≤ 9223372036854775807) (ht : TabB w) :
    Calls Tryd.prog 14 #[.int .i64 n] w fun e w' => e = .returned (.string ⟨(Lib.itoa n).toArray⟩) ∧ Below w.heap.size w w' := by
  have HT := hide ht
  clear ht
  go_enter Tryd.func14, Tryd.ntmps14
  go_wp2_with fail
  refine (Tryd.strconv_FormatInt_10 n h1 h2 _ HT.out).mono ?_
  rintro e w1 ⟨rfl, k, os, rfl⟩
  have HB := hide (below_growN w k os)
  go_wp2_with fail
  go_ret
  exact ⟨rfl, HB.out⟩
theorem specDecimal_any (n : Int) (w : World) (h1 : -9223372036854775808 ≤ n) (h2 : n ≤ 9223372036854775807) :
    Calls Tryd.prog 13 #[.int .i64 n] w fun e w' => e = .returned (.string ⟨(Lib.itoa n).toArray⟩) ∧ Below w.heap.size w w' := by
  go_enter Tryd.func13, Tryd.ntmps13
  go_wp2_with fail
  refine (l01Dec_any n _ h1 h2).mono ?_
  rintro e w1 ⟨rfl, hb⟩
  go_wp2_with fail
  go_ret
  exact ⟨rfl, hb⟩
theorem walk_FnExactDecimal (n : Int) (w : World) (hn : -9223372036854775808 ≤ n ∧ n ≤ 9223372036854775807) (hL : laidMetH Tryd.prog Rows.fnExactDecimalRow.laid w) :
    Calls Tryd.prog 3 #[.int .i64 n] w fun e w' => e = .returned (.bool true) ∧ Below w.heap.size w w' := by
  have hT : TabB w := by
    have h : laidMet Tryd.prog Rows.fnExactDecimalRow.laid w := by rwa [Go.MakeChecks.laidMetH_plain _ _ _ (by kernel_rfl)] at hL
    exact tab_head h.tail.tail
  have HT := hide hT
  have H1 := hide hn.1
  have H2 := hide hn.2
  obtain ⟨s, hs⟩ : ∃ s, s = Value.string ⟨(Lib.itoa n).toArray⟩ := ⟨_, rfl⟩
  clear hT hL hn
  go_enter Tryd.func3, Tryd.ntmps3
  go_wp2_with fail
  refine (specDecimal_any n _ H1.out H2.out).mono ?_
  rintro e w1 ⟨rfl, hb1⟩
  have HB := hide hb1
  have HT1 := hide (HT.out.below hb1)
  clear hb1
  go_wp2_with fail
  refine (implDecimal_any n _ H1.out H2.out HT1.out).mono ?_
  rintro e w2 ⟨rfl, hb2⟩
  have HB2 := hide (bstep HB.out hb2)
  clear hb2
  go_wp2_with fail
  go_ret
  exact ⟨rfl, HB2.out⟩
end Go.Proofs.YtnlimfijepjliaaDoor
