/-
  Contracts over ratios: validity, the reduced ratio, MakeRatio, and the walks of ValidRatio's and MakeRatio's laws.
-/
import Derived.Test.YtnlimfijepjliaaInts
import Derived.Test.YtnlimfijepjliaaRatio
namespace Go.Proofs.Ytnlimfijepjliaa
open Go.RowKit

theorem l02Size_any (n : Int) (w : World) (h : -4000000000000000000 ≤ n ∧ n ≤ 4000000000000000000) : Calls Try.prog 16 #[.int .i64 n] w fun e w' => e = .returned (.int .i64 (absI n)) ∧ w = w' := by
  by_cases hn : n < 0
  · go_enter Try.func16, Try.ntmps16
    go_wp2
    go_ret
    exact ⟨ret_int (absI_of_neg hn).symm, rfl⟩
  · go_enter Try.func16, Try.ntmps16
    go_wp2
    go_ret
    exact ⟨ret_int (absI_of_nonneg (by omega)).symm, rfl⟩
end Go.Proofs.Ytnlimfijepjliaa
