/-
  The walks of ValidRatio's and MakeRatio's laws.
-/
import Derived.Test.YtodldgnepiafaaaRatioX
namespace Go.Proofs.Ytodldgnepiafaaa
open Go.RowKit

theorem walk_FnExactValidRatio (a b : Int) (w : World) (_h0 : -9223372036854775808 ≤ a ∧ a ≤ 9223372036854775807) (_h1 : -9223372036854775808 ≤ b ∧ b ≤ 9223372036854775807) :
    Calls Try.prog 3 #[.agg #[.int .i64 a, .int .i64 b]] w fun e w' => e = .returned (.bool true) ∧ Below w.heap.size w w' := by
  go_enter Try.func3, Try.ntmps3
  go_wp2_with fail
  refine (toRatio_any a b _).mono ?_
  rintro e w1 ⟨rfl, hb1⟩
  obtain ⟨hc1, hf1⟩ := bcell hb1
  have hz1 : w.heap.size < w1.heap.size := by have := hb1.size; simp at this; omega
  go_wp2_with fail
  refine (specValidRatio_any a b _).mono ?_
  rintro e w2 ⟨rfl, hb2⟩
  obtain ⟨hc2, hf2⟩ := bcell hb2
  go_wp2_with fail
  refine (toRatio_any a b _).mono ?_
  rintro e w3 ⟨rfl, hb3⟩
  go_wp2_with fail
  refine (implValidRatio_any a b _).mono ?_
  rintro e w4 ⟨rfl, hb4⟩
  go_wp2_with fail
  go_ret
  exact ⟨rfl, bstep (bstep (bstep (bstep (balloc (Below.refl _ _) _) hb1) hb2) hb3) hb4⟩
theorem walk_FnExactMakeRatio (a0 a1 : Int) (w : World) (h0 : -9223372036854775808 ≤ a0 ∧ a0 ≤ 9223372036854775807) (h1 : -9223372036854775808 ≤ a1 ∧ a1 ≤ 9223372036854775807) :
    Calls Try.prog 4 #[.int .i64 a0, .int .i64 a1] w fun e w' => e = .returned (.bool true) ∧ Below w.heap.size w w' := by
  go_enter Try.func4, Try.ntmps4
  go_wp2_with fail
  refine (specMakeRatio_any _ _ _ h0 h1).mono ?_
  rintro e w1 ⟨rfl, hb1⟩
  go_wp2_with fail
  refine (implMakeRatio_any _ _ _ h0 h1).mono ?_
  rintro e w2 ⟨rfl, hb2⟩
  obtain ⟨hc2, hf2⟩ := bcell hb2
  have hz2 : w1.heap.size < w2.heap.size := by have := hb2.size; simp at this; omega
  go_wp2_with fail
  refine (eqRatio_any _ _ _ _ _).mono ?_
  rintro e w3 ⟨rfl, hb3⟩
  have hq := eqR_refl (mrN a0 a1) (mrD a0 a1)
  go_wp2_with fail
  go_ret
  exact ⟨rfl, bstep (balloc (bstep (balloc hb1 _) hb2) _) hb3⟩
end Go.Proofs.Ytodldgnepiafaaa
