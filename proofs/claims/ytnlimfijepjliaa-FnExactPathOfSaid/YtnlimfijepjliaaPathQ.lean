/-
  PathOf: the walk of its law.
-/
import Derived.Test.YtnlimfijepjliaaPathI
namespace Go.Proofs.Ytnlimfijepjliaa
open Go.RowKit

theorem walk_FnExactPathOf (a b : Int) (w : World) (_ha : -9223372036854775808 ≤ a ∧ a ≤ 9223372036854775807) (_hb : -9223372036854775808 ≤ b ∧ b ≤ 9223372036854775807) :
    Calls Try.prog 3 #[.agg #[.int .i64 a, .int .i64 b]] w fun e w' => e = .returned (.bool true) ∧ Below w.heap.size w w' := by
  have C1 := hide (fun w => specPathOf_any a b w)
  have C2 := hide (fun w => implPathOf_any a b w)
  obtain ⟨s, hs⟩ : ∃ s : ByteArray, s = ⟨(pathV a b).toArray⟩ := ⟨_, rfl⟩
  obtain ⟨c, hc⟩ : ∃ c, c = pathC a b := ⟨_, rfl⟩
  rw [← hs, ← hc] at C1 C2
  have K0 := hide (cell2_new (w := w) (u := .int .i64 a) (v := .int .i64 b) 23)
  have s1 : (s.toList != s.toList) = false := by simp
  clear hs hc _ha _hb
  go_enter Try.func3, Try.ntmps3
  go_wp2_with fail
  refine (toRatio_any a b _).mono ?_
  rintro e w1 ⟨rfl, hb1⟩
  have B1 := hide (bstep (balloc (Below.refl w.heap.size w) (.cells #[.int .i64 a, .int .i64 b] 23)) hb1)
  have K1 := hide (K0.out.below hb1)
  clear hb1
  go_wp2_with fail
  refine (C1.out _).mono ?_
  rintro e w2 ⟨rfl, hb2⟩
  have B2 := hide (bstep B1.out hb2)
  obtain ⟨k0, k1, k2, k3⟩ := K1.out.below hb2
  clear hb2
  go_wp2_with fail
  refine (toRatio_any a b _).mono ?_
  rintro e w3 ⟨rfl, hb3⟩
  have B3 := hide (bstep B2.out hb3)
  clear hb3 k0 k1 k2 k3
  go_wp2_with fail
  refine (C2.out _).mono ?_
  rintro e w4 ⟨rfl, hb4⟩
  have B4 := hide (bstep B3.out hb4)
  clear hb4
  go_wp2_with fail
  go_ret
  exact ⟨rfl, B4.out⟩
end Go.Proofs.Ytnlimfijepjliaa
