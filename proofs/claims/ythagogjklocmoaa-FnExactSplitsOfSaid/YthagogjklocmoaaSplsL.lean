/-
  SplitsOf: the walk of its law.
-/
import Derived.Test.YthagogjklocmoaaSplsQ
import Derived.Test.YthagogjklocmoaaRowsW
namespace Go.Proofs.Ythagogjklocmoaa
open Go.RowKit

set_option maxHeartbeats 1000000 in
theorem walk_FnExactSplitsOf (a0 a1 a2 a3 : Int) (w : World) (_h0 : -9223372036854775808 ≤ a0 ∧ a0 ≤ 9223372036854775807) (_h1 : -9223372036854775808 ≤ a1 ∧ a1 ≤ 9223372036854775807) (_h2 : -9223372036854775808 ≤ a2 ∧ a2 ≤ 9223372036854775807) (_h3 : -9223372036854775808 ≤ a3 ∧ a3 ≤ 9223372036854775807) :
    Calls Try.prog 5 #[.int .i64 a0, .int .i64 a1, .int .i64 a2, .int .i64 a3] w fun e w' => e = .returned (.bool true) ∧ Below w.heap.size w w' := by
  have hlen := soL_len a0 a1 a2 a3
  have htot := soL_tot a0 a1 a2 a3
  have C1 := hide (specSplitsOf_any a0 a1 a2 a3)
  have C2 := hide (implSplitsOf_any a0 a1 a2 a3)
  obtain ⟨L, hL⟩ : ∃ L, L = soL a0 a1 a2 a3 := ⟨_, rfl⟩
  obtain ⟨y, hy⟩ : ∃ y, y = soC a0 a1 a2 a3 := ⟨_, rfl⟩
  rw [← hL] at hlen htot
  rw [← hL, ← hy] at C1 C2
  clear hL hy
  obtain ⟨m, hm⟩ : ∃ m, m = L.length := ⟨_, rfl⟩
  have HM := hide hm
  rw [← hm] at hlen
  unfold SoPost at C1 C2
  rw [← hm] at C1 C2
  clear hm
  obtain ⟨t, ht⟩ : ∃ t, t = tot L := ⟨_, rfl⟩
  have HT := hide ht
  rw [← ht] at htot
  clear ht
  go_enter Try.func5, Try.ntmps5
  go_wp2_with fail
  refine (C1.out _).mono ?_
  rintro e w1 ⟨x1, d1, es1, rfl, o1, b1⟩
  have D1 := hide b1
  have O1 := hide o1
  clear o1 b1
  go_wp2_with fail
  refine (C2.out _).mono ?_
  rintro e w2 ⟨x2, d2, es2, rfl, o2, b2⟩
  have F2 := hide b2
  have O2 := hide o2
  clear o2 b2
  go_wp2_with fail
  refine (eqInt64SS_any L es2 es1 _ _ _ _ m _ _ _ HM.out O2.out (O1.out.below F2.out) (by omega)).mono ?_
  rintro e w3 ⟨rfl, b3⟩
  have F3 := hide (bstep F2.out b3)
  have O3 := hide (O2.out.below b3)
  clear b3
  go_wp2_with fail
  refine (markInt64SS_any L es2 _ _ m _ _ HM.out O3.out (by omega) (by have := HT.out; omega) F3.out.size).mono ?_
  rintro e w4 ⟨rfl, rows', hmk, o4, b4⟩
  have HK := hide hmk
  have O4 := hide o4
  have F4 := hide (F3.out.trans b4)
  rw [← HT.out]
  clear hmk o4 b4
  go_wp2_with fail
  refine (heldInt64SS_any L rows' es2 _ _ m _ _ HM.out HK.out O4.out (by omega) (by have := HT.out; omega)).mono ?_
  rintro e w5 ⟨rfl, b5⟩
  have F5 := hide (bstep F4.out b5)
  have O5 := hide (O4.out.below b5)
  have hpos : ¬ (1 + (t : Int) < 0) := by omega
  rw [← HT.out]
  clear b5
  go_wp2_with fail
  refine (C2.out _).mono ?_
  rintro e w6 ⟨x3, d3, es3, rfl, o6, b6⟩
  have O6 := hide o6
  have F6 := hide (bstep F5.out b6)
  have O56 := hide (O5.out.below b6)
  clear o6 b6
  go_wp2_with fail
  refine (eqInt64SS_any L es3 es1 _ _ _ _ m _ _ _ HM.out O6.out (O1.out.below F6.out) (by omega)).mono ?_
  rintro e w7 ⟨rfl, b7⟩
  have F7 := hide (bstep F6.out b7)
  have O57 := hide (O56.out.below b7)
  clear b7
  go_wp2_with fail
  refine (heldInt64SS_any L rows' es2 _ _ m _ _ HM.out HK.out O57.out (by omega) (by have := HT.out; omega)).mono ?_
  rintro e w8 ⟨rfl, b8⟩
  have F8 := hide (bstep D1.out (bstep F7.out b8))
  rw [← HT.out]
  clear b8
  go_wp2_with fail
  go_ret
  exact ⟨rfl, F8.out⟩
end Go.Proofs.Ythagogjklocmoaa
