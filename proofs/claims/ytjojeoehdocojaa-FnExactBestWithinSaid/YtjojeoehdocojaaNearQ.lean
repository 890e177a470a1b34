/-
  The walks of the laws of NeighboursOf and BestWithin.
-/
import Derived.Test.YtjojeoehdocojaaBest
namespace Go.Proofs.Ytjojeoehdocojaa
open Go.RowKit

set_option maxHeartbeats 1000000 in
theorem walk_FnExactNeighboursOf (a b : Int) (m : Int) (w : World) (_h0 : -9223372036854775808 ≤ a ∧ a ≤ 9223372036854775807) (_h1 : -9223372036854775808 ≤ b ∧ b ≤ 9223372036854775807) (_h2 : -9223372036854775808 ≤ m ∧ m ≤ 9223372036854775807) :
    Calls Try.prog 7 #[.agg #[.int .i64 a, .int .i64 b], .int .i64 m] w fun e w' => e = .returned (.bool true) ∧ Below w.heap.size w w' := by
  have K0 := hide (cell2_new (w := w) (u := .int .i64 a) (v := .int .i64 b) 23)
  have B0 := hide (balloc (Below.refl w.heap.size w) (.cells #[.int .i64 a, .int .i64 b] 23))
  go_enter Try.func7, Try.ntmps7
  go_wp2_with fail
  refine (toRatio_any a b _).mono ?_
  rintro e w1 ⟨rfl, hb1⟩
  have K1 := hide (K0.out.below hb1)
  have B1 := hide (bstep B0.out hb1)
  clear hb1
  go_wp2_with fail
  refine (specNeighboursOf_any a b m _).mono ?_
  rintro e w2 ⟨⟨r1, r2, r3, r4, c, hn, rfl⟩, hb2⟩
  have HN := hide hn
  have hlt : w.heap.size < w2.heap.size := (K1.out.below hb2).lt
  have hlt2 : w.heap.size < w2.heap.size + 1 := by omega
  have K2 := hide (((K1.out.below hb2).alloc (.cells #[.int .i64 r1, .int .i64 r2] 27)).alloc (.cells #[.int .i64 r3, .int .i64 r4] 27))
  have TC := hide (two_cells (w := w2) (.int .i64 r1) (.int .i64 r2) (.int .i64 r3) (.int .i64 r4) 27 27)
  have B2 := hide (balloc (balloc (bstep B1.out hb2) (.cells #[.int .i64 r1, .int .i64 r2] 27)) (.cells #[.int .i64 r3, .int .i64 r4] 27))
  obtain ⟨k0, k1, k2, k3⟩ := K1.out.below hb2
  clear hb2 hn
  go_wp2_with fail
  refine (toRatio_any a b _).mono ?_
  rintro e w3 ⟨rfl, hb3⟩
  have B3 := hide (bstep B2.out hb3)
  have T1 := hide (TC.out.1.below hb3)
  have T2 := hide (TC.out.2.below hb3)
  clear hb3 k0 k1 k2 k3
  go_wp2_with fail
  refine (implNeighboursOf_any a b m _).mono ?_
  rintro e w4 ⟨⟨s1, s2, s3, s4, c', hn, rfl⟩, hb4⟩
  obtain ⟨rfl, rfl, rfl, rfl, rfl⟩ := nbRes_unique HN.out hn
  have T3 := hide (((T1.out.below hb4).alloc (.cells #[.int .i64 r1, .int .i64 r2] 27)).alloc (.cells #[.int .i64 r3, .int .i64 r4] 27))
  have T4 := hide (((T2.out.below hb4).alloc (.cells #[.int .i64 r1, .int .i64 r2] 27)).alloc (.cells #[.int .i64 r3, .int .i64 r4] 27))
  have TC2 := hide (two_cells (w := w4) (.int .i64 r1) (.int .i64 r2) (.int .i64 r3) (.int .i64 r4) 27 27)
  have hl3 : w2.heap.size < w4.heap.size := (T1.out.below hb4).lt
  have hl4 : w2.heap.size + 1 < w4.heap.size := (T2.out.below hb4).lt
  have B4 := hide (balloc (balloc (bstep B3.out hb4) (.cells #[.int .i64 r1, .int .i64 r2] 27)) (.cells #[.int .i64 r3, .int .i64 r4] 27))
  obtain ⟨k0, k1, k2, k3⟩ := T1.out.below hb4
  clear hb4 hn
  go_wp2_with fail
  refine (eqRatio_any _ _ _ _ _).mono ?_
  rintro e w5 ⟨rfl, hb5⟩
  rw [eqR_refl]
  have B5 := hide (bstep B4.out hb5)
  clear k0 k1 k2 k3
  obtain ⟨k0, k1, k2, k3⟩ := T4.out.below hb5
  obtain ⟨k4, k5, k6, k7⟩ := TC2.out.2.below hb5
  clear hb5
  go_wp2_with fail
  refine (eqRatio_any _ _ _ _ _).mono ?_
  rintro e w6 ⟨rfl, hb6⟩
  rw [eqR_refl]
  have hcc : (c != c) = false := by simp
  go_wp2_with fail
  go_ret
  exact ⟨rfl, bstep B5.out hb6⟩
set_option maxHeartbeats 1000000 in
theorem walk_FnExactBestWithin (a b : Int) (m : Int) (w : World) (_h0 : -9223372036854775808 ≤ a ∧ a ≤ 9223372036854775807) (_h1 : -9223372036854775808 ≤ b ∧ b ≤ 9223372036854775807) (_h2 : -9223372036854775808 ≤ m ∧ m ≤ 9223372036854775807) :
    Calls Try.prog 8 #[.agg #[.int .i64 a, .int .i64 b], .int .i64 m] w fun e w' => e = .returned (.bool true) ∧ Below w.heap.size w w' := by
  have K0 := hide (cell2_new (w := w) (u := .int .i64 a) (v := .int .i64 b) 23)
  have B0 := hide (balloc (Below.refl w.heap.size w) (.cells #[.int .i64 a, .int .i64 b] 23))
  go_enter Try.func8, Try.ntmps8
  go_wp2_with fail
  refine (toRatio_any a b _).mono ?_
  rintro e w1 ⟨rfl, hb1⟩
  have K1 := hide (K0.out.below hb1)
  have B1 := hide (bstep B0.out hb1)
  clear hb1
  go_wp2_with fail
  refine (specBestWithin_any a b m _).mono ?_
  rintro e w2 ⟨⟨r1, r2, c, hn, rfl⟩, hb2⟩
  have HN := hide hn
  have hlt : w.heap.size < w2.heap.size := (K1.out.below hb2).lt
  have T0 := hide (cell2_new (w := w2) (u := .int .i64 r1) (v := .int .i64 r2) 27)
  have B2 := hide (balloc (bstep B1.out hb2) (.cells #[.int .i64 r1, .int .i64 r2] 27))
  obtain ⟨k0, k1, k2, k3⟩ := K1.out.below hb2
  clear hb2 hn
  go_wp2_with fail
  refine (toRatio_any a b _).mono ?_
  rintro e w3 ⟨rfl, hb3⟩
  have B3 := hide (bstep B2.out hb3)
  have T1 := hide (T0.out.below hb3)
  clear hb3 k0 k1 k2 k3
  go_wp2_with fail
  refine (implBestWithin_any a b m _).mono ?_
  rintro e w4 ⟨⟨s1, s2, c', hn, rfl⟩, hb4⟩
  obtain ⟨rfl, rfl, rfl⟩ := bwRes_unique HN.out hn
  have hl3 : w2.heap.size < w4.heap.size := (T1.out.below hb4).lt
  have B4 := hide (balloc (bstep B3.out hb4) (.cells #[.int .i64 r1, .int .i64 r2] 27))
  obtain ⟨k0, k1, k2, k3⟩ := T1.out.below hb4
  clear hb4 hn
  go_wp2_with fail
  refine (eqRatio_any _ _ _ _ _).mono ?_
  rintro e w5 ⟨rfl, hb5⟩
  rw [eqR_refl]
  have hcc : (c != c) = false := by simp
  go_wp2_with fail
  go_ret
  exact ⟨rfl, bstep B4.out hb5⟩
end Go.Proofs.Ytjojeoehdocojaa
