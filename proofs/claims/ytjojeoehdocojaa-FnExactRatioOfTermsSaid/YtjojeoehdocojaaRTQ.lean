/-
  The walk of RatioOfTerms's law.
-/
import Derived.Test.YtjojeoehdocojaaRTI
namespace Go.Proofs.Ytjojeoehdocojaa
open Go.RowKit

theorem walk_FnExactRatioOfTerms (a : Option Addr) (len cap : Nat) (zs : List Int) (w : World) (h : IsRow .i64 w a len cap zs) :
    Calls Try.prog 4 #[.slice a len cap] w fun e w' => e = .returned (.bool true) ∧ Below w.heap.size w w' := by
  obtain ⟨L, rfl, hm, hr, hbd0⟩ := row_reads h
  clear h
  unfold maxLen at hm
  by_cases hl : L.length ≤ 1048576
  · have hbd : ∀ j, j < L.length → -9223372036854775808 ≤ L.getD j 0 ∧ L.getD j 0 ≤ 9223372036854775807 := fun j hj => by
      rw [List.getD_eq_getElem?_getD, List.getElem?_eq_getElem hj]
      exact hbd0 _ (List.getElem_mem hj)
    have HBD := hide hbd
    have hdd := hide (decide_eq_true (rfl : L = L))
    have HR := hide hr
    have hml : L.length ≤ maxLen := by unfold maxLen; omega
    have hml' := hide hml
    clear hr hbd hbd0 hm hml
    have hc : (rtC L != rtC L) = false := by simp
    have hq := hide (eqR_refl (rtN L) (rtD L))
    go_enter Try.func4, Try.ntmps4
    go_wp2_with fail
    refine (toInt64S_any a L cap _ HR.out hl).mono ?_
    rintro e w1 ⟨g1, rfl, o1, b1⟩
    go_wp2_with fail
    refine (specRatioOfTerms_any _ L _ _ o1.reads (by omega) HBD.out).mono ?_
    rintro e w2 ⟨rfl, b2⟩
    have B2 := hide (balloc (bstep b1 b2) (.cells #[.int .i64 (rtN L), .int .i64 (rtD L)] 27))
    have C2 := hide (cell2_new (w := w2) (u := .int .i64 (rtN L)) (v := .int .i64 (rtD L)) 27)
    clear b1 b2 o1
    go_wp2_with fail
    refine (toInt64S_any a L cap _ (HR.out.below B2.out) hl).mono ?_
    rintro e w3 ⟨g3, rfl, o3, b3⟩
    have B3 := hide (bstep B2.out b3)
    have C3 := hide (C2.out.below b3)
    clear b3
    go_wp2_with fail
    refine (implRatioOfTerms_any _ L _ _ o3.reads (by omega) ⟨Nat.le_refl _, hml'.out⟩ HBD.out).mono ?_
    rintro e w4 ⟨rfl, b4⟩
    have B4 := hide (balloc (bstep B3.out b4) (.cells #[.int .i64 (rtN L), .int .i64 (rtD L)] 27))
    have O4 := hide ((o3.below b4).below (balloc (Below.refl _ _) (.cells #[.int .i64 (rtN L), .int .i64 (rtD L)] 27)))
    obtain ⟨z0, z1, z2, z3⟩ := C3.out.below b4
    have hz := (C3.out.below b4).lt
    clear b4 o3
    go_wp2_with fail
    refine (eqRatio_any _ _ _ _ _).mono ?_
    rintro e w5 ⟨rfl, b5⟩
    rw [hq.out]
    have B5 := hide (bstep B4.out b5)
    have O5 := hide (O4.out.below b5)
    clear b5
    go_wp2_with fail
    refine (toInt64S_any a L cap _ (HR.out.below B5.out) hl).mono ?_
    rintro e w6 ⟨g6, rfl, o6, b6⟩
    have B6 := hide (bstep B5.out b6)
    have O6 := hide (O5.out.below b6)
    clear b6
    go_wp2_with fail
    refine (eqInt64S_any _ _ L L _ _ _ O6.out o6).mono ?_
    rintro e w7 ⟨rfl, b7⟩
    have hd := hdd.out
    go_wp2_with fail
    go_ret
    exact ⟨rfl, bstep B6.out b7⟩
  · go_enter Try.func4, Try.ntmps4
    go_wp2_with fail
    go_ret
    exact ⟨rfl, Below.refl _ _⟩
end Go.Proofs.Ytjojeoehdocojaa
