/-
  Compare and Scale: contracts and the walks of their laws.
-/
import Derived.Test.YtnlimfijepjliaaDoorRound
import Derived.Test.YtnlimfijepjliaaDoorOps
namespace Go.Proofs.YtnlimfijepjliaaDoor
open Go.RowKit

theorem order_any (a b c d : Int) (w : World) (va : -1000000000 ≤ a ∧ a ≤ 1000000000) (vb : 1 ≤ b ∧ b ≤ 1000000000) (vc : -1000000000 ≤ c ∧ c ≤ 1000000000) (vd : 1 ≤ d ∧ d ≤ 1000000000) :
    Calls Tryd.prog 72 #[.agg #[.int .i64 a, .int .i64 b], .agg #[.int .i64 c, .int .i64 d]] w fun e w' => e = .returned (.int .i64 (cmpI a b c d)) ∧ Below w.heap.size w w' := by
  have m1 := mulB a d va (by omega)
  have m2 := mulB c b vc (by omega)
  by_cases h1 : a * d < c * b
  · have e : cmpI a b c d = -1 := by unfold cmpI; rw [if_pos h1]
    rw [e]
    clear e
    go_enter Tryd.func72, Tryd.ntmps72
    go_wp2
    go_quiet (fail)
    go_wp2
    go_ret
    exact ⟨rfl, by repeat (first | exact Below.refl _ _ | refine balloc ?_ _ | refine bdrewN ?_ _)⟩
  · by_cases h2 : c * b < a * d
    · have e : cmpI a b c d = 1 := by unfold cmpI; rw [if_neg h1, if_pos h2]
      rw [e]
      clear e
      go_enter Tryd.func72, Tryd.ntmps72
      go_wp2
      go_quiet (fail)
      go_wp2
      go_ret
      exact ⟨rfl, by repeat (first | exact Below.refl _ _ | refine balloc ?_ _ | refine bdrewN ?_ _)⟩
    · have e : cmpI a b c d = 0 := by unfold cmpI; rw [if_neg h1, if_neg h2]
      rw [e]
      clear e
      go_enter Tryd.func72, Tryd.ntmps72
      go_wp2
      go_quiet (fail)
      go_wp2
      go_ret
      exact ⟨rfl, by repeat (first | exact Below.refl _ _ | refine balloc ?_ _ | refine bdrewN ?_ _)⟩
theorem implCompareRatio_any (a b c d : Int) (w : World) :
    Calls Tryd.prog 41 #[.agg #[.int .i64 a, .int .i64 b], .agg #[.int .i64 c, .int .i64 d]] w fun e w' => e = .returned (.int .i64 (cmpR a b c d)) ∧ Below w.heap.size w w' := by
  cases h1 : validR a b
  · have e1 : cmpR a b c d = 0 := by unfold cmpR; rw [both_f1 h1]; rfl
    rw [e1]
    clear e1
    go_enter Tryd.func41, Tryd.ntmps41
    go_wp2_with fail
    refine (implValidRatio_any a b _).mono ?_
    rintro e w1 ⟨rfl, hb1⟩
    have hy1 : w.heap.size + 1 < w1.heap.size := by have := hb1.size; simp at this; omega
    have hx1 : w.heap.size < w1.heap.size := by omega
    obtain ⟨hc1, hf1⟩ := bcell hb1
    go_wp2_with fail
    go_ret
    exact ⟨rfl, bstep (balloc (balloc (Below.refl _ _) _) _) hb1⟩
  · cases h2 : validR c d
    · have e1 : cmpR a b c d = 0 := by unfold cmpR; rw [both_f2 h2]; rfl
      rw [e1]
      clear e1
      go_enter Tryd.func41, Tryd.ntmps41
      go_wp2_with fail
      refine (implValidRatio_any a b _).mono ?_
      rintro e w1 ⟨rfl, hb1⟩
      have hy1 : w.heap.size + 1 < w1.heap.size := by have := hb1.size; simp at this; omega
      have hx1 : w.heap.size < w1.heap.size := by omega
      obtain ⟨hc1, hf1⟩ := bcell hb1
      go_wp2_with fail
      refine (implValidRatio_any c d _).mono ?_
      rintro e w2 ⟨rfl, hb2⟩
      go_wp2_with fail
      go_ret
      exact ⟨rfl, bstep (bstep (balloc (balloc (Below.refl _ _) _) _) hb1) hb2⟩
    · have e1 : cmpR a b c d = cmpI a b c d := by unfold cmpR; rw [both_tt h1 h2]; rfl
      rw [e1]
      clear e1
      obtain ⟨v1, v2, _⟩ := validR_true h1
      obtain ⟨v3, v4, _⟩ := validR_true h2
      go_enter Tryd.func41, Tryd.ntmps41
      go_wp2_with fail
      refine (implValidRatio_any a b _).mono ?_
      rintro e w1 ⟨rfl, hb1⟩
      have hy1 : w.heap.size + 1 < w1.heap.size := by have := hb1.size; simp at this; omega
      have hx1 : w.heap.size < w1.heap.size := by omega
      obtain ⟨hc1, hf1⟩ := bcell hb1
      go_wp2_with fail
      refine (implValidRatio_any c d _).mono ?_
      rintro e w2 ⟨rfl, hb2⟩
      obtain ⟨hc2, hf2⟩ := bcell hb2
      go_wp2_with fail
      refine (order_any a b c d _ v2 v1 v4 v3).mono ?_
      rintro e w3 ⟨rfl, hb3⟩
      go_wp2_with fail
      go_ret
      exact ⟨rfl, bstep (bstep (bstep (balloc (balloc (Below.refl _ _) _) _) hb1) hb2) hb3⟩
end Go.Proofs.YtnlimfijepjliaaDoor
