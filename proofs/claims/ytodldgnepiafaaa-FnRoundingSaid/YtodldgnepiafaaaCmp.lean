/-
  Compare and Scale: contracts and the walks of their laws.
-/
import Derived.Test.YtodldgnepiafaaaRound
import Derived.Test.YtodldgnepiafaaaOps
namespace Go.Proofs.Ytodldgnepiafaaa
open Go.RowKit

theorem l02Compare_any (a b c d : Int) (w : World) (va : -1000000000 ≤ a ∧ a ≤ 1000000000) (vb : 1 ≤ b ∧ b ≤ 1000000000) (vc : -1000000000 ≤ c ∧ c ≤ 1000000000) (vd : 1 ≤ d ∧ d ≤ 1000000000) :
    Calls Try.prog 52 #[.agg #[.int .i64 a, .int .i64 b], .agg #[.int .i64 c, .int .i64 d]] w fun e w' => e = .returned (.int .i64 (cmpI a b c d)) ∧ Below w.heap.size w w' := by
  have m1 := mulB a d va (by omega)
  have m2 := mulB c b vc (by omega)
  by_cases h1 : a * d < c * b
  · have e : cmpI a b c d = -1 := by unfold cmpI; rw [if_pos h1]
    rw [e]
    clear e
    go_enter Try.func52, Try.ntmps52
    go_wp2
    go_ret
    exact ⟨rfl, by repeat (first | exact Below.refl _ _ | refine balloc ?_ _ | refine bdrewN ?_ _)⟩
  · by_cases h2 : c * b < a * d
    · have e : cmpI a b c d = 1 := by unfold cmpI; rw [if_neg h1, if_pos h2]
      rw [e]
      clear e
      go_enter Try.func52, Try.ntmps52
      go_wp2
      go_ret
      exact ⟨rfl, by repeat (first | exact Below.refl _ _ | refine balloc ?_ _ | refine bdrewN ?_ _)⟩
    · have e : cmpI a b c d = 0 := by unfold cmpI; rw [if_neg h1, if_neg h2]
      rw [e]
      clear e
      go_enter Try.func52, Try.ntmps52
      go_wp2
      go_ret
      exact ⟨rfl, by repeat (first | exact Below.refl _ _ | refine balloc ?_ _ | refine bdrewN ?_ _)⟩
theorem order_any (a b c d : Int) (w : World) (va : -1000000000 ≤ a ∧ a ≤ 1000000000) (vb : 1 ≤ b ∧ b ≤ 1000000000) (vc : -1000000000 ≤ c ∧ c ≤ 1000000000) (vd : 1 ≤ d ∧ d ≤ 1000000000) :
    Calls Try.prog 53 #[.agg #[.int .i64 a, .int .i64 b], .agg #[.int .i64 c, .int .i64 d]] w fun e w' => e = .returned (.int .i64 (cmpI a b c d)) ∧ Below w.heap.size w w' := by
  have m1 := mulB a d va (by omega)
  have m2 := mulB c b vc (by omega)
  by_cases h1 : a * d < c * b
  · have e : cmpI a b c d = -1 := by unfold cmpI; rw [if_pos h1]
    rw [e]
    clear e
    go_enter Try.func53, Try.ntmps53
    go_wp2
    go_quiet (fail)
    go_wp2
    go_ret
    exact ⟨rfl, by repeat (first | exact Below.refl _ _ | refine balloc ?_ _ | refine bdrewN ?_ _)⟩
  · by_cases h2 : c * b < a * d
    · have e : cmpI a b c d = 1 := by unfold cmpI; rw [if_neg h1, if_pos h2]
      rw [e]
      clear e
      go_enter Try.func53, Try.ntmps53
      go_wp2
      go_quiet (fail)
      go_wp2
      go_ret
      exact ⟨rfl, by repeat (first | exact Below.refl _ _ | refine balloc ?_ _ | refine bdrewN ?_ _)⟩
    · have e : cmpI a b c d = 0 := by unfold cmpI; rw [if_neg h1, if_neg h2]
      rw [e]
      clear e
      go_enter Try.func53, Try.ntmps53
      go_wp2
      go_quiet (fail)
      go_wp2
      go_ret
      exact ⟨rfl, by repeat (first | exact Below.refl _ _ | refine balloc ?_ _ | refine bdrewN ?_ _)⟩
theorem specCompareRatio_any (a b c d : Int) (w : World) :
    Calls Try.prog 29 #[.agg #[.int .i64 a, .int .i64 b], .agg #[.int .i64 c, .int .i64 d]] w fun e w' => e = .returned (.int .i64 (cmpR a b c d)) ∧ Below w.heap.size w w' := by
  cases h1 : validR a b
  · have e1 : cmpR a b c d = 0 := by unfold cmpR; rw [both_f1 h1]; rfl
    rw [e1]
    clear e1
    go_enter Try.func29, Try.ntmps29
    go_wp2_with fail
    refine (l02Ok_any a b _).mono ?_
    rintro e w1 ⟨rfl, hb1⟩
    have hy1 : w.heap.size + 1 < w1.heap.size := by have := hb1.size; simp at this; omega
    have hx1 : w.heap.size < w1.heap.size := by omega
    obtain ⟨hc1, hf1⟩ := bcell hb1
    go_wp2_with fail
    go_ret
    exact ⟨rfl, bstep (balloc (balloc (Below.refl _ _) _) _) hb1⟩
  · cases h2 : validR c d
    · have e1 : cmpR a b c d = 0 := by unfold cmpR; rw [both_f2 h2]; rfl
      rw [e1]
      clear e1
      go_enter Try.func29, Try.ntmps29
      go_wp2_with fail
      refine (l02Ok_any a b _).mono ?_
      rintro e w1 ⟨rfl, hb1⟩
      have hy1 : w.heap.size + 1 < w1.heap.size := by have := hb1.size; simp at this; omega
      have hx1 : w.heap.size < w1.heap.size := by omega
      obtain ⟨hc1, hf1⟩ := bcell hb1
      go_wp2_with fail
      refine (l02Ok_any c d _).mono ?_
      rintro e w2 ⟨rfl, hb2⟩
      go_wp2_with fail
      go_ret
      exact ⟨rfl, bstep (bstep (balloc (balloc (Below.refl _ _) _) _) hb1) hb2⟩
    · have e1 : cmpR a b c d = cmpI a b c d := by unfold cmpR; rw [both_tt h1 h2]; rfl
      rw [e1]
      clear e1
      obtain ⟨v1, v2, _⟩ := validR_true h1
      obtain ⟨v3, v4, _⟩ := validR_true h2
      go_enter Try.func29, Try.ntmps29
      go_wp2_with fail
      refine (l02Ok_any a b _).mono ?_
      rintro e w1 ⟨rfl, hb1⟩
      have hy1 : w.heap.size + 1 < w1.heap.size := by have := hb1.size; simp at this; omega
      have hx1 : w.heap.size < w1.heap.size := by omega
      obtain ⟨hc1, hf1⟩ := bcell hb1
      go_wp2_with fail
      refine (l02Ok_any c d _).mono ?_
      rintro e w2 ⟨rfl, hb2⟩
      obtain ⟨hc2, hf2⟩ := bcell hb2
      go_wp2_with fail
      refine (l02Compare_any a b c d _ v2 v1 v4 v3).mono ?_
      rintro e w3 ⟨rfl, hb3⟩
      go_wp2_with fail
      go_ret
      exact ⟨rfl, bstep (bstep (bstep (balloc (balloc (Below.refl _ _) _) _) hb1) hb2) hb3⟩
theorem implCompareRatio_any (a b c d : Int) (w : World) :
    Calls Try.prog 30 #[.agg #[.int .i64 a, .int .i64 b], .agg #[.int .i64 c, .int .i64 d]] w fun e w' => e = .returned (.int .i64 (cmpR a b c d)) ∧ Below w.heap.size w w' := by
  cases h1 : validR a b
  · have e1 : cmpR a b c d = 0 := by unfold cmpR; rw [both_f1 h1]; rfl
    rw [e1]
    clear e1
    go_enter Try.func30, Try.ntmps30
    go_wp2_with fail
    refine (implValidRatio_any a b _).mono ?_
    rintro e w1 ⟨rfl, hb1⟩
    have hy1 : w.heap.size + 1 < w1.heap.size := by have := hb1.size; simp at this; omega
    have hx1 : w.heap.size < w1.heap.size := by omega
    obtain ⟨hc1, hf1⟩ := bcell hb1
    go_wp2_with fail
    go_ret
    exact ⟨rfl, bstep (balloc (balloc (Below.refl _ _) _) _) hb1⟩
  · cases h2 : validR c d
    · have e1 : cmpR a b c d = 0 := by unfold cmpR; rw [both_f2 h2]; rfl
      rw [e1]
      clear e1
      go_enter Try.func30, Try.ntmps30
      go_wp2_with fail
      refine (implValidRatio_any a b _).mono ?_
      rintro e w1 ⟨rfl, hb1⟩
      have hy1 : w.heap.size + 1 < w1.heap.size := by have := hb1.size; simp at this; omega
      have hx1 : w.heap.size < w1.heap.size := by omega
      obtain ⟨hc1, hf1⟩ := bcell hb1
      go_wp2_with fail
      refine (implValidRatio_any c d _).mono ?_
      rintro e w2 ⟨rfl, hb2⟩
      go_wp2_with fail
      go_ret
      exact ⟨rfl, bstep (bstep (balloc (balloc (Below.refl _ _) _) _) hb1) hb2⟩
    · have e1 : cmpR a b c d = cmpI a b c d := by unfold cmpR; rw [both_tt h1 h2]; rfl
      rw [e1]
      clear e1
      obtain ⟨v1, v2, _⟩ := validR_true h1
      obtain ⟨v3, v4, _⟩ := validR_true h2
      go_enter Try.func30, Try.ntmps30
      go_wp2_with fail
      refine (implValidRatio_any a b _).mono ?_
      rintro e w1 ⟨rfl, hb1⟩
      have hy1 : w.heap.size + 1 < w1.heap.size := by have := hb1.size; simp at this; omega
      have hx1 : w.heap.size < w1.heap.size := by omega
      obtain ⟨hc1, hf1⟩ := bcell hb1
      go_wp2_with fail
      refine (implValidRatio_any c d _).mono ?_
      rintro e w2 ⟨rfl, hb2⟩
      obtain ⟨hc2, hf2⟩ := bcell hb2
      go_wp2_with fail
      refine (order_any a b c d _ v2 v1 v4 v3).mono ?_
      rintro e w3 ⟨rfl, hb3⟩
      go_wp2_with fail
      go_ret
      exact ⟨rfl, bstep (bstep (bstep (balloc (balloc (Below.refl _ _) _) _) hb1) hb2) hb3⟩
theorem specScaleRatio_any (n a b : Int) (w : World) :
    Calls Try.prog 35 #[.int .i64 n, .agg #[.int .i64 a, .int .i64 b]] w fun e w' => e = .returned (.tuple #[.int .i64 (scale0 n a b), .int .i64 (scale1 n a b)]) ∧ Below w.heap.size w w' := by
  cases h1 : validR a b
  · have e1 : scale0 n a b = 0 := by unfold scale0; rw [both_f1 h1]; rfl
    have e2 : scale1 n a b = 1 := by unfold scale1; rw [h1]; rfl
    rw [e1, e2]
    clear e1 e2
    go_enter Try.func35, Try.ntmps35
    go_wp2_with fail
    refine (l02Ok_any a b _).mono ?_
    rintro e w1 ⟨rfl, hb1⟩
    have hx1 : w.heap.size < w1.heap.size := by have := hb1.size; simp at this; omega
    obtain ⟨hc1, hf1⟩ := bcell hb1
    go_wp2_with fail
    go_ret2
    exact ⟨rfl, bstep (balloc (Below.refl _ _) _) hb1⟩
  · cases h2 : inR n (-1000000000) 1000000000
    · have e1 : scale0 n a b = 0 := by unfold scale0; rw [both_f2 h2]; rfl
      have e2 : scale1 n a b = 2 := by unfold scale1; rw [h1, h2]; rfl
      rw [e1, e2]
      clear e1 e2
      go_enter Try.func35, Try.ntmps35
      go_wp2_with fail
      refine (l02Ok_any a b _).mono ?_
      rintro e w1 ⟨rfl, hb1⟩
      have hx1 : w.heap.size < w1.heap.size := by have := hb1.size; simp at this; omega
      obtain ⟨hc1, hf1⟩ := bcell hb1
      go_wp2_with fail
      refine (l00In_any _ _ _ _).mono ?_
      rintro e w2 ⟨rfl, rfl⟩
      go_wp2_with fail
      go_ret2
      exact ⟨rfl, bstep (balloc (Below.refl _ _) _) hb1⟩
    · have e1 : scale0 n a b = near (n * a) b := by unfold scale0; rw [both_tt h1 h2]; rfl
      have e2 : scale1 n a b = 0 := by unfold scale1; rw [h1, h2]; rfl
      rw [e1, e2]
      clear e1 e2
      obtain ⟨v1, v2, _⟩ := validR_true h1
      have v3 := inR_true h2
      have m1 := mulB n a v3 v2
      go_enter Try.func35, Try.ntmps35
      go_wp2_with fail
      refine (l02Ok_any a b _).mono ?_
      rintro e w1 ⟨rfl, hb1⟩
      have hx1 : w.heap.size < w1.heap.size := by have := hb1.size; simp at this; omega
      obtain ⟨hc1, hf1⟩ := bcell hb1
      go_wp2_with fail
      refine (l00In_any _ _ _ _).mono ?_
      rintro e w2 ⟨rfl, rfl⟩
      go_wp2_with fail
      refine (l02Near_any (n * a) b _ (by omega) (by omega)).mono ?_
      rintro e w3 ⟨rfl, rfl⟩
      go_wp2_with fail
      go_ret2
      exact ⟨rfl, bstep (balloc (Below.refl _ _) _) hb1⟩
theorem implScaleRatio_any (n a b : Int) (w : World) :
    Calls Try.prog 36 #[.int .i64 n, .agg #[.int .i64 a, .int .i64 b]] w fun e w' => e = .returned (.tuple #[.int .i64 (scale0 n a b), .int .i64 (scale1 n a b)]) ∧ Below w.heap.size w w' := by
  cases h1 : validR a b
  · have e1 : scale0 n a b = 0 := by unfold scale0; rw [both_f1 h1]; rfl
    have e2 : scale1 n a b = 1 := by unfold scale1; rw [h1]; rfl
    rw [e1, e2]
    clear e1 e2
    go_enter Try.func36, Try.ntmps36
    go_wp2_with fail
    refine (implValidRatio_any a b _).mono ?_
    rintro e w1 ⟨rfl, hb1⟩
    have hx1 : w.heap.size < w1.heap.size := by have := hb1.size; simp at this; omega
    obtain ⟨hc1, hf1⟩ := bcell hb1
    go_wp2_with fail
    go_ret2
    exact ⟨rfl, bstep (balloc (Below.refl _ _) _) hb1⟩
  · cases h2 : inR n (-1000000000) 1000000000
    · have e1 : scale0 n a b = 0 := by unfold scale0; rw [both_f2 h2]; rfl
      have e2 : scale1 n a b = 2 := by unfold scale1; rw [h1, h2]; rfl
      rw [e1, e2]
      clear e1 e2
      go_enter Try.func36, Try.ntmps36
      go_wp2_with fail
      refine (implValidRatio_any a b _).mono ?_
      rintro e w1 ⟨rfl, hb1⟩
      have hx1 : w.heap.size < w1.heap.size := by have := hb1.size; simp at this; omega
      obtain ⟨hc1, hf1⟩ := bcell hb1
      go_wp2_with fail
      refine (within_any _ _ _ _).mono ?_
      rintro e w2 ⟨rfl, rfl⟩
      go_wp2_with fail
      go_ret2
      exact ⟨rfl, bstep (balloc (Below.refl _ _) _) hb1⟩
    · have e1 : scale0 n a b = near (n * a) b := by unfold scale0; rw [both_tt h1 h2]; rfl
      have e2 : scale1 n a b = 0 := by unfold scale1; rw [h1, h2]; rfl
      rw [e1, e2]
      clear e1 e2
      obtain ⟨v1, v2, _⟩ := validR_true h1
      have v3 := inR_true h2
      have m1 := mulB n a v3 v2
      go_enter Try.func36, Try.ntmps36
      go_wp2_with fail
      refine (implValidRatio_any a b _).mono ?_
      rintro e w1 ⟨rfl, hb1⟩
      have hx1 : w.heap.size < w1.heap.size := by have := hb1.size; simp at this; omega
      obtain ⟨hc1, hf1⟩ := bcell hb1
      go_wp2_with fail
      refine (within_any _ _ _ _).mono ?_
      rintro e w2 ⟨rfl, rfl⟩
      go_wp2_with fail
      refine (nearestDiv_any (n * a) b _ (by omega) (by omega)).mono ?_
      rintro e w3 ⟨rfl, rfl⟩
      go_wp2_with fail
      go_ret2
      exact ⟨rfl, bstep (balloc (Below.refl _ _) _) hb1⟩
theorem walk_FnExactScaleRatio (n : Int) (a b : Int) (w : World) (_h : -9223372036854775808 ≤ n ∧ n ≤ 9223372036854775807) (_h0 : -9223372036854775808 ≤ a ∧ a ≤ 9223372036854775807) (_h1 : -9223372036854775808 ≤ b ∧ b ≤ 9223372036854775807) :
    Calls Try.prog 12 #[.int .i64 n, .agg #[.int .i64 a, .int .i64 b]] w fun e w' => e = .returned (.bool true) ∧ Below w.heap.size w w' := by
  go_enter Try.func12, Try.ntmps12
  go_wp2_with fail
  refine (toRatio_any a b _).mono ?_
  rintro e w1 ⟨rfl, hb1⟩
  obtain ⟨hc1, hf1⟩ := bcell hb1
  have hz1 : w.heap.size < w1.heap.size := by have := hb1.size; simp at this; omega
  go_wp2_with fail
  refine (specScaleRatio_any n a b _).mono ?_
  rintro e w2 ⟨rfl, hb2⟩
  obtain ⟨hc2, hf2⟩ := bcell hb2
  go_wp2_with fail
  refine (toRatio_any a b _).mono ?_
  rintro e w3 ⟨rfl, hb3⟩
  go_wp2_with fail
  refine (implScaleRatio_any n a b _).mono ?_
  rintro e w4 ⟨rfl, hb4⟩
  go_wp2_with fail
  go_ret
  exact ⟨rfl, bstep (bstep (bstep (bstep (balloc (Below.refl _ _) _) hb1) hb2) hb3) hb4⟩
set_option maxHeartbeats 1000000 in
theorem walk_FnExactCompareRatio (a b : Int) (c d : Int) (w : World) (_h0 : -9223372036854775808 ≤ a ∧ a ≤ 9223372036854775807) (_h1 : -9223372036854775808 ≤ b ∧ b ≤ 9223372036854775807)
    (_h2 : -9223372036854775808 ≤ c ∧ c ≤ 9223372036854775807) (_h3 : -9223372036854775808 ≤ d ∧ d ≤ 9223372036854775807) :
    Calls Try.prog 9 #[.agg #[.int .i64 a, .int .i64 b], .agg #[.int .i64 c, .int .i64 d]] w fun e w' => e = .returned (.bool true) ∧ Below w.heap.size w w' := by
  go_enter Try.func9, Try.ntmps9
  go_wp2
  go_region_held3 (fun w' => w'.cell? ⟨w.heap.size, 0, none⟩ = some (.int .i64 a) ∧ w'.cell? ⟨w.heap.size, 1, none⟩ = some (.int .i64 b) ∧ w'.cell? ⟨w.heap.size + 1, 0, none⟩ = some (.int .i64 c) ∧ w'.cell? ⟨w.heap.size + 1, 1, none⟩ = some (.int .i64 d) ∧ Below (World.heap ((w.alloc (.cells #[.int .i64 a, .int .i64 b] 23)).alloc (.cells #[.int .i64 c, .int .i64 d] 23))).size ((w.alloc (.cells #[.int .i64 a, .int .i64 b] 23)).alloc (.cells #[.int .i64 c, .int .i64 d] 23)) w')
    (first | exact held4_start (by simp [go_sem, World.cell?_alloc_past]) (by simp [go_sem, World.cell?_alloc_past]) (by simp [go_sem, World.cell?_alloc_past]) (by simp [go_sem, World.cell?_alloc_past]) | exact held4_step (by assumption) hb)
    (first
      | (go_at_call 16; refine (toRatio_any _ _ _).mono ?_; rintro e w' ⟨rfl, hb⟩; have h2 := held4_step (g1 := w.heap.size) (g2 := w.heap.size + 1) (a := .int .i64 a) (b := .int .i64 b) (c := .int .i64 c) (d := .int .i64 d) (w0 := ((w.alloc (.cells #[.int .i64 a, .int .i64 b] 23)).alloc (.cells #[.int .i64 c, .int .i64 d] 23))) (by assumption) hb)
      | (go_at_call 29; refine (specCompareRatio_any _ _ _ _ _).mono ?_; rintro e w' ⟨rfl, hb⟩; have h2 := held4_step (g1 := w.heap.size) (g2 := w.heap.size + 1) (a := .int .i64 a) (b := .int .i64 b) (c := .int .i64 c) (d := .int .i64 d) (w0 := ((w.alloc (.cells #[.int .i64 a, .int .i64 b] 23)).alloc (.cells #[.int .i64 c, .int .i64 d] 23))) (by assumption) hb))
  have HB := hide (bstep (w := ((w.alloc (.cells #[.int .i64 a, .int .i64 b] 23)).alloc (.cells #[.int .i64 c, .int .i64 d] 23))) (balloc (balloc (Below.refl w.heap.size w) _) _) h2.2.2.2.2)
  obtain ⟨q1, q2, q3, q4, q5⟩ := h2
  have wd : ∃ wd : World, wd = w' := ⟨_, rfl⟩
  obtain ⟨wd, hwd⟩ := wd
  subst hwd
  clear hb q5
  go_wp2_with fail
  go_region_held3 (fun w' => w'.cell? ⟨w.heap.size, 0, none⟩ = some (.int .i64 a) ∧ w'.cell? ⟨w.heap.size, 1, none⟩ = some (.int .i64 b) ∧ w'.cell? ⟨w.heap.size + 1, 0, none⟩ = some (.int .i64 c) ∧ w'.cell? ⟨w.heap.size + 1, 1, none⟩ = some (.int .i64 d) ∧ Below (World.heap wd).size wd w')
    (first | exact held4_start q1 q2 q3 q4 | exact held4_step (by assumption) hb)
    (first
      | (go_at_call 16; refine (toRatio_any _ _ _).mono ?_; rintro e w' ⟨rfl, hb⟩; have h2 := held4_step (g1 := w.heap.size) (g2 := w.heap.size + 1) (a := .int .i64 a) (b := .int .i64 b) (c := .int .i64 c) (d := .int .i64 d) (w0 := wd) (by assumption) hb)
      | (go_at_call 30; refine (implCompareRatio_any _ _ _ _ _).mono ?_; rintro e w' ⟨rfl, hb⟩; have h2 := held4_step (g1 := w.heap.size) (g2 := w.heap.size + 1) (a := .int .i64 a) (b := .int .i64 b) (c := .int .i64 c) (d := .int .i64 d) (w0 := wd) (by assumption) hb))
  go_wp2_with fail
  go_ret
  exact ⟨rfl, bstep HB.out h2.2.2.2.2⟩
end Go.Proofs.Ytodldgnepiafaaa
