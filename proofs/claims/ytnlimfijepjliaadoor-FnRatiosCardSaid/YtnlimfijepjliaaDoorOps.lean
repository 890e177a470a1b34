/-
  Contracts of the operations on two ratios.
-/
import Derived.Test.YtnlimfijepjliaaDoorTwo
namespace Go.Proofs.YtnlimfijepjliaaDoor
open Go.RowKit

theorem mulB (x y : Int) (hx : -1000000000 ≤ x ∧ x ≤ 1000000000) (hy : -1000000000 ≤ y ∧ y ≤ 1000000000) : -1000000000000000000 ≤ x * y ∧ x * y ≤ 1000000000000000000 := by
  have h : (x * y).natAbs ≤ 1000000000 * 1000000000 := by
    rw [Int.natAbs_mul]; exact Nat.mul_le_mul (by omega) (by omega)
  generalize x * y = z at *
  omega
theorem mulNe (x y : Int) (hx : x ≠ 0) (hy : y ≠ 0) : x * y ≠ 0 := Int.mul_ne_zero hx hy
theorem mrN_of (n : Int) {d : Int} (h : d ≠ 0) : mrN n d = mkN n d := by unfold mrN; rw [if_neg h]
theorem mrD_of (n : Int) {d : Int} (h : d ≠ 0) : mrD n d = mkD n d := by unfold mrD; rw [if_neg h]
def addN (a b c d : Int) : Int := if both (validR a b) (validR c d) then mrN (a * d + c * b) (b * d) else 0
def addD (a b c d : Int) : Int := if both (validR a b) (validR c d) then mrD (a * d + c * b) (b * d) else 0
def addC (a b c d : Int) : Int := if both (validR a b) (validR c d) then mrC (a * d + c * b) (b * d) else 1
theorem add_f1 {a b : Int} (c d : Int) (h : validR a b = false) : addN a b c d = 0 ∧ addD a b c d = 0 ∧ addC a b c d = 1 := by unfold addN addD addC; rw [both_f1 h]; exact ⟨rfl, rfl, rfl⟩
theorem add_f2 {c d : Int} (a b : Int) (h : validR c d = false) : addN a b c d = 0 ∧ addD a b c d = 0 ∧ addC a b c d = 1 := by unfold addN addD addC; rw [both_f2 h]; exact ⟨rfl, rfl, rfl⟩
theorem add_tt {a b c d : Int} (h : validR a b = true) (h' : validR c d = true) : addN a b c d = mrN (a * d + c * b) (b * d) ∧ addD a b c d = mrD (a * d + c * b) (b * d) ∧ addC a b c d = mrC (a * d + c * b) (b * d) := by unfold addN addD addC; rw [both_tt h h']; exact ⟨rfl, rfl, rfl⟩
def subN (a b c d : Int) : Int := if both (validR a b) (validR c d) then mrN (a * d - c * b) (b * d) else 0
def subD (a b c d : Int) : Int := if both (validR a b) (validR c d) then mrD (a * d - c * b) (b * d) else 0
def subC (a b c d : Int) : Int := if both (validR a b) (validR c d) then mrC (a * d - c * b) (b * d) else 1
theorem sub_f1 {a b : Int} (c d : Int) (h : validR a b = false) : subN a b c d = 0 ∧ subD a b c d = 0 ∧ subC a b c d = 1 := by unfold subN subD subC; rw [both_f1 h]; exact ⟨rfl, rfl, rfl⟩
theorem sub_f2 {c d : Int} (a b : Int) (h : validR c d = false) : subN a b c d = 0 ∧ subD a b c d = 0 ∧ subC a b c d = 1 := by unfold subN subD subC; rw [both_f2 h]; exact ⟨rfl, rfl, rfl⟩
theorem sub_tt {a b c d : Int} (h : validR a b = true) (h' : validR c d = true) : subN a b c d = mrN (a * d - c * b) (b * d) ∧ subD a b c d = mrD (a * d - c * b) (b * d) ∧ subC a b c d = mrC (a * d - c * b) (b * d) := by unfold subN subD subC; rw [both_tt h h']; exact ⟨rfl, rfl, rfl⟩
def mulN (a b c d : Int) : Int := if both (validR a b) (validR c d) then mrN (a * c) (b * d) else 0
def mulD (a b c d : Int) : Int := if both (validR a b) (validR c d) then mrD (a * c) (b * d) else 0
def mulC (a b c d : Int) : Int := if both (validR a b) (validR c d) then mrC (a * c) (b * d) else 1
theorem mul_f1 {a b : Int} (c d : Int) (h : validR a b = false) : mulN a b c d = 0 ∧ mulD a b c d = 0 ∧ mulC a b c d = 1 := by unfold mulN mulD mulC; rw [both_f1 h]; exact ⟨rfl, rfl, rfl⟩
theorem mul_f2 {c d : Int} (a b : Int) (h : validR c d = false) : mulN a b c d = 0 ∧ mulD a b c d = 0 ∧ mulC a b c d = 1 := by unfold mulN mulD mulC; rw [both_f2 h]; exact ⟨rfl, rfl, rfl⟩
theorem mul_tt {a b c d : Int} (h : validR a b = true) (h' : validR c d = true) : mulN a b c d = mrN (a * c) (b * d) ∧ mulD a b c d = mrD (a * c) (b * d) ∧ mulC a b c d = mrC (a * c) (b * d) := by unfold mulN mulD mulC; rw [both_tt h h']; exact ⟨rfl, rfl, rfl⟩
def divN (a b c d : Int) : Int := if both (validR a b) (validR c d) then mrN (a * d) (b * c) else 0
def divD (a b c d : Int) : Int := if both (validR a b) (validR c d) then mrD (a * d) (b * c) else 0
def divC (a b c d : Int) : Int := if both (validR a b) (validR c d) then mrC (a * d) (b * c) else 1
theorem div_f1 {a b : Int} (c d : Int) (h : validR a b = false) : divN a b c d = 0 ∧ divD a b c d = 0 ∧ divC a b c d = 1 := by unfold divN divD divC; rw [both_f1 h]; exact ⟨rfl, rfl, rfl⟩
theorem div_f2 {c d : Int} (a b : Int) (h : validR c d = false) : divN a b c d = 0 ∧ divD a b c d = 0 ∧ divC a b c d = 1 := by unfold divN divD divC; rw [both_f2 h]; exact ⟨rfl, rfl, rfl⟩
theorem div_tt {a b c d : Int} (h : validR a b = true) (h' : validR c d = true) : divN a b c d = mrN (a * d) (b * c) ∧ divD a b c d = mrD (a * d) (b * c) ∧ divC a b c d = mrC (a * d) (b * c) := by unfold divN divD divC; rw [both_tt h h']; exact ⟨rfl, rfl, rfl⟩
def mediantN (a b c d : Int) : Int := if both (validR a b) (validR c d) then mrN (a + c) (b + d) else 0
def mediantD (a b c d : Int) : Int := if both (validR a b) (validR c d) then mrD (a + c) (b + d) else 0
def mediantC (a b c d : Int) : Int := if both (validR a b) (validR c d) then mrC (a + c) (b + d) else 1
theorem mediant_f1 {a b : Int} (c d : Int) (h : validR a b = false) : mediantN a b c d = 0 ∧ mediantD a b c d = 0 ∧ mediantC a b c d = 1 := by unfold mediantN mediantD mediantC; rw [both_f1 h]; exact ⟨rfl, rfl, rfl⟩
theorem mediant_f2 {c d : Int} (a b : Int) (h : validR c d = false) : mediantN a b c d = 0 ∧ mediantD a b c d = 0 ∧ mediantC a b c d = 1 := by unfold mediantN mediantD mediantC; rw [both_f2 h]; exact ⟨rfl, rfl, rfl⟩
theorem mediant_tt {a b c d : Int} (h : validR a b = true) (h' : validR c d = true) : mediantN a b c d = mrN (a + c) (b + d) ∧ mediantD a b c d = mrD (a + c) (b + d) ∧ mediantC a b c d = mrC (a + c) (b + d) := by unfold mediantN mediantD mediantC; rw [both_tt h h']; exact ⟨rfl, rfl, rfl⟩
theorem implAddRatio_any (a b c d : Int) (w : World) :
    Calls Tryd.prog 37 #[.agg #[.int .i64 a, .int .i64 b], .agg #[.int .i64 c, .int .i64 d]] w fun e w' => e = .returned (.tuple #[.agg #[.int .i64 (addN a b c d), .int .i64 (addD a b c d)], .int .i64 (addC a b c d)]) ∧ Below w.heap.size w w' := by
  cases h1 : validR a b
  · obtain ⟨e1, e2, e3⟩ := add_f1 c d h1
    rw [e1, e2, e3]
    clear e1 e2 e3
    go_enter Tryd.func37, Tryd.ntmps37
    go_wp2_with fail
    refine (implValidRatio_any a b _).mono ?_
    rintro e w1 ⟨rfl, hb1⟩
    have hz1 : w.heap.size + 2 < w1.heap.size := by have := hb1.size; simp at this; omega
    have hy1 : w.heap.size + 1 < w1.heap.size := by omega
    have hx1 : w.heap.size < w1.heap.size := by omega
    obtain ⟨hc1, hf1⟩ := bcell hb1
    go_wp2_with fail
    refine bodyPost_ret (v := .tuple #[.agg #[.int .i64 (0), .int .i64 (0)], .int .i64 (1)]) (by simp [results, Tryd.results37, go_sem, hc1, hx1, hy1, hz1]) rfl ⟨rfl, ?_⟩
    repeat (first | exact Below.refl _ _ | refine balloc ?_ _ | refine bset ?_ (by first | (simp; done) | (simp; omega)) _ | refine bstep ?_ hb3 | refine bstep ?_ hb2 | refine bstep ?_ hb1)
  · cases h2 : validR c d
    · obtain ⟨e1, e2, e3⟩ := add_f2 a b h2
      rw [e1, e2, e3]
      clear e1 e2 e3
      go_enter Tryd.func37, Tryd.ntmps37
      go_wp2_with fail
      refine (implValidRatio_any a b _).mono ?_
      rintro e w1 ⟨rfl, hb1⟩
      have hz1 : w.heap.size + 2 < w1.heap.size := by have := hb1.size; simp at this; omega
      have hy1 : w.heap.size + 1 < w1.heap.size := by omega
      have hx1 : w.heap.size < w1.heap.size := by omega
      obtain ⟨hc1, hf1⟩ := bcell hb1
      go_wp2_with fail
      refine (implValidRatio_any c d _).mono ?_
      rintro e w2 ⟨rfl, hb2⟩
      have hz2 : w.heap.size + 2 < w2.heap.size := by have := hb2.size; omega
      obtain ⟨hc2, hf2⟩ := bcell hb2
      go_wp2_with fail
      refine bodyPost_ret (v := .tuple #[.agg #[.int .i64 (0), .int .i64 (0)], .int .i64 (1)]) (by simp [results, Tryd.results37, go_sem, hc1, hc2, hx1, hy1, hz1]) rfl ⟨rfl, ?_⟩
      repeat (first | exact Below.refl _ _ | refine balloc ?_ _ | refine bset ?_ (by first | (simp; done) | (simp; omega)) _ | refine bstep ?_ hb3 | refine bstep ?_ hb2 | refine bstep ?_ hb1)
    · obtain ⟨e1, e2, e3⟩ := add_tt h1 h2
      rw [e1, e2, e3]
      clear e1 e2 e3
      obtain ⟨v1, v2, _⟩ := validR_true h1
      obtain ⟨v3, v4, _⟩ := validR_true h2
      have m1 := mulB a d v2 (by omega)
      have m2 := mulB c b v4 (by omega)
      have m3 := mulB b d (by omega) (by omega)
      go_enter Tryd.func37, Tryd.ntmps37
      go_wp2_with fail
      refine (implValidRatio_any a b _).mono ?_
      rintro e w1 ⟨rfl, hb1⟩
      have hz1 : w.heap.size + 2 < w1.heap.size := by have := hb1.size; simp at this; omega
      have hy1 : w.heap.size + 1 < w1.heap.size := by omega
      have hx1 : w.heap.size < w1.heap.size := by omega
      obtain ⟨hc1, hf1⟩ := bcell hb1
      go_wp2_with fail
      refine (implValidRatio_any c d _).mono ?_
      rintro e w2 ⟨rfl, hb2⟩
      have hz2 : w.heap.size + 2 < w2.heap.size := by have := hb2.size; omega
      have hy2 : w.heap.size + 1 < w2.heap.size := by omega
      have hx2 : w.heap.size < w2.heap.size := by omega
      obtain ⟨hc2, hf2⟩ := bcell hb2
      go_wp2_with fail
      refine (implMakeRatio_any (a * d + c * b) (b * d) _ (by omega) (by omega)).mono ?_
      rintro e w3 ⟨rfl, hb3⟩
      obtain ⟨hc3, hf3⟩ := bcell hb3
      go_wp2_with fail
      refine bodyPost_ret (v := .tuple #[.agg #[.int .i64 (mrN (a * d + c * b) (b * d)), .int .i64 (mrD (a * d + c * b) (b * d))], .int .i64 (mrC (a * d + c * b) (b * d))]) (by simp [results, Tryd.results37, go_sem, hc1, hc2, hc3, hx1, hy1, hz1, hx2, hy2, hz2]) rfl ⟨rfl, ?_⟩
      repeat (first | exact Below.refl _ _ | refine balloc ?_ _ | refine bset ?_ (by first | (simp; done) | (simp; omega)) _ | refine bstep ?_ hb3 | refine bstep ?_ hb2 | refine bstep ?_ hb1)
theorem implSubRatio_any (a b c d : Int) (w : World) :
    Calls Tryd.prog 38 #[.agg #[.int .i64 a, .int .i64 b], .agg #[.int .i64 c, .int .i64 d]] w fun e w' => e = .returned (.tuple #[.agg #[.int .i64 (subN a b c d), .int .i64 (subD a b c d)], .int .i64 (subC a b c d)]) ∧ Below w.heap.size w w' := by
  cases h1 : validR a b
  · obtain ⟨e1, e2, e3⟩ := sub_f1 c d h1
    rw [e1, e2, e3]
    clear e1 e2 e3
    go_enter Tryd.func38, Tryd.ntmps38
    go_wp2_with fail
    refine (implValidRatio_any a b _).mono ?_
    rintro e w1 ⟨rfl, hb1⟩
    have hz1 : w.heap.size + 2 < w1.heap.size := by have := hb1.size; simp at this; omega
    have hy1 : w.heap.size + 1 < w1.heap.size := by omega
    have hx1 : w.heap.size < w1.heap.size := by omega
    obtain ⟨hc1, hf1⟩ := bcell hb1
    go_wp2_with fail
    refine bodyPost_ret (v := .tuple #[.agg #[.int .i64 (0), .int .i64 (0)], .int .i64 (1)]) (by simp [results, Tryd.results38, go_sem, hc1, hx1, hy1, hz1]) rfl ⟨rfl, ?_⟩
    repeat (first | exact Below.refl _ _ | refine balloc ?_ _ | refine bset ?_ (by first | (simp; done) | (simp; omega)) _ | refine bstep ?_ hb3 | refine bstep ?_ hb2 | refine bstep ?_ hb1)
  · cases h2 : validR c d
    · obtain ⟨e1, e2, e3⟩ := sub_f2 a b h2
      rw [e1, e2, e3]
      clear e1 e2 e3
      go_enter Tryd.func38, Tryd.ntmps38
      go_wp2_with fail
      refine (implValidRatio_any a b _).mono ?_
      rintro e w1 ⟨rfl, hb1⟩
      have hz1 : w.heap.size + 2 < w1.heap.size := by have := hb1.size; simp at this; omega
      have hy1 : w.heap.size + 1 < w1.heap.size := by omega
      have hx1 : w.heap.size < w1.heap.size := by omega
      obtain ⟨hc1, hf1⟩ := bcell hb1
      go_wp2_with fail
      refine (implValidRatio_any c d _).mono ?_
      rintro e w2 ⟨rfl, hb2⟩
      have hz2 : w.heap.size + 2 < w2.heap.size := by have := hb2.size; omega
      obtain ⟨hc2, hf2⟩ := bcell hb2
      go_wp2_with fail
      refine bodyPost_ret (v := .tuple #[.agg #[.int .i64 (0), .int .i64 (0)], .int .i64 (1)]) (by simp [results, Tryd.results38, go_sem, hc1, hc2, hx1, hy1, hz1]) rfl ⟨rfl, ?_⟩
      repeat (first | exact Below.refl _ _ | refine balloc ?_ _ | refine bset ?_ (by first | (simp; done) | (simp; omega)) _ | refine bstep ?_ hb3 | refine bstep ?_ hb2 | refine bstep ?_ hb1)
    · obtain ⟨e1, e2, e3⟩ := sub_tt h1 h2
      rw [e1, e2, e3]
      clear e1 e2 e3
      obtain ⟨v1, v2, _⟩ := validR_true h1
      obtain ⟨v3, v4, _⟩ := validR_true h2
      have m1 := mulB a d v2 (by omega)
      have m2 := mulB c b v4 (by omega)
      have m3 := mulB b d (by omega) (by omega)
      go_enter Tryd.func38, Tryd.ntmps38
      go_wp2_with fail
      refine (implValidRatio_any a b _).mono ?_
      rintro e w1 ⟨rfl, hb1⟩
      have hz1 : w.heap.size + 2 < w1.heap.size := by have := hb1.size; simp at this; omega
      have hy1 : w.heap.size + 1 < w1.heap.size := by omega
      have hx1 : w.heap.size < w1.heap.size := by omega
      obtain ⟨hc1, hf1⟩ := bcell hb1
      go_wp2_with fail
      refine (implValidRatio_any c d _).mono ?_
      rintro e w2 ⟨rfl, hb2⟩
      have hz2 : w.heap.size + 2 < w2.heap.size := by have := hb2.size; omega
      have hy2 : w.heap.size + 1 < w2.heap.size := by omega
      have hx2 : w.heap.size < w2.heap.size := by omega
      obtain ⟨hc2, hf2⟩ := bcell hb2
      go_wp2_with fail
      refine (implMakeRatio_any (a * d - c * b) (b * d) _ (by omega) (by omega)).mono ?_
      rintro e w3 ⟨rfl, hb3⟩
      obtain ⟨hc3, hf3⟩ := bcell hb3
      go_wp2_with fail
      refine bodyPost_ret (v := .tuple #[.agg #[.int .i64 (mrN (a * d - c * b) (b * d)), .int .i64 (mrD (a * d - c * b) (b * d))], .int .i64 (mrC (a * d - c * b) (b * d))]) (by simp [results, Tryd.results38, go_sem, hc1, hc2, hc3, hx1, hy1, hz1, hx2, hy2, hz2]) rfl ⟨rfl, ?_⟩
      repeat (first | exact Below.refl _ _ | refine balloc ?_ _ | refine bset ?_ (by first | (simp; done) | (simp; omega)) _ | refine bstep ?_ hb3 | refine bstep ?_ hb2 | refine bstep ?_ hb1)
theorem implMulRatio_any (a b c d : Int) (w : World) :
    Calls Tryd.prog 39 #[.agg #[.int .i64 a, .int .i64 b], .agg #[.int .i64 c, .int .i64 d]] w fun e w' => e = .returned (.tuple #[.agg #[.int .i64 (mulN a b c d), .int .i64 (mulD a b c d)], .int .i64 (mulC a b c d)]) ∧ Below w.heap.size w w' := by
  cases h1 : validR a b
  · obtain ⟨e1, e2, e3⟩ := mul_f1 c d h1
    rw [e1, e2, e3]
    clear e1 e2 e3
    go_enter Tryd.func39, Tryd.ntmps39
    go_wp2_with fail
    refine (implValidRatio_any a b _).mono ?_
    rintro e w1 ⟨rfl, hb1⟩
    have hz1 : w.heap.size + 2 < w1.heap.size := by have := hb1.size; simp at this; omega
    have hy1 : w.heap.size + 1 < w1.heap.size := by omega
    have hx1 : w.heap.size < w1.heap.size := by omega
    obtain ⟨hc1, hf1⟩ := bcell hb1
    go_wp2_with fail
    refine bodyPost_ret (v := .tuple #[.agg #[.int .i64 (0), .int .i64 (0)], .int .i64 (1)]) (by simp [results, Tryd.results39, go_sem, hc1, hx1, hy1, hz1]) rfl ⟨rfl, ?_⟩
    repeat (first | exact Below.refl _ _ | refine balloc ?_ _ | refine bset ?_ (by first | (simp; done) | (simp; omega)) _ | refine bstep ?_ hb3 | refine bstep ?_ hb2 | refine bstep ?_ hb1)
  · cases h2 : validR c d
    · obtain ⟨e1, e2, e3⟩ := mul_f2 a b h2
      rw [e1, e2, e3]
      clear e1 e2 e3
      go_enter Tryd.func39, Tryd.ntmps39
      go_wp2_with fail
      refine (implValidRatio_any a b _).mono ?_
      rintro e w1 ⟨rfl, hb1⟩
      have hz1 : w.heap.size + 2 < w1.heap.size := by have := hb1.size; simp at this; omega
      have hy1 : w.heap.size + 1 < w1.heap.size := by omega
      have hx1 : w.heap.size < w1.heap.size := by omega
      obtain ⟨hc1, hf1⟩ := bcell hb1
      go_wp2_with fail
      refine (implValidRatio_any c d _).mono ?_
      rintro e w2 ⟨rfl, hb2⟩
      have hz2 : w.heap.size + 2 < w2.heap.size := by have := hb2.size; omega
      obtain ⟨hc2, hf2⟩ := bcell hb2
      go_wp2_with fail
      refine bodyPost_ret (v := .tuple #[.agg #[.int .i64 (0), .int .i64 (0)], .int .i64 (1)]) (by simp [results, Tryd.results39, go_sem, hc1, hc2, hx1, hy1, hz1]) rfl ⟨rfl, ?_⟩
      repeat (first | exact Below.refl _ _ | refine balloc ?_ _ | refine bset ?_ (by first | (simp; done) | (simp; omega)) _ | refine bstep ?_ hb3 | refine bstep ?_ hb2 | refine bstep ?_ hb1)
    · obtain ⟨e1, e2, e3⟩ := mul_tt h1 h2
      rw [e1, e2, e3]
      clear e1 e2 e3
      obtain ⟨v1, v2, _⟩ := validR_true h1
      obtain ⟨v3, v4, _⟩ := validR_true h2
      have m1 := mulB a c v2 v4
      have m3 := mulB b d (by omega) (by omega)
      go_enter Tryd.func39, Tryd.ntmps39
      go_wp2_with fail
      refine (implValidRatio_any a b _).mono ?_
      rintro e w1 ⟨rfl, hb1⟩
      have hz1 : w.heap.size + 2 < w1.heap.size := by have := hb1.size; simp at this; omega
      have hy1 : w.heap.size + 1 < w1.heap.size := by omega
      have hx1 : w.heap.size < w1.heap.size := by omega
      obtain ⟨hc1, hf1⟩ := bcell hb1
      go_wp2_with fail
      refine (implValidRatio_any c d _).mono ?_
      rintro e w2 ⟨rfl, hb2⟩
      have hz2 : w.heap.size + 2 < w2.heap.size := by have := hb2.size; omega
      have hy2 : w.heap.size + 1 < w2.heap.size := by omega
      have hx2 : w.heap.size < w2.heap.size := by omega
      obtain ⟨hc2, hf2⟩ := bcell hb2
      go_wp2_with fail
      refine (implMakeRatio_any (a * c) (b * d) _ (by omega) (by omega)).mono ?_
      rintro e w3 ⟨rfl, hb3⟩
      obtain ⟨hc3, hf3⟩ := bcell hb3
      go_wp2_with fail
      refine bodyPost_ret (v := .tuple #[.agg #[.int .i64 (mrN (a * c) (b * d)), .int .i64 (mrD (a * c) (b * d))], .int .i64 (mrC (a * c) (b * d))]) (by simp [results, Tryd.results39, go_sem, hc1, hc2, hc3, hx1, hy1, hz1, hx2, hy2, hz2]) rfl ⟨rfl, ?_⟩
      repeat (first | exact Below.refl _ _ | refine balloc ?_ _ | refine bset ?_ (by first | (simp; done) | (simp; omega)) _ | refine bstep ?_ hb3 | refine bstep ?_ hb2 | refine bstep ?_ hb1)
theorem implDivRatio_any (a b c d : Int) (w : World) :
    Calls Tryd.prog 40 #[.agg #[.int .i64 a, .int .i64 b], .agg #[.int .i64 c, .int .i64 d]] w fun e w' => e = .returned (.tuple #[.agg #[.int .i64 (divN a b c d), .int .i64 (divD a b c d)], .int .i64 (divC a b c d)]) ∧ Below w.heap.size w w' := by
  cases h1 : validR a b
  · obtain ⟨e1, e2, e3⟩ := div_f1 c d h1
    rw [e1, e2, e3]
    clear e1 e2 e3
    go_enter Tryd.func40, Tryd.ntmps40
    go_wp2_with fail
    refine (implValidRatio_any a b _).mono ?_
    rintro e w1 ⟨rfl, hb1⟩
    have hz1 : w.heap.size + 2 < w1.heap.size := by have := hb1.size; simp at this; omega
    have hy1 : w.heap.size + 1 < w1.heap.size := by omega
    have hx1 : w.heap.size < w1.heap.size := by omega
    obtain ⟨hc1, hf1⟩ := bcell hb1
    go_wp2_with fail
    refine bodyPost_ret (v := .tuple #[.agg #[.int .i64 (0), .int .i64 (0)], .int .i64 (1)]) (by simp [results, Tryd.results40, go_sem, hc1, hx1, hy1, hz1]) rfl ⟨rfl, ?_⟩
    repeat (first | exact Below.refl _ _ | refine balloc ?_ _ | refine bset ?_ (by first | (simp; done) | (simp; omega)) _ | refine bstep ?_ hb3 | refine bstep ?_ hb2 | refine bstep ?_ hb1)
  · cases h2 : validR c d
    · obtain ⟨e1, e2, e3⟩ := div_f2 a b h2
      rw [e1, e2, e3]
      clear e1 e2 e3
      go_enter Tryd.func40, Tryd.ntmps40
      go_wp2_with fail
      refine (implValidRatio_any a b _).mono ?_
      rintro e w1 ⟨rfl, hb1⟩
      have hz1 : w.heap.size + 2 < w1.heap.size := by have := hb1.size; simp at this; omega
      have hy1 : w.heap.size + 1 < w1.heap.size := by omega
      have hx1 : w.heap.size < w1.heap.size := by omega
      obtain ⟨hc1, hf1⟩ := bcell hb1
      go_wp2_with fail
      refine (implValidRatio_any c d _).mono ?_
      rintro e w2 ⟨rfl, hb2⟩
      have hz2 : w.heap.size + 2 < w2.heap.size := by have := hb2.size; omega
      obtain ⟨hc2, hf2⟩ := bcell hb2
      go_wp2_with fail
      refine bodyPost_ret (v := .tuple #[.agg #[.int .i64 (0), .int .i64 (0)], .int .i64 (1)]) (by simp [results, Tryd.results40, go_sem, hc1, hc2, hx1, hy1, hz1]) rfl ⟨rfl, ?_⟩
      repeat (first | exact Below.refl _ _ | refine balloc ?_ _ | refine bset ?_ (by first | (simp; done) | (simp; omega)) _ | refine bstep ?_ hb3 | refine bstep ?_ hb2 | refine bstep ?_ hb1)
    · obtain ⟨e1, e2, e3⟩ := div_tt h1 h2
      rw [e1, e2, e3]
      clear e1 e2 e3
      obtain ⟨v1, v2, _⟩ := validR_true h1
      obtain ⟨v3, v4, _⟩ := validR_true h2
      have m1 := mulB a d v2 (by omega)
      have m3 := mulB b c (by omega) v4
      go_enter Tryd.func40, Tryd.ntmps40
      go_wp2_with fail
      refine (implValidRatio_any a b _).mono ?_
      rintro e w1 ⟨rfl, hb1⟩
      have hz1 : w.heap.size + 2 < w1.heap.size := by have := hb1.size; simp at this; omega
      have hy1 : w.heap.size + 1 < w1.heap.size := by omega
      have hx1 : w.heap.size < w1.heap.size := by omega
      obtain ⟨hc1, hf1⟩ := bcell hb1
      go_wp2_with fail
      refine (implValidRatio_any c d _).mono ?_
      rintro e w2 ⟨rfl, hb2⟩
      have hz2 : w.heap.size + 2 < w2.heap.size := by have := hb2.size; omega
      have hy2 : w.heap.size + 1 < w2.heap.size := by omega
      have hx2 : w.heap.size < w2.heap.size := by omega
      obtain ⟨hc2, hf2⟩ := bcell hb2
      go_wp2_with fail
      refine (implMakeRatio_any (a * d) (b * c) _ (by omega) (by omega)).mono ?_
      rintro e w3 ⟨rfl, hb3⟩
      obtain ⟨hc3, hf3⟩ := bcell hb3
      go_wp2_with fail
      refine bodyPost_ret (v := .tuple #[.agg #[.int .i64 (mrN (a * d) (b * c)), .int .i64 (mrD (a * d) (b * c))], .int .i64 (mrC (a * d) (b * c))]) (by simp [results, Tryd.results40, go_sem, hc1, hc2, hc3, hx1, hy1, hz1, hx2, hy2, hz2]) rfl ⟨rfl, ?_⟩
      repeat (first | exact Below.refl _ _ | refine balloc ?_ _ | refine bset ?_ (by first | (simp; done) | (simp; omega)) _ | refine bstep ?_ hb3 | refine bstep ?_ hb2 | refine bstep ?_ hb1)
end Go.Proofs.YtnlimfijepjliaaDoor
