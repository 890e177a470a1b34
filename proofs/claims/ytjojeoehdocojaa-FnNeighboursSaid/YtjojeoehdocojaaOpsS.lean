/-
  Contracts of the reference's operations on two ratios.
-/
import Derived.Test.YtjojeoehdocojaaOps
namespace Go.Proofs.Ytjojeoehdocojaa
open Go.RowKit

theorem l02Add_any (a b c d : Int) (w : World) (va : -1000000000 ≤ a ∧ a ≤ 1000000000) (vb : 1 ≤ b ∧ b ≤ 1000000000) (vc : -1000000000 ≤ c ∧ c ≤ 1000000000) (vd : 1 ≤ d ∧ d ≤ 1000000000) :
    Calls Try.prog 55 #[.agg #[.int .i64 a, .int .i64 b], .agg #[.int .i64 c, .int .i64 d]] w fun e w' => e = .returned (.tuple #[.agg #[.int .i64 (mkN (a * d + c * b) (b * d)), .int .i64 (mkD (a * d + c * b) (b * d))], .bool (mkOk (a * d + c * b) (b * d))]) ∧ Below w.heap.size w w' := by
  have m1 := mulB a d va (by omega)
  have m2 := mulB c b vc (by omega)
  have m3 := mulB b d (by omega) (by omega)
  have hne := (hide (mulNe b d (by omega) (by omega)))
  go_enter Try.func55, Try.ntmps55
  go_wp2_with fail
  refine (l02Make_any (a * d + c * b) (b * d) _ (by omega) (by omega) hne.out).mono ?_
  rintro e w1 ⟨rfl, hb1⟩
  have hz1 : w.heap.size + 2 < w1.heap.size := by have := hb1.size; simp at this; omega
  obtain ⟨hc1, hf1⟩ := bcell hb1
  go_wp2_with fail
  refine bodyPost_ret (v := .tuple #[.agg #[.int .i64 (mkN (a * d + c * b) (b * d)), .int .i64 (mkD (a * d + c * b) (b * d))], .bool (mkOk (a * d + c * b) (b * d))]) (by simp [results, Try.results55, go_sem, hc1, hz1]) rfl ⟨rfl, ?_⟩
  repeat (first | exact Below.refl _ _ | refine balloc ?_ _ | refine bset ?_ (by first | (simp; done) | (simp; omega)) _ | refine bstep ?_ hb1)
theorem l02Mul_any (a b c d : Int) (w : World) (va : -1000000000 ≤ a ∧ a ≤ 1000000000) (vb : 1 ≤ b ∧ b ≤ 1000000000) (vc : -1000000000 ≤ c ∧ c ≤ 1000000000) (vd : 1 ≤ d ∧ d ≤ 1000000000) :
    Calls Try.prog 60 #[.agg #[.int .i64 a, .int .i64 b], .agg #[.int .i64 c, .int .i64 d]] w fun e w' => e = .returned (.tuple #[.agg #[.int .i64 (mkN (a * c) (b * d)), .int .i64 (mkD (a * c) (b * d))], .bool (mkOk (a * c) (b * d))]) ∧ Below w.heap.size w w' := by
  have m1 := mulB a c va vc
  have m3 := mulB b d (by omega) (by omega)
  have hne := (hide (mulNe b d (by omega) (by omega)))
  go_enter Try.func60, Try.ntmps60
  go_wp2_with fail
  refine (l02Make_any (a * c) (b * d) _ (by omega) (by omega) hne.out).mono ?_
  rintro e w1 ⟨rfl, hb1⟩
  have hz1 : w.heap.size + 2 < w1.heap.size := by have := hb1.size; simp at this; omega
  obtain ⟨hc1, hf1⟩ := bcell hb1
  go_wp2_with fail
  refine bodyPost_ret (v := .tuple #[.agg #[.int .i64 (mkN (a * c) (b * d)), .int .i64 (mkD (a * c) (b * d))], .bool (mkOk (a * c) (b * d))]) (by simp [results, Try.results60, go_sem, hc1, hz1]) rfl ⟨rfl, ?_⟩
  repeat (first | exact Below.refl _ _ | refine balloc ?_ _ | refine bset ?_ (by first | (simp; done) | (simp; omega)) _ | refine bstep ?_ hb1)
theorem l02Neg_any (a b : Int) (w : World) (h : -1000000000 ≤ a ∧ a ≤ 1000000000) : Calls Try.prog 56 #[.agg #[.int .i64 a, .int .i64 b]] w fun e w' => e = .returned (.agg #[.int .i64 (-a), .int .i64 b]) ∧ Below w.heap.size w w' := by
  go_enter Try.func56, Try.ntmps56
  go_wp2
  refine bodyPost_ret (v := .agg #[.int .i64 (-a), .int .i64 b]) (by simp [results, Try.results56, go_sem]) rfl ⟨rfl, ?_⟩
  repeat (first | exact Below.refl _ _ | refine balloc ?_ _)
theorem specSubRatio_any (a b c d : Int) (w : World) :
    Calls Try.prog 36 #[.agg #[.int .i64 a, .int .i64 b], .agg #[.int .i64 c, .int .i64 d]] w fun e w' => e = .returned (.tuple #[.agg #[.int .i64 (subN a b c d), .int .i64 (subD a b c d)], .int .i64 (subC a b c d)]) ∧ Below w.heap.size w w' := by
  cases h1 : validR a b
  · obtain ⟨e1, e2, e3⟩ := sub_f1 c d h1
    rw [e1, e2, e3]
    clear e1 e2 e3
    go_enter Try.func36, Try.ntmps36
    go_wp2_with fail
    refine (l02Ok_any a b _).mono ?_
    rintro e w1 ⟨rfl, hb1⟩
    have hz1 : w.heap.size + 2 < w1.heap.size := by have := hb1.size; simp at this; omega
    have hy1 : w.heap.size + 1 < w1.heap.size := by omega
    have hx1 : w.heap.size < w1.heap.size := by omega
    obtain ⟨hc1, hf1⟩ := bcell hb1
    go_wp2_with fail
    refine bodyPost_ret (v := .tuple #[.agg #[.int .i64 (0), .int .i64 (0)], .int .i64 (1)]) (by simp [results, Try.results36, go_sem, hc1, hx1, hy1, hz1]) rfl ⟨rfl, ?_⟩
    repeat (first | exact Below.refl _ _ | refine balloc ?_ _ | refine bset ?_ (by first | (simp; done) | (simp; omega)) _ | refine bstep ?_ hb3 | refine bstep ?_ hb2 | refine bstep ?_ hb1)
  · cases h2 : validR c d
    · obtain ⟨e1, e2, e3⟩ := sub_f2 a b h2
      rw [e1, e2, e3]
      clear e1 e2 e3
      go_enter Try.func36, Try.ntmps36
      go_wp2_with fail
      refine (l02Ok_any a b _).mono ?_
      rintro e w1 ⟨rfl, hb1⟩
      have hz1 : w.heap.size + 2 < w1.heap.size := by have := hb1.size; simp at this; omega
      have hy1 : w.heap.size + 1 < w1.heap.size := by omega
      have hx1 : w.heap.size < w1.heap.size := by omega
      obtain ⟨hc1, hf1⟩ := bcell hb1
      go_wp2_with fail
      refine (l02Ok_any c d _).mono ?_
      rintro e w2 ⟨rfl, hb2⟩
      have hz2 : w.heap.size + 2 < w2.heap.size := by have := hb2.size; omega
      obtain ⟨hc2, hf2⟩ := bcell hb2
      go_wp2_with fail
      refine bodyPost_ret (v := .tuple #[.agg #[.int .i64 (0), .int .i64 (0)], .int .i64 (1)]) (by simp [results, Try.results36, go_sem, hc1, hc2, hx1, hy1, hz1]) rfl ⟨rfl, ?_⟩
      repeat (first | exact Below.refl _ _ | refine balloc ?_ _ | refine bset ?_ (by first | (simp; done) | (simp; omega)) _ | refine bstep ?_ hb3 | refine bstep ?_ hb2 | refine bstep ?_ hb1)
    · obtain ⟨e1, e2, e3⟩ := sub_tt h1 h2
      rw [e1, e2, e3]
      clear e1 e2 e3
      obtain ⟨v1, v2, _⟩ := validR_true h1
      obtain ⟨v3, v4, _⟩ := validR_true h2
      have m1 := mulB a d v2 (by omega)
      have m2 := mulB c b v4 (by omega)
      have m3 := mulB b d (by omega) (by omega)
      have hne := hide (mulNe b d (by omega) (by omega))
      go_enter Try.func36, Try.ntmps36
      go_wp2_with fail
      refine (l02Ok_any a b _).mono ?_
      rintro e w1 ⟨rfl, hb1⟩
      have hz1 : w.heap.size + 2 < w1.heap.size := by have := hb1.size; simp at this; omega
      have hy1 : w.heap.size + 1 < w1.heap.size := by omega
      have hx1 : w.heap.size < w1.heap.size := by omega
      obtain ⟨hc1, hf1⟩ := bcell hb1
      go_wp2_with fail
      refine (l02Ok_any c d _).mono ?_
      rintro e w2 ⟨rfl, hb2⟩
      have hz2 : w.heap.size + 2 < w2.heap.size := by have := hb2.size; omega
      have hy2 : w.heap.size + 1 < w2.heap.size := by omega
      have hx2 : w.heap.size < w2.heap.size := by omega
      obtain ⟨hc2, hf2⟩ := bcell hb2
      go_wp2_with fail
      have q1 : w2.cell? ⟨w.heap.size, 0, none⟩ = some (.int .i64 a) := by simp [hc2, hc1, hx1, hy1, hz1, go_sem, World.cell?_alloc_past]
      have q2 : w2.cell? ⟨w.heap.size, 1, none⟩ = some (.int .i64 b) := by simp [hc2, hc1, hx1, hy1, hz1, go_sem, World.cell?_alloc_past]
      have q3 : w2.cell? ⟨w.heap.size + 1, 0, none⟩ = some (.int .i64 c) := by simp [hc2, hc1, hx1, hy1, hz1, go_sem, World.cell?_alloc_past]
      have q4 : w2.cell? ⟨w.heap.size + 1, 1, none⟩ = some (.int .i64 d) := by simp [hc2, hc1, hx1, hy1, hz1, go_sem, World.cell?_alloc_past]
      have k0 : w2.cell? ⟨w.heap.size + 2, 0, none⟩ = some (.int .i64 0) := by simp [hc2, hc1, hx1, hy1, hz1, go_sem, World.cell?_alloc_past]
      have k1 : w2.cell? ⟨w.heap.size + 2, 1, none⟩ = some (.int .i64 0) := by simp [hc2, hc1, hx1, hy1, hz1, go_sem, World.cell?_alloc_past]
      have k2 : w2.frozen? ⟨w.heap.size + 2, 0, none⟩ = false := by simp [hf2, hf1, hx1, hy1, hz1, go_sem, World.cell?_alloc_past]
      have k3 : w2.frozen? ⟨w.heap.size + 2, 1, none⟩ = false := by simp [hf2, hf1, hx1, hy1, hz1, go_sem, World.cell?_alloc_past]
      have HB := hide (bstep (bstep (balloc (balloc (balloc (Below.refl w.heap.size w) _) _) _) hb1) hb2)
      clear hc1 hf1 hc2 hf2 hb1 hb2
      go_region_held3 (fun w' => w'.cell? ⟨w.heap.size, 0, none⟩ = some (.int .i64 a) ∧ w'.cell? ⟨w.heap.size, 1, none⟩ = some (.int .i64 b) ∧ w'.cell? ⟨w.heap.size + 1, 0, none⟩ = some (.int .i64 c) ∧ w'.cell? ⟨w.heap.size + 1, 1, none⟩ = some (.int .i64 d) ∧ Below w.heap.size w w')
        (first | exact held4_begin q1 q2 q3 q4 HB.out | exact held4_step (by assumption) hb | exact held4_set2 (held4_set2 (by assumption) (by first | omega | (simp <;> omega)) (by first | omega | (simp <;> omega)) (by first | omega | (simp <;> omega)) _) (by first | omega | (simp <;> omega)) (by first | omega | (simp <;> omega)) (by first | omega | (simp <;> omega)) _)
        (first
          | (go_at_call 56; refine (l02Neg_any c d _ (by omega)).mono ?_; rintro e w' ⟨rfl, hb⟩; have kk := held_carry hb k0 k1 k2 k3; obtain ⟨k0, k1, k2, k3⟩ := kk; have h2 := held4_step (g1 := w.heap.size) (g2 := w.heap.size + 1) (a := .int .i64 a) (b := .int .i64 b) (c := .int .i64 c) (d := .int .i64 d) (w0 := w) (by assumption) hb)
          | (go_at_call 55; refine (l02Add_any a b (-c) d _ v2 v1 (by omega) v3).mono ?_; rintro e w' ⟨rfl, hb⟩; have kk := held_carry hb k0 k1 k2 k3; obtain ⟨k0, k1, k2, k3⟩ := kk; have h2 := held4_step (g1 := w.heap.size) (g2 := w.heap.size + 1) (a := .int .i64 a) (b := .int .i64 b) (c := .int .i64 c) (d := .int .i64 d) (w0 := w) (by assumption) hb)
          | (go_at_call 45; refine (l02Code_any _ _ _ _).mono ?_; rintro e w' ⟨rfl, hb⟩; have kk := held_carry hb k0 k1 k2 k3; obtain ⟨k0, k1, k2, k3⟩ := kk; have h2 := held4_step (g1 := w.heap.size) (g2 := w.heap.size + 1) (a := .int .i64 a) (b := .int .i64 b) (c := .int .i64 c) (d := .int .i64 d) (w0 := w) (by assumption) hb))
      go_wp2_with fail
      have hN := hide (show a * d + -c * b = a * d - c * b by rw [Int.neg_mul]; omega)
      refine bodyPost_ret (v := .tuple #[.agg #[.int .i64 (partOf (mkOk (a * d + -c * b) (b * d)) (mkN (a * d + -c * b) (b * d))), .int .i64 (partOf (mkOk (a * d + -c * b) (b * d)) (mkD (a * d + -c * b) (b * d)))], .int .i64 (codeOf (mkOk (a * d + -c * b) (b * d)))]) (by simp [results, Try.results36, go_sem, k0, k1]) rfl ⟨?_, ?_⟩
      · rw [hN.out]; rw [mkN_part, mkD_part, mrN_of (a * d - c * b) hne.out, mrD_of (a * d - c * b) hne.out, mrC_of (a * d - c * b) hne.out]
      · exact bset (bset h2.2.2.2.2 (by first | omega | (simp <;> omega)) _) (by first | omega | (simp <;> omega)) _
theorem specMulRatio_any (a b c d : Int) (w : World) :
    Calls Try.prog 39 #[.agg #[.int .i64 a, .int .i64 b], .agg #[.int .i64 c, .int .i64 d]] w fun e w' => e = .returned (.tuple #[.agg #[.int .i64 (mulN a b c d), .int .i64 (mulD a b c d)], .int .i64 (mulC a b c d)]) ∧ Below w.heap.size w w' := by
  cases h1 : validR a b
  · obtain ⟨e1, e2, e3⟩ := mul_f1 c d h1
    rw [e1, e2, e3]
    clear e1 e2 e3
    go_enter Try.func39, Try.ntmps39
    go_wp2_with fail
    refine (l02Ok_any a b _).mono ?_
    rintro e w1 ⟨rfl, hb1⟩
    have hz1 : w.heap.size + 2 < w1.heap.size := by have := hb1.size; simp at this; omega
    have hy1 : w.heap.size + 1 < w1.heap.size := by omega
    have hx1 : w.heap.size < w1.heap.size := by omega
    obtain ⟨hc1, hf1⟩ := bcell hb1
    go_wp2_with fail
    refine bodyPost_ret (v := .tuple #[.agg #[.int .i64 (0), .int .i64 (0)], .int .i64 (1)]) (by simp [results, Try.results39, go_sem, hc1, hx1, hy1, hz1]) rfl ⟨rfl, ?_⟩
    repeat (first | exact Below.refl _ _ | refine balloc ?_ _ | refine bset ?_ (by first | (simp; done) | (simp; omega)) _ | refine bstep ?_ hb3 | refine bstep ?_ hb2 | refine bstep ?_ hb1)
  · cases h2 : validR c d
    · obtain ⟨e1, e2, e3⟩ := mul_f2 a b h2
      rw [e1, e2, e3]
      clear e1 e2 e3
      go_enter Try.func39, Try.ntmps39
      go_wp2_with fail
      refine (l02Ok_any a b _).mono ?_
      rintro e w1 ⟨rfl, hb1⟩
      have hz1 : w.heap.size + 2 < w1.heap.size := by have := hb1.size; simp at this; omega
      have hy1 : w.heap.size + 1 < w1.heap.size := by omega
      have hx1 : w.heap.size < w1.heap.size := by omega
      obtain ⟨hc1, hf1⟩ := bcell hb1
      go_wp2_with fail
      refine (l02Ok_any c d _).mono ?_
      rintro e w2 ⟨rfl, hb2⟩
      have hz2 : w.heap.size + 2 < w2.heap.size := by have := hb2.size; omega
      obtain ⟨hc2, hf2⟩ := bcell hb2
      go_wp2_with fail
      refine bodyPost_ret (v := .tuple #[.agg #[.int .i64 (0), .int .i64 (0)], .int .i64 (1)]) (by simp [results, Try.results39, go_sem, hc1, hc2, hx1, hy1, hz1]) rfl ⟨rfl, ?_⟩
      repeat (first | exact Below.refl _ _ | refine balloc ?_ _ | refine bset ?_ (by first | (simp; done) | (simp; omega)) _ | refine bstep ?_ hb3 | refine bstep ?_ hb2 | refine bstep ?_ hb1)
    · obtain ⟨e1, e2, e3⟩ := mul_tt h1 h2
      rw [e1, e2, e3]
      clear e1 e2 e3
      obtain ⟨v1, v2, _⟩ := validR_true h1
      obtain ⟨v3, v4, _⟩ := validR_true h2
      have m1 := mulB a c v2 v4
      have m3 := mulB b d (by omega) (by omega)
      have hne := hide (mulNe b d (by omega) (by omega))
      go_enter Try.func39, Try.ntmps39
      go_wp2_with fail
      refine (l02Ok_any a b _).mono ?_
      rintro e w1 ⟨rfl, hb1⟩
      have hz1 : w.heap.size + 2 < w1.heap.size := by have := hb1.size; simp at this; omega
      have hy1 : w.heap.size + 1 < w1.heap.size := by omega
      have hx1 : w.heap.size < w1.heap.size := by omega
      obtain ⟨hc1, hf1⟩ := bcell hb1
      go_wp2_with fail
      refine (l02Ok_any c d _).mono ?_
      rintro e w2 ⟨rfl, hb2⟩
      have hz2 : w.heap.size + 2 < w2.heap.size := by have := hb2.size; omega
      have hy2 : w.heap.size + 1 < w2.heap.size := by omega
      have hx2 : w.heap.size < w2.heap.size := by omega
      obtain ⟨hc2, hf2⟩ := bcell hb2
      go_wp2_with fail
      refine (l02Mul_any a b c d _ v2 v1 v4 v3).mono ?_
      rintro e w3 ⟨rfl, hb3⟩
      have hz3 : w.heap.size + 2 < w3.heap.size := by have := hb3.size; omega
      obtain ⟨hc3, hf3⟩ := bcell hb3
      go_wp2_with fail
      refine (l02Code_any _ _ _ _).mono ?_
      rintro e w4 ⟨rfl, hb4⟩
      have hz4 : w.heap.size + 2 < w4.heap.size := by have := hb4.size; omega
      obtain ⟨hc4, hf4⟩ := bcell hb4
      go_wp2_with fail
      refine bodyPost_ret (v := .tuple #[.agg #[.int .i64 (partOf (mkOk (a * c) (b * d)) (mkN (a * c) (b * d))), .int .i64 (partOf (mkOk (a * c) (b * d)) (mkD (a * c) (b * d)))], .int .i64 (codeOf (mkOk (a * c) (b * d)))]) (by simp [results, Try.results39, go_sem, hc1, hc2, hc3, hc4, hx1, hy1, hz1, hx2, hy2, hz2, hz3]) rfl ⟨?_, ?_⟩
      · rw [mkN_part, mkD_part, mrN_of (a * c) hne.out, mrD_of (a * c) hne.out, mrC_of (a * c) hne.out]
      · repeat (first | exact Below.refl _ _ | refine balloc ?_ _ | refine bset ?_ (by first | (simp; done) | (simp; omega)) _ | refine bstep ?_ hb4 | refine bstep ?_ hb3 | refine bstep ?_ hb2 | refine bstep ?_ hb1)
end Go.Proofs.Ytjojeoehdocojaa
