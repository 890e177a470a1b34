/-
  The walk of the law FnExactMediantOf.
-/
import Derived.Test.YtodldgnepiafaaaOpsS
namespace Go.Proofs.Ytodldgnepiafaaa
open Go.RowKit

set_option maxHeartbeats 2000000 in
theorem walk_FnExactMediantOf (a b : Int) (c d : Int) (w : World) (_h0 : -9223372036854775808 ≤ a ∧ a ≤ 9223372036854775807) (_h1 : -9223372036854775808 ≤ b ∧ b ≤ 9223372036854775807)
    (_h2 : -9223372036854775808 ≤ c ∧ c ≤ 9223372036854775807) (_h3 : -9223372036854775808 ≤ d ∧ d ≤ 9223372036854775807) :
    Calls Try.prog 13 #[.agg #[.int .i64 a, .int .i64 b], .agg #[.int .i64 c, .int .i64 d]] w fun e w' => e = .returned (.bool true) ∧ Below w.heap.size w w' := by
  go_enter Try.func13, Try.ntmps13
  go_upto_region 1 with fail
  go_cut [5, 6] (fun s5 s6 wx => Left2 ((w.alloc (.cells #[.int .i64 a, .int .i64 b] 23)).alloc (.cells #[.int .i64 c, .int .i64 d] 23)) (mediantN a b c d) (mediantD a b c d) s5 wx ∧ s6 = .int .i64 (mediantC a b c d))
  case first =>
    have hg1 : w.heap.size < (World.heap ((w.alloc (.cells #[.int .i64 a, .int .i64 b] 23)).alloc (.cells #[.int .i64 c, .int .i64 d] 23))).size := by simp; omega
    have hg2 : w.heap.size + 1 < (World.heap ((w.alloc (.cells #[.int .i64 a, .int .i64 b] 23)).alloc (.cells #[.int .i64 c, .int .i64 d] 23))).size := by simp
    go_region_held3 (fun w' => w'.cell? ⟨w.heap.size, 0, none⟩ = some (.int .i64 a) ∧ w'.cell? ⟨w.heap.size, 1, none⟩ = some (.int .i64 b) ∧ w'.cell? ⟨w.heap.size + 1, 0, none⟩ = some (.int .i64 c) ∧ w'.cell? ⟨w.heap.size + 1, 1, none⟩ = some (.int .i64 d) ∧ Below (World.heap ((w.alloc (.cells #[.int .i64 a, .int .i64 b] 23)).alloc (.cells #[.int .i64 c, .int .i64 d] 23))).size ((w.alloc (.cells #[.int .i64 a, .int .i64 b] 23)).alloc (.cells #[.int .i64 c, .int .i64 d] 23)) w')
      (first | exact held4_start (by simp [go_sem, World.cell?_alloc_past]) (by simp [go_sem, World.cell?_alloc_past]) (by simp [go_sem, World.cell?_alloc_past]) (by simp [go_sem, World.cell?_alloc_past]) | exact held4_step (by assumption) hb | exact held4_alloc (by assumption) _ | exact held4_set (held4_set (by assumption) hg1 hg2 (by first | omega | (simp; done) | (simp; omega)) _) hg1 hg2 (by first | omega | (simp; done) | (simp; omega)) _ | exact held4_set (by assumption) hg1 hg2 (by first | omega | (simp; done) | (simp; omega)) _)
      (first
        | (go_at_call 16; refine (toRatio_any _ _ _).mono ?_; rintro e w' ⟨rfl, hb⟩; (first | (with_reducible have kk := held_alloc hb) | (with_reducible have kk := held_alloc_drew hb) | (have kk := held_carry hb k0 k1 k2 k3) | skip); (try obtain ⟨k0, k1, k2, k3⟩ := kk); (try clear kk); (try simp at k0 k1 k2 k3); have h2 := held4_step (g1 := w.heap.size) (g2 := w.heap.size + 1) (a := .int .i64 a) (b := .int .i64 b) (c := .int .i64 c) (d := .int .i64 d) (w0 := ((w.alloc (.cells #[.int .i64 a, .int .i64 b] 23)).alloc (.cells #[.int .i64 c, .int .i64 d] 23))) (by assumption) hb; have h5 := h2.2.2.2.2.size; (try simp at h5))
        | (go_at_call 37; refine (specMediantRatio_any _ _ _ _ _).mono ?_; rintro e w' ⟨rfl, hb⟩; (first | (with_reducible have kk := held_alloc hb) | (with_reducible have kk := held_alloc_drew hb) | (have kk := held_carry hb k0 k1 k2 k3) | skip); (try obtain ⟨k0, k1, k2, k3⟩ := kk); (try clear kk); (try simp at k0 k1 k2 k3); have h2 := held4_step (g1 := w.heap.size) (g2 := w.heap.size + 1) (a := .int .i64 a) (b := .int .i64 b) (c := .int .i64 c) (d := .int .i64 d) (w0 := ((w.alloc (.cells #[.int .i64 a, .int .i64 b] 23)).alloc (.cells #[.int .i64 c, .int .i64 d] 23))) (by assumption) hb; have h5 := h2.2.2.2.2.size; (try simp at h5)))
    all_goals (go_wp2_with fail; go_meet; refine ⟨?_, rfl⟩; first | exact left2_alloc h2 | exact left2_set h2 k0 k1 (by first | omega | (simp; done) | (simp; omega)))
  case rest =>
    obtain ⟨⟨g, rfl, k0, k1, hbel⟩, rfl⟩ := hcut
    have hg1 : w.heap.size < wc.heap.size := by have := hbel.size; simp at this; omega
    have hg2 : w.heap.size + 1 < wc.heap.size := by have := hbel.size; simp at this; omega
    have q1 : wc.cell? ⟨w.heap.size, 0, none⟩ = some (.int .i64 a) := by rw [hbel.cell (by simp; omega)]; simp [go_sem, World.cell?_alloc_past]
    have q2 : wc.cell? ⟨w.heap.size, 1, none⟩ = some (.int .i64 b) := by rw [hbel.cell (by simp; omega)]; simp [go_sem, World.cell?_alloc_past]
    have q3 : wc.cell? ⟨w.heap.size + 1, 0, none⟩ = some (.int .i64 c) := by rw [hbel.cell (by simp)]; simp [go_sem, World.cell?_alloc_past]
    have q4 : wc.cell? ⟨w.heap.size + 1, 1, none⟩ = some (.int .i64 d) := by rw [hbel.cell (by simp)]; simp [go_sem, World.cell?_alloc_past]
    have K0 := hide k0
    have K1 := hide k1
    have HB := hide hbel
    clear k0 k1 hbel
    have wd : ∃ wd : World, wd = wc := ⟨_, rfl⟩
    obtain ⟨wd, hwd⟩ := wd
    subst hwd
    go_upto_region 2 with fail
    go_cut [7, 8] (fun s7 s8 wx => Left2 wd (mediantN a b c d) (mediantD a b c d) s7 wx ∧ s8 = .int .i64 (mediantC a b c d))
    case first =>
      go_region_held3 (fun w' => w'.cell? ⟨w.heap.size, 0, none⟩ = some (.int .i64 a) ∧ w'.cell? ⟨w.heap.size, 1, none⟩ = some (.int .i64 b) ∧ w'.cell? ⟨w.heap.size + 1, 0, none⟩ = some (.int .i64 c) ∧ w'.cell? ⟨w.heap.size + 1, 1, none⟩ = some (.int .i64 d) ∧ Below (World.heap wd).size wd w')
        (first | exact held4_start q1 q2 q3 q4 | exact held4_step (by assumption) hb | exact held4_alloc (by assumption) _ | exact held4_set (held4_set (by assumption) hg1 hg2 (by first | omega | (simp; done) | (simp; omega)) _) hg1 hg2 (by first | omega | (simp; done) | (simp; omega)) _ | exact held4_set (by assumption) hg1 hg2 (by first | omega | (simp; done) | (simp; omega)) _)
        (first
          | (go_at_call 16; refine (toRatio_any _ _ _).mono ?_; rintro e w' ⟨rfl, hb⟩; (first | (with_reducible have kk := held_alloc hb) | (with_reducible have kk := held_alloc_drew hb) | (have kk := held_carry hb k0 k1 k2 k3) | skip); (try obtain ⟨k0, k1, k2, k3⟩ := kk); (try clear kk); (try simp at k0 k1 k2 k3); have h2 := held4_step (g1 := w.heap.size) (g2 := w.heap.size + 1) (a := .int .i64 a) (b := .int .i64 b) (c := .int .i64 c) (d := .int .i64 d) (w0 := wd) (by assumption) hb; have h5 := h2.2.2.2.2.size; (try simp at h5))
          | (go_at_call 38; refine (implMediantRatio_any _ _ _ _ _).mono ?_; rintro e w' ⟨rfl, hb⟩; (first | (with_reducible have kk := held_alloc hb) | (with_reducible have kk := held_alloc_drew hb) | (have kk := held_carry hb k0 k1 k2 k3) | skip); (try obtain ⟨k0, k1, k2, k3⟩ := kk); (try clear kk); (try simp at k0 k1 k2 k3); have h2 := held4_step (g1 := w.heap.size) (g2 := w.heap.size + 1) (a := .int .i64 a) (b := .int .i64 b) (c := .int .i64 c) (d := .int .i64 d) (w0 := wd) (by assumption) hb; have h5 := h2.2.2.2.2.size; (try simp at h5)))
      all_goals (go_wp2_with fail; go_meet; refine ⟨?_, rfl⟩; first | exact left2_alloc h2 | exact left2_set h2 k0 k1 (by first | omega | (simp; done) | (simp; omega)))
    case rest =>
      obtain ⟨⟨g', rfl, k0', k1', hbel'⟩, rfl⟩ := hcut
      have hl := World.block_lt_of_cell? _ _ K0.out
      have e0 := (hbel'.cell (p := ⟨g, 0, none⟩) hl).trans K0.out
      have e1 := (hbel'.cell (p := ⟨g, 1, none⟩) hl).trans K1.out
      have hq := eqR_refl (mediantN a b c d) (mediantD a b c d)
      clear q1 q2 q3 q4
      go_wp2_with fail
      refine (eqRatio_any _ _ _ _ _).mono ?_
      rintro e w3 ⟨rfl, hb3⟩
      go_wp2_with fail
      go_ret
      exact ⟨rfl, bstep (bstep (bstep (balloc (balloc (Below.refl _ _) _) _) HB.out) hbel') hb3⟩
end Go.Proofs.Ytodldgnepiafaaa
