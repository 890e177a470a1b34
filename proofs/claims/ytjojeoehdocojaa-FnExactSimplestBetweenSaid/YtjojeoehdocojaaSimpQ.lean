/-
  The walk of the law FnExactSimplestBetween.
-/
import Derived.Test.YtjojeoehdocojaaSimpI
import Derived.Test.YtjojeoehdocojaaOpsS
namespace Go.Proofs.Ytjojeoehdocojaa
open Go.RowKit

theorem simp_exists (k : Nat) : ∀ a1 a2 b1 b2 : Int, (a2 + b2).toNat ≤ k → Brd a1 a2 b1 b2 → 1 ≤ a1 → ∃ m n, Simp a1 a2 b1 b2 m n := by
  induction k with
  | zero =>
    intro a1 a2 b1 b2 hk hb _
    exfalso
    obtain ⟨h1, h2, _⟩ := hb
    omega
  | succ k ih =>
    intro a1 a2 b1 b2 hk hb hp
    obtain ⟨y1, y2, y3, y4, y5⟩ := hb
    obtain ⟨f1, f2⟩ := floor_bd a1 a2 y1.1
    have h0 : 0 ≤ a1 / a2 := Int.ediv_nonneg (by omega) (by omega)
    by_cases c1 : a1 / a2 * a2 = a1
    · exact ⟨_, _, simp_exact y1.1 hp y5 c1⟩
    · by_cases c2 : (a1 / a2 + 1) * b2 ≤ b1
      · exact ⟨_, _, simp_next y1.1 h0 (by omega) (Int.le_of_lt f2) c2⟩
      · have g1 : a1 / a2 * a2 < a1 := by omega
        have C3 : a1 / a2 * b2 < b1 := by
          have k1 : a1 / a2 * a2 * b2 < a1 * b2 := Int.mul_lt_mul_of_pos_right g1 (by omega)
          have k3 : a1 / a2 * b2 * a2 = a1 / a2 * a2 * b2 := by grind
          exact lt_of_mul y1.1 (by omega)
        obtain ⟨hnb, l1, l2⟩ := brd_next ⟨y1, y2, y3, y4, y5⟩ g1 f2 C3 (by omega)
        obtain ⟨m', n', hs⟩ := ih _ _ _ _ (by omega) hnb y2.1
        exact ⟨_, _, simp_step y1.1 y2.1 h0 g1 C3 hs⟩
theorem simpZ_exists {a b c d : Int} (h : Brd a b c d) : ∃ m n, SimpZ a b c d m n := by
  obtain ⟨v2, v4, v1, v3, hc⟩ := h
  by_cases ha : a ≤ 0
  · by_cases hcc : 0 ≤ c
    · exact ⟨0, 1, simpZ_zero ha hcc⟩
    · have hneg : a < 0 := by
        rcases Int.lt_or_le a 0 with s | s
        · exact s
        · exfalso
          have e0 : a = 0 := by omega
          rw [e0, Int.zero_mul] at hc
          have : c * b ≤ -1 * b := Int.mul_le_mul_of_nonneg_right (by omega) (by omega)
          omega
      obtain ⟨m, n, hs⟩ := simp_exists _ (-c) d (-a) b (Nat.le_refl _) ⟨v4, v2, by omega, by omega, by rw [Int.neg_mul, Int.neg_mul]; omega⟩ (by omega)
      exact ⟨-m, n, simp_neg v4.1 (by omega) hs⟩
  · obtain ⟨m, n, hs⟩ := simp_exists _ a b c d (Nat.le_refl _) ⟨v2, v4, v1, v3, hc⟩ (by omega)
    exact ⟨m, n, simp_toZ v2.1 (by omega) hs⟩
theorem sb_exists (a b c d : Int) : ∃ r1 r2 k, SbRes a b c d r1 r2 k := by
  cases h : both (validR a b) (validR c d)
  · exact ⟨0, 0, 1, .inl ⟨h, rfl, rfl, rfl⟩⟩
  · by_cases hc : c * b < a * d
    · exact ⟨0, 0, 2, .inr (.inl ⟨h, hc, rfl, rfl, rfl⟩)⟩
    · obtain ⟨h1, h2⟩ := both_true h
      obtain ⟨m, n, hs⟩ := simpZ_exists (brd_of h1 h2 (by omega))
      exact ⟨m, n, 0, .inr (.inr ⟨h, by omega, hs, rfl⟩)⟩
theorem specSB_any {a b c d r1 r2 k : Int} (w : World) (h : SbRes a b c d r1 r2 k) : Calls Try.prog 37 #[.agg #[.int .i64 a, .int .i64 b], .agg #[.int .i64 c, .int .i64 d]] w fun e w' => e = .returned (.tuple #[.agg #[.int .i64 r1, .int .i64 r2], .int .i64 k]) ∧ Below w.heap.size w w' :=
  (specSimplestBetween_any a b c d w).mono fun e w' ⟨⟨s1, s2, k', h', he⟩, hb⟩ => by
    obtain ⟨rfl, rfl, rfl⟩ := sbRes_unique h h'
    exact ⟨he, hb⟩
theorem implSB_any {a b c d r1 r2 k : Int} (w : World) (h : SbRes a b c d r1 r2 k) : Calls Try.prog 38 #[.agg #[.int .i64 a, .int .i64 b], .agg #[.int .i64 c, .int .i64 d]] w fun e w' => e = .returned (.tuple #[.agg #[.int .i64 r1, .int .i64 r2], .int .i64 k]) ∧ Below w.heap.size w w' :=
  (implSimplestBetween_any a b c d w).mono fun e w' ⟨⟨s1, s2, k', h', he⟩, hb⟩ => by
    obtain ⟨rfl, rfl, rfl⟩ := sbRes_unique h h'
    exact ⟨he, hb⟩
set_option maxHeartbeats 2000000 in
theorem walk_FnExactSimplestBetween (a b : Int) (c d : Int) (w : World) (_h0 : -9223372036854775808 ≤ a ∧ a ≤ 9223372036854775807) (_h1 : -9223372036854775808 ≤ b ∧ b ≤ 9223372036854775807)
    (_h2 : -9223372036854775808 ≤ c ∧ c ≤ 9223372036854775807) (_h3 : -9223372036854775808 ≤ d ∧ d ≤ 9223372036854775807) :
    Calls Try.prog 10 #[.agg #[.int .i64 a, .int .i64 b], .agg #[.int .i64 c, .int .i64 d]] w fun e w' => e = .returned (.bool true) ∧ Below w.heap.size w w' := by
  obtain ⟨r1, r2, r3, hsb⟩ := sb_exists a b c d
  have HSP := hide (fun w => specSB_any w hsb)
  have HIP := hide (fun w => implSB_any w hsb)
  clear hsb
  go_enter Try.func10, Try.ntmps10
  go_upto_region 1 with fail
  go_cut [5, 6] (fun s5 s6 wx => Left2 ((w.alloc (.cells #[.int .i64 a, .int .i64 b] 23)).alloc (.cells #[.int .i64 c, .int .i64 d] 23)) r1 r2 s5 wx ∧ s6 = .int .i64 r3)
  case first =>
    have hg1 : w.heap.size < (World.heap ((w.alloc (.cells #[.int .i64 a, .int .i64 b] 23)).alloc (.cells #[.int .i64 c, .int .i64 d] 23))).size := by simp; omega
    have hg2 : w.heap.size + 1 < (World.heap ((w.alloc (.cells #[.int .i64 a, .int .i64 b] 23)).alloc (.cells #[.int .i64 c, .int .i64 d] 23))).size := by simp
    go_region_held3 (fun w' => w'.cell? ⟨w.heap.size, 0, none⟩ = some (.int .i64 a) ∧ w'.cell? ⟨w.heap.size, 1, none⟩ = some (.int .i64 b) ∧ w'.cell? ⟨w.heap.size + 1, 0, none⟩ = some (.int .i64 c) ∧ w'.cell? ⟨w.heap.size + 1, 1, none⟩ = some (.int .i64 d) ∧ Below (World.heap ((w.alloc (.cells #[.int .i64 a, .int .i64 b] 23)).alloc (.cells #[.int .i64 c, .int .i64 d] 23))).size ((w.alloc (.cells #[.int .i64 a, .int .i64 b] 23)).alloc (.cells #[.int .i64 c, .int .i64 d] 23)) w')
      (first | exact held4_start (by simp [go_sem, World.cell?_alloc_past]) (by simp [go_sem, World.cell?_alloc_past]) (by simp [go_sem, World.cell?_alloc_past]) (by simp [go_sem, World.cell?_alloc_past]) | exact held4_step (by assumption) hb | exact held4_alloc (by assumption) _ | exact held4_set (held4_set (by assumption) hg1 hg2 (by first | omega | (simp; done) | (simp; omega)) _) hg1 hg2 (by first | omega | (simp; done) | (simp; omega)) _ | exact held4_set (by assumption) hg1 hg2 (by first | omega | (simp; done) | (simp; omega)) _)
      (first
        | (go_at_call 13; refine (toRatio_any _ _ _).mono ?_; rintro e w' ⟨rfl, hb⟩; (first | (with_reducible have kk := held_alloc hb) | (with_reducible have kk := held_alloc_drew hb) | (have kk := held_carry hb k0 k1 k2 k3) | skip); (try obtain ⟨k0, k1, k2, k3⟩ := kk); (try clear kk); (try simp at k0 k1 k2 k3); have h2 := held4_step (g1 := w.heap.size) (g2 := w.heap.size + 1) (a := .int .i64 a) (b := .int .i64 b) (c := .int .i64 c) (d := .int .i64 d) (w0 := ((w.alloc (.cells #[.int .i64 a, .int .i64 b] 23)).alloc (.cells #[.int .i64 c, .int .i64 d] 23))) (by assumption) hb; have h5 := h2.2.2.2.2.size; (try simp at h5))
        | (go_at_call 37; refine (HSP.out _).mono ?_; rintro e w' ⟨rfl, hb⟩; (first | (with_reducible have kk := held_alloc hb) | (with_reducible have kk := held_alloc_drew hb) | (have kk := held_carry hb k0 k1 k2 k3) | skip); (try obtain ⟨k0, k1, k2, k3⟩ := kk); (try clear kk); (try simp at k0 k1 k2 k3); have h2 := held4_step (g1 := w.heap.size) (g2 := w.heap.size + 1) (a := .int .i64 a) (b := .int .i64 b) (c := .int .i64 c) (d := .int .i64 d) (w0 := ((w.alloc (.cells #[.int .i64 a, .int .i64 b] 23)).alloc (.cells #[.int .i64 c, .int .i64 d] 23))) (by assumption) hb; have h5 := h2.2.2.2.2.size; (try simp at h5)))
    all_goals (go_wp2_with fail; go_meet; refine ⟨?_, rfl⟩; first | exact left2_alloc h2 | exact left2_set h2 k0 k1 (by first | omega | (simp; done) | (simp; omega)))
  case rest =>
    obtain ⟨⟨g, rfl, k0, k1, hbel⟩, rfl⟩ := hcut
    have hg1 : w.heap.size < wc.heap.size := by have := hbel.size; simp at this; omega
    have hg2 : w.heap.size + 1 < wc.heap.size := by have := hbel.size; simp at this; omega
    have q1 : wc.cell? ⟨w.heap.size, 0, none⟩ = some (.int .i64 a) := by rw [hbel.cell (by simp; omega)]; simp [go_sem, World.cell?_alloc_past]
    have q2 : wc.cell? ⟨w.heap.size, 1, none⟩ = some (.int .i64 b) := by rw [hbel.cell (by simp; omega)]; simp [go_sem, World.cell?_alloc_past]
    have q3 : wc.cell? ⟨w.heap.size + 1, 0, none⟩ = some (.int .i64 c) := by rw [hbel.cell (by simp)]; simp [go_sem, World.cell?_alloc_past]
    have q4 : wc.cell? ⟨w.heap.size + 1, 1, none⟩ = some (.int .i64 d) := by rw [hbel.cell (by simp)]; simp [go_sem, World.cell?_alloc_past]
    have K0 := hide k0
    have K1 := hide k1
    have HB := hide hbel
    clear k0 k1 hbel
    have wd : ∃ wd : World, wd = wc := ⟨_, rfl⟩
    obtain ⟨wd, hwd⟩ := wd
    subst hwd
    go_upto_region 2 with fail
    go_cut [7, 8] (fun s7 s8 wx => Left2 wd r1 r2 s7 wx ∧ s8 = .int .i64 r3)
    case first =>
      go_region_held3 (fun w' => w'.cell? ⟨w.heap.size, 0, none⟩ = some (.int .i64 a) ∧ w'.cell? ⟨w.heap.size, 1, none⟩ = some (.int .i64 b) ∧ w'.cell? ⟨w.heap.size + 1, 0, none⟩ = some (.int .i64 c) ∧ w'.cell? ⟨w.heap.size + 1, 1, none⟩ = some (.int .i64 d) ∧ Below (World.heap wd).size wd w')
        (first | exact held4_start q1 q2 q3 q4 | exact held4_step (by assumption) hb | exact held4_alloc (by assumption) _ | exact held4_set (held4_set (by assumption) hg1 hg2 (by first | omega | (simp; done) | (simp; omega)) _) hg1 hg2 (by first | omega | (simp; done) | (simp; omega)) _ | exact held4_set (by assumption) hg1 hg2 (by first | omega | (simp; done) | (simp; omega)) _)
        (first
          | (go_at_call 13; refine (toRatio_any _ _ _).mono ?_; rintro e w' ⟨rfl, hb⟩; (first | (with_reducible have kk := held_alloc hb) | (with_reducible have kk := held_alloc_drew hb) | (have kk := held_carry hb k0 k1 k2 k3) | skip); (try obtain ⟨k0, k1, k2, k3⟩ := kk); (try clear kk); (try simp at k0 k1 k2 k3); have h2 := held4_step (g1 := w.heap.size) (g2 := w.heap.size + 1) (a := .int .i64 a) (b := .int .i64 b) (c := .int .i64 c) (d := .int .i64 d) (w0 := wd) (by assumption) hb; have h5 := h2.2.2.2.2.size; (try simp at h5))
          | (go_at_call 38; refine (HIP.out _).mono ?_; rintro e w' ⟨rfl, hb⟩; (first | (with_reducible have kk := held_alloc hb) | (with_reducible have kk := held_alloc_drew hb) | (have kk := held_carry hb k0 k1 k2 k3) | skip); (try obtain ⟨k0, k1, k2, k3⟩ := kk); (try clear kk); (try simp at k0 k1 k2 k3); have h2 := held4_step (g1 := w.heap.size) (g2 := w.heap.size + 1) (a := .int .i64 a) (b := .int .i64 b) (c := .int .i64 c) (d := .int .i64 d) (w0 := wd) (by assumption) hb; have h5 := h2.2.2.2.2.size; (try simp at h5)))
      all_goals (go_wp2_with fail; go_meet; refine ⟨?_, rfl⟩; first | exact left2_alloc h2 | exact left2_set h2 k0 k1 (by first | omega | (simp; done) | (simp; omega)))
    case rest =>
      obtain ⟨⟨g', rfl, k0', k1', hbel'⟩, rfl⟩ := hcut
      have hl := World.block_lt_of_cell? _ _ K0.out
      have e0 := (hbel'.cell (p := ⟨g, 0, none⟩) hl).trans K0.out
      have e1 := (hbel'.cell (p := ⟨g, 1, none⟩) hl).trans K1.out
      have hq := eqR_refl r1 r2
      clear q1 q2 q3 q4
      go_wp2_with fail
      refine (eqRatio_any _ _ _ _ _).mono ?_
      rintro e w3 ⟨rfl, hb3⟩
      go_wp2_with fail
      go_ret
      exact ⟨rfl, bstep (bstep (bstep (balloc (balloc (Below.refl _ _) _) _) HB.out) hbel') hb3⟩
end Go.Proofs.Ytjojeoehdocojaa
