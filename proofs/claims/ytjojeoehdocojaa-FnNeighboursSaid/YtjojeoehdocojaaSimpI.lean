/-
  The simplest ratio between two: the program's recursion, and both SimplestBetween.
-/
import Derived.Test.YtjojeoehdocojaaSimpW
namespace Go.Proofs.Ytjojeoehdocojaa
open Go.RowKit

def SmPost (a1 a2 b1 b2 : Int) (w : World) (e : Ending) (w' : World) : Prop := (∃ m n : Int, Simp a1 a2 b1 b2 m n ∧ e = .returned (.agg #[.int .i64 m, .int .i64 n])) ∧ Below w.heap.size w w'
theorem smp_bd {a1 a2 b1 b2 m n : Int} (hb : Brd a1 a2 b1 b2) (hp : 1 ≤ a1) (h : Simp a1 a2 b1 b2 m n) : (1 ≤ n ∧ n ≤ 1000000000) ∧ (-1000000000 ≤ m ∧ m ≤ 1000000000) := by
  obtain ⟨h1, h2, h3, h4, h5⟩ := hb
  have := simpZ_bd h1 h2 h3 h4 h5 (simp_toZ h1.1 hp h)
  exact ⟨⟨h.1, this.1⟩, this.2⟩
theorem res3_cells {w : World} (o : Obj) (a b c d : Value) (t u : TypeId) : Cell2 (((w.alloc o).alloc (.cells #[a, b] t)).alloc (.cells #[c, d] u)) (w.heap.size + 1 + 1) c d := (res2_cells o a b c d t u).2
set_option maxHeartbeats 2000000 in
theorem simplest_any (k : Nat) : ∀ (a1 a2 b1 b2 : Int) (w : World), (a2 + b2).toNat ≤ k → Brd a1 a2 b1 b2 → 1 ≤ a1 →
    Calls Try.prog 59 #[.agg #[.int .i64 a1, .int .i64 a2], .agg #[.int .i64 b1, .int .i64 b2]] w (SmPost a1 a2 b1 b2 w) := by
  induction k with
  | zero =>
    intro a1 a2 b1 b2 w hk hb _
    exfalso
    obtain ⟨h1, h2, _⟩ := hb
    omega
  | succ k ih =>
    intro a1 a2 b1 b2 w hk hb hp
    have HBR := hide hb
    obtain ⟨y1, y2, y3, y4, y5⟩ := hb
    obtain ⟨f1, f2⟩ := floor_bd a1 a2 y1.1
    have hin := floor_in y1.1 y3
    have h0 : 0 ≤ a1 / a2 := Int.ediv_nonneg (by omega) (by omega)
    have HD := fun w => floorDiv_any a1 a2 w (by omega) (by omega)
    obtain ⟨n, hnn⟩ : ∃ n, n = a1 / a2 := ⟨_, rfl⟩
    rw [← hnn] at f1 f2 hin h0 HD
    have HDD := hide HD
    have HY5 := hide y5
    have HIH := hide ih
    have hnn1 : (n + 1) * a2 = n * a2 + a2 := by rw [Int.add_mul, Int.one_mul]
    have mb0 := mulB n b2 (by omega) (by omega)
    have mb1 : (n + 1) * b2 = n * b2 + b2 := by rw [Int.add_mul, Int.one_mul]
    have mb : -2000000000000000000 ≤ (n + 1) * b2 ∧ (n + 1) * b2 ≤ 2000000000000000000 := by omega
    have MB1 := hide mb1
    have F2 := hide (show a1 < (n + 1) * a2 by omega)
    clear mb1
    have K2 := hide (res3_cells (w := w) (.cells #[.int .i64 a1, .int .i64 a2] 27) (.int .i64 b1) (.int .i64 b2) (.int .i64 0) (.int .i64 0) 27 27)
    have B0 := hide (balloc (balloc (balloc (Below.refl w.heap.size w) (.cells #[.int .i64 a1, .int .i64 a2] 27)) (.cells #[.int .i64 b1, .int .i64 b2] 27)) (.cells #[.int .i64 0, .int .i64 0] 27))
    rw [hnn1] at f2
    clear hnn hnn1 HD y5 ih
    by_cases c1 : n * a2 = a1
    · have g1 : (n * a2 == a1) = true := by simpa using c1
      have C1 := hide c1
      clear c1
      go_enter Try.func59, Try.ntmps59
      go_wp2_with fail
      refine (HDD.out _).mono ?_
      rintro e w' ⟨rfl, rfl⟩
      go_wp2_with fail
      refine bodyPost_ret (v := .agg #[.int .i64 n, .int .i64 1]) (by simp [results, Try.results59, go_sem]) rfl ⟨⟨n, 1, simp_exact y1.1 hp HY5.out C1.out, rfl⟩, ?_⟩
      exact balloc (balloc (balloc (Below.refl _ _) _) _) _
    · have g1 : (n * a2 == a1) = false := by simpa using c1
      have C1 := hide (show n * a2 < a1 by omega)
      clear c1
      by_cases c2 : (n + 1) * b2 ≤ b1
      · go_enter Try.func59, Try.ntmps59
        go_wp2_with fail
        refine (HDD.out _).mono ?_
        rintro e w' ⟨rfl, rfl⟩
        go_wp2_with fail
        refine bodyPost_ret (v := .agg #[.int .i64 (n + 1), .int .i64 1]) (by simp [results, Try.results59, go_sem]) rfl ⟨⟨n + 1, 1, simp_next y1.1 h0 C1.out (Int.le_of_lt F2.out) c2, rfl⟩, ?_⟩
        exact balloc (balloc (balloc (Below.refl _ _) _) _) _
      · have C2 := hide (show b1 < (n + 1) * b2 by omega)
        have C3 := hide (show n * b2 < b1 by
          have k1 : n * a2 * b2 < a1 * b2 := Int.mul_lt_mul_of_pos_right C1.out (by omega)
          have k2 := HY5.out
          have k3 : n * b2 * a2 = n * a2 * b2 := by grind
          exact lt_of_mul y1.1 (by omega))
        obtain ⟨hnb, l1, l2⟩ := brd_next HBR.out C1.out F2.out C3.out C2.out
        have u1 := C1.out
        have u2 := C3.out
        have HNB := hide hnb
        have HREC := hide (fun w => HIH.out b2 (b1 - n * b2) a2 (a1 - n * a2) w (by omega) hnb y2.1)
        clear hnb
        go_enter Try.func59, Try.ntmps59
        go_wp2_with fail
        refine (HDD.out _).mono ?_
        rintro e w' ⟨rfl, rfl⟩
        go_wp2_with fail
        refine (HREC.out _).mono ?_
        rintro e w1 ⟨⟨m', n', hs, rfl⟩, hb1⟩
        obtain ⟨t1, t2⟩ := smp_bd HNB.out y2.1 hs
        have hz := simpZ_step y1.1 y2.1 C1.out C3.out C2.out hs
        have t3 := simpZ_bd y1 y2 y3 y4 HY5.out hz
        have m3 := mulB n m' (by omega) (by omega)
        have HRES := hide (simp_step y1.1 y2.1 h0 C1.out C3.out hs)
        have hlt : w.heap.size + 1 + 1 < w1.heap.size := (K2.out.below hb1).lt
        have hlt1 : w.heap.size + 1 < w1.heap.size := by omega
        obtain ⟨k0, k1, k2, k3⟩ := K2.out.below hb1
        have B1 := hide (bstep B0.out hb1)
        clear hb1 hs hz
        go_wp2_with fail
        refine bodyPost_ret (v := .agg #[.int .i64 (n * m' + n'), .int .i64 m']) (by simp [results, Try.results59, go_sem, k0, k1, hlt, hlt1]) rfl ⟨⟨_, _, HRES.out, rfl⟩, ?_⟩
        exact balloc (bset (bset B1.out (show w.heap.size ≤ w.heap.size + 1 + 1 by omega) _) (show w.heap.size ≤ w.heap.size + 1 + 1 by omega) _) _
/-- What SimplestBetween returns. -/
def SbRes (a b c d r1 r2 code : Int) : Prop :=
  (both (validR a b) (validR c d) = false ∧ r1 = 0 ∧ r2 = 0 ∧ code = 1) ∨
  (both (validR a b) (validR c d) = true ∧ c * b < a * d ∧ r1 = 0 ∧ r2 = 0 ∧ code = 2) ∨
  (both (validR a b) (validR c d) = true ∧ a * d ≤ c * b ∧ SimpZ a b c d r1 r2 ∧ code = 0)
theorem both_true {x y : Bool} (h : both x y = true) : x = true ∧ y = true := by unfold both at h; simpa using h
theorem sbRes_unique {a b c d r1 r2 code s1 s2 code' : Int} (h : SbRes a b c d r1 r2 code) (h' : SbRes a b c d s1 s2 code') : r1 = s1 ∧ r2 = s2 ∧ code = code' := by
  rcases h with ⟨h0, e1, e2, e3⟩ | ⟨h0, h1, e1, e2, e3⟩ | ⟨h0, h1, h2, e3⟩ <;> rcases h' with ⟨k0, f1, f2, f3⟩ | ⟨k0, k1, f1, f2, f3⟩ | ⟨k0, k1, k2, f3⟩ <;>
  first
    | (rw [h0] at k0; contradiction)
    | (exfalso; omega)
    | (exact ⟨e1.trans f1.symm, e2.trans f2.symm, e3.trans f3.symm⟩)
    | skip
  obtain ⟨v1, v2⟩ := both_true h0
  obtain ⟨g1, g2⟩ := simpZ_unique (validR_true v1).1.1 (validR_true v2).1.1 h2 k2
  exact ⟨g1, g2, e3.trans f3.symm⟩
theorem brd_of {a b c d : Int} (h1 : validR a b = true) (h2 : validR c d = true) (h : a * d ≤ c * b) : Brd a b c d := by
  obtain ⟨v1, v2, _⟩ := validR_true h1
  obtain ⟨w1, w2, _⟩ := validR_true h2
  exact ⟨v1, w1, v2, w2, h⟩
theorem cmp_gt {a b c d : Int} (h : c * b < a * d) : cmpI a b c d = 1 := by unfold cmpI; rw [if_neg (by omega), if_pos h]
theorem cmp_le {a b c d : Int} (h : a * d ≤ c * b) : cmpI a b c d ≤ 0 ∧ -1 ≤ cmpI a b c d := by unfold cmpI; split <;> (try split) <;> omega
def SbPost (a b c d : Int) (w : World) (e : Ending) (w' : World) : Prop := (∃ r1 r2 k : Int, SbRes a b c d r1 r2 k ∧ e = .returned (.tuple #[.agg #[.int .i64 r1, .int .i64 r2], .int .i64 k])) ∧ Below w.heap.size w w'
set_option maxHeartbeats 2000000 in
theorem specSimplestBetween_any (a b c d : Int) (w : World) : Calls Try.prog 37 #[.agg #[.int .i64 a, .int .i64 b], .agg #[.int .i64 c, .int .i64 d]] w (SbPost a b c d w) := by
  have K2 := hide (res2_cells (w := w) (.cells #[.int .i64 a, .int .i64 b] 27) (.int .i64 c) (.int .i64 d) (.int .i64 0) (.int .i64 0) 27 27)
  have K3 := hide (((cell2_new (w := w) (u := .int .i64 a) (v := .int .i64 b) 27).alloc (.cells #[.int .i64 c, .int .i64 d] 27)).alloc (.cells #[.int .i64 0, .int .i64 0] 27))
  have B0 := hide (balloc (balloc (balloc (Below.refl w.heap.size w) (.cells #[.int .i64 a, .int .i64 b] 27)) (.cells #[.int .i64 c, .int .i64 d] 27)) (.cells #[.int .i64 0, .int .i64 0] 27))
  have HB1 := hide (show w.heap.size ≤ w.heap.size + 1 + 1 by omega)
  cases h1 : validR a b
  · have H1 := hide h1
    go_enter Try.func37, Try.ntmps37
    go_wp2_with fail
    refine (l02Ok_any a b _).mono ?_
    rintro e w1 ⟨rfl, hb1⟩
    rw [H1.out]
    have B1 := hide (bstep B0.out hb1)
    obtain ⟨k0, k1, k2, k3⟩ := K2.out.2.below hb1
    clear hb1
    go_wp2_with fail
    refine bodyPost_ret (v := .tuple #[.agg #[.int .i64 0, .int .i64 0], .int .i64 1]) (by simp [results, Try.results37, go_sem, k0, k1]) rfl ⟨⟨0, 0, 1, .inl ⟨both_f1 H1.out, rfl, rfl, rfl⟩, rfl⟩, ?_⟩
    exact bset (bset B1.out HB1.out _) HB1.out _
  · cases h2 : validR c d
    · have H1 := hide h1
      have H2 := hide h2
      go_enter Try.func37, Try.ntmps37
      go_wp2_with fail
      refine (l02Ok_any a b _).mono ?_
      rintro e w1 ⟨rfl, hb1⟩
      rw [H1.out]
      have B1 := hide (bstep B0.out hb1)
      have K4 := hide (K2.out.2.below hb1)
      obtain ⟨k0, k1, k2, k3⟩ := K2.out.1.below hb1
      clear hb1
      go_wp2_with fail
      refine (l02Ok_any c d _).mono ?_
      rintro e w2 ⟨rfl, hb2⟩
      rw [H2.out]
      clear k0 k1 k2 k3
      have B2 := hide (bstep B1.out hb2)
      obtain ⟨k0, k1, k2, k3⟩ := K4.out.below hb2
      clear hb2
      go_wp2_with fail
      refine bodyPost_ret (v := .tuple #[.agg #[.int .i64 0, .int .i64 0], .int .i64 1]) (by simp [results, Try.results37, go_sem, k0, k1]) rfl ⟨⟨0, 0, 1, .inl ⟨both_f2 H2.out, rfl, rfl, rfl⟩, rfl⟩, ?_⟩
      exact bset (bset B2.out HB1.out _) HB1.out _
    · have H1 := hide h1
      have H2 := hide h2
      obtain ⟨v1, v2⟩ := validR_bd' h1
      obtain ⟨v3, v4⟩ := validR_bd' h2
      by_cases hc : c * b < a * d
      · have HC := hide hc
        have HCM := hide (fun w => by have := l02Compare_any a b c d w v1 v2 v3 v4; rwa [cmp_gt hc] at this)
        clear hc
        go_enter Try.func37, Try.ntmps37
        go_wp2_with fail
        refine (l02Ok_any a b _).mono ?_
        rintro e w1 ⟨rfl, hb1⟩
        rw [H1.out]
        have B1 := hide (bstep B0.out hb1)
        have K4 := hide (K2.out.2.below hb1)
        have K5 := hide (K2.out.1.below hb1)
        have K6 := hide (K3.out.below hb1)
        obtain ⟨k0, k1, k2, k3⟩ := K5.out
        clear hb1
        go_wp2_with fail
        refine (l02Ok_any c d _).mono ?_
        rintro e w2 ⟨rfl, hb2⟩
        rw [H2.out]
        clear k0 k1 k2 k3
        have B2 := hide (bstep B1.out hb2)
        have K7 := hide (K4.out.below hb2)
        have K8 := hide (K5.out.below hb2)
        have K9 := hide (K6.out.below hb2)
        obtain ⟨k0, k1, k2, k3⟩ := K8.out
        obtain ⟨k4, k5, k6, k7⟩ := K9.out
        clear hb2
        go_wp2_with fail
        refine (HCM.out _).mono ?_
        rintro e w3 ⟨rfl, hb3⟩
        clear k0 k1 k2 k3 k4 k5 k6 k7
        have B3 := hide (bstep B2.out hb3)
        have K10 := hide (K7.out.below hb3)
        have K11 := hide (K8.out.below hb3)
        have K12 := hide (K9.out.below hb3)
        clear hb3
        obtain ⟨k0, k1, k2, k3⟩ := K10.out
        go_wp2_with fail
        refine bodyPost_ret (v := .tuple #[.agg #[.int .i64 0, .int .i64 0], .int .i64 2]) (by simp [results, Try.results37, go_sem, k0, k1]) rfl ⟨⟨0, 0, 2, .inr (.inl ⟨both_tt H1.out H2.out, HC.out, rfl, rfl, rfl⟩), rfl⟩, ?_⟩
        exact bset (bset B3.out HB1.out _) HB1.out _
      · have HC := hide (show a * d ≤ c * b by omega)
        have HCM0 := fun w => l02Compare_any a b c d w v1 v2 v3 v4
        obtain ⟨hk1, hk2⟩ := cmp_le HC.out
        obtain ⟨K, hK⟩ : ∃ K, K = cmpI a b c d := ⟨_, rfl⟩
        rw [← hK] at HCM0 hk1 hk2
        have HCM := hide HCM0
        have HBR := hide (brd_of H1.out H2.out HC.out)
        clear hc HCM0 hK
        go_enter Try.func37, Try.ntmps37
        go_wp2_with fail
        refine (l02Ok_any a b _).mono ?_
        rintro e w1 ⟨rfl, hb1⟩
        rw [H1.out]
        have B1 := hide (bstep B0.out hb1)
        have K4 := hide (K2.out.2.below hb1)
        have K5 := hide (K2.out.1.below hb1)
        have K6 := hide (K3.out.below hb1)
        obtain ⟨k0, k1, k2, k3⟩ := K5.out
        clear hb1
        go_wp2_with fail
        refine (l02Ok_any c d _).mono ?_
        rintro e w2 ⟨rfl, hb2⟩
        rw [H2.out]
        clear k0 k1 k2 k3
        have B2 := hide (bstep B1.out hb2)
        have K7 := hide (K4.out.below hb2)
        have K8 := hide (K5.out.below hb2)
        have K9 := hide (K6.out.below hb2)
        obtain ⟨k0, k1, k2, k3⟩ := K8.out
        obtain ⟨k4, k5, k6, k7⟩ := K9.out
        clear hb2
        go_wp2_with fail
        refine (HCM.out _).mono ?_
        rintro e w3 ⟨rfl, hb3⟩
        clear k0 k1 k2 k3 k4 k5 k6 k7
        have B3 := hide (bstep B2.out hb3)
        have K10 := hide (K7.out.below hb3)
        have K11 := hide (K8.out.below hb3)
        have K12 := hide (K9.out.below hb3)
        clear hb3
        obtain ⟨k0, k1, k2, k3⟩ := K11.out
        obtain ⟨k4, k5, k6, k7⟩ := K12.out
        go_wp2_with fail
        refine (l03Simplest_any a b c d _ HBR.out).mono ?_
        rintro e w4 ⟨⟨m, n, hs, hv, rfl⟩, hb4⟩
        clear k0 k1 k2 k3 k4 k5 k6 k7
        have HS := hide hs
        have B4 := hide (bstep B3.out hb4)
        obtain ⟨k0, k1, k2, k3⟩ := K10.out.below hb4
        clear hb4 hs hv
        go_wp2_with fail
        refine bodyPost_ret (v := .tuple #[.agg #[.int .i64 m, .int .i64 n], .int .i64 0]) (by simp [results, Try.results37, go_sem, k0, k1]) rfl ⟨⟨m, n, 0, .inr (.inr ⟨both_tt H1.out H2.out, HC.out, HS.out, rfl⟩), rfl⟩, ?_⟩
        exact bset (bset B4.out HB1.out _) HB1.out _
set_option maxHeartbeats 2000000 in
theorem implSimplestBetween_any (a b c d : Int) (w : World) : Calls Try.prog 38 #[.agg #[.int .i64 a, .int .i64 b], .agg #[.int .i64 c, .int .i64 d]] w (SbPost a b c d w) := by
  have K2 := hide (res2_cells (w := w) (.cells #[.int .i64 a, .int .i64 b] 27) (.int .i64 c) (.int .i64 d) (.int .i64 0) (.int .i64 0) 27 27)
  have K3 := hide (((cell2_new (w := w) (u := .int .i64 a) (v := .int .i64 b) 27).alloc (.cells #[.int .i64 c, .int .i64 d] 27)).alloc (.cells #[.int .i64 0, .int .i64 0] 27))
  have B0 := hide (balloc (balloc (balloc (Below.refl w.heap.size w) (.cells #[.int .i64 a, .int .i64 b] 27)) (.cells #[.int .i64 c, .int .i64 d] 27)) (.cells #[.int .i64 0, .int .i64 0] 27))
  have HB1 := hide (show w.heap.size ≤ w.heap.size + 1 + 1 by omega)
  cases h1 : validR a b
  · have H1 := hide h1
    go_enter Try.func38, Try.ntmps38
    go_wp2_with fail
    refine (implValidRatio_any a b _).mono ?_
    rintro e w1 ⟨rfl, hb1⟩
    rw [H1.out]
    have B1 := hide (bstep B0.out hb1)
    obtain ⟨k0, k1, k2, k3⟩ := K2.out.2.below hb1
    clear hb1
    go_wp2_with fail
    refine bodyPost_ret (v := .tuple #[.agg #[.int .i64 0, .int .i64 0], .int .i64 1]) (by simp [results, Try.results38, go_sem, k0, k1]) rfl ⟨⟨0, 0, 1, .inl ⟨both_f1 H1.out, rfl, rfl, rfl⟩, rfl⟩, ?_⟩
    exact bset (bset B1.out HB1.out _) HB1.out _
  · cases h2 : validR c d
    · have H1 := hide h1
      have H2 := hide h2
      go_enter Try.func38, Try.ntmps38
      go_wp2_with fail
      refine (implValidRatio_any a b _).mono ?_
      rintro e w1 ⟨rfl, hb1⟩
      rw [H1.out]
      have B1 := hide (bstep B0.out hb1)
      have K4 := hide (K2.out.2.below hb1)
      obtain ⟨k0, k1, k2, k3⟩ := K2.out.1.below hb1
      clear hb1
      go_wp2_with fail
      refine (implValidRatio_any c d _).mono ?_
      rintro e w2 ⟨rfl, hb2⟩
      rw [H2.out]
      clear k0 k1 k2 k3
      have B2 := hide (bstep B1.out hb2)
      obtain ⟨k0, k1, k2, k3⟩ := K4.out.below hb2
      clear hb2
      go_wp2_with fail
      refine bodyPost_ret (v := .tuple #[.agg #[.int .i64 0, .int .i64 0], .int .i64 1]) (by simp [results, Try.results38, go_sem, k0, k1]) rfl ⟨⟨0, 0, 1, .inl ⟨both_f2 H2.out, rfl, rfl, rfl⟩, rfl⟩, ?_⟩
      exact bset (bset B2.out HB1.out _) HB1.out _
    · have H1 := hide h1
      have H2 := hide h2
      obtain ⟨v1, v2⟩ := validR_bd' h1
      obtain ⟨v3, v4⟩ := validR_bd' h2
      by_cases hc : c * b < a * d
      · have HC := hide hc
        have HCM := hide (fun w => by have := order_any a b c d w v1 v2 v3 v4; rwa [cmp_gt hc] at this)
        clear hc
        go_enter Try.func38, Try.ntmps38
        go_wp2_with fail
        refine (implValidRatio_any a b _).mono ?_
        rintro e w1 ⟨rfl, hb1⟩
        rw [H1.out]
        have B1 := hide (bstep B0.out hb1)
        have K4 := hide (K2.out.2.below hb1)
        have K5 := hide (K2.out.1.below hb1)
        have K6 := hide (K3.out.below hb1)
        obtain ⟨k0, k1, k2, k3⟩ := K5.out
        clear hb1
        go_wp2_with fail
        refine (implValidRatio_any c d _).mono ?_
        rintro e w2 ⟨rfl, hb2⟩
        rw [H2.out]
        clear k0 k1 k2 k3
        have B2 := hide (bstep B1.out hb2)
        have K7 := hide (K4.out.below hb2)
        have K8 := hide (K5.out.below hb2)
        have K9 := hide (K6.out.below hb2)
        obtain ⟨k0, k1, k2, k3⟩ := K8.out
        obtain ⟨k4, k5, k6, k7⟩ := K9.out
        clear hb2
        go_wp2_with fail
        refine (HCM.out _).mono ?_
        rintro e w3 ⟨rfl, hb3⟩
        clear k0 k1 k2 k3 k4 k5 k6 k7
        have B3 := hide (bstep B2.out hb3)
        have K10 := hide (K7.out.below hb3)
        have K11 := hide (K8.out.below hb3)
        have K12 := hide (K9.out.below hb3)
        clear hb3
        obtain ⟨k0, k1, k2, k3⟩ := K10.out
        go_wp2_with fail
        refine bodyPost_ret (v := .tuple #[.agg #[.int .i64 0, .int .i64 0], .int .i64 2]) (by simp [results, Try.results38, go_sem, k0, k1]) rfl ⟨⟨0, 0, 2, .inr (.inl ⟨both_tt H1.out H2.out, HC.out, rfl, rfl, rfl⟩), rfl⟩, ?_⟩
        exact bset (bset B3.out HB1.out _) HB1.out _
      · have HC := hide (show a * d ≤ c * b by omega)
        have HCM0 := fun w => order_any a b c d w v1 v2 v3 v4
        obtain ⟨hk1, hk2⟩ := cmp_le HC.out
        obtain ⟨K, hK⟩ : ∃ K, K = cmpI a b c d := ⟨_, rfl⟩
        rw [← hK] at HCM0 hk1 hk2
        have HCM := hide HCM0
        have HBR := hide (brd_of H1.out H2.out HC.out)
        clear hc HCM0 hK
        by_cases ha : a ≤ 0
        · by_cases hcc : 0 ≤ c
          · go_enter Try.func38, Try.ntmps38
            go_wp2_with fail
            refine (implValidRatio_any a b _).mono ?_
            rintro e w1 ⟨rfl, hb1⟩
            rw [H1.out]
            have B1 := hide (bstep B0.out hb1)
            have K4 := hide (K2.out.2.below hb1)
            have K5 := hide (K2.out.1.below hb1)
            have K6 := hide (K3.out.below hb1)
            obtain ⟨k0, k1, k2, k3⟩ := K5.out
            clear hb1
            go_wp2_with fail
            refine (implValidRatio_any c d _).mono ?_
            rintro e w2 ⟨rfl, hb2⟩
            rw [H2.out]
            clear k0 k1 k2 k3
            have B2 := hide (bstep B1.out hb2)
            have K7 := hide (K4.out.below hb2)
            have K8 := hide (K5.out.below hb2)
            have K9 := hide (K6.out.below hb2)
            obtain ⟨k0, k1, k2, k3⟩ := K8.out
            obtain ⟨k4, k5, k6, k7⟩ := K9.out
            clear hb2
            go_wp2_with fail
            refine (HCM.out _).mono ?_
            rintro e w3 ⟨rfl, hb3⟩
            clear k0 k1 k2 k3 k4 k5 k6 k7
            have B3 := hide (bstep B2.out hb3)
            have K10 := hide (K7.out.below hb3)
            have K11 := hide (K8.out.below hb3)
            have K12 := hide (K9.out.below hb3)
            clear hb3
            obtain ⟨k0, k1, k2, k3⟩ := K11.out
            obtain ⟨k4, k5, k6, k7⟩ := K12.out
            obtain ⟨k8, k9, k10, k11⟩ := K10.out
            go_wp2_with fail
            refine bodyPost_ret (v := .tuple #[.agg #[.int .i64 0, .int .i64 1], .int .i64 0]) (by simp [results, Try.results38, go_sem, k8, k9]) rfl ⟨⟨0, 1, 0, .inr (.inr ⟨both_tt H1.out H2.out, HC.out, simpZ_zero ha hcc, rfl⟩), rfl⟩, ?_⟩
            exact bset (bset B3.out HB1.out _) HB1.out _
          · have hneg : a < 0 := by
              rcases Int.lt_or_le a 0 with s | s
              · exact s
              · exfalso
                have e0 : a = 0 := by omega
                have h3 := HC.out
                rw [e0, Int.zero_mul] at h3
                have : c * b ≤ -1 * b := Int.mul_le_mul_of_nonneg_right (by omega) (by omega)
                omega
            have HN := hide (show Brd (-c) d (-a) b from ⟨v4, v2, by omega, by omega, by rw [Int.neg_mul, Int.neg_mul]; have := HC.out; omega⟩)
            have hpc : 1 ≤ -c := by omega
            have HSM := hide (fun w => simplest_any _ (-c) d (-a) b w (Nat.le_refl _) HN.out hpc)
            have hcn : c < 0 := by omega
            go_enter Try.func38, Try.ntmps38
            go_wp2_with fail
            refine (implValidRatio_any a b _).mono ?_
            rintro e w1 ⟨rfl, hb1⟩
            rw [H1.out]
            have B1 := hide (bstep B0.out hb1)
            have K4 := hide (K2.out.2.below hb1)
            have K5 := hide (K2.out.1.below hb1)
            have K6 := hide (K3.out.below hb1)
            obtain ⟨k0, k1, k2, k3⟩ := K5.out
            clear hb1
            go_wp2_with fail
            refine (implValidRatio_any c d _).mono ?_
            rintro e w2 ⟨rfl, hb2⟩
            rw [H2.out]
            clear k0 k1 k2 k3
            have B2 := hide (bstep B1.out hb2)
            have K7 := hide (K4.out.below hb2)
            have K8 := hide (K5.out.below hb2)
            have K9 := hide (K6.out.below hb2)
            obtain ⟨k0, k1, k2, k3⟩ := K8.out
            obtain ⟨k4, k5, k6, k7⟩ := K9.out
            clear hb2
            go_wp2_with fail
            refine (HCM.out _).mono ?_
            rintro e w3 ⟨rfl, hb3⟩
            clear k0 k1 k2 k3 k4 k5 k6 k7
            have B3 := hide (bstep B2.out hb3)
            have K10 := hide (K7.out.below hb3)
            have K11 := hide (K8.out.below hb3)
            have K12 := hide (K9.out.below hb3)
            clear hb3
            obtain ⟨k0, k1, k2, k3⟩ := K11.out
            obtain ⟨k4, k5, k6, k7⟩ := K12.out
            go_wp2_with fail
            refine (HSM.out _).mono ?_
            rintro e w4 ⟨⟨m, n, hs, rfl⟩, hb4⟩
            clear k0 k1 k2 k3 k4 k5 k6 k7
            have hmb := (smp_bd HN.out hpc hs).2
            have HS := hide (simp_neg v4.1 hcn hs)
            have B4 := hide (bstep B3.out hb4)
            have hlt : w.heap.size + 1 + 1 < w4.heap.size := (K10.out.below hb4).lt
            have hlt1 : w.heap.size + 1 < w4.heap.size := by omega
            obtain ⟨k0, k1, k2, k3⟩ := K10.out.below hb4
            clear hb4 hs
            go_wp2_with fail
            refine bodyPost_ret (v := .tuple #[.agg #[.int .i64 (-m), .int .i64 n], .int .i64 0]) (by simp [results, Try.results38, go_sem, k0, k1, hlt, hlt1]) rfl ⟨⟨(-m), n, 0, .inr (.inr ⟨both_tt H1.out H2.out, HC.out, HS.out, rfl⟩), rfl⟩, ?_⟩
            exact balloc (bset (bset B4.out HB1.out _) HB1.out _) _
        · have hpa : 1 ≤ a := by omega
          have HSM := hide (fun w => simplest_any _ a b c d w (Nat.le_refl _) HBR.out hpa)
          go_enter Try.func38, Try.ntmps38
          go_wp2_with fail
          refine (implValidRatio_any a b _).mono ?_
          rintro e w1 ⟨rfl, hb1⟩
          rw [H1.out]
          have B1 := hide (bstep B0.out hb1)
          have K4 := hide (K2.out.2.below hb1)
          have K5 := hide (K2.out.1.below hb1)
          have K6 := hide (K3.out.below hb1)
          obtain ⟨k0, k1, k2, k3⟩ := K5.out
          clear hb1
          go_wp2_with fail
          refine (implValidRatio_any c d _).mono ?_
          rintro e w2 ⟨rfl, hb2⟩
          rw [H2.out]
          clear k0 k1 k2 k3
          have B2 := hide (bstep B1.out hb2)
          have K7 := hide (K4.out.below hb2)
          have K8 := hide (K5.out.below hb2)
          have K9 := hide (K6.out.below hb2)
          obtain ⟨k0, k1, k2, k3⟩ := K8.out
          obtain ⟨k4, k5, k6, k7⟩ := K9.out
          clear hb2
          go_wp2_with fail
          refine (HCM.out _).mono ?_
          rintro e w3 ⟨rfl, hb3⟩
          clear k0 k1 k2 k3 k4 k5 k6 k7
          have B3 := hide (bstep B2.out hb3)
          have K10 := hide (K7.out.below hb3)
          have K11 := hide (K8.out.below hb3)
          have K12 := hide (K9.out.below hb3)
          clear hb3
          obtain ⟨k0, k1, k2, k3⟩ := K11.out
          obtain ⟨k4, k5, k6, k7⟩ := K12.out
          go_wp2_with fail
          refine (HSM.out _).mono ?_
          rintro e w4 ⟨⟨m, n, hs, rfl⟩, hb4⟩
          clear k0 k1 k2 k3 k4 k5 k6 k7
          have HS := hide (simp_toZ v2.1 hpa hs)
          have B4 := hide (bstep B3.out hb4)
          obtain ⟨k0, k1, k2, k3⟩ := K10.out.below hb4
          clear hb4 hs
          go_wp2_with fail
          refine bodyPost_ret (v := .tuple #[.agg #[.int .i64 m, .int .i64 n], .int .i64 0]) (by simp [results, Try.results38, go_sem, k0, k1]) rfl ⟨⟨m, n, 0, .inr (.inr ⟨both_tt H1.out H2.out, HC.out, HS.out, rfl⟩), rfl⟩, ?_⟩
          exact bset (bset B4.out HB1.out _) HB1.out _
end Go.Proofs.Ytjojeoehdocojaa
