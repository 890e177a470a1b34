/-
  Neighbouring ratios: contracts of both loops.
-/
import Derived.Test.YtjojeoehdocojaaNear
import Derived.IntWalk
namespace Go.Proofs.Ytjojeoehdocojaa
open Go.RowKit

def mn (x y : Int) : Int := if x < y then x else y
theorem mn_le (x y : Int) : mn x y ≤ x ∧ mn x y ≤ y ∧ (mn x y = x ∨ mn x y = y) := by unfold mn; split <;> omega
theorem l00Min_any (a b : Int) (w : World) : Calls Try.prog 74 #[.int .i64 a, .int .i64 b] w fun e w' => e = .returned (.int .i64 (mn a b)) ∧ w = w' := by
  by_cases h : a < b
  · go_enter Try.func74, Try.ntmps74
    go_wp2
    go_ret
    exact ⟨ret_int (by unfold mn; rw [if_pos h]), rfl⟩
  · go_enter Try.func74, Try.ntmps74
    go_wp2
    go_ret
    exact ⟨ret_int (by unfold mn; rw [if_neg (by omega)]), rfl⟩
/-- What the neighbours of p/q from 0 to below 1 are. -/
def NearR (p q most a b c d : Int) : Prop := (q ≤ most ∧ a = p ∧ b = q ∧ c = p ∧ d = q) ∨ (most < q ∧ Near p q most a b c d)
def NearPost (p q most : Int) (w : World) (e : Ending) (w' : World) : Prop := (∃ a b c d : Int, e = .returned (.tuple #[.int .i64 a, .int .i64 b, .int .i64 c, .int .i64 d]) ∧ NearR p q most a b c d) ∧ ∃ n, w' = w.drewN n
/-- The reference's steps at once. -/
theorem step_k {u v most b d k : Int} (hu : 0 ≤ u) (hv : 1 ≤ v) (hd : 1 ≤ d) (hb : b ≤ most) (hk : k = mn (u / v) ((most - b) / d)) :
    0 ≤ k ∧ k * v ≤ u ∧ b + k * d ≤ most ∧ (k = 0 → u < v ∨ most < b + d) := by
  obtain ⟨h1, h2, h3⟩ := mn_le (u / v) ((most - b) / d)
  rw [← hk] at h1 h2 h3
  have g1 : 0 ≤ u / v := Int.ediv_nonneg hu (by omega)
  have g2 : 0 ≤ (most - b) / d := Int.ediv_nonneg (by omega) (by omega)
  have e1 := div_steps hv h1
  have e2 := div_steps hd h2
  refine ⟨by omega, e1, by omega, fun h0 => ?_⟩
  rcases h3 with h3 | h3
  · left
    rw [h0] at h3
    have := Int.lt_mul_ediv_self_add (x := u) (k := v) (by omega)
    rw [← h3] at this; omega
  · right
    rw [h0] at h3
    have := Int.lt_mul_ediv_self_add (x := most - b) (k := d) (by omega)
    rw [← h3] at this; omega
theorem prod_bd {k c d most : Int} (hk : 0 ≤ k) (hc : 0 ≤ c ∧ c ≤ d) (h : k * d ≤ most) (hd : 1 ≤ d) : (0 ≤ k * c ∧ k * c ≤ most) ∧ 0 ≤ k * d ∧ k ≤ most := by
  have h1 : k * c ≤ k * d := Int.mul_le_mul_of_nonneg_left hc.2 hk
  have h2 : 0 ≤ k * c := Int.mul_nonneg hk hc.1
  have h3 : k * 1 ≤ k * d := Int.mul_le_mul_of_nonneg_left hd hk
  omega
theorem hit_in_low {p q most a b c d : Int} (h : Lay most a b c d) (hg : Int.gcd p q = 1) (hq : 1 ≤ q) (e : p * b - a * q = 0) : NearR p q most a b a b := by
  obtain ⟨rfl, rfl⟩ := hit_low h hg hq e
  exact .inl ⟨h.2.2.1.2, rfl, rfl, rfl, rfl⟩
theorem hit_in_high {p q most a b c d : Int} (h : Lay most a b c d) (hg : Int.gcd p q = 1) (hq : 1 ≤ q) (e : c * q - p * d = 0) : NearR p q most c d c d := by
  obtain ⟨rfl, rfl⟩ := hit_high h hg hq e
  exact .inl ⟨h.2.2.2.1.2, rfl, rfl, rfl, rfl⟩
theorem near_end {p q most a b c d : Int} (h : Lay most a b c d) (h1 : 0 < p * b - a * q) (h2 : 0 < c * q - p * d) (h3 : most < b + d) : NearR p q most a b c d := by
  refine .inr ⟨?_, h, h1, h2, h3⟩
  have e := sum_gaps (p := p) (q := q) h.2.2.2.2
  obtain ⟨_, _, g1, g2, _⟩ := h
  have k1 : d * 1 ≤ d * (p * b - a * q) := Int.mul_le_mul_of_nonneg_left (by omega) (by omega)
  have k2 : b * 1 ≤ b * (c * q - p * d) := Int.mul_le_mul_of_nonneg_left (by omega) (by omega)
  omega
theorem ret4 {a b c d a' b' c' d' : Int} (h1 : a = a') (h2 : b = b') (h3 : c = c') (h4 : d = d') : Ending.returned (.tuple #[.int .i64 a, .int .i64 b, .int .i64 c, .int .i64 d]) = .returned (.tuple #[.int .i64 a', .int .i64 b', .int .i64 c', .int .i64 d']) := by
  rw [h1, h2, h3, h4]
theorem drew_more {w wr : World} (h : ∃ n, wr = w.drewN n) (m : Nat) : ∃ n, wr.drewN m = w.drewN n := by
  obtain ⟨n, rfl⟩ := h
  exact ⟨_, World.drewN_drewN _ _ _⟩
theorem quiet_left2 {P : Program} {f : FuncId} {args : Array Value} {w : World} {n m : Nat} {v : Value}
    (h : Calls P f args (w.drewN (n + m)) fun e w' => e = .returned v ∧ w.drewN (n + m) = w') : Calls P f args (w.drewN (n + m)) fun e w'' => e = .returned v ∧ ∃ k, w'' = w.drewN (n + k) :=
  h.mono fun _ _ ⟨he, hm⟩ => ⟨he, m, hm.symm⟩
set_option maxHeartbeats 1000000 in
set_option maxRecDepth 100000 in
theorem l03Near_any (p q most : Int) (w : World) (hp : 0 ≤ p ∧ p < q) (hq : q ≤ 1000000000) (hm : 1 ≤ most ∧ most ≤ 1000000000) (hg : Int.gcd p q = 1) :
    Calls Try.prog 69 #[.int .i64 p, .int .i64 q, .int .i64 most] w (NearPost p q most w) := by
  have HG := hide hg
  clear hg
  go_enter Try.func69, Try.ntmps69
  go_wp2
  go_loopw [10, 11, 12, 13, 14, 15, 16, 17] (fun s10 s11 s12 s13 _ _ _ _ wr => ∃ a b c d : Int, s10 = .int .i64 a ∧ s11 = .int .i64 b ∧ s12 = .int .i64 c ∧ s13 = .int .i64 d ∧ Lay most a b c d ∧ 0 ≤ p * b - a * q ∧ 0 ≤ c * q - p * d ∧ ∃ n, wr = w.drewN n) (fun _ s11 _ s13 _ _ _ _ _ => (2 * most - intOf s11 - intOf s13).toNat)
  case atStart => exact ⟨0, 1, 1, 1, rfl, rfl, rfl, rfl, ⟨by omega, by omega, by omega, by omega, by omega⟩, by omega, by omega, 0, rfl⟩
  case round =>
    obtain ⟨a, b, c, d, rfl, rfl, rfl, rfl, hl, h1, h2, hw⟩ := hrel
    have HW := hide hw
    clear hw
    have HL := hide hl
    obtain ⟨y1, y2, y3, y4⟩ := lay_bd hl hm.2 (show 0 ≤ p ∧ p ≤ 1000000000 by omega) (show 1 ≤ q ∧ q ≤ 1000000000 by omega)
    obtain ⟨g1, g2, g3, g4, g5⟩ := hl
    clear g5
    by_cases z1 : p * b - a * q = 0
    · have b1 : (p * b - a * q == 0) = true := by simpa using z1
      have Z := hide z1
      clear z1
      go_wp2
      exact bodyPost_ret (v := .tuple #[.int .i64 a, .int .i64 b, .int .i64 a, .int .i64 b]) (by simp [results, Try.results69, go_sem]) rfl ⟨⟨a, b, a, b, rfl, hit_in_low HL.out HG.out (by omega) Z.out⟩, HW.out⟩
    · have b1 : (p * b - a * q == 0) = false := by simpa using z1
      have y5 : 1 ≤ p * b - a * q := by omega
      clear z1
      by_cases z2 : c * q - p * d = 0
      · have b2 : (c * q - p * d == 0) = true := by simpa using z2
        have Z := hide z2
        clear z2
        go_wp2
        exact bodyPost_ret (v := .tuple #[.int .i64 c, .int .i64 d, .int .i64 c, .int .i64 d]) (by simp [results, Try.results69, go_sem]) rfl ⟨⟨c, d, c, d, rfl, hit_in_high HL.out HG.out (by omega) Z.out⟩, HW.out⟩
      · have b2 : (c * q - p * d == 0) = false := by simpa using z2
        have y6 : 1 ≤ c * q - p * d := by omega
        clear z2
        obtain ⟨k, hk⟩ : ∃ k, k = mn ((p * b - a * q) / (c * q - p * d)) ((most - b) / d) := ⟨_, rfl⟩
        have HM := l00Min_any ((p * b - a * q) / (c * q - p * d)) ((most - b) / d)
        rw [← hk] at HM
        have HMH := hide HM
        obtain ⟨k1, k2, k3, k4⟩ := step_k h1 y6 g4.1 g3.2 hk
        have K4 := hide k4
        clear k4 HM hk
        go_wp2
        have n1 : ¬ c * q - p * d = 0 := by omega
        have n2 : ¬ d = 0 := by omega
        have e1 : IntKind.i64.wrap ((p * b - a * q).tdiv (c * q - p * d)) = (p * b - a * q) / (c * q - p * d) := IntWalk.i64_quo _ _ (by omega)
        have e2 : IntKind.i64.wrap ((most - b).tdiv d) = (most - b) / d := IntWalk.i64_quo _ _ (by omega)
        have e3 : IntKind.i64.wrap (most - b) = most - b := IntWalk.i64_in _ (by omega)
        go_quiet ((go_at_call 74; exact quiet_left (HMH.out _)))
        clear e1 e2 e3
        have e4 := prod_bd k1 g2 (show k * d ≤ most by omega) g4.1
        have hl2 := lay_up HL.out k1 k3
        have hu := gap_up p q a b c d k
        obtain ⟨t1, t2, t3, t4⟩ := lay_bd hl2 hm.2 (show 0 ≤ p ∧ p ≤ 1000000000 by omega) (show 1 ≤ q ∧ q ≤ 1000000000 by omega)
        have L2 := hide hl2
        have HU := hide hu
        obtain ⟨g1', _, g3', _, g6⟩ := hl2
        have hlow : 0 ≤ p * (b + k * d) - (a + k * c) * q := by omega
        clear hu g6
        by_cases z3 : p * (b + k * d) - (a + k * c) * q = 0
        · have b4 : (p * (b + k * d) - (a + k * c) * q == 0) = true := by simpa using z3
          have Z := hide z3
          clear z3
          go_wp2
          exact bodyPost_ret (v := .tuple #[.int .i64 (a + k * c), .int .i64 (b + k * d), .int .i64 (a + k * c), .int .i64 (b + k * d)]) (by simp [results, Try.results69, go_sem]) rfl ⟨⟨_, _, _, _, rfl, hit_in_low L2.out HG.out (by omega) Z.out⟩, drew_more HW.out _⟩
        · have b4 : (p * (b + k * d) - (a + k * c) * q == 0) = false := by simpa using z3
          have y7 : 1 ≤ p * (b + k * d) - (a + k * c) * q := by omega
          clear z3
          obtain ⟨a', ha'⟩ : ∃ x, x = a + k * c := ⟨_, rfl⟩
          obtain ⟨b', hb'⟩ : ∃ x, x = b + k * d := ⟨_, rfl⟩
          obtain ⟨m, hmm⟩ : ∃ m, m = mn ((c * q - p * d) / (p * (b + k * d) - (a + k * c) * q)) ((most - d) / (b + k * d)) := ⟨_, rfl⟩
          have HM2 := l00Min_any ((c * q - p * d) / (p * (b + k * d) - (a + k * c) * q)) ((most - d) / (b + k * d))
          rw [← hmm] at HM2
          have HMH2 := hide HM2
          obtain ⟨m1, m2, m3, m4⟩ := step_k h2 y7 g3'.1 g4.2 hmm
          have M4 := hide m4
          clear m4 HM2 hmm ha' hb'
          go_wp2
          have n3 : ¬ p * (b + k * d) - (a + k * c) * q = 0 := by omega
          have n4 : ¬ b + k * d = 0 := by omega
          have e1 : IntKind.i64.wrap ((c * q - p * d).tdiv (p * (b + k * d) - (a + k * c) * q)) = (c * q - p * d) / (p * (b + k * d) - (a + k * c) * q) := IntWalk.i64_quo _ _ (by omega)
          have e2 : IntKind.i64.wrap ((most - d).tdiv (b + k * d)) = (most - d) / (b + k * d) := IntWalk.i64_quo _ _ (by omega)
          have e3 : IntKind.i64.wrap (most - d) = most - d := IntWalk.i64_in _ (by omega)
          go_quiet ((go_at_call 74; exact quiet_left2 (HMH2.out _)))
          clear e1 e2 e3
          have f4 := prod_bd m1 g1' (show m * (b + k * d) ≤ most by omega) g3'.1
          have hl3 := lay_down L2.out m1 m3
          have hv := gap_down p q (a + k * c) (b + k * d) c d m
          have L3 := hide hl3
          have HV := hide hv
          have hhigh : 0 ≤ (c + m * (a + k * c)) * q - p * (d + m * (b + k * d)) := by omega
          have hk1 : ¬ k = 0 → 1 ≤ k * d := fun h => by
            have := Int.mul_pos (show 0 < k by omega) (show 0 < d by omega)
            omega
          have hm1 : ¬ m = 0 → 1 ≤ m * (b + k * d) := fun h => by
            have := Int.mul_pos (show 0 < m by omega) (show 0 < b + k * d by omega)
            omega
          have HK1 := hide hk1
          have HM1 := hide hm1
          clear hl3 hv hk1 hm1
          by_cases k0 : k = 0
          · have b5 : (k == 0) = true := by simpa using k0
            have KZ := hide k0
            clear k0
            by_cases m0 : m = 0
            · have b6 : (m == 0) = true := by simpa using m0
              have MZ := hide m0
              clear m0
              go_wp2
              refine bodyPost_ret (v := .tuple #[.int .i64 (a + k * c), .int .i64 (b + k * d), .int .i64 (c + m * (a + k * c)), .int .i64 (d + m * (b + k * d))]) (by simp [results, Try.results69, go_sem]) rfl ⟨⟨_, _, _, _, rfl, ?_⟩, drew_more HW.out _⟩
              have hz1 := KZ.out
              have hz2 := MZ.out
              have q1 := K4.out hz1
              have q2 := M4.out hz2
              have q3 := HU.out
              have q4 := HV.out
              refine near_end L3.out (by omega) ?_ ?_
              · rw [q4, hz2]; omega
              · rw [hz1] at q3 q2 ⊢
                rw [hz2]
                omega
            · have b6 : (m == 0) = false := by simpa using m0
              have MZ := hide m0
              clear m0
              go_wp2
              go_roundw
              case rel => exact ⟨_, _, _, _, rfl, rfl, rfl, rfl, L3.out, hlow, hhigh, drew_more HW.out _⟩
              case measure =>
                have := HM1.out MZ.out
                simp only [intOf]; omega
          · have b5 : (k == 0) = false := by simpa using k0
            have KZ := hide k0
            clear k0
            go_wp2
            go_roundw
            case rel => exact ⟨_, _, _, _, rfl, rfl, rfl, rfl, L3.out, hlow, hhigh, drew_more HW.out _⟩
            case measure =>
              have := HK1.out KZ.out
              simp only [intOf]; omega
end Go.Proofs.Ytjojeoehdocojaa
