/-
  Neighbouring ratios: the contract of the program's own loop.
-/
import Derived.Test.YtjojeoehdocojaaNearW
import Derived.Test.YtjojeoehdocojaaCell
import Derived.Test.YtjojeoehdocojaaTerms
namespace Go.Proofs.Ytjojeoehdocojaa
open Go.RowKit

theorem one_step {u v most b d k : Int} (hv : 1 ≤ v) (hd : 1 ≤ d) (huv : v < u) (hb : b + d ≤ most) (hk : (if (most - b) / d < (u - 1) / v then (most - b) / d else (u - 1) / v) = k) :
    1 ≤ k ∧ k * v ≤ u - 1 ∧ b + k * d ≤ most := by
  obtain ⟨h1, h2, h3⟩ := mn_le ((most - b) / d) ((u - 1) / v)
  have hk' : mn ((most - b) / d) ((u - 1) / v) = k := hk
  rw [hk'] at h1 h2 h3
  have g1 : 1 ≤ (u - 1) / v := Int.le_ediv_of_mul_le (by omega) (by omega)
  have g2 : 1 ≤ (most - b) / d := Int.le_ediv_of_mul_le (by omega) (by omega)
  have e1 := div_steps hv h2
  have e2 := div_steps hd h1
  exact ⟨by omega, e1, by omega⟩
theorem Cell2.drewN {w : World} {g : Nat} {u v : Value} (h : Cell2 w g u v) (n : Nat) : Cell2 (w.drewN n) g u v := h.below (bdrewN (Below.refl _ _) n)
def cellI (w : World) (p : Addr) : Int := match w.cell? p with | some v => intOf v | none => 0
theorem cellI_of {w : World} {p : Addr} {n : Int} (h : w.cell? p = some (.int .i64 n)) : cellI w p = n := by unfold cellI; rw [h]; rfl
theorem prodZ (x y : Int) (hx : -1000000000 ≤ x ∧ x ≤ 1000000000) (hy : 0 ≤ y ∧ y ≤ 1000000000) : -1000000000000000000 ≤ x * y ∧ x * y ≤ 1000000000000000000 := by
  have h1 : x * y ≤ 1000000000 * y := Int.mul_le_mul_of_nonneg_right hx.2 hy.1
  have h2 : -1000000000 * y ≤ x * y := Int.mul_le_mul_of_nonneg_right hx.1 hy.1
  omega
def NbPost (n d most : Int) (w : World) (e : Ending) (w' : World) : Prop := (∃ a b c f : Int, e = .returned (.tuple #[.agg #[.int .i64 (n / d * b + a), .int .i64 b], .agg #[.int .i64 (n / d * f + c), .int .i64 f]]) ∧ Near (n % d) d most a b c f) ∧ Below w.heap.size w w'
set_option maxHeartbeats 1000000 in
set_option maxRecDepth 100000 in
theorem neighbours_any (n d most : Int) (w : World) (hn : -1000000000 ≤ n ∧ n ≤ 1000000000) (hd : 1 ≤ d ∧ d ≤ 1000000000) (hm : 1 ≤ most ∧ most < d) (hg : Int.gcd (n % d) d = 1) :
    Calls Try.prog 53 #[.agg #[.int .i64 n, .int .i64 d], .int .i64 most] w (NbPost n d most w) := by
  have HG := hide hg
  have hp0 := Int.emod_nonneg n (by omega : d ≠ 0)
  have hp1 := Int.emod_lt_of_pos n (show 0 < d by omega)
  obtain ⟨q1, q2⟩ := mul_div_bd n d hn hd
  have hsm := hide (sub_mul_mod n d)
  obtain ⟨k0, k1, k2, k3⟩ := ((cell2_new (w := w) (u := .int .i64 n) (v := .int .i64 d) 27).alloc (.cells #[.int .i64 0, .int .i64 0] 27)).alloc (.cells #[.int .i64 0, .int .i64 0] 27)
  have HF := hide (fun w => floorDiv_any n d w (by omega) (by omega))
  clear hg
  go_enter Try.func53, Try.ntmps53
  go_wp2_with (go_at_call 65; refine (HF.out _).mono ?_; rintro e w' ⟨rfl, rfl⟩)
  have e1 : IntKind.i64.wrap (n / d * d) = n / d * d := IntWalk.i64_in _ (by omega)
  have e2 : IntKind.i64.wrap (n - n / d * d) = n - n / d * d := IntWalk.i64_in _ (by omega)
  go_quiet (fail)
  clear e1 e2 k0 k1 k2 k3
  rw [hsm.out]
  obtain ⟨p, hpp⟩ : ∃ p, p = n % d := ⟨_, rfl⟩
  rw [← hpp] at hp0 hp1 HG
  rw [← hpp]
  have HP := hide hpp
  clear hpp
  have hpz : 1 ≤ p := by
    rcases Int.lt_or_le 0 p with s | s
    · omega
    · exfalso
      have e0 : p = 0 := by omega
      have := HG.out
      rw [e0, Int.gcd_zero_left] at this
      omega
  have B0 := hide (bdrewN (balloc (balloc (balloc (Below.refl w.heap.size w) (.cells #[.int .i64 n, .int .i64 d] 27)) (.cells #[.int .i64 0, .int .i64 0] 27)) (.cells #[.int .i64 0, .int .i64 0] 27)) nq)
  go_wp2
  go_loopw [11, 12, 13, 14] (fun _ _ _ _ wr => ∃ a b c f : Int, Cell2 wr (w.heap.size + 1) (.int .i64 0) (.int .i64 0) ∧ Cell2 wr (w.heap.size + 1 + 1) (.int .i64 0) (.int .i64 0) ∧ Cell2 wr (w.heap.size + 1 + 1 + 1) (.int .i64 a) (.int .i64 b) ∧ Cell2 wr (w.heap.size + 1 + 1 + 1 + 1) (.int .i64 c) (.int .i64 f) ∧
      Lay most a b c f ∧ 1 ≤ p * b - a * d ∧ 1 ≤ c * d - p * f ∧ Below w.heap.size w wr) (fun _ _ _ _ wr => (2 * most - cellI wr ⟨w.heap.size + 1 + 1 + 1, 1, none⟩ - cellI wr ⟨w.heap.size + 1 + 1 + 1 + 1, 1, none⟩).toNat)
  case atStart =>
    refine ⟨0, 1, 1, 1, ?_, ?_, ?_, ?_, ⟨by omega, by omega, by omega, by omega, by omega⟩, by omega, by omega, balloc (balloc B0.out _) _⟩
    all_goals (refine ⟨?_, ?_, ?_, ?_⟩ <;> simp [go_sem, World.cell?_alloc_past])
  case round =>
    obtain ⟨a, b, c, f, r1, r2, c1, c2, hl, h1, h2, hbel⟩ := hrel
    have HL := hide hl
    have HB := hide hbel
    have C1 := hide c1
    have C2 := hide c2
    have R1 := hide r1
    have R2 := hide r2
    obtain ⟨y1, y2, y3, y4⟩ := lay_bd hl (by omega) (show 0 ≤ p ∧ p ≤ 1000000000 by omega) hd
    obtain ⟨g1, g2, g3, g4, g5⟩ := hl
    obtain ⟨k0, k1, k2, k3⟩ := c1
    obtain ⟨k4, k5, k6, k7⟩ := c2
    clear g5 hbel r1 r2
    by_cases hs : b + f ≤ most
    · have e1 : IntKind.i64.wrap (p * b) = p * b := IntWalk.i64_in _ (by omega)
      have e2 : IntKind.i64.wrap (d * a) = a * d := by rw [Int.mul_comm]; exact IntWalk.i64_in _ (by omega)
      have e3 : IntKind.i64.wrap (p * b - a * d) = p * b - a * d := IntWalk.i64_in _ (by omega)
      have e4 : IntKind.i64.wrap (d * c) = c * d := by rw [Int.mul_comm]; exact IntWalk.i64_in _ (by omega)
      have e5 : IntKind.i64.wrap (p * f) = p * f := IntWalk.i64_in _ (by omega)
      have e6 : IntKind.i64.wrap (c * d - p * f) = c * d - p * f := IntWalk.i64_in _ (by omega)
      go_wp2
      go_quiet (fail)
      clear e1 e2 e3 e4 e5 e6
      by_cases hud : c * d - p * f < p * b - a * d
      · obtain ⟨k, hk⟩ : ∃ k, (if (most - b) / f < (p * b - a * d - 1) / (c * d - p * f) then (most - b) / f else (p * b - a * d - 1) / (c * d - p * f)) = k := ⟨_, rfl⟩
        obtain ⟨s1, s2, s3⟩ := one_step h2 g4.1 hud hs hk
        have HK := hide hk
        clear hk
        go_wp2
        have n1 : ¬ c * d - p * f = 0 := by omega
        have n2 : ¬ f = 0 := by omega
        have e1 : IntKind.i64.wrap (p * b - a * d - 1) = p * b - a * d - 1 := IntWalk.i64_in _ (by omega)
        have e2 : IntKind.i64.wrap ((p * b - a * d - 1).tdiv (c * d - p * f)) = (p * b - a * d - 1) / (c * d - p * f) := IntWalk.i64_quo _ _ (by omega)
        have e3 : IntKind.i64.wrap (most - b) = most - b := IntWalk.i64_in _ (by omega)
        have e4 : IntKind.i64.wrap ((most - b).tdiv f) = (most - b) / f := IntWalk.i64_quo _ _ (by omega)
        go_quiet (fail)
        clear e1 e2 e3 e4
        rw [HK.out]
        have e4 := prod_bd (show 0 ≤ k by omega) g2 (show k * f ≤ most by omega) g4.1
        have hl2 := lay_up HL.out (show 0 ≤ k by omega) s3
        have hu := gap_up p d a b c f k
        have L2 := hide hl2
        have hlow : 1 ≤ p * (b + k * f) - (a + k * c) * d := by omega
        have hgr : 1 ≤ k * f := by
          have := Int.mul_pos (show 0 < k by omega) (show 0 < f by omega)
          omega
        have HLO := hide hlow
        have HGR := hide hgr
        clear hu hl2 hlow hgr
        go_wp2
        go_roundw
        case rel => exact ⟨a + k * c, b + k * f, c, f, R1.out.other (by omega) _ _, R2.out.other (by omega) _ _, C1.out.set _ _, C2.out.other (by omega) _ _, L2.out, HLO.out, h2, bset (bset (bdrewN HB.out _) (show w.heap.size ≤ w.heap.size + 1 + 1 + 1 by omega) _) (show w.heap.size ≤ w.heap.size + 1 + 1 + 1 by omega) _⟩
        case measure =>
          rw [cellI_of ((C1.out.drewN _).set _ _).2.1, cellI_of ((C2.out.drewN _).other (by omega) _ _).2.1, cellI_of C1.out.2.1, cellI_of C2.out.2.1]
          have := HGR.out
          omega
      · have hud2 : p * b - a * d < c * d - p * f := by
          have := gap_ne HL.out HG.out hm.2 hs
          omega
        obtain ⟨k, hk⟩ : ∃ k, (if (most - f) / b < (c * d - p * f - 1) / (p * b - a * d) then (most - f) / b else (c * d - p * f - 1) / (p * b - a * d)) = k := ⟨_, rfl⟩
        obtain ⟨s1, s2, s3⟩ := one_step h1 g3.1 hud2 (show f + b ≤ most by omega) hk
        have HK := hide hk
        clear hk
        go_wp2
        have n1 : ¬ p * b - a * d = 0 := by omega
        have n2 : ¬ b = 0 := by omega
        have e1 : IntKind.i64.wrap (c * d - p * f - 1) = c * d - p * f - 1 := IntWalk.i64_in _ (by omega)
        have e2 : IntKind.i64.wrap ((c * d - p * f - 1).tdiv (p * b - a * d)) = (c * d - p * f - 1) / (p * b - a * d) := IntWalk.i64_quo _ _ (by omega)
        have e3 : IntKind.i64.wrap (most - f) = most - f := IntWalk.i64_in _ (by omega)
        have e4 : IntKind.i64.wrap ((most - f).tdiv b) = (most - f) / b := IntWalk.i64_quo _ _ (by omega)
        go_quiet (fail)
        clear e1 e2 e3 e4
        rw [HK.out]
        have e4 := prod_bd (show 0 ≤ k by omega) g1 (show k * b ≤ most by omega) g3.1
        have hl2 := lay_down HL.out (show 0 ≤ k by omega) s3
        have hu := gap_down p d a b c f k
        have L2 := hide hl2
        have hlow : 1 ≤ (c + k * a) * d - p * (f + k * b) := by omega
        have hgr : 1 ≤ k * b := by
          have := Int.mul_pos (show 0 < k by omega) (show 0 < b by omega)
          omega
        have HLO := hide hlow
        have HGR := hide hgr
        clear hu hl2 hlow hgr
        go_wp2
        go_roundw
        case rel => exact ⟨a, b, c + k * a, f + k * b, R1.out.other (by omega) _ _, R2.out.other (by omega) _ _, C1.out.other (by omega) _ _, C2.out.set _ _, L2.out, h1, HLO.out, bset (bset (bdrewN HB.out _) (show w.heap.size ≤ w.heap.size + 1 + 1 + 1 + 1 by omega) _) (show w.heap.size ≤ w.heap.size + 1 + 1 + 1 + 1 by omega) _⟩
        case measure =>
          rw [cellI_of ((C2.out.drewN _).set _ _).2.1, cellI_of ((C1.out.drewN _).other (by omega) _ _).2.1, cellI_of C1.out.2.1, cellI_of C2.out.2.1]
          have := HGR.out
          omega
    · have z1 := prodZ (n / d) b q2 (by omega)
      have z2 := prodZ (n / d) f q2 (by omega)
      obtain ⟨k8, k9, k10, k11⟩ := R1.out
      obtain ⟨k12, k13, k14, k15⟩ := R2.out
      go_wp2
      go_region
      all_goals
        go_wp2
        refine bodyPost_ret (v := .tuple #[.agg #[.int .i64 (a + n / d * b), .int .i64 b], .agg #[.int .i64 (c + n / d * f), .int .i64 f]]) (by simp [results, Try.results53, go_sem, k0, k1, k4, k5, k8, k9, k12, k13]) rfl ⟨⟨a, b, c, f, by rw [Int.add_comm a, Int.add_comm c], by rw [← HP.out]; exact ⟨HL.out, by omega, by omega, by omega⟩⟩, ?_⟩
        have b1 : w.heap.size ≤ w.heap.size + 1 := by omega
        have b2 : w.heap.size ≤ w.heap.size + 1 + 1 := by omega
        have b3 : w.heap.size ≤ w.heap.size + 1 + 1 + 1 := by omega
        have b4 : w.heap.size ≤ w.heap.size + 1 + 1 + 1 + 1 := by omega
        exact (bset (bset (bset (bset (bset (bset HB.out b3 _) b4 _) b1 _) b1 _) b2 _) b2 _).drew
end Go.Proofs.Ytjojeoehdocojaa
