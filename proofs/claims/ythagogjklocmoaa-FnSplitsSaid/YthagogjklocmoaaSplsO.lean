/-
  NearestSplit: the program's function, and the walk of its law.
-/
import Derived.Test.YthagogjklocmoaaSplsN
namespace Go.Proofs.Ythagogjklocmoaa
open Go.RowKit

def two (x y : Int) : List Int := [x, y]
theorem near_hit {f : Int → Bool} {n : Int} {r j : Nat} {k : Int} (hj : j < 2) (h : ∀ t, t < j → f ((two (n - k) (n + k)).getD t 0) = false) (hf : f ((two (n - k) (n + k)).getD j 0) = true) : nearS f n (r + 1) k = ((two (n - k) (n + k)).getD j 0, 0) := by
  match j, hj with
  | 0, _ =>
    have hf' : f (n - k) = true := hf
    unfold nearS
    rw [hf']
    rfl
  | 1, _ =>
    have h0 : f (n - k) = false := h 0 (by omega)
    have hf' : f (n + k) = true := hf
    unfold nearS
    rw [h0, hf']
    rfl
theorem near_miss {f : Int → Bool} {n : Int} {r : Nat} {k : Int} (h : ∀ t, t < 2 → f ((two (n - k) (n + k)).getD t 0) = false) : nearS f n (r + 1) k = nearS f n r (k + 1) := by
  have h0 : f (n - k) = false := h 0 (by omega)
  have h1 : f (n + k) = false := h 1 (by omega)
  show (if f (n - k) then _ else _) = _
  rw [h0, h1]
  rfl
theorem hasS_no {n low high count : Int} (h : inR n 1 1000000000 = false) : hasS n low high count = false := by unfold hasS; rw [h]; rfl
theorem hasS_yes {n low high : Int} {c : Nat} (h : inR n 1 1000000000 = true) : hasS n low high ((c + 1 : Nat) : Int) = decide (0 < (spl 1 n low high (c + 1)).length) := by unfold hasS; rw [h, Int.toNat_natCast]; rfl
set_option maxHeartbeats 2000000 in
theorem implNearestSplit_any (n low high count : Int) (w : World) : Calls Try.prog 10 #[.int .i64 n, .int .i64 low, .int .i64 high, .int .i64 count] w fun e w' => e = .returned (.tuple #[.int .i64 (nsV n low high count).1, .int .i64 (nsV n low high count).2]) ∧ Below w.heap.size w w' := by
  cases h : okS n low high count
  · have e : nsV n low high count = (0, 2) := by unfold nsV; rw [h]; rfl
    rw [e]
    have H := hide h
    clear h e
    go_enter Try.func10, Try.ntmps10
    go_wp2_with fail
    refine (splittable_any _ _ _ _ _).mono ?_
    rintro e w' ⟨rfl, rfl⟩
    rw [H.out]
    go_wp2_with fail
    go_ret2
    exact ⟨rfl, Below.refl _ _⟩
  · obtain ⟨hn, hr⟩ := okS_true h
    obtain ⟨_, _, hct⟩ := okR_true hr
    have e : nsV n low high count = nearS (fun m => hasS m low high count) n 201 0 := by unfold nsV; rw [h]; rfl
    rw [e]
    obtain ⟨c, hc, rfl⟩ := count_nat hct
    have HC := hide (fun m W (hm : inR m 1 1000000000 = true) => splitsOf_any m low high c 1 W (inR_true hm) hc (by omega))
    have HY := hide (fun m (hm : inR m 1 1000000000 = true) => hasS_yes (low := low) (high := high) (c := c) hm)
    have HNO := hide (fun m (hm : inR m 1 1000000000 = false) => hasS_no (low := low) (high := high) (count := ((c + 1 : Nat) : Int)) hm)
    have H := hide h
    obtain ⟨cc, hcc⟩ : ∃ cc, cc = c + 1 := ⟨_, rfl⟩
    rw [← hcc] at HC HY HNO H ⊢
    obtain ⟨f, hf⟩ : ∃ f : Int → Bool, f = fun m => hasS m low high (cc : Int) := ⟨_, rfl⟩
    have hf' : ∀ m, hasS m low high (cc : Int) = f m := fun m => by rw [hf]
    simp only [hf'] at HY HNO ⊢
    clear h e hf hf' hr hct hcc
    go_enter Try.func10, Try.ntmps10
    go_wp2_with fail
    refine (splittable_any _ _ _ _ _).mono ?_
    rintro e w' ⟨rfl, rfl⟩
    rw [H.out]
    go_wp2_with fail
    go_loopw [10, 12] (fun s10 _ wr => ∃ k : Nat, k ≤ 201 ∧ s10 = .int .i64 (k : Int) ∧ nearS f n 201 0 = nearS f n (201 - k) (k : Int) ∧ Below w.heap.size w wr) (fun s10 _ _ => 201 - (intOf s10).toNat)
    case atStart => exact ⟨0, by omega, rfl, rfl, Below.refl _ _⟩
    case round =>
      obtain ⟨k, hk, rfl, hnear, hbel⟩ := hrel
      have HN := hide hnear
      have HB := hide hbel
      clear hnear hbel
      obtain ⟨wo, hwo⟩ : ∃ wo : World, wo = wr := ⟨_, rfl⟩
      subst hwo
      by_cases hlt : k ≤ 200
      · have wa : IntKind.i64.wrap (n - (k : Int)) = n - k := IntWalk.i64_in _ (by omega)
        have wb : IntKind.i64.wrap (n + (k : Int)) = n + k := IntWalk.i64_in _ (by omega)
        have HR1 := hide (show 201 - k = (201 - (k + 1)) + 1 by omega)
        have hdk : decide ((k : Int) ≤ 200) = true := decide_eq_true (by omega)
        have HB1 := hide (balloc HB.out (.cells #[.int .i64 (n - k), .int .i64 (n + k)] 2))
        have hcell : ∀ t, t < 2 → (wo.alloc (.cells #[.int .i64 (n - k), .int .i64 (n + k)] 2)).cell? ⟨wo.heap.size, t, none⟩ = some (.int .i64 ((two (n - k) (n + k)).getD t 0)) := fun t ht => by
          match t, ht with
          | 0, _ => simp [go_sem, two]
          | 1, _ => simp [go_sem, two]
        have HCL := hide hcell
        have hs0 : wo.heap.size < (wo.alloc (.cells #[.int .i64 (n - k), .int .i64 (n + k)] 2)).heap.size := by simp
        have HS0 := hide hs0
        clear hcell hs0
        go_wp2_with fail
        go_loopw [12, 31] (fun _ s31 w2 => ∃ j : Nat, j ≤ 2 ∧ s31 = .int .i64 (j : Int) ∧ (∀ t, t < j → f ((two (n - k) (n + k)).getD t 0) = false) ∧ (∀ t, t < 2 → w2.cell? ⟨wo.heap.size, t, none⟩ = some (.int .i64 ((two (n - k) (n + k)).getD t 0))) ∧ Below w.heap.size w w2 ∧ wo.heap.size < w2.heap.size) (fun _ s31 _ => 2 - (intOf s31).toNat)
        case atStart => exact ⟨0, by omega, rfl, fun t ht => by omega, HCL.out, HB1.out, HS0.out⟩
        case round =>
          obtain ⟨j, hj, rfl, hno, hcl, hb2, hs2⟩ := hrel
          have HNo := hide hno
          have HCl := hide hcl
          have HB2 := hide hb2
          by_cases hj2 : j < 2
          · have kc := hcl j hj2
            have HIT := hide (fun h => near_hit (f := f) (n := n) (r := 201 - (k + 1)) (k := (k : Int)) hj2 hno h)
            have HNX := hide (fun (h : f ((two (n - k) (n + k)).getD j 0) = false) t (ht : t < j + 1) => show f ((two (n - k) (n + k)).getD t 0) = false from by
              rcases Nat.lt_or_ge t j with s | s
              · exact hno t s
              · obtain rfl : t = j := by omega
                exact h)
            have HKC := hide (fun (W : World) (hb : Below _ _ W) t (ht : t < 2) => (Below.cell hb (p := ⟨wo.heap.size, t, none⟩) hs2).trans (hcl t ht))
            obtain ⟨x, hx⟩ : ∃ x, x = (two (n - k) (n + k)).getD j 0 := ⟨_, rfl⟩
            rw [← hx] at kc HIT HNX
            clear hno hcl hb2 hx
            cases hin : inR x 1 1000000000
            · have HIN := hide hin
              have HF := hide (HNO.out x hin)
              clear hin
              go_wp2_with fail
              refine (countable_any _ _).mono ?_
              rintro e w' ⟨rfl, rfl⟩
              rw [HIN.out]
              go_wp2_with fail
              go_roundw
              case rel => exact ⟨j + 1, by omega, by go_num, HNX.out HF.out, HCl.out, HB2.out, hs2⟩
              case measure => simp only [intOf]; omega
            · have HIN := hide hin
              have HF := hide (HY.out x hin)
              have HCX := hide (fun W => HC.out x W hin)
              obtain ⟨m, hm⟩ : ∃ m, m = (spl 1 x low high cc).length := ⟨_, rfl⟩
              have HM := hide hm
              rw [← hm] at HF
              clear hin hm
              by_cases hpos : 0 < m
              · have HHIT := hide (HIT.out (by rw [HF.out]; exact decide_eq_true hpos))
                go_wp2_with fail
                refine (countable_any _ _).mono ?_
                rintro e w' ⟨rfl, rfl⟩
                rw [HIN.out]
                go_wp2_with fail
                refine (HCX.out _).mono ?_
                rintro e w3 ⟨ao, cap, es, rfl, _, hb3⟩
                have HB3 := hide (bstep HB2.out hb3)
                clear hb3
                rw [← HM.out]
                go_wp2_with fail
                go_ret2
                rw [HN.out, HR1.out, HHIT.out]
                exact ⟨rfl, HB3.out⟩
              · have HFX := hide (HNX.out (by rw [HF.out]; exact decide_eq_false hpos))
                go_wp2_with fail
                refine (countable_any _ _).mono ?_
                rintro e w' ⟨rfl, rfl⟩
                rw [HIN.out]
                go_wp2_with fail
                refine (HCX.out _).mono ?_
                rintro e w3 ⟨ao, cap, es, rfl, _, hb3⟩
                have HB3 := hide (bstep HB2.out hb3)
                have HK3 := hide (HKC.out _ hb3)
                have hs3 : wo.heap.size < w3.heap.size := Nat.lt_of_lt_of_le hs2 hb3.size
                have HS3 := hide hs3
                clear hb3 hs3
                rw [← HM.out]
                go_wp2_with fail
                go_roundw
                case rel => exact ⟨j + 1, by omega, by go_num, HFX.out, HK3.out, HB3.out, HS3.out⟩
                case measure => simp only [intOf]; omega
          · have HR := hide (show nearS f n (201 - k) (k : Int) = nearS f n (201 - (k + 1)) ((k + 1 : Nat) : Int) by
              rw [HR1.out]
              exact near_miss (fun t ht => HNo.out t (by omega)))
            clear hno hcl hb2
            go_wp2_with fail
            go_roundw
            case rel => exact ⟨k + 1, by omega, by go_num, by rw [HN.out, HR.out], HB2.out⟩
            case measure => simp only [intOf]; omega
      · have HR := hide (show nearS f n 201 0 = (0, 3) by rw [HN.out, show 201 - k = 0 by omega]; rfl)
        go_wp2_with fail
        go_ret2
        rw [HR.out]
        exact ⟨rfl, HB.out⟩
theorem walk_FnExactNearestSplit (a0 a1 a2 a3 : Int) (w : World) (_h0 : -9223372036854775808 ≤ a0 ∧ a0 ≤ 9223372036854775807) (_h1 : -9223372036854775808 ≤ a1 ∧ a1 ≤ 9223372036854775807) (_h2 : -9223372036854775808 ≤ a2 ∧ a2 ≤ 9223372036854775807) (_h3 : -9223372036854775808 ≤ a3 ∧ a3 ≤ 9223372036854775807) :
    Calls Try.prog 4 #[.int .i64 a0, .int .i64 a1, .int .i64 a2, .int .i64 a3] w fun e w' => e = .returned (.bool true) ∧ Below w.heap.size w w' := by
  have C1 := hide (specNearestSplit_any a0 a1 a2 a3)
  have C2 := hide (implNearestSplit_any a0 a1 a2 a3)
  obtain ⟨x, hx⟩ : ∃ x, x = (nsV a0 a1 a2 a3).1 := ⟨_, rfl⟩
  obtain ⟨y, hy⟩ : ∃ y, y = (nsV a0 a1 a2 a3).2 := ⟨_, rfl⟩
  rw [← hx, ← hy] at C1 C2
  clear hx hy
  go_enter Try.func4, Try.ntmps4
  go_wp2_with fail
  refine (C1.out _).mono ?_
  rintro e w1 ⟨rfl, b1⟩
  have D1 := hide b1
  go_wp2_with fail
  refine (C2.out _).mono ?_
  rintro e w2 ⟨rfl, b2⟩
  have D2 := hide (bstep D1.out b2)
  go_wp2_with fail
  go_ret
  exact ⟨rfl, D2.out⟩
end Go.Proofs.Ythagogjklocmoaa
