/-
  Contracts over ratios: MakeRatio, the helpers of the laws, validity, and the walks of ValidRatio's and MakeRatio's laws.
-/
import Derived.Test.YtnfllflifmijeaaRatioW
namespace Go.Proofs.Ytnfllflifmijeaa
open Go.RowKit

def codeOf (ok : Bool) : Int := if ok then 0 else 2
def partOf (ok : Bool) (n : Int) : Int := if ok then n else 0
theorem l02Code_any (n d : Int) (ok : Bool) (w : World) : Calls Try.prog 59 #[.agg #[.int .i64 n, .int .i64 d], .bool ok] w fun e w' => e = .returned (.tuple #[.agg #[.int .i64 (partOf ok n), .int .i64 (partOf ok d)], .int .i64 (codeOf ok)]) ∧ Below w.heap.size w w' := by
  cases ok
  · go_enter Try.func59, Try.ntmps59
    go_wp2
    refine bodyPost_ret (v := .tuple #[.agg #[.int .i64 0, .int .i64 0], .int .i64 2]) (by simp [results, Try.results59, go_sem]) rfl ⟨rfl, (by repeat (first | exact Below.refl _ _ | refine balloc ?_ _))⟩
  · go_enter Try.func59, Try.ntmps59
    go_wp2
    refine bodyPost_ret (v := .tuple #[.agg #[.int .i64 n, .int .i64 d], .int .i64 0]) (by simp [results, Try.results59, go_sem]) rfl ⟨rfl, (by repeat (first | exact Below.refl _ _ | refine balloc ?_ _))⟩
theorem mkN_part (n d : Int) : partOf (mkOk n d) (mkN n d) = mkN n d := by unfold partOf mkN; cases mkOk n d <;> rfl
theorem mkD_part (n d : Int) : partOf (mkOk n d) (mkD n d) = mkD n d := by unfold partOf mkD; cases mkOk n d <;> rfl
theorem implMakeRatio_any (n d : Int) (w : World) (hn : -9223372036854775808 ≤ n ∧ n ≤ 9223372036854775807) (hd : -9223372036854775808 ≤ d ∧ d ≤ 9223372036854775807) :
    Calls Try.prog 91 #[.int .i64 n, .int .i64 d] w fun e w' => e = .returned (.tuple #[.agg #[.int .i64 (mrN n d), .int .i64 (mrD n d)], .int .i64 (mrC n d)]) ∧ Below w.heap.size w w' := by
  by_cases h0 : d = 0
  · subst h0
    go_enter Try.func91, Try.ntmps91
    go_wp2
    refine bodyPost_ret (v := .tuple #[.agg #[.int .i64 0, .int .i64 0], .int .i64 6]) (by simp [results, Try.results91, go_sem]) rfl ⟨rfl, (by repeat (first | exact Below.refl _ _ | refine balloc ?_ _))⟩
  · have hz : (d == 0) = false := by simpa using h0
    have H0 := hide h0
    cases hok : mkOk n d
    · go_enter Try.func91, Try.ntmps91
      go_wp2_with fail
      refine (reduced_any n d _ hn hd H0.out).mono ?_
      rintro e w1 ⟨rfl, hb1⟩
      have hz1 : w.heap.size < w1.heap.size := by have := hb1.size; simp at this; omega
      obtain ⟨hc1, hf1⟩ := bcell hb1
      go_wp2_with fail
      refine bodyPost_ret (v := .tuple #[.agg #[.int .i64 0, .int .i64 0], .int .i64 2]) (by simp [results, Try.results91, go_sem, hc1, hz1]) rfl ⟨?_, ?_⟩
      · unfold mrN mrD mrC mkN mkD
        rw [if_neg H0.out, if_neg H0.out, if_neg H0.out, hok]; rfl
      · repeat (first | exact Below.refl _ _ | refine balloc ?_ _ | refine bset ?_ (Nat.le_refl _) _ | refine bset ?_ (Nat.le_of_lt hz1) _ | refine bstep ?_ hb1)
    · go_enter Try.func91, Try.ntmps91
      go_wp2_with fail
      refine (reduced_any n d _ hn hd H0.out).mono ?_
      rintro e w1 ⟨rfl, hb1⟩
      have hz1 : w.heap.size < w1.heap.size := by have := hb1.size; simp at this; omega
      obtain ⟨hc1, hf1⟩ := bcell hb1
      go_wp2_with fail
      refine bodyPost_ret (v := .tuple #[.agg #[.int .i64 (mkN n d), .int .i64 (mkD n d)], .int .i64 0]) (by simp [results, Try.results91, go_sem, hc1, hz1]) rfl ⟨?_, ?_⟩
      · unfold mrN mrD mrC
        rw [if_neg H0.out, if_neg H0.out, if_neg H0.out, hok]; rfl
      · repeat (first | exact Below.refl _ _ | refine balloc ?_ _ | refine bset ?_ (Nat.le_refl _) _ | refine bset ?_ (Nat.le_of_lt hz1) _ | refine bstep ?_ hb1)
def eqR (n d n' d' : Int) : Bool := (n == n') && (d == d')
theorem eqR_refl (n d : Int) : eqR n d n d = true := by simp [eqR]
theorem eqRatio_any (n d n' d' : Int) (w : World) : Calls Try.prog 25 #[.agg #[.int .i64 n, .int .i64 d], .agg #[.int .i64 n', .int .i64 d']] w fun e w' => e = .returned (.bool (eqR n d n' d')) ∧ Below w.heap.size w w' := by
  by_cases h1 : n = n'
  · subst h1
    by_cases h2 : d = d'
    · subst h2
      have g1 : (n != n) = false := by simp
      have g2 : (d != d) = false := by simp
      go_enter Try.func25, Try.ntmps25
      go_wp2
      go_ret
      exact ⟨by simp [eqR], (by repeat (first | exact Below.refl _ _ | refine balloc ?_ _))⟩
    · have g1 : (n != n) = false := by simp
      have g2 : (d != d') = true := by simpa using h2
      have H := hide h2
      clear h2
      go_enter Try.func25, Try.ntmps25
      go_wp2
      go_ret
      exact ⟨by simp [eqR, H.out], (by repeat (first | exact Below.refl _ _ | refine balloc ?_ _))⟩
  · have g1 : (n != n') = true := by simpa using h1
    have H := hide h1
    clear h1
    go_enter Try.func25, Try.ntmps25
    go_wp2
    go_ret
    exact ⟨by simp [eqR, H.out], (by repeat (first | exact Below.refl _ _ | refine balloc ?_ _))⟩
theorem implValidRatio_any (n d : Int) (w : World) : Calls Try.prog 92 #[.agg #[.int .i64 n, .int .i64 d]] w fun e w' => e = .returned (.bool (validR n d)) ∧ Below w.heap.size w w' := by
  cases h1 : inR d 1 1000000000
  · go_enter Try.func92, Try.ntmps92
    go_wp2_with (go_at_call 80; refine (within_any _ _ _ _).mono ?_; rintro e w' ⟨rfl, rfl⟩)
    go_ret
    exact ⟨by simp [validR, h1], balloc (Below.refl _ _) _⟩
  · cases h2 : inR n (-1000000000) 1000000000
    · go_enter Try.func92, Try.ntmps92
      go_wp2_with (go_at_call 80; refine (within_any _ _ _ _).mono ?_; rintro e w' ⟨rfl, rfl⟩)
      go_ret
      exact ⟨by simp [validR, h2], balloc (Below.refl _ _) _⟩
    · have b1 := inR_true h1
      have b2 := inR_true h2
      go_enter Try.func92, Try.ntmps92
      go_wp2_with (first | (go_at_call 80; refine (within_any _ _ _ _).mono ?_; rintro e w' ⟨rfl, rfl⟩) | (go_at_call 105; refine (gcd_any _ _ _ (by omega) (by omega)).mono ?_; rintro e w' ⟨rfl, nq, rfl⟩))
      go_ret
      exact ⟨by simp [validR, h1, h2], by repeat (first | exact Below.refl _ _ | refine balloc ?_ _ | refine bdrewN ?_ _)⟩
end Go.Proofs.Ytnfllflifmijeaa
