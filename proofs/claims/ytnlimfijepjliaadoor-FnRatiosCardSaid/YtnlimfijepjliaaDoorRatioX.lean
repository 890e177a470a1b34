/-
  Contracts over ratios: MakeRatio, the helpers of the laws, validity, and the walks of ValidRatio's and MakeRatio's laws.
-/
import Derived.Test.YtnlimfijepjliaaDoorRatioW
namespace Go.Proofs.YtnlimfijepjliaaDoor
open Go.RowKit

theorem implMakeRatio_any (n d : Int) (w : World) (hn : -9223372036854775808 ≤ n ∧ n ≤ 9223372036854775807) (hd : -9223372036854775808 ≤ d ∧ d ≤ 9223372036854775807) :
    Calls Tryd.prog 42 #[.int .i64 n, .int .i64 d] w fun e w' => e = .returned (.tuple #[.agg #[.int .i64 (mrN n d), .int .i64 (mrD n d)], .int .i64 (mrC n d)]) ∧ Below w.heap.size w w' := by
  by_cases h0 : d = 0
  · subst h0
    go_enter Tryd.func42, Tryd.ntmps42
    go_wp2
    refine bodyPost_ret (v := .tuple #[.agg #[.int .i64 0, .int .i64 0], .int .i64 6]) (by simp [results, Tryd.results42, go_sem]) rfl ⟨rfl, (by repeat (first | exact Below.refl _ _ | refine balloc ?_ _))⟩
  · have hz : (d == 0) = false := by simpa using h0
    have H0 := hide h0
    cases hok : mkOk n d
    · go_enter Tryd.func42, Tryd.ntmps42
      go_wp2_with fail
      refine (reduced_any n d _ hn hd H0.out).mono ?_
      rintro e w1 ⟨rfl, hb1⟩
      have hz1 : w.heap.size < w1.heap.size := by have := hb1.size; simp at this; omega
      obtain ⟨hc1, hf1⟩ := bcell hb1
      go_wp2_with fail
      refine bodyPost_ret (v := .tuple #[.agg #[.int .i64 0, .int .i64 0], .int .i64 2]) (by simp [results, Tryd.results42, go_sem, hc1, hz1]) rfl ⟨?_, ?_⟩
      · unfold mrN mrD mrC mkN mkD
        rw [if_neg H0.out, if_neg H0.out, if_neg H0.out, hok]; rfl
      · repeat (first | exact Below.refl _ _ | refine balloc ?_ _ | refine bset ?_ (Nat.le_refl _) _ | refine bset ?_ (Nat.le_of_lt hz1) _ | refine bstep ?_ hb1)
    · go_enter Tryd.func42, Tryd.ntmps42
      go_wp2_with fail
      refine (reduced_any n d _ hn hd H0.out).mono ?_
      rintro e w1 ⟨rfl, hb1⟩
      have hz1 : w.heap.size < w1.heap.size := by have := hb1.size; simp at this; omega
      obtain ⟨hc1, hf1⟩ := bcell hb1
      go_wp2_with fail
      refine bodyPost_ret (v := .tuple #[.agg #[.int .i64 (mkN n d), .int .i64 (mkD n d)], .int .i64 0]) (by simp [results, Tryd.results42, go_sem, hc1, hz1]) rfl ⟨?_, ?_⟩
      · unfold mrN mrD mrC
        rw [if_neg H0.out, if_neg H0.out, if_neg H0.out, hok]; rfl
      · repeat (first | exact Below.refl _ _ | refine balloc ?_ _ | refine bset ?_ (Nat.le_refl _) _ | refine bset ?_ (Nat.le_of_lt hz1) _ | refine bstep ?_ hb1)
def eqR (n d n' d' : Int) : Bool := (n == n') && (d == d')
theorem eqR_refl (n d : Int) : eqR n d n d = true := by simp [eqR]
theorem eqRatio_any (n d n' d' : Int) (w : World) : Calls Tryd.prog 34 #[.agg #[.int .i64 n, .int .i64 d], .agg #[.int .i64 n', .int .i64 d']] w fun e w' => e = .returned (.bool (eqR n d n' d')) ∧ Below w.heap.size w w' := by
  by_cases h1 : n = n'
  · subst h1
    by_cases h2 : d = d'
    · subst h2
      have g1 : (n != n) = false := by simp
      have g2 : (d != d) = false := by simp
      go_enter Tryd.func34, Tryd.ntmps34
      go_wp2
      go_ret
      exact ⟨by simp [eqR], (by repeat (first | exact Below.refl _ _ | refine balloc ?_ _))⟩
    · have g1 : (n != n) = false := by simp
      have g2 : (d != d') = true := by simpa using h2
      have H := hide h2
      clear h2
      go_enter Tryd.func34, Tryd.ntmps34
      go_wp2
      go_ret
      exact ⟨by simp [eqR, H.out], (by repeat (first | exact Below.refl _ _ | refine balloc ?_ _))⟩
  · have g1 : (n != n') = true := by simpa using h1
    have H := hide h1
    clear h1
    go_enter Tryd.func34, Tryd.ntmps34
    go_wp2
    go_ret
    exact ⟨by simp [eqR, H.out], (by repeat (first | exact Below.refl _ _ | refine balloc ?_ _))⟩
theorem toRatio_any (a b : Int) (w : World) : Calls Tryd.prog 16 #[.agg #[.int .i64 a, .int .i64 b]] w fun e w' => e = .returned (.agg #[.int .i64 a, .int .i64 b]) ∧ Below w.heap.size w w' := by
  go_enter Tryd.func16, Tryd.ntmps16
  go_wp2
  refine bodyPost_ret (v := .agg #[.int .i64 a, .int .i64 b]) (by simp [results, Tryd.results16, go_sem]) rfl ⟨rfl, ?_⟩
  exact balloc (balloc (balloc (Below.refl _ _) _) _) _
set_option maxHeartbeats 2000000 in
theorem l02Ok_any (n d : Int) (w : World) : Calls Tryd.prog 49 #[.agg #[.int .i64 n, .int .i64 d]] w fun e w' => e = .returned (.bool (validR n d)) ∧ Below w.heap.size w w' := by
  cases h1 : inR d 1 1000000000
  · go_enter Tryd.func49, Tryd.ntmps49
    go_wp2
    go_quiet ((go_at_call 80; exact quiet_left (l00In_any _ _ _ _)))
    go_wp2
    go_ret
    exact ⟨by simp [validR, h1], bdrewN (balloc (Below.refl _ _) _) _⟩
  · cases h2 : inR n (-1000000000) 1000000000
    · go_enter Tryd.func49, Tryd.ntmps49
      go_wp2
      go_quiet ((go_at_call 80; exact quiet_left (l00In_any _ _ _ _)))
      go_wp2
      go_ret
      exact ⟨by simp [validR, h2], bdrewN (balloc (Below.refl _ _) _) _⟩
    · have b1 := inR_true h1
      have b2 := inR_true h2
      have b3 : 0 ≤ absI n ∧ absI n ≤ 1000000000 := by unfold absI; omega
      have e1 := hide (gcdI_absI_left n d)
      go_enter Tryd.func49, Tryd.ntmps49
      go_wp2
      go_quiet (first | (go_at_call 80; exact quiet_left (l00In_any _ _ _ _)) | (go_at_call 82; exact quiet_left (l02Size_any _ _ (by omega))) | (go_at_call 81; exact quiet_left (l02Gcd_any _ _ _ (by omega) (by omega))))
      go_wp2
      go_ret
      exact ⟨by simp [validR, h1, h2, e1.out], bdrewN (balloc (Below.refl _ _) _) _⟩
theorem implValidRatio_any (n d : Int) (w : World) : Calls Tryd.prog 51 #[.agg #[.int .i64 n, .int .i64 d]] w fun e w' => e = .returned (.bool (validR n d)) ∧ Below w.heap.size w w' := by
  cases h1 : inR d 1 1000000000
  · go_enter Tryd.func51, Tryd.ntmps51
    go_wp2_with (go_at_call 83; refine (within_any _ _ _ _).mono ?_; rintro e w' ⟨rfl, rfl⟩)
    go_ret
    exact ⟨by simp [validR, h1], balloc (Below.refl _ _) _⟩
  · cases h2 : inR n (-1000000000) 1000000000
    · go_enter Tryd.func51, Tryd.ntmps51
      go_wp2_with (go_at_call 83; refine (within_any _ _ _ _).mono ?_; rintro e w' ⟨rfl, rfl⟩)
      go_ret
      exact ⟨by simp [validR, h2], balloc (Below.refl _ _) _⟩
    · have b1 := inR_true h1
      have b2 := inR_true h2
      go_enter Tryd.func51, Tryd.ntmps51
      go_wp2_with (first | (go_at_call 83; refine (within_any _ _ _ _).mono ?_; rintro e w' ⟨rfl, rfl⟩) | (go_at_call 84; refine (gcd_any _ _ _ (by omega) (by omega)).mono ?_; rintro e w' ⟨rfl, nq, rfl⟩))
      go_ret
      exact ⟨by simp [validR, h1, h2], by repeat (first | exact Below.refl _ _ | refine balloc ?_ _ | refine bdrewN ?_ _)⟩
end Go.Proofs.YtnlimfijepjliaaDoor
