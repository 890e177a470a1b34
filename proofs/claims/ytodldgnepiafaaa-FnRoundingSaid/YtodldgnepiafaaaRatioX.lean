/-
  Contracts over ratios: MakeRatio, the helpers of the laws, validity, and the walks of ValidRatio's and MakeRatio's laws.
-/
import Derived.Test.YtodldgnepiafaaaRatioW
namespace Go.Proofs.Ytodldgnepiafaaa
open Go.RowKit

def codeOf (ok : Bool) : Int := if ok then 0 else 2
def partOf (ok : Bool) (n : Int) : Int := if ok then n else 0
theorem l02Code_any (n d : Int) (ok : Bool) (w : World) : Calls Try.prog 45 #[.agg #[.int .i64 n, .int .i64 d], .bool ok] w fun e w' => e = .returned (.tuple #[.agg #[.int .i64 (partOf ok n), .int .i64 (partOf ok d)], .int .i64 (codeOf ok)]) ∧ Below w.heap.size w w' := by
  cases ok
  · go_enter Try.func45, Try.ntmps45
    go_wp2
    refine bodyPost_ret (v := .tuple #[.agg #[.int .i64 0, .int .i64 0], .int .i64 2]) (by simp [results, Try.results45, go_sem]) rfl ⟨rfl, (by repeat (first | exact Below.refl _ _ | refine balloc ?_ _))⟩
  · go_enter Try.func45, Try.ntmps45
    go_wp2
    refine bodyPost_ret (v := .tuple #[.agg #[.int .i64 n, .int .i64 d], .int .i64 0]) (by simp [results, Try.results45, go_sem]) rfl ⟨rfl, (by repeat (first | exact Below.refl _ _ | refine balloc ?_ _))⟩
theorem mkN_part (n d : Int) : partOf (mkOk n d) (mkN n d) = mkN n d := by unfold partOf mkN; cases mkOk n d <;> rfl
theorem mkD_part (n d : Int) : partOf (mkOk n d) (mkD n d) = mkD n d := by unfold partOf mkD; cases mkOk n d <;> rfl
theorem specMakeRatio_any (n d : Int) (w : World) (hn : -9223372036854775808 ≤ n ∧ n ≤ 9223372036854775807) (hd : -9223372036854775808 ≤ d ∧ d ≤ 9223372036854775807) :
    Calls Try.prog 18 #[.int .i64 n, .int .i64 d] w fun e w' => e = .returned (.tuple #[.agg #[.int .i64 (mrN n d), .int .i64 (mrD n d)], .int .i64 (mrC n d)]) ∧ Below w.heap.size w w' := by
  by_cases h0 : d = 0
  · subst h0
    go_enter Try.func18, Try.ntmps18
    go_wp2
    refine bodyPost_ret (v := .tuple #[.agg #[.int .i64 0, .int .i64 0], .int .i64 6]) (by simp [results, Try.results18, go_sem]) rfl ⟨rfl, (by repeat (first | exact Below.refl _ _ | refine balloc ?_ _))⟩
  · have hz : (d == 0) = false := by simpa using h0
    have H0 := hide h0
    have e1 := hide (mkN_part n d)
    have e2 := hide (mkD_part n d)
    go_enter Try.func18, Try.ntmps18
    go_wp2_with fail
    refine (l02Make_any n d _ hn hd H0.out).mono ?_
    rintro e w1 ⟨rfl, hb1⟩
    have hz1 : w.heap.size < w1.heap.size := by have := hb1.size; simp at this; omega
    obtain ⟨hc1, hf1⟩ := bcell hb1
    go_wp2_with fail
    refine (l02Code_any _ _ _ _).mono ?_
    rintro e w2 ⟨rfl, hb2⟩
    have hz2 : w.heap.size < w2.heap.size := by have := hb2.size; omega
    obtain ⟨hc2, hf2⟩ := bcell hb2
    go_wp2_with fail
    refine bodyPost_ret (v := .tuple #[.agg #[.int .i64 (partOf (mkOk n d) (mkN n d)), .int .i64 (partOf (mkOk n d) (mkD n d))], .int .i64 (codeOf (mkOk n d))]) (by simp [results, Try.results18, go_sem, hc2, hc1, hz1]) rfl ⟨?_, ?_⟩
    · rw [e1.out, e2.out]
      unfold mrN mrD mrC codeOf
      rw [if_neg H0.out, if_neg H0.out, if_neg H0.out]
    · exact bset (bset (bstep (bstep (balloc (Below.refl _ _) _) hb1) hb2) (Nat.le_refl _) _) (Nat.le_refl _) _
theorem implMakeRatio_any (n d : Int) (w : World) (hn : -9223372036854775808 ≤ n ∧ n ≤ 9223372036854775807) (hd : -9223372036854775808 ≤ d ∧ d ≤ 9223372036854775807) :
    Calls Try.prog 19 #[.int .i64 n, .int .i64 d] w fun e w' => e = .returned (.tuple #[.agg #[.int .i64 (mrN n d), .int .i64 (mrD n d)], .int .i64 (mrC n d)]) ∧ Below w.heap.size w w' := by
  by_cases h0 : d = 0
  · subst h0
    go_enter Try.func19, Try.ntmps19
    go_wp2
    refine bodyPost_ret (v := .tuple #[.agg #[.int .i64 0, .int .i64 0], .int .i64 6]) (by simp [results, Try.results19, go_sem]) rfl ⟨rfl, (by repeat (first | exact Below.refl _ _ | refine balloc ?_ _))⟩
  · have hz : (d == 0) = false := by simpa using h0
    have H0 := hide h0
    cases hok : mkOk n d
    · go_enter Try.func19, Try.ntmps19
      go_wp2_with fail
      refine (reduced_any n d _ hn hd H0.out).mono ?_
      rintro e w1 ⟨rfl, hb1⟩
      have hz1 : w.heap.size < w1.heap.size := by have := hb1.size; simp at this; omega
      obtain ⟨hc1, hf1⟩ := bcell hb1
      go_wp2_with fail
      refine bodyPost_ret (v := .tuple #[.agg #[.int .i64 0, .int .i64 0], .int .i64 2]) (by simp [results, Try.results19, go_sem, hc1, hz1]) rfl ⟨?_, ?_⟩
      · unfold mrN mrD mrC mkN mkD
        rw [if_neg H0.out, if_neg H0.out, if_neg H0.out, hok]; rfl
      · repeat (first | exact Below.refl _ _ | refine balloc ?_ _ | refine bset ?_ (Nat.le_refl _) _ | refine bset ?_ (Nat.le_of_lt hz1) _ | refine bstep ?_ hb1)
    · go_enter Try.func19, Try.ntmps19
      go_wp2_with fail
      refine (reduced_any n d _ hn hd H0.out).mono ?_
      rintro e w1 ⟨rfl, hb1⟩
      have hz1 : w.heap.size < w1.heap.size := by have := hb1.size; simp at this; omega
      obtain ⟨hc1, hf1⟩ := bcell hb1
      go_wp2_with fail
      refine bodyPost_ret (v := .tuple #[.agg #[.int .i64 (mkN n d), .int .i64 (mkD n d)], .int .i64 0]) (by simp [results, Try.results19, go_sem, hc1, hz1]) rfl ⟨?_, ?_⟩
      · unfold mrN mrD mrC
        rw [if_neg H0.out, if_neg H0.out, if_neg H0.out, hok]; rfl
      · repeat (first | exact Below.refl _ _ | refine balloc ?_ _ | refine bset ?_ (Nat.le_refl _) _ | refine bset ?_ (Nat.le_of_lt hz1) _ | refine bstep ?_ hb1)
def eqR (n d n' d' : Int) : Bool := (n == n') && (d == d')
theorem eqR_refl (n d : Int) : eqR n d n d = true := by simp [eqR]
theorem eqRatio_any (n d n' d' : Int) (w : World) : Calls Try.prog 20 #[.agg #[.int .i64 n, .int .i64 d], .agg #[.int .i64 n', .int .i64 d']] w fun e w' => e = .returned (.bool (eqR n d n' d')) ∧ Below w.heap.size w w' := by
  by_cases h1 : n = n'
  · subst h1
    by_cases h2 : d = d'
    · subst h2
      have g1 : (n != n) = false := by simp
      have g2 : (d != d) = false := by simp
      go_enter Try.func20, Try.ntmps20
      go_wp2
      go_ret
      exact ⟨by simp [eqR], (by repeat (first | exact Below.refl _ _ | refine balloc ?_ _))⟩
    · have g1 : (n != n) = false := by simp
      have g2 : (d != d') = true := by simpa using h2
      have H := hide h2
      clear h2
      go_enter Try.func20, Try.ntmps20
      go_wp2
      go_ret
      exact ⟨by simp [eqR, H.out], (by repeat (first | exact Below.refl _ _ | refine balloc ?_ _))⟩
  · have g1 : (n != n') = true := by simpa using h1
    have H := hide h1
    clear h1
    go_enter Try.func20, Try.ntmps20
    go_wp2
    go_ret
    exact ⟨by simp [eqR, H.out], (by repeat (first | exact Below.refl _ _ | refine balloc ?_ _))⟩
theorem toRatio_any (a b : Int) (w : World) : Calls Try.prog 16 #[.agg #[.int .i64 a, .int .i64 b]] w fun e w' => e = .returned (.agg #[.int .i64 a, .int .i64 b]) ∧ Below w.heap.size w w' := by
  go_enter Try.func16, Try.ntmps16
  go_wp2
  refine bodyPost_ret (v := .agg #[.int .i64 a, .int .i64 b]) (by simp [results, Try.results16, go_sem]) rfl ⟨rfl, ?_⟩
  exact balloc (balloc (balloc (Below.refl _ _) _) _) _
set_option maxHeartbeats 2000000 in
theorem l02Ok_any (n d : Int) (w : World) : Calls Try.prog 42 #[.agg #[.int .i64 n, .int .i64 d]] w fun e w' => e = .returned (.bool (validR n d)) ∧ Below w.heap.size w w' := by
  cases h1 : inR d 1 1000000000
  · go_enter Try.func42, Try.ntmps42
    go_wp2
    go_quiet ((go_at_call 58; exact quiet_left (l00In_any _ _ _ _)))
    go_wp2
    go_ret
    exact ⟨by simp [validR, h1], bdrewN (balloc (Below.refl _ _) _) _⟩
  · cases h2 : inR n (-1000000000) 1000000000
    · go_enter Try.func42, Try.ntmps42
      go_wp2
      go_quiet ((go_at_call 58; exact quiet_left (l00In_any _ _ _ _)))
      go_wp2
      go_ret
      exact ⟨by simp [validR, h2], bdrewN (balloc (Below.refl _ _) _) _⟩
    · have b1 := inR_true h1
      have b2 := inR_true h2
      have b3 : 0 ≤ absI n ∧ absI n ≤ 1000000000 := by unfold absI; omega
      have e1 := hide (gcdI_absI_left n d)
      go_enter Try.func42, Try.ntmps42
      go_wp2
      go_quiet (first | (go_at_call 58; exact quiet_left (l00In_any _ _ _ _)) | (go_at_call 62; exact quiet_left (l02Size_any _ _ (by omega))) | (go_at_call 61; exact quiet_left (l02Gcd_any _ _ _ (by omega) (by omega))))
      go_wp2
      go_ret
      exact ⟨by simp [validR, h1, h2, e1.out], bdrewN (balloc (Below.refl _ _) _) _⟩
theorem implValidRatio_any (n d : Int) (w : World) : Calls Try.prog 17 #[.agg #[.int .i64 n, .int .i64 d]] w fun e w' => e = .returned (.bool (validR n d)) ∧ Below w.heap.size w w' := by
  cases h1 : inR d 1 1000000000
  · go_enter Try.func17, Try.ntmps17
    go_wp2_with (go_at_call 43; refine (within_any _ _ _ _).mono ?_; rintro e w' ⟨rfl, rfl⟩)
    go_ret
    exact ⟨by simp [validR, h1], balloc (Below.refl _ _) _⟩
  · cases h2 : inR n (-1000000000) 1000000000
    · go_enter Try.func17, Try.ntmps17
      go_wp2_with (go_at_call 43; refine (within_any _ _ _ _).mono ?_; rintro e w' ⟨rfl, rfl⟩)
      go_ret
      exact ⟨by simp [validR, h2], balloc (Below.refl _ _) _⟩
    · have b1 := inR_true h1
      have b2 := inR_true h2
      go_enter Try.func17, Try.ntmps17
      go_wp2_with (first | (go_at_call 43; refine (within_any _ _ _ _).mono ?_; rintro e w' ⟨rfl, rfl⟩) | (go_at_call 44; refine (gcd_any _ _ _ (by omega) (by omega)).mono ?_; rintro e w' ⟨rfl, nq, rfl⟩))
      go_ret
      exact ⟨by simp [validR, h1, h2], by repeat (first | exact Below.refl _ _ | refine balloc ?_ _ | refine bdrewN ?_ _)⟩
theorem specValidRatio_any (a b : Int) (w : World) : Calls Try.prog 15 #[.agg #[.int .i64 a, .int .i64 b]] w fun e w' => e = .returned (.bool (validR a b)) ∧ Below w.heap.size w w' := by
  go_enter Try.func15, Try.ntmps15
  go_wp2_with (go_at_call 42; refine (l02Ok_any _ _ _).mono ?_; rintro e w1 ⟨rfl, hb1⟩)
  go_ret
  exact ⟨rfl, bstep (balloc (Below.refl _ _) _) hb1⟩
end Go.Proofs.Ytodldgnepiafaaa
