/-
  Contracts over ratios: MakeRatio, the helpers of the laws, validity, and the walks of ValidRatio's and MakeRatio's laws.
-/
import Derived.Test.YtjojeoehdocojaaRatioW
namespace Go.Proofs.Ytjojeoehdocojaa
open Go.RowKit

def codeOf (ok : Bool) : Int := if ok then 0 else 2
def partOf (ok : Bool) (n : Int) : Int := if ok then n else 0
theorem l02Code_any (n d : Int) (ok : Bool) (w : World) : Calls Try.prog 45 #[.agg #[.int .i64 n, .int .i64 d], .bool ok] w fun e w' => e = .returned (.tuple #[.agg #[.int .i64 (partOf ok n), .int .i64 (partOf ok d)], .int .i64 (codeOf ok)]) ∧ Below w.heap.size w w' := by
  cases ok
  · go_enter Try.func45, Try.ntmps45
    go_wp2
    refine bodyPost_ret (v := .tuple #[.agg #[.int .i64 0, .int .i64 0], .int .i64 2]) (by simp [results, Try.results45, go_sem]) rfl ⟨rfl, (by repeat (first | exact Below.refl _ _ | refine balloc ?_ _))⟩
  · go_enter Try.func45, Try.ntmps45
    go_wp2
    refine bodyPost_ret (v := .tuple #[.agg #[.int .i64 n, .int .i64 d], .int .i64 0]) (by simp [results, Try.results45, go_sem]) rfl ⟨rfl, (by repeat (first | exact Below.refl _ _ | refine balloc ?_ _))⟩
theorem mkN_part (n d : Int) : partOf (mkOk n d) (mkN n d) = mkN n d := by unfold partOf mkN; cases mkOk n d <;> rfl
theorem mkD_part (n d : Int) : partOf (mkOk n d) (mkD n d) = mkD n d := by unfold partOf mkD; cases mkOk n d <;> rfl
def eqR (n d n' d' : Int) : Bool := (n == n') && (d == d')
theorem eqR_refl (n d : Int) : eqR n d n d = true := by simp [eqR]
theorem eqRatio_any (n d n' d' : Int) (w : World) : Calls Try.prog 21 #[.agg #[.int .i64 n, .int .i64 d], .agg #[.int .i64 n', .int .i64 d']] w fun e w' => e = .returned (.bool (eqR n d n' d')) ∧ Below w.heap.size w w' := by
  by_cases h1 : n = n'
  · subst h1
    by_cases h2 : d = d'
    · subst h2
      have g1 : (n != n) = false := by simp
      have g2 : (d != d) = false := by simp
      go_enter Try.func21, Try.ntmps21
      go_wp2
      go_ret
      exact ⟨by simp [eqR], (by repeat (first | exact Below.refl _ _ | refine balloc ?_ _))⟩
    · have g1 : (n != n) = false := by simp
      have g2 : (d != d') = true := by simpa using h2
      have H := hide h2
      clear h2
      go_enter Try.func21, Try.ntmps21
      go_wp2
      go_ret
      exact ⟨by simp [eqR, H.out], (by repeat (first | exact Below.refl _ _ | refine balloc ?_ _))⟩
  · have g1 : (n != n') = true := by simpa using h1
    have H := hide h1
    clear h1
    go_enter Try.func21, Try.ntmps21
    go_wp2
    go_ret
    exact ⟨by simp [eqR, H.out], (by repeat (first | exact Below.refl _ _ | refine balloc ?_ _))⟩
theorem toRatio_any (a b : Int) (w : World) : Calls Try.prog 13 #[.agg #[.int .i64 a, .int .i64 b]] w fun e w' => e = .returned (.agg #[.int .i64 a, .int .i64 b]) ∧ Below w.heap.size w w' := by
  go_enter Try.func13, Try.ntmps13
  go_wp2
  refine bodyPost_ret (v := .agg #[.int .i64 a, .int .i64 b]) (by simp [results, Try.results13, go_sem]) rfl ⟨rfl, ?_⟩
  exact balloc (balloc (balloc (Below.refl _ _) _) _) _
set_option maxHeartbeats 2000000 in
theorem l02Ok_any (n d : Int) (w : World) : Calls Try.prog 41 #[.agg #[.int .i64 n, .int .i64 d]] w fun e w' => e = .returned (.bool (validR n d)) ∧ Below w.heap.size w w' := by
  cases h1 : inR d 1 1000000000
  · go_enter Try.func41, Try.ntmps41
    go_wp2
    go_quiet ((go_at_call 51; exact quiet_left (l00In_any _ _ _ _)))
    go_wp2
    go_ret
    exact ⟨by simp [validR, h1], bdrewN (balloc (Below.refl _ _) _) _⟩
  · cases h2 : inR n (-1000000000) 1000000000
    · go_enter Try.func41, Try.ntmps41
      go_wp2
      go_quiet ((go_at_call 51; exact quiet_left (l00In_any _ _ _ _)))
      go_wp2
      go_ret
      exact ⟨by simp [validR, h2], bdrewN (balloc (Below.refl _ _) _) _⟩
    · have b1 := inR_true h1
      have b2 := inR_true h2
      have b3 : 0 ≤ absI n ∧ absI n ≤ 1000000000 := by unfold absI; omega
      have e1 := hide (gcdI_absI_left n d)
      go_enter Try.func41, Try.ntmps41
      go_wp2
      go_quiet (first | (go_at_call 51; exact quiet_left (l00In_any _ _ _ _)) | (go_at_call 63; exact quiet_left (l02Size_any _ _ (by omega))) | (go_at_call 62; exact quiet_left (l02Gcd_any _ _ _ (by omega) (by omega))))
      go_wp2
      go_ret
      exact ⟨by simp [validR, h1, h2, e1.out], bdrewN (balloc (Below.refl _ _) _) _⟩
theorem implValidRatio_any (n d : Int) (w : World) : Calls Try.prog 43 #[.agg #[.int .i64 n, .int .i64 d]] w fun e w' => e = .returned (.bool (validR n d)) ∧ Below w.heap.size w w' := by
  cases h1 : inR d 1 1000000000
  · go_enter Try.func43, Try.ntmps43
    go_wp2_with (go_at_call 47; refine (within_any _ _ _ _).mono ?_; rintro e w' ⟨rfl, rfl⟩)
    go_ret
    exact ⟨by simp [validR, h1], balloc (Below.refl _ _) _⟩
  · cases h2 : inR n (-1000000000) 1000000000
    · go_enter Try.func43, Try.ntmps43
      go_wp2_with (go_at_call 47; refine (within_any _ _ _ _).mono ?_; rintro e w' ⟨rfl, rfl⟩)
      go_ret
      exact ⟨by simp [validR, h2], balloc (Below.refl _ _) _⟩
    · have b1 := inR_true h1
      have b2 := inR_true h2
      go_enter Try.func43, Try.ntmps43
      go_wp2_with (first | (go_at_call 47; refine (within_any _ _ _ _).mono ?_; rintro e w' ⟨rfl, rfl⟩) | (go_at_call 64; refine (gcd_any _ _ _ (by omega) (by omega)).mono ?_; rintro e w' ⟨rfl, nq, rfl⟩))
      go_ret
      exact ⟨by simp [validR, h1, h2], by repeat (first | exact Below.refl _ _ | refine balloc ?_ _ | refine bdrewN ?_ _)⟩
theorem specValidRatio_any (a b : Int) (w : World) : Calls Try.prog 35 #[.agg #[.int .i64 a, .int .i64 b]] w fun e w' => e = .returned (.bool (validR a b)) ∧ Below w.heap.size w w' := by
  go_enter Try.func35, Try.ntmps35
  go_wp2_with (go_at_call 41; refine (l02Ok_any _ _ _).mono ?_; rintro e w1 ⟨rfl, hb1⟩)
  go_ret
  exact ⟨rfl, bstep (balloc (Below.refl _ _) _) hb1⟩
end Go.Proofs.Ytjojeoehdocojaa
