/-
  Contracts over ratios: MakeRatio, the helpers of the laws, validity, and the walks of ValidRatio's and MakeRatio's laws.
-/
import Derived.Test.YtnlimfijepjliaaRatioW
namespace Go.Proofs.Ytnlimfijepjliaa
open Go.RowKit

theorem toRatio_any (a b : Int) (w : World) : Calls Try.prog 5 #[.agg #[.int .i64 a, .int .i64 b]] w fun e w' => e = .returned (.agg #[.int .i64 a, .int .i64 b]) ∧ Below w.heap.size w w' := by
  go_enter Try.func5, Try.ntmps5
  go_wp2
  refine bodyPost_ret (v := .agg #[.int .i64 a, .int .i64 b]) (by simp [results, Try.results5, go_sem]) rfl ⟨rfl, ?_⟩
  exact balloc (balloc (balloc (Below.refl _ _) _) _) _
set_option maxHeartbeats 2000000 in
theorem l02Ok_any (n d : Int) (w : World) : Calls Try.prog 7 #[.agg #[.int .i64 n, .int .i64 d]] w fun e w' => e = .returned (.bool (validR n d)) ∧ Below w.heap.size w w' := by
  cases h1 : inR d 1 1000000000
  · go_enter Try.func7, Try.ntmps7
    go_wp2
    go_quiet ((go_at_call 14; exact quiet_left (l00In_any _ _ _ _)))
    go_wp2
    go_ret
    exact ⟨by simp [validR, h1], bdrewN (balloc (Below.refl _ _) _) _⟩
  · cases h2 : inR n (-1000000000) 1000000000
    · go_enter Try.func7, Try.ntmps7
      go_wp2
      go_quiet ((go_at_call 14; exact quiet_left (l00In_any _ _ _ _)))
      go_wp2
      go_ret
      exact ⟨by simp [validR, h2], bdrewN (balloc (Below.refl _ _) _) _⟩
    · have b1 := inR_true h1
      have b2 := inR_true h2
      have b3 : 0 ≤ absI n ∧ absI n ≤ 1000000000 := by unfold absI; omega
      have e1 := hide (gcdI_absI_left n d)
      go_enter Try.func7, Try.ntmps7
      go_wp2
      go_quiet (first | (go_at_call 14; exact quiet_left (l00In_any _ _ _ _)) | (go_at_call 16; exact quiet_left (l02Size_any _ _ (by omega))) | (go_at_call 15; exact quiet_left (l02Gcd_any _ _ _ (by omega) (by omega))))
      go_wp2
      go_ret
      exact ⟨by simp [validR, h1, h2, e1.out], bdrewN (balloc (Below.refl _ _) _) _⟩
theorem implValidRatio_any (n d : Int) (w : World) : Calls Try.prog 9 #[.agg #[.int .i64 n, .int .i64 d]] w fun e w' => e = .returned (.bool (validR n d)) ∧ Below w.heap.size w w' := by
  cases h1 : inR d 1 1000000000
  · go_enter Try.func9, Try.ntmps9
    go_wp2_with (go_at_call 18; refine (within_any _ _ _ _).mono ?_; rintro e w' ⟨rfl, rfl⟩)
    go_ret
    exact ⟨by simp [validR, h1], balloc (Below.refl _ _) _⟩
  · cases h2 : inR n (-1000000000) 1000000000
    · go_enter Try.func9, Try.ntmps9
      go_wp2_with (go_at_call 18; refine (within_any _ _ _ _).mono ?_; rintro e w' ⟨rfl, rfl⟩)
      go_ret
      exact ⟨by simp [validR, h2], balloc (Below.refl _ _) _⟩
    · have b1 := inR_true h1
      have b2 := inR_true h2
      go_enter Try.func9, Try.ntmps9
      go_wp2_with (first | (go_at_call 18; refine (within_any _ _ _ _).mono ?_; rintro e w' ⟨rfl, rfl⟩) | (go_at_call 19; refine (gcd_any _ _ _ (by omega) (by omega)).mono ?_; rintro e w' ⟨rfl, nq, rfl⟩))
      go_ret
      exact ⟨by simp [validR, h1, h2], by repeat (first | exact Below.refl _ _ | refine balloc ?_ _ | refine bdrewN ?_ _)⟩
end Go.Proofs.Ytnlimfijepjliaa
