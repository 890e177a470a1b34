/-
  Contracts of the small functions: the tests 'low to high' and the greatest common divisors.
-/
import Derived.Test.YtnfllflifmijeaaPlain
import Derived.Test.YtnfllflifmijeaaRows
import Derived.BigQuiet
import Derived.Deep.QuietTactic
namespace Go.Proofs.Ytnfllflifmijeaa
open Go.RowKit

theorem within_any (n lo hi : Int) (w : World) : Calls Try.prog 80 #[.int .i64 n, .int .i64 lo, .int .i64 hi] w fun e w' => e = .returned (.bool (inR n lo hi)) ∧ w = w' := by
  by_cases h1 : lo ≤ n
  · by_cases h2 : n ≤ hi
    · have h : inR n lo hi = true := inR_mk ⟨h1, h2⟩
      go_enter Try.func80, Try.ntmps80
      go_wp2
      go_ret
      exact ⟨by simp [h], rfl⟩
    · have h : inR n lo hi = false := inR_no fun h => h2 h.2
      go_enter Try.func80, Try.ntmps80
      go_wp2
      go_ret
      exact ⟨by simp, rfl⟩
  · have h : inR n lo hi = false := inR_no fun h => h1 h.1
    go_enter Try.func80, Try.ntmps80
    go_wp2
    go_ret
    exact ⟨by simp, rfl⟩
theorem l00In_any (n lo hi : Int) (w : World) : Calls Try.prog 77 #[.int .i64 n, .int .i64 lo, .int .i64 hi] w fun e w' => e = .returned (.bool (inR n lo hi)) ∧ w = w' := by
  by_cases h1 : lo ≤ n
  · by_cases h2 : n ≤ hi
    · have h : inR n lo hi = true := inR_mk ⟨h1, h2⟩
      go_enter Try.func77, Try.ntmps77
      go_wp2
      go_ret
      exact ⟨by simp [h], rfl⟩
    · have h : inR n lo hi = false := inR_no fun h => h2 h.2
      go_enter Try.func77, Try.ntmps77
      go_wp2
      go_ret
      exact ⟨by simp, rfl⟩
  · have h : inR n lo hi = false := inR_no fun h => h1 h.1
    go_enter Try.func77, Try.ntmps77
    go_wp2
    go_ret
    exact ⟨by simp, rfl⟩
theorem toothed_any (n : Int) (w : World) : Calls Try.prog 66 #[.int .i64 n] w fun e w' => e = .returned (.bool (inR n 6 240)) ∧ w = w' := by
  go_enter Try.func66, Try.ntmps66
  go_wp2_with (go_at_call 80; refine (within_any _ _ _ _).mono ?_; rintro e w' ⟨rfl, rfl⟩)
  go_ret
  exact ⟨rfl, rfl⟩
theorem countable_any (n : Int) (w : World) : Calls Try.prog 73 #[.int .i64 n] w fun e w' => e = .returned (.bool (inR n 1 1000000000)) ∧ w = w' := by
  go_enter Try.func73, Try.ntmps73
  go_wp2_with (go_at_call 80; refine (within_any _ _ _ _).mono ?_; rintro e w' ⟨rfl, rfl⟩)
  go_ret
  exact ⟨rfl, rfl⟩
theorem l05Teeth_any (n : Int) (w : World) : Calls Try.prog 62 #[.int .i64 n] w fun e w' => e = .returned (.bool (inR n 6 240)) ∧ w = w' := by
  go_enter Try.func62, Try.ntmps62
  go_wp2_with (go_at_call 77; refine (l00In_any _ _ _ _).mono ?_; rintro e w' ⟨rfl, rfl⟩)
  go_ret
  exact ⟨rfl, rfl⟩
theorem l04Ask_any (n : Int) (w : World) : Calls Try.prog 71 #[.int .i64 n] w fun e w' => e = .returned (.bool (inR n 1 1000000000)) ∧ w = w' := by
  go_enter Try.func71, Try.ntmps71
  go_wp2_with (go_at_call 77; refine (l00In_any _ _ _ _).mono ?_; rintro e w' ⟨rfl, rfl⟩)
  go_ret
  exact ⟨rfl, rfl⟩
theorem ret_int {k : IntKind} {a b : Int} (h : a = b) : Ending.returned (.int k a) = .returned (.int k b) := by rw [h]
theorem gcd_any (a b : Int) (w : World) (ha : -4000000000000000000 ≤ a ∧ a ≤ 4000000000000000000) (hb : -4000000000000000000 ≤ b ∧ b ≤ 4000000000000000000) :
    Calls Try.prog 105 #[.int .i64 a, .int .i64 b] w fun e w' => e = .returned (.int .i64 (gcdI a b)) ∧ ∃ n, w' = w.drewN n := by
  go_enter Try.func105, Try.ntmps105
  go_wp2
  go_loopw [0, 1] (fun x y w' => ∃ p q : Int, -4000000000000000000 ≤ p ∧ p ≤ 4000000000000000000 ∧ -4000000000000000000 ≤ q ∧ q ≤ 4000000000000000000 ∧ gcdI p q = gcdI a b ∧ x = .int .i64 p ∧ y = .int .i64 q ∧ ∃ n, w' = w.drewN n) (fun _ y _ => (intOf y).natAbs)
  case atStart => exact ⟨a, b, ha.1, ha.2, hb.1, hb.2, rfl, rfl, rfl, 0, rfl⟩
  case round =>
    obtain ⟨p, q, hp0, hp1, hq0, hq1, hg, rfl, rfl, n, rfl⟩ := hrel
    have HG := hide hg
    clear hg
    by_cases hq : q = 0
    · subst hq
      have := HG.out
      rw [gcdI_zero] at this
      have H2 := hide this
      clear this
      by_cases hp : p < 0
      · go_wp2
        go_ret
        exact ⟨ret_int (by rw [← H2.out, if_pos hp]), _, rfl⟩
      · go_wp2
        go_ret
        exact ⟨ret_int (by rw [← H2.out, if_neg (by omega)]), _, rfl⟩
    · have hq' : (q != 0) = true := by simpa using hq
      have h2 := tmod_lt p q hq
      have h3 := hide (tmod_lt' p q hq)
      go_wp2
      go_quiet (fail)
      go_wp2
      go_roundw
      case rel =>
        exact ⟨q, p.tmod q, by omega, by omega, by omega, by omega, (gcdI_tmod p q).trans HG.out, rfl, rfl, _, by rw [World.drewN_drewN]⟩
      case measure =>
        exact h3.out
end Go.Proofs.Ytnfllflifmijeaa
