/-
  Contracts of the small functions: the tests 'low to high' and the greatest common divisors.
-/
import Derived.Test.YtnlimfijepjliaaDoorPlain
import Derived.Test.YtnlimfijepjliaaDoorRows
import Derived.BigQuiet
import Derived.Deep.QuietTactic
namespace Go.Proofs.YtnlimfijepjliaaDoor
open Go.RowKit

theorem within_any (n lo hi : Int) (w : World) : Calls Tryd.prog 83 #[.int .i64 n, .int .i64 lo, .int .i64 hi] w fun e w' => e = .returned (.bool (inR n lo hi)) ∧ w = w' := by
  by_cases h1 : lo ≤ n
  · by_cases h2 : n ≤ hi
    · have h : inR n lo hi = true := inR_mk ⟨h1, h2⟩
      go_enter Tryd.func83, Tryd.ntmps83
      go_wp2
      go_ret
      exact ⟨by simp [h], rfl⟩
    · have h : inR n lo hi = false := inR_no fun h => h2 h.2
      go_enter Tryd.func83, Tryd.ntmps83
      go_wp2
      go_ret
      exact ⟨by simp, rfl⟩
  · have h : inR n lo hi = false := inR_no fun h => h1 h.1
    go_enter Tryd.func83, Tryd.ntmps83
    go_wp2
    go_ret
    exact ⟨by simp, rfl⟩
theorem l00In_any (n lo hi : Int) (w : World) : Calls Tryd.prog 80 #[.int .i64 n, .int .i64 lo, .int .i64 hi] w fun e w' => e = .returned (.bool (inR n lo hi)) ∧ w = w' := by
  by_cases h1 : lo ≤ n
  · by_cases h2 : n ≤ hi
    · have h : inR n lo hi = true := inR_mk ⟨h1, h2⟩
      go_enter Tryd.func80, Tryd.ntmps80
      go_wp2
      go_ret
      exact ⟨by simp [h], rfl⟩
    · have h : inR n lo hi = false := inR_no fun h => h2 h.2
      go_enter Tryd.func80, Tryd.ntmps80
      go_wp2
      go_ret
      exact ⟨by simp, rfl⟩
  · have h : inR n lo hi = false := inR_no fun h => h1 h.1
    go_enter Tryd.func80, Tryd.ntmps80
    go_wp2
    go_ret
    exact ⟨by simp, rfl⟩
theorem toothed_any (n : Int) (w : World) : Calls Tryd.prog 119 #[.int .i64 n] w fun e w' => e = .returned (.bool (inR n 6 240)) ∧ w = w' := by
  go_enter Tryd.func119, Tryd.ntmps119
  go_wp2_with (go_at_call 83; refine (within_any _ _ _ _).mono ?_; rintro e w' ⟨rfl, rfl⟩)
  go_ret
  exact ⟨rfl, rfl⟩
theorem countable_any (n : Int) (w : World) : Calls Tryd.prog 57 #[.int .i64 n] w fun e w' => e = .returned (.bool (inR n 1 1000000000)) ∧ w = w' := by
  go_enter Tryd.func57, Tryd.ntmps57
  go_wp2_with (go_at_call 83; refine (within_any _ _ _ _).mono ?_; rintro e w' ⟨rfl, rfl⟩)
  go_ret
  exact ⟨rfl, rfl⟩
theorem l05Teeth_any (n : Int) (w : World) : Calls Tryd.prog 118 #[.int .i64 n] w fun e w' => e = .returned (.bool (inR n 6 240)) ∧ w = w' := by
  go_enter Tryd.func118, Tryd.ntmps118
  go_wp2_with (go_at_call 80; refine (l00In_any _ _ _ _).mono ?_; rintro e w' ⟨rfl, rfl⟩)
  go_ret
  exact ⟨rfl, rfl⟩
theorem l04Ask_any (n : Int) (w : World) : Calls Tryd.prog 55 #[.int .i64 n] w fun e w' => e = .returned (.bool (inR n 1 1000000000)) ∧ w = w' := by
  go_enter Tryd.func55, Tryd.ntmps55
  go_wp2_with (go_at_call 80; refine (l00In_any _ _ _ _).mono ?_; rintro e w' ⟨rfl, rfl⟩)
  go_ret
  exact ⟨rfl, rfl⟩
theorem ret_int {k : IntKind} {a b : Int} (h : a = b) : Ending.returned (.int k a) = .returned (.int k b) := by rw [h]
theorem l02Gcd_any (a b : Int) (w : World) (ha : 0 ≤ a ∧ a ≤ 4000000000000000000) (hb : 0 ≤ b ∧ b ≤ 4000000000000000000) :
    Calls Tryd.prog 81 #[.int .i64 a, .int .i64 b] w fun e w' => e = .returned (.int .i64 (gcdI a b)) ∧ w = w' := by
  go_enter Tryd.func81, Tryd.ntmps81
  go_wp2
  go_loop [0, 1] (fun x y => ∃ p q : Int, 0 ≤ p ∧ p ≤ 4000000000000000000 ∧ 0 ≤ q ∧ q ≤ 4000000000000000000 ∧ gcdI p q = gcdI a b ∧ x = .int .i64 p ∧ y = .int .i64 q) (fun _ y => (intOf y).toNat)
  case atStart => exact ⟨a, b, ha.1, ha.2, hb.1, hb.2, rfl, rfl, rfl⟩
  case round =>
    obtain ⟨p, q, hp0, hp1, hq0, hq1, hg, rfl, rfl⟩ := hrel
    have HG := hide hg
    clear hg
    by_cases hq : 0 < q
    · go_wp2
      go_round
      case rel =>
        have h1 := Int.emod_nonneg p (by omega : q ≠ 0)
        have h2 := Int.emod_lt_of_pos p hq
        exact ⟨q, p % q, by omega, by omega, by omega, by omega, (gcdI_emod p q hp0).trans HG.out, rfl, rfl⟩
      case measure =>
        have h1 := Int.emod_nonneg p (by omega : q ≠ 0)
        have h2 := Int.emod_lt_of_pos p hq
        simp [intOf]; omega
    · go_wp2
      go_ret
      have e : q = 0 := by omega
      have := HG.out
      rw [e, gcdI_zero] at this
      exact ⟨ret_int (by rw [← this, if_neg (by omega)]), rfl⟩
theorem gcd_any (a b : Int) (w : World) (ha : -4000000000000000000 ≤ a ∧ a ≤ 4000000000000000000) (hb : -4000000000000000000 ≤ b ∧ b ≤ 4000000000000000000) :
    Calls Tryd.prog 84 #[.int .i64 a, .int .i64 b] w fun e w' => e = .returned (.int .i64 (gcdI a b)) ∧ ∃ n, w' = w.drewN n := by
  go_enter Tryd.func84, Tryd.ntmps84
  go_wp2
  go_loopw [0, 1] (fun x y w' => ∃ p q : Int, -4000000000000000000 ≤ p ∧ p ≤ 4000000000000000000 ∧ -4000000000000000000 ≤ q ∧ q ≤ 4000000000000000000 ∧ gcdI p q = gcdI a b ∧ x = .int .i64 p ∧ y = .int .i64 q ∧ ∃ n, w' = w.drewN n) (fun _ y _ => (intOf y).natAbs)
  case atStart => exact ⟨a, b, ha.1, ha.2, hb.1, hb.2, rfl, rfl, rfl, 0, rfl⟩
  case round =>
    obtain ⟨p, q, hp0, hp1, hq0, hq1, hg, rfl, rfl, n, rfl⟩ := hrel
    have HG := hide hg
    clear hg
    by_cases hq : q = 0
    · subst hq
      have := HG.out
      rw [gcdI_zero] at this
      have H2 := hide this
      clear this
      by_cases hp : p < 0
      · go_wp2
        go_ret
        exact ⟨ret_int (by rw [← H2.out, if_pos hp]), _, rfl⟩
      · go_wp2
        go_ret
        exact ⟨ret_int (by rw [← H2.out, if_neg (by omega)]), _, rfl⟩
    · have hq' : (q != 0) = true := by simpa using hq
      have h2 := tmod_lt p q hq
      have h3 := hide (tmod_lt' p q hq)
      go_wp2
      go_quiet (fail)
      go_wp2
      go_roundw
      case rel =>
        exact ⟨q, p.tmod q, by omega, by omega, by omega, by omega, (gcdI_tmod p q).trans HG.out, rfl, rfl, _, by rw [World.drewN_drewN]⟩
      case measure =>
        exact h3.out
end Go.Proofs.YtnlimfijepjliaaDoor
