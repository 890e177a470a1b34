/-
  Contracts over the tests and divisors: ValidPair, GcdOf, LcmOf, MeetingTurns, and the walks of their laws.
-/
import Derived.Test.YtmkhkojefjdbbaaBase
import Derived.WalkSmall
namespace Go.Proofs.Ytmkhkojefjdbbaa
open Go.RowKit

theorem bcell {W w1 : World} (hb : Below W.heap.size W w1) : (∀ b o, b < W.heap.size → w1.cell? ⟨b, o, none⟩ = W.cell? ⟨b, o, none⟩) ∧ (∀ b o, b < W.heap.size → w1.frozen? ⟨b, o, none⟩ = W.frozen? ⟨b, o, none⟩) :=
  ⟨fun b o h => hb.cell (p := ⟨b, o, none⟩) h, fun b o h => hb.frozen (p := ⟨b, o, none⟩) h⟩

def both (a b : Bool) : Bool := a && b
theorem both_tt {a b : Bool} (ha : a = true) (hb : b = true) : both a b = true := by subst ha hb; rfl
theorem both_f1 {a b : Bool} (ha : a = false) : both a b = false := by subst ha; rfl
theorem both_f2 {a b : Bool} (hb : b = false) : both a b = false := by subst hb; cases a <;> rfl

def pairOk (a b : Int) : Bool := both (inR a 6 240) (inR b 6 240)
def gcdOf0 (a b : Int) : Int := if both (inR a 1 1000000000) (inR b 1 1000000000) then gcdI a b else 0
def gcdOf1 (a b : Int) : Int := if both (inR a 1 1000000000) (inR b 1 1000000000) then 0 else 2
def lcmOf0 (a b : Int) : Int := if both (inR a 1 1000000000) (inR b 1 1000000000) then a / gcdI a b * b else 0
def meet0 (a b : Int) : Int := if pairOk a b then b / gcdI a b else 0
def meet1 (a b : Int) : Int := if pairOk a b then 0 else 1

theorem implGcdOf_any (a b : Int) (w : World) : Calls Try.prog 23 #[.int .i64 a, .int .i64 b] w fun e w' => e = .returned (.tuple #[.int .i64 (gcdOf0 a b), .int .i64 (gcdOf1 a b)]) ∧ Below w.heap.size w w' := by
  cases ha : inR a 1 1000000000
  · go_enter Try.func23, Try.ntmps23
    go_wp2_with (go_at_call 51; refine (countable_any _ _).mono ?_; rintro e w' ⟨rfl, rfl⟩)
    go_ret2
    exact ⟨by simp [gcdOf0, gcdOf1, both_f1 ha], Below.refl _ _⟩
  · cases hb : inR b 1 1000000000
    · go_enter Try.func23, Try.ntmps23
      go_wp2_with (go_at_call 51; refine (countable_any _ _).mono ?_; rintro e w' ⟨rfl, rfl⟩)
      go_ret2
      exact ⟨by simp [gcdOf0, gcdOf1, both_f2 hb], Below.refl _ _⟩
    · have h1 := inR_true ha
      have h2 := inR_true hb
      go_enter Try.func23, Try.ntmps23
      go_wp2_with (first | (go_at_call 51; refine (countable_any _ _).mono ?_; rintro e w' ⟨rfl, rfl⟩) | (go_at_call 52; refine (gcd_any _ _ _ (by omega) (by omega)).mono ?_; rintro e w' ⟨rfl, n, rfl⟩))
      go_ret2
      exact ⟨by simp [gcdOf0, gcdOf1, both_tt ha hb], below_drewN (Below.refl _ _) _⟩
theorem specGcdOf_any (a b : Int) (w : World) : Calls Try.prog 22 #[.int .i64 a, .int .i64 b] w fun e w' => e = .returned (.tuple #[.int .i64 (gcdOf0 a b), .int .i64 (gcdOf1 a b)]) ∧ Below w.heap.size w w' := by
  cases ha : inR a 1 1000000000
  · go_enter Try.func22, Try.ntmps22
    go_wp2_with (go_at_call 49; refine (l04Ask_any _ _).mono ?_; rintro e w' ⟨rfl, rfl⟩)
    go_ret2
    exact ⟨by simp [gcdOf0, gcdOf1, both_f1 ha], Below.refl _ _⟩
  · cases hb : inR b 1 1000000000
    · go_enter Try.func22, Try.ntmps22
      go_wp2_with (go_at_call 49; refine (l04Ask_any _ _).mono ?_; rintro e w' ⟨rfl, rfl⟩)
      go_ret2
      exact ⟨by simp [gcdOf0, gcdOf1, both_f2 hb], Below.refl _ _⟩
    · have h1 := inR_true ha
      have h2 := inR_true hb
      go_enter Try.func22, Try.ntmps22
      go_wp2_with (first | (go_at_call 49; refine (l04Ask_any _ _).mono ?_; rintro e w' ⟨rfl, rfl⟩) | (go_at_call 50; refine (l02Gcd_any _ _ _ (by omega) (by omega)).mono ?_; rintro e w' ⟨rfl, rfl⟩))
      go_ret2
      exact ⟨by simp [gcdOf0, gcdOf1, both_tt ha hb], Below.refl _ _⟩
theorem walk_FnExactGcdOf (a0 a1 : Int) (w : World) (_h0 : -9223372036854775808 ≤ a0 ∧ a0 ≤ 9223372036854775807) (_h1 : -9223372036854775808 ≤ a1 ∧ a1 ≤ 9223372036854775807) :
    Calls Try.prog 7 #[.int .i64 a0, .int .i64 a1] w fun e w' => e = .returned (.bool true) ∧ Below w.heap.size w w' := by
  go_enter Try.func7, Try.ntmps7
  go_wp2_with (first | (go_at_call 22; refine (specGcdOf_any _ _ _).mono ?_; rintro e w1 ⟨rfl, hb1⟩) | (go_at_call 23; refine (implGcdOf_any _ _ _).mono ?_; rintro e w2 ⟨rfl, hb2⟩))
  go_ret
  exact ⟨rfl, hb1.trans (hb2.mono hb1.size)⟩
end Go.Proofs.Ytmkhkojefjdbbaa
