/-
  Contracts over the tests and divisors: ValidPair, GcdOf, LcmOf, MeetingTurns, and the walks of their laws.
-/
import Derived.Test.YtmkhkojefjdbbaaBase
import Derived.WalkSmall
namespace Go.Proofs.Ytmkhkojefjdbbaa
open Go.RowKit

theorem bcell {W w1 : World} (hb : Below W.heap.size W w1) : (∀ b o, b < W.heap.size → w1.cell? ⟨b, o, none⟩ = W.cell? ⟨b, o, none⟩) ∧ (∀ b o, b < W.heap.size → w1.frozen? ⟨b, o, none⟩ = W.frozen? ⟨b, o, none⟩) :=
  ⟨fun b o h => hb.cell (p := ⟨b, o, none⟩) h, fun b o h => hb.frozen (p := ⟨b, o, none⟩) h⟩

theorem balloc {a w : World} (h : Below a.heap.size a w) (o : Obj) : Below a.heap.size a (w.alloc o) := h.alloc h.size o
theorem bstep {a w w1 : World} (h : Below a.heap.size a w) (k : Below w.heap.size w w1) : Below a.heap.size a w1 := h.trans (k.mono h.size)
theorem bset {a w : World} (h : Below a.heap.size a w) {p : Addr} (hp : a.heap.size ≤ p.block) (u : Value) : Below a.heap.size a (w.setCell p u) := h.setCell hp u
theorem bdrewN {a w : World} (h : Below a.heap.size a w) (n : Nat) : Below a.heap.size a (w.drewN n) := below_drewN h n

def both (a b : Bool) : Bool := a && b
theorem both_tt {a b : Bool} (ha : a = true) (hb : b = true) : both a b = true := by subst ha hb; rfl
theorem both_f1 {a b : Bool} (ha : a = false) : both a b = false := by subst ha; rfl
theorem both_f2 {a b : Bool} (hb : b = false) : both a b = false := by subst hb; cases a <;> rfl

def pairOk (a b : Int) : Bool := both (inR a 6 240) (inR b 6 240)
theorem pairOk_true {a b : Int} (h : pairOk a b = true) : (6 ≤ a ∧ a ≤ 240) ∧ (6 ≤ b ∧ b ≤ 240) := by
  unfold pairOk both at h
  simp only [Bool.and_eq_true] at h
  exact ⟨inR_true h.1, inR_true h.2⟩
theorem quiet_left {P : Program} {f : FuncId} {args : Array Value} {w : World} {n : Nat} {v : Value}
    (h : Calls P f args (w.drewN n) fun e w' => e = .returned v ∧ w.drewN n = w') : Calls P f args (w.drewN n) fun e w'' => e = .returned v ∧ ∃ m, w'' = w.drewN m :=
  h.mono fun _ _ ⟨he, hm⟩ => ⟨he, n, hm.symm⟩
def gcdOf0 (a b : Int) : Int := if both (inR a 1 1000000000) (inR b 1 1000000000) then gcdI a b else 0
def gcdOf1 (a b : Int) : Int := if both (inR a 1 1000000000) (inR b 1 1000000000) then 0 else 2
def lcmOf0 (a b : Int) : Int := if both (inR a 1 1000000000) (inR b 1 1000000000) then a / gcdI a b * b else 0
def meet0 (a b : Int) : Int := if pairOk a b then b / gcdI a b else 0
def meet1 (a b : Int) : Int := if pairOk a b then 0 else 1

theorem implGcdOf_any (a b : Int) (w : World) : Calls Try.prog 23 #[.int .i64 a, .int .i64 b] w fun e w' => e = .returned (.tuple #[.int .i64 (gcdOf0 a b), .int .i64 (gcdOf1 a b)]) ∧ Below w.heap.size w w' := by
  cases ha : inR a 1 1000000000
  · go_enter Try.func23, Try.ntmps23
    go_wp2_with (go_at_call 51; refine (countable_any _ _).mono ?_; rintro e w' ⟨rfl, rfl⟩)
    go_ret2
    exact ⟨by simp [gcdOf0, gcdOf1, both_f1 ha], Below.refl _ _⟩
  · cases hb : inR b 1 1000000000
    · go_enter Try.func23, Try.ntmps23
      go_wp2_with (go_at_call 51; refine (countable_any _ _).mono ?_; rintro e w' ⟨rfl, rfl⟩)
      go_ret2
      exact ⟨by simp [gcdOf0, gcdOf1, both_f2 hb], Below.refl _ _⟩
    · have h1 := inR_true ha
      have h2 := inR_true hb
      go_enter Try.func23, Try.ntmps23
      go_wp2_with (first | (go_at_call 51; refine (countable_any _ _).mono ?_; rintro e w' ⟨rfl, rfl⟩) | (go_at_call 52; refine (gcd_any _ _ _ (by omega) (by omega)).mono ?_; rintro e w' ⟨rfl, n, rfl⟩))
      go_ret2
      exact ⟨by simp [gcdOf0, gcdOf1, both_tt ha hb], below_drewN (Below.refl _ _) _⟩
theorem specGcdOf_any (a b : Int) (w : World) : Calls Try.prog 22 #[.int .i64 a, .int .i64 b] w fun e w' => e = .returned (.tuple #[.int .i64 (gcdOf0 a b), .int .i64 (gcdOf1 a b)]) ∧ Below w.heap.size w w' := by
  cases ha : inR a 1 1000000000
  · go_enter Try.func22, Try.ntmps22
    go_wp2_with (go_at_call 49; refine (l04Ask_any _ _).mono ?_; rintro e w' ⟨rfl, rfl⟩)
    go_ret2
    exact ⟨by simp [gcdOf0, gcdOf1, both_f1 ha], Below.refl _ _⟩
  · cases hb : inR b 1 1000000000
    · go_enter Try.func22, Try.ntmps22
      go_wp2_with (go_at_call 49; refine (l04Ask_any _ _).mono ?_; rintro e w' ⟨rfl, rfl⟩)
      go_ret2
      exact ⟨by simp [gcdOf0, gcdOf1, both_f2 hb], Below.refl _ _⟩
    · have h1 := inR_true ha
      have h2 := inR_true hb
      go_enter Try.func22, Try.ntmps22
      go_wp2_with (first | (go_at_call 49; refine (l04Ask_any _ _).mono ?_; rintro e w' ⟨rfl, rfl⟩) | (go_at_call 50; refine (l02Gcd_any _ _ _ (by omega) (by omega)).mono ?_; rintro e w' ⟨rfl, rfl⟩))
      go_ret2
      exact ⟨by simp [gcdOf0, gcdOf1, both_tt ha hb], Below.refl _ _⟩
theorem walk_FnExactGcdOf (a0 a1 : Int) (w : World) (_h0 : -9223372036854775808 ≤ a0 ∧ a0 ≤ 9223372036854775807) (_h1 : -9223372036854775808 ≤ a1 ∧ a1 ≤ 9223372036854775807) :
    Calls Try.prog 7 #[.int .i64 a0, .int .i64 a1] w fun e w' => e = .returned (.bool true) ∧ Below w.heap.size w w' := by
  go_enter Try.func7, Try.ntmps7
  go_wp2_with (first | (go_at_call 22; refine (specGcdOf_any _ _ _).mono ?_; rintro e w1 ⟨rfl, hb1⟩) | (go_at_call 23; refine (implGcdOf_any _ _ _).mono ?_; rintro e w2 ⟨rfl, hb2⟩))
  go_ret
  exact ⟨rfl, hb1.trans (hb2.mono hb1.size)⟩
theorem lcm_bd (a b : Int) (ha : 1 ≤ a ∧ a ≤ 1000000000) (hb : 1 ≤ b ∧ b ≤ 1000000000) : 1 ≤ gcdI a b ∧ 0 ≤ a / gcdI a b ∧ a / gcdI a b ≤ 1000000000 ∧ 0 ≤ a / gcdI a b * b ∧ a / gcdI a b * b ≤ 1000000000000000000 := by
  have h1 := gcdI_pos a b hb.1
  have h2 : 0 ≤ a / gcdI a b := Int.ediv_nonneg (by omega) (by omega)
  have h3 : a / gcdI a b ≤ a := Int.ediv_le_self _ (by omega)
  generalize a / gcdI a b = q at *
  have h4 : 0 ≤ q * b := Int.mul_nonneg h2 (by omega)
  have h5 : q * b ≤ 1000000000 * 1000000000 := Int.mul_le_mul (by omega) hb.2 (by omega) (by omega)
  omega
theorem implLcmOf_any (a b : Int) (w : World) : Calls Try.prog 25 #[.int .i64 a, .int .i64 b] w fun e w' => e = .returned (.tuple #[.int .i64 (lcmOf0 a b), .int .i64 (gcdOf1 a b)]) ∧ Below w.heap.size w w' := by
  cases ha : inR a 1 1000000000
  · go_enter Try.func25, Try.ntmps25
    go_wp2_with (go_at_call 51; refine (countable_any _ _).mono ?_; rintro e w' ⟨rfl, rfl⟩)
    go_ret2
    exact ⟨by simp [lcmOf0, gcdOf1, both_f1 ha], Below.refl _ _⟩
  · cases hb : inR b 1 1000000000
    · go_enter Try.func25, Try.ntmps25
      go_wp2_with (go_at_call 51; refine (countable_any _ _).mono ?_; rintro e w' ⟨rfl, rfl⟩)
      go_ret2
      exact ⟨by simp [lcmOf0, gcdOf1, both_f2 hb], Below.refl _ _⟩
    · have h1 := inR_true ha
      have h2 := inR_true hb
      obtain ⟨h3, h4, h5, h6, h7⟩ := lcm_bd a b h1 h2
      have hne : ((gcdI a b) == 0) = false := by simp; omega
      go_enter Try.func25, Try.ntmps25
      go_wp2_with (first | (go_at_call 51; refine (countable_any _ _).mono ?_; rintro e w' ⟨rfl, rfl⟩) | (go_at_call 52; refine (gcd_any _ _ _ (by omega) (by omega)).mono ?_; rintro e w' ⟨rfl, n, rfl⟩))
      go_ret2
      exact ⟨by simp [lcmOf0, gcdOf1, both_tt ha hb], below_drewN (Below.refl _ _) _⟩
theorem specLcmOf_any (a b : Int) (w : World) : Calls Try.prog 24 #[.int .i64 a, .int .i64 b] w fun e w' => e = .returned (.tuple #[.int .i64 (lcmOf0 a b), .int .i64 (gcdOf1 a b)]) ∧ Below w.heap.size w w' := by
  cases ha : inR a 1 1000000000
  · go_enter Try.func24, Try.ntmps24
    go_wp2_with (go_at_call 49; refine (l04Ask_any _ _).mono ?_; rintro e w' ⟨rfl, rfl⟩)
    go_ret2
    exact ⟨by simp [lcmOf0, gcdOf1, both_f1 ha], Below.refl _ _⟩
  · cases hb : inR b 1 1000000000
    · go_enter Try.func24, Try.ntmps24
      go_wp2_with (go_at_call 49; refine (l04Ask_any _ _).mono ?_; rintro e w' ⟨rfl, rfl⟩)
      go_ret2
      exact ⟨by simp [lcmOf0, gcdOf1, both_f2 hb], Below.refl _ _⟩
    · have h1 := inR_true ha
      have h2 := inR_true hb
      obtain ⟨h3, h4, h5, h6, h7⟩ := lcm_bd a b h1 h2
      have hne : ((gcdI a b) == 0) = false := by simp; omega
      go_enter Try.func24, Try.ntmps24
      go_wp2_with (first | (go_at_call 49; refine (l04Ask_any _ _).mono ?_; rintro e w' ⟨rfl, rfl⟩) | (go_at_call 50; refine (l02Gcd_any _ _ _ (by omega) (by omega)).mono ?_; rintro e w' ⟨rfl, rfl⟩))
      go_ret2
      exact ⟨by simp [lcmOf0, gcdOf1, both_tt ha hb], Below.refl _ _⟩
theorem walk_FnExactLcmOf (a0 a1 : Int) (w : World) (_h0 : -9223372036854775808 ≤ a0 ∧ a0 ≤ 9223372036854775807) (_h1 : -9223372036854775808 ≤ a1 ∧ a1 ≤ 9223372036854775807) :
    Calls Try.prog 8 #[.int .i64 a0, .int .i64 a1] w fun e w' => e = .returned (.bool true) ∧ Below w.heap.size w w' := by
  go_enter Try.func8, Try.ntmps8
  go_wp2_with (first | (go_at_call 24; refine (specLcmOf_any _ _ _).mono ?_; rintro e w1 ⟨rfl, hb1⟩) | (go_at_call 25; refine (implLcmOf_any _ _ _).mono ?_; rintro e w2 ⟨rfl, hb2⟩))
  go_ret
  exact ⟨rfl, hb1.trans (hb2.mono hb1.size)⟩
theorem toPair_any (a b : Int) (w : World) : Calls Try.prog 16 #[.agg #[.int .i64 a, .int .i64 b]] w fun e w' => e = .returned (.agg #[.int .i64 a, .int .i64 b]) ∧ Below w.heap.size w w' := by
  go_enter Try.func16, Try.ntmps16
  go_wp2
  refine bodyPost_ret (v := .agg #[.int .i64 a, .int .i64 b]) (by simp [results, Try.results16, go_sem]) rfl ⟨rfl, ?_⟩
  exact balloc (balloc (balloc (Below.refl _ _) _) _) _
theorem l05Pair_any (a b : Int) (w : World) : Calls Try.prog 44 #[.agg #[.int .i64 a, .int .i64 b]] w fun e w' => e = .returned (.bool (pairOk a b)) ∧ Below w.heap.size w w' := by
  cases ha : inR a 6 240
  · go_enter Try.func44, Try.ntmps44
    go_wp2_with (go_at_call 62; refine (l05Teeth_any _ _).mono ?_; rintro e w' ⟨rfl, rfl⟩)
    go_ret
    exact ⟨by simp [pairOk, both_f1 ha], balloc (Below.refl _ _) _⟩
  · go_enter Try.func44, Try.ntmps44
    go_wp2_with (go_at_call 62; refine (l05Teeth_any _ _).mono ?_; rintro e w' ⟨rfl, rfl⟩)
    go_ret
    exact ⟨by simp [pairOk, both, ha], balloc (Below.refl _ _) _⟩
theorem specValidPair_any (a b : Int) (w : World) : Calls Try.prog 15 #[.agg #[.int .i64 a, .int .i64 b]] w fun e w' => e = .returned (.bool (pairOk a b)) ∧ Below w.heap.size w w' := by
  go_enter Try.func15, Try.ntmps15
  go_wp2_with (go_at_call 44; refine (l05Pair_any _ _ _).mono ?_; rintro e w1 ⟨rfl, hb1⟩)
  go_ret
  exact ⟨rfl, bstep (balloc (Below.refl _ _) _) hb1⟩
theorem implValidPair_any (a b : Int) (w : World) : Calls Try.prog 17 #[.agg #[.int .i64 a, .int .i64 b]] w fun e w' => e = .returned (.bool (pairOk a b)) ∧ Below w.heap.size w w' := by
  cases ha : inR a 6 240
  · go_enter Try.func17, Try.ntmps17
    go_wp2_with (go_at_call 45; refine (toothed_any _ _).mono ?_; rintro e w' ⟨rfl, rfl⟩)
    go_ret
    exact ⟨by simp [pairOk, both_f1 ha], balloc (Below.refl _ _) _⟩
  · go_enter Try.func17, Try.ntmps17
    go_wp2_with (go_at_call 45; refine (toothed_any _ _).mono ?_; rintro e w' ⟨rfl, rfl⟩)
    go_ret
    exact ⟨by simp [pairOk, both, ha], balloc (Below.refl _ _) _⟩
theorem walk_FnExactValidPair (a b : Int) (w : World) (_h0 : -9223372036854775808 ≤ a ∧ a ≤ 9223372036854775807) (_h1 : -9223372036854775808 ≤ b ∧ b ≤ 9223372036854775807) :
    Calls Try.prog 4 #[.agg #[.int .i64 a, .int .i64 b]] w fun e w' => e = .returned (.bool true) ∧ Below w.heap.size w w' := by
  go_enter Try.func4, Try.ntmps4
  go_wp2_with fail
  refine (toPair_any a b _).mono ?_
  rintro e w1 ⟨rfl, hb1⟩
  obtain ⟨hc1, hf1⟩ := bcell hb1
  have hz1 : w.heap.size < w1.heap.size := by have := hb1.size; simp at this; omega
  go_wp2_with fail
  refine (specValidPair_any a b _).mono ?_
  rintro e w2 ⟨rfl, hb2⟩
  obtain ⟨hc2, hf2⟩ := bcell hb2
  go_wp2_with fail
  refine (toPair_any a b _).mono ?_
  rintro e w3 ⟨rfl, hb3⟩
  go_wp2_with fail
  refine (implValidPair_any a b _).mono ?_
  rintro e w4 ⟨rfl, hb4⟩
  go_wp2_with fail
  go_ret
  exact ⟨rfl, bstep (bstep (bstep (bstep (balloc (Below.refl _ _) _) hb1) hb2) hb3) hb4⟩
theorem implMeetingTurns_any (a b : Int) (w : World) : Calls Try.prog 27 #[.agg #[.int .i64 a, .int .i64 b]] w fun e w' => e = .returned (.tuple #[.int .i64 (meet0 a b), .int .i64 (meet1 a b)]) ∧ Below w.heap.size w w' := by
  cases hp : pairOk a b
  · go_enter Try.func27, Try.ntmps27
    go_wp2_with (go_at_call 17; refine (implValidPair_any a b _).mono ?_; rintro e w1 ⟨rfl, hb1⟩)
    go_ret2
    exact ⟨by simp [meet0, meet1, hp], bstep (balloc (Below.refl _ _) _) hb1⟩
  · obtain ⟨h1, h2⟩ := pairOk_true hp
    have h3 := gcdI_pos a b (by omega)
    have hne : ((gcdI a b) == 0) = false := by simp; omega
    go_enter Try.func27, Try.ntmps27
    go_wp2_with fail
    refine (implValidPair_any a b _).mono ?_
    rintro e w1 ⟨rfl, hb1⟩
    obtain ⟨hc1, hf1⟩ := bcell hb1
    have hz1 : w.heap.size < w1.heap.size := by have := hb1.size; simp at this; omega
    go_wp2_with fail
    go_quiet ((go_at_call 52; exact Calls.quiet_of (gcd_any a b _ (by omega) (by omega))))
    go_wp2
    go_ret2
    exact ⟨by simp [meet0, meet1, hp], bdrewN (bstep (balloc (Below.refl _ _) _) hb1) _⟩
theorem specMeetingTurns_any (a b : Int) (w : World) : Calls Try.prog 26 #[.agg #[.int .i64 a, .int .i64 b]] w fun e w' => e = .returned (.tuple #[.int .i64 (meet0 a b), .int .i64 (meet1 a b)]) ∧ Below w.heap.size w w' := by
  cases hp : pairOk a b
  · go_enter Try.func26, Try.ntmps26
    go_wp2_with (go_at_call 44; refine (l05Pair_any a b _).mono ?_; rintro e w1 ⟨rfl, hb1⟩)
    go_ret2
    exact ⟨by simp [meet0, meet1, hp], bstep (balloc (Below.refl _ _) _) hb1⟩
  · obtain ⟨h1, h2⟩ := pairOk_true hp
    have h3 := gcdI_pos a b (by omega)
    have hne : ((gcdI a b) == 0) = false := by simp; omega
    go_enter Try.func26, Try.ntmps26
    go_wp2_with fail
    refine (l05Pair_any a b _).mono ?_
    rintro e w1 ⟨rfl, hb1⟩
    obtain ⟨hc1, hf1⟩ := bcell hb1
    have hz1 : w.heap.size < w1.heap.size := by have := hb1.size; simp at this; omega
    go_wp2_with fail
    go_quiet ((go_at_call 50; exact quiet_left (l02Gcd_any a b _ (by omega) (by omega))))
    go_wp2
    go_ret2
    exact ⟨by simp [meet0, meet1, hp], bdrewN (bstep (balloc (Below.refl _ _) _) hb1) _⟩
theorem walk_FnExactMeetingTurns (a b : Int) (w : World) (_h0 : -9223372036854775808 ≤ a ∧ a ≤ 9223372036854775807) (_h1 : -9223372036854775808 ≤ b ∧ b ≤ 9223372036854775807) :
    Calls Try.prog 9 #[.agg #[.int .i64 a, .int .i64 b]] w fun e w' => e = .returned (.bool true) ∧ Below w.heap.size w w' := by
  go_enter Try.func9, Try.ntmps9
  go_wp2_with fail
  refine (toPair_any a b _).mono ?_
  rintro e w1 ⟨rfl, hb1⟩
  obtain ⟨hc1, hf1⟩ := bcell hb1
  have hz1 : w.heap.size < w1.heap.size := by have := hb1.size; simp at this; omega
  go_wp2_with fail
  refine (specMeetingTurns_any a b _).mono ?_
  rintro e w2 ⟨rfl, hb2⟩
  obtain ⟨hc2, hf2⟩ := bcell hb2
  go_wp2_with fail
  refine (toPair_any a b _).mono ?_
  rintro e w3 ⟨rfl, hb3⟩
  go_wp2_with fail
  refine (implMeetingTurns_any a b _).mono ?_
  rintro e w4 ⟨rfl, hb4⟩
  go_wp2_with fail
  go_ret
  exact ⟨rfl, bstep (bstep (bstep (bstep (balloc (Below.refl _ _) _) hb1) hb2) hb3) hb4⟩
end Go.Proofs.Ytmkhkojefjdbbaa
