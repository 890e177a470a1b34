/-
  DivisorsOf: contracts of both functions, and the walk of its law.
-/
import Derived.Test.YtnfllflifmijeaaDivI
namespace Go.Proofs.Ytnfllflifmijeaa
open Go.RowKit

def rootN : Nat → Nat
  | 0 => 0
  | m + 1 => if m + 1 < (rootN m + 1) * (rootN m + 1) then rootN m else rootN m + 1
theorem rootN_spec (m : Nat) : rootN m * rootN m ≤ m ∧ m < (rootN m + 1) * (rootN m + 1) := by
  induction m with
  | zero => simp [rootN]
  | succ m ih =>
    unfold rootN
    by_cases h : m + 1 < (rootN m + 1) * (rootN m + 1)
    · rw [if_pos h]; exact ⟨by omega, h⟩
    · rw [if_neg h]
      refine ⟨by omega, ?_⟩
      have e : (rootN m + 1 + 1) * (rootN m + 1 + 1) = (rootN m + 1) * (rootN m + 1) + 2 * (rootN m + 1) + 1 := by grind
      omega
def divsL (n : Int) : List Int := divAll n (rootN n.toNat)
theorem divsL_is {n : Int} (hn : 1 ≤ n) : DivL n (divsL n) := by
  obtain ⟨h1, h2⟩ := rootN_spec n.toNat
  refine ⟨_, ?_, ?_, rfl⟩
  · have : ((rootN n.toNat * rootN n.toNat : Nat) : Int) ≤ n := by omega
    simpa using this
  · have : n < (((rootN n.toNat + 1) * (rootN n.toNat + 1) : Nat) : Int) := by omega
    simpa using this
theorem divsL_len {n : Int} (hn : 1 ≤ n ∧ n ≤ 1000000000) : (divsL n).length ≤ 100000 := by
  obtain ⟨k, h1, h2, h3⟩ := divsL_is hn.1
  have hkb : k ≤ 40000 := by
    rcases Nat.lt_or_ge 40000 k with s | s
    · exfalso
      have : (40000 : Int) * 40000 ≤ (k : Int) * k := Int.mul_le_mul (by omega) (by omega) (by omega) (by omega)
      omega
    · exact s
  rw [h3]
  have h4 := lowD_len n k
  have h5 := highD_len n k
  unfold divAll
  rw [List.length_append, List.length_reverse]
  omega
theorem l04DivisorsF_any (N : Int) (w : World) (hN : 1 ≤ N ∧ N ≤ 1000000000) : Calls Try.prog 72 #[.int .i64 N] w fun e w' => ∃ ao cap, e = .returned (.slice ao (divsL N).length cap) ∧ OwnsI w' w.heap.size (.slice ao (divsL N).length cap) (divsL N) ∧ Below w.heap.size w w' :=
  (l04Divisors_any N w hN).mono fun e w' ⟨L, ao, cap, hL, _, he, ho, hb⟩ => by
    obtain rfl := divL_unique hL (divsL_is hN.1)
    exact ⟨ao, cap, he, ho, hb⟩
theorem divisorsOfF_any (N : Int) (w : World) (hN : 1 ≤ N ∧ N ≤ 1000000000) : Calls Try.prog 74 #[.int .i64 N] w fun e w' => ∃ ao cap, e = .returned (.slice ao (divsL N).length cap) ∧ OwnsI w' w.heap.size (.slice ao (divsL N).length cap) (divsL N) ∧ Below w.heap.size w w' :=
  (divisorsOf_any N w hN).mono fun e w' ⟨L, ao, cap, hL, _, he, ho, hb⟩ => by
    obtain rfl := divL_unique hL (divsL_is hN.1)
    exact ⟨ao, cap, he, ho, hb⟩
def dsL (n : Int) : List Int := if inR n 1 1000000000 then divsL n else []
def dsC (n : Int) : Int := if inR n 1 1000000000 then 0 else 2
theorem dsL_len (n : Int) : (dsL n).length ≤ 1000000000000 := by
  unfold dsL
  cases h : inR n 1 1000000000
  · simp
  · have := divsL_len (inR_true h)
    simp only [if_true]
    omega
theorem implDivisorsOf_any (n : Int) (w : World) : Calls Try.prog 31 #[.int .i64 n] w fun e w' => ∃ ao cap, e = .returned (.tuple #[.slice ao (dsL n).length cap, .int .i64 (dsC n)]) ∧ OwnsI w' w.heap.size (.slice ao (dsL n).length cap) (dsL n) ∧ Below w.heap.size w w' := by
  cases h : inR n 1 1000000000
  · have e : dsL n = [] := by unfold dsL; rw [h]; rfl
    have e2 : dsC n = 2 := by unfold dsC; rw [h]; rfl
    rw [e, e2]
    go_enter Try.func31, Try.ntmps31
    go_wp2_with (go_at_call 73; refine (countable_any _ _).mono ?_; rintro e w' ⟨rfl, rfl⟩)
    go_ret2
    exact ⟨none, 0, rfl, OwnsI.none_, Below.refl _ _⟩
  · have h1 := inR_true h
    have e : dsL n = divsL n := by unfold dsL; rw [h]; rfl
    have e2 : dsC n = 0 := by unfold dsC; rw [h]; rfl
    rw [e, e2]
    clear e e2
    go_enter Try.func31, Try.ntmps31
    go_wp2_with (first | (go_at_call 73; refine (countable_any _ _).mono ?_; rintro e w' ⟨rfl, rfl⟩) | (go_at_call 74; refine (divisorsOfF_any _ _ h1).mono ?_; rintro e w' ⟨ao, cap, rfl, hown, hb⟩))
    go_ret2
    exact ⟨ao, cap, rfl, hown, hb⟩
theorem specDivisorsOf_any (n : Int) (w : World) : Calls Try.prog 30 #[.int .i64 n] w fun e w' => ∃ ao cap, e = .returned (.tuple #[.slice ao (dsL n).length cap, .int .i64 (dsC n)]) ∧ OwnsI w' w.heap.size (.slice ao (dsL n).length cap) (dsL n) ∧ Below w.heap.size w w' := by
  cases h : inR n 1 1000000000
  · have e : dsL n = [] := by unfold dsL; rw [h]; rfl
    have e2 : dsC n = 2 := by unfold dsC; rw [h]; rfl
    rw [e, e2]
    go_enter Try.func30, Try.ntmps30
    go_wp2_with (go_at_call 71; refine (l04Ask_any _ _).mono ?_; rintro e w' ⟨rfl, rfl⟩)
    go_ret2
    exact ⟨none, 0, rfl, OwnsI.none_, Below.refl _ _⟩
  · have h1 := inR_true h
    have e : dsL n = divsL n := by unfold dsL; rw [h]; rfl
    have e2 : dsC n = 0 := by unfold dsC; rw [h]; rfl
    rw [e, e2]
    clear e e2
    go_enter Try.func30, Try.ntmps30
    go_wp2_with (first | (go_at_call 71; refine (l04Ask_any _ _).mono ?_; rintro e w' ⟨rfl, rfl⟩) | (go_at_call 72; refine (l04DivisorsF_any _ _ h1).mono ?_; rintro e w' ⟨ao, cap, rfl, hown, hb⟩))
    go_ret2
    exact ⟨ao, cap, rfl, hown, hb⟩
theorem walk_FnExactDivisorsOf (a0 : Int) (w : World) (_h0 : -9223372036854775808 ≤ a0 ∧ a0 ≤ 9223372036854775807) :
    Calls Try.prog 8 #[.int .i64 a0] w fun e w' => e = .returned (.bool true) ∧ Below w.heap.size w w' := by
  have hlen : (dsL a0).length ≤ 1000000000000 := dsL_len a0
  obtain ⟨L, hL⟩ : ∃ L, L = dsL a0 := ⟨_, rfl⟩
  have H1 := specDivisorsOf_any a0
  have H2 := implDivisorsOf_any a0
  rw [← hL] at hlen H1 H2
  have C1 := hide H1
  have C2 := hide H2
  clear H1 H2 hL
  go_enter Try.func8, Try.ntmps8
  go_wp2_with fail
  refine (C1.out _).mono ?_
  rintro e w1 ⟨a1, d1, rfl, o1, b1⟩
  have D1 := hide b1
  go_wp2_with fail
  refine (C2.out _).mono ?_
  rintro e w2 ⟨a2, d2, rfl, o2, b2⟩
  have D2 := hide (bstep D1.out b2)
  have o12 := o1.below b2
  go_wp2_with fail
  refine (eqInt64S_any _ _ _ _ _ _ _ o2 o12).mono ?_
  rintro e w3 ⟨rfl, b3⟩
  have o13 := o12.below b3
  have o23 := o2.below b3
  have hd : decide (L = L) = true := decide_eq_true rfl
  have D3 := hide (bstep D2.out b3)
  go_wp2_with fail
  refine (markInt64S_any _ _ 1 _ _ o23 (by omega) hlen).mono ?_
  rintro e w4 ⟨rfl, o24, g4⟩
  have o14 := o13.same g4 (own_ne o1 o23)
  have D4 := hide (below_mark D3.out g4 o23 D1.out.size)
  go_wp2_with fail
  refine (heldInt64S_any _ 1 _ _ _ o24 (by omega) hlen).mono ?_
  rintro e w5 ⟨rfl, b5⟩
  have o15 := o14.below b5
  have o25 := o24.below b5
  have D5 := hide (bstep D4.out b5)
  go_wp2_with fail
  refine (C2.out _).mono ?_
  rintro e w6 ⟨a3, d3, rfl, o3, b6⟩
  have o16 := o15.below b6
  have o26 := o25.below b6
  have D6 := hide (bstep D5.out b6)
  go_wp2_with fail
  refine (eqInt64S_any _ _ _ _ _ _ _ o3 o16).mono ?_
  rintro e w7 ⟨rfl, b7⟩
  have o27 := o26.below b7
  have D7 := hide (bstep D6.out b7)
  go_wp2_with fail
  refine (heldInt64S_any _ 1 _ _ _ o27 (by omega) hlen).mono ?_
  rintro e w8 ⟨rfl, b8⟩
  go_wp2_with fail
  go_ret
  exact ⟨rfl, bstep D7.out b8⟩
end Go.Proofs.Ytnfllflifmijeaa
