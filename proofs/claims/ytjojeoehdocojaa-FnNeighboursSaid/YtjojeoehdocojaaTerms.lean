/-
  The terms of a ratio: contracts of both functions and the walk of TermsOf's law.
-/
import Derived.Test.YtjojeoehdocojaaMem
import Derived.Test.YtjojeoehdocojaaRound
import Derived.Test.YtjojeoehdocojaaCell
namespace Go.Proofs.Ytjojeoehdocojaa
open Go.RowKit

/-- The terms of the continued fraction of n/d. -/
def cf (n d : Int) : List Int :=
  if _h : 0 < d then (n / d) :: cf d (n % d) else []
  termination_by d.toNat
  decreasing_by
    have h1 := Int.emod_lt_of_pos n _h
    have h2 := Int.emod_nonneg n (by omega : d ≠ 0)
    omega
theorem cf_pos {n d : Int} (h : 0 < d) : cf n d = (n / d) :: cf d (n % d) := by rw [cf, dif_pos h]
theorem cf_zero (n : Int) : cf n 0 = [] := by rw [cf, dif_neg (by omega)]
theorem cf_len (n d : Int) : (cf n d).length ≤ d.toNat := by
  induction n, d using cf.induct with
  | case1 n d h ih =>
    rw [cf_pos h]
    have h1 := Int.emod_lt_of_pos n h
    have h2 := Int.emod_nonneg n (by omega : d ≠ 0)
    simp only [List.length_cons]
    omega
  | case2 n d h => rw [cf, dif_neg h]; simp
theorem sub_mul_mod (n d : Int) : n - n / d * d = n % d := by have := Int.mul_ediv_add_emod n d; rw [Int.mul_comm] at this; omega
theorem mul_div_bd (n d : Int) (hn : -1000000000 ≤ n ∧ n ≤ 1000000000) (hd : 1 ≤ d ∧ d ≤ 1000000000) : (-2000000000 ≤ n / d * d ∧ n / d * d ≤ 2000000000) ∧ (-1000000000 ≤ n / d ∧ n / d ≤ 1000000000) := by
  have h0 := sub_mul_mod n d
  have h1 := Int.emod_lt_of_pos n (show 0 < d by omega)
  have h2 := Int.emod_nonneg n (by omega : d ≠ 0)
  have h3 := ediv_bd n d 1000000000 hd.1 hn (by omega)
  omega
theorem validR_bd' {n d : Int} (h : validR n d = true) : (-1000000000 ≤ n ∧ n ≤ 1000000000) ∧ (1 ≤ d ∧ d ≤ 1000000000) := ⟨(validR_true h).2.1, (validR_true h).1⟩
theorem OwnsI.mono_base {w : World} {B B' : Nat} {v : Value} {xs : List Int} (h : OwnsI w B v xs) (hb : B' ≤ B) : OwnsI w B' v xs := by
  refine ⟨h.1, ?_⟩
  rcases h.2 with h2 | ⟨g, cap, cur, h1, h2, h3⟩
  · exact .inl h2
  · exact .inr ⟨g, cap, cur, h1, Nat.le_trans hb h2, h3⟩
theorem ret_slice2 {ao : Option Addr} {n m c : Nat} (h : n = m) : Ending.returned (.slice ao n c) = .returned (.slice ao m c) := by rw [h]
set_option maxHeartbeats 1000000 in
theorem termsOf_any (a b : Int) (w : World) (ha : -1000000000 ≤ a ∧ a ≤ 1000000000) (hb : 1 ≤ b ∧ b ≤ 1000000000) :
    Calls Try.prog 44 #[.agg #[.int .i64 a, .int .i64 b]] w fun e w' => ∃ ao cap, e = .returned (.slice ao (cf a b).length cap) ∧ OwnsI w' w.heap.size (.slice ao (cf a b).length cap) (cf a b) ∧ Below w.heap.size w w' := by
  have hlen := cf_len a b
  obtain ⟨k0, k1, k2, k3⟩ := cell2_new (w := w) (u := .int .i64 a) (v := .int .i64 b) 27
  go_enter Try.func44, Try.ntmps44
  go_wp2
  go_quiet (fail)
  go_wp2
  clear k0 k1 k2 k3
  go_loopw [3, 4, 5, 6] (fun sv nv dv _tv wr => ∃ (n d : Int) (acc : List Int) (ao : Option Addr) (cap : Nat), (-1000000000 ≤ n ∧ n ≤ 1000000000) ∧ (0 ≤ d ∧ d ≤ 1000000000) ∧ acc ++ cf n d = cf a b ∧
      nv = .int .i64 n ∧ dv = .int .i64 d ∧ sv = .slice ao acc.length cap ∧ OwnsI wr w.heap.size (.slice ao acc.length cap) acc ∧ Below w.heap.size w wr) (fun _ _ dv _ _ => (intOf dv).toNat)
  case atStart => exact ⟨a, b, [], none, 0, ha, by omega, rfl, rfl, rfl, rfl, OwnsI.none_, bdrewN (balloc (Below.refl _ _) _) _⟩
  case round =>
    obtain ⟨n, d, acc, ao, cap, hn, hd, heq, rfl, rfl, rfl, hown, hbel⟩ := hrel
    have HEQ := hide heq
    have HB := hide hbel
    have HO := hide hown
    have hsz := hbel.size
    have hal : acc.length ≤ 1000000000 := by
      have : acc.length + (cf n d).length = (cf a b).length := by rw [← heq]; simp
      omega
    clear heq hbel hown
    by_cases h0 : d = 0
    · subst h0
      go_wp2
      go_ret
      have e : acc = cf a b := by rw [← HEQ.out, cf_zero, List.append_nil]
      have ho := HO.out
      rw [e] at ho
      exact ⟨ao, cap, ret_slice2 (by rw [e]), ho, HB.out⟩
    · have hz : (d != 0) = true := by simpa using h0
      have hc := hide (cf_pos (n := n) (d := d) (by omega))
      obtain ⟨m1, m2⟩ := mul_div_bd n d hn (by omega)
      have hm := hide (sub_mul_mod n d)
      have e1 := Int.emod_lt_of_pos n (show 0 < d by omega)
      have e2 := Int.emod_nonneg n (by omega : d ≠ 0)
      go_wp2_with (first | (go_at_call 65; refine (floorDiv_any n d _ (by omega) (by omega)).mono ?_; rintro e w' ⟨rfl, rfl⟩) | (at_builtin; refine wpList_appendI rfl _ _ rfl w.heap.size _ acc rfl HO.out (n / d) _ rfl (by omega) hsz ?_; intro ao2 cap2 w2 hown2 hg2))
      go_roundw
      case rel =>
        rw [hm.out]
        refine ⟨d, n % d, acc ++ [n / d], ao2, cap2, by omega, by omega, by rw [← HEQ.out, hc.out]; simp, rfl, rfl, by simp, by simpa using hown2, HB.out.grown hg2 hsz (fun k hk => (HO.out.lt k hk).1)⟩
      case measure => have := hm.out; simp [intOf]; omega
set_option maxHeartbeats 1000000 in
theorem l03Terms_any (a b : Int) (w : World) (ha : -1000000000 ≤ a ∧ a ≤ 1000000000) (hb : 1 ≤ b ∧ b ≤ 1000000000) :
    Calls Try.prog 42 #[.agg #[.int .i64 a, .int .i64 b]] w fun e w' => ∃ ao cap, e = .returned (.slice ao (cf a b).length cap) ∧ OwnsI w' w.heap.size (.slice ao (cf a b).length cap) (cf a b) ∧ Below w.heap.size w w' := by
  have hlen := cf_len a b
  have O0 := hide (OwnsI.made_ (w := w.alloc (.cells #[.int .i64 a, .int .i64 b] 27)))
  go_enter Try.func42, Try.ntmps42
  go_wp2
  go_loopw [3, 4, 5, 6, 7] (fun sv nv dv _tv _rv wr => ∃ (n d : Int) (acc : List Int) (ao : Option Addr) (cap : Nat), (-1000000000 ≤ n ∧ n ≤ 1000000000) ∧ (0 ≤ d ∧ d ≤ 1000000000) ∧ acc ++ cf n d = cf a b ∧
      nv = .int .i64 n ∧ dv = .int .i64 d ∧ sv = .slice ao acc.length cap ∧ OwnsI wr w.heap.size (.slice ao acc.length cap) acc ∧ Below w.heap.size w wr) (fun _ _ dv _ _ _ => (intOf dv).toNat)
  case atStart =>
    refine ⟨a, b, [], some ⟨w.heap.size + 1, 0, none⟩, 0, ha, by omega, rfl, rfl, rfl, rfl, ?_, balloc (balloc (Below.refl _ _) _) _⟩
    have h := O0.out
    have e : (w.alloc (.cells #[.int .i64 a, .int .i64 b] 27)).heap.size = w.heap.size + 1 := by simp
    rw [e] at h
    exact h.mono_base (Nat.le_succ _)
  case round =>
    obtain ⟨n, d, acc, ao, cap, hn, hd, heq, rfl, rfl, rfl, hown, hbel⟩ := hrel
    have HEQ := hide heq
    have HB := hide hbel
    have HO := hide hown
    have hsz := hbel.size
    have hal : acc.length ≤ 1000000000 := by
      have : acc.length + (cf n d).length = (cf a b).length := by rw [← heq]; simp
      omega
    clear heq hbel hown
    by_cases h0 : 0 < d
    · have hc := hide (cf_pos (n := n) (d := d) (by omega))
      obtain ⟨m1, m2⟩ := mul_div_bd n d hn (by omega)
      have hm := hide (sub_mul_mod n d)
      have e1 := Int.emod_lt_of_pos n (show 0 < d by omega)
      have e2 := Int.emod_nonneg n (by omega : d ≠ 0)
      go_wp2_with (first | (go_at_call 61; refine (l02Down_any n d _ (by omega) (by omega)).mono ?_; rintro e w' ⟨rfl, rfl⟩) | (at_builtin; refine wpList_appendI rfl _ _ rfl w.heap.size _ acc rfl HO.out (n / d) _ rfl (by omega) hsz ?_; intro ao2 cap2 w2 hown2 hg2))
      go_roundw
      case rel =>
        rw [hm.out]
        exact ⟨d, n % d, acc ++ [n / d], ao2, cap2, by omega, by omega, by rw [← HEQ.out, hc.out]; simp, rfl, rfl, by simp, by simpa using hown2, HB.out.grown hg2 hsz (fun k hk => (HO.out.lt k hk).1)⟩
      case measure => have := hm.out; simp [intOf]; omega
    · have h1 : d = 0 := by omega
      subst h1
      go_wp2
      go_ret
      have e : acc = cf a b := by rw [← HEQ.out, cf_zero, List.append_nil]
      have ho := HO.out
      rw [e] at ho
      exact ⟨ao, cap, ret_slice2 (by rw [e]), ho, HB.out⟩
def termsL (a b : Int) : List Int := if validR a b then cf a b else []
def termsC (a b : Int) : Int := if validR a b then 0 else 1
theorem termsL_len (a b : Int) : (termsL a b).length ≤ 1000000000000 := by
  unfold termsL
  cases h : validR a b
  · simp
  · have h1 := (validR_true h).1
    have h2 := cf_len a b
    simp only [if_true]
    omega
theorem specTermsOf_any (a b : Int) (w : World) : Calls Try.prog 12 #[.agg #[.int .i64 a, .int .i64 b]] w fun e w' => ∃ ao cap, e = .returned (.tuple #[.slice ao (termsL a b).length cap, .int .i64 (termsC a b)]) ∧ OwnsI w' w.heap.size (.slice ao (termsL a b).length cap) (termsL a b) ∧ Below w.heap.size w w' := by
  have K := hide (cell2_new (w := w) (u := .int .i64 a) (v := .int .i64 b) 27)
  cases h : validR a b
  · have e : termsL a b = [] := by unfold termsL; rw [h]; rfl
    have e2 : termsC a b = 1 := by unfold termsC; rw [h]; rfl
    have HV := hide h
    rw [e, e2]
    clear e e2
    go_enter Try.func12, Try.ntmps12
    go_wp2_with fail
    refine (l02Ok_any a b _).mono ?_
    rintro e w1 ⟨rfl, b1⟩
    rw [HV.out]
    go_wp2_with fail
    go_ret2
    exact ⟨none, 0, rfl, OwnsI.none_, bstep (balloc (Below.refl _ _) _) b1⟩
  · have e : termsL a b = cf a b := by unfold termsL; rw [h]; rfl
    have e2 : termsC a b = 0 := by unfold termsC; rw [h]; rfl
    have HV := hide h
    obtain ⟨v1, v2⟩ := validR_bd' h
    rw [e, e2]
    clear e e2
    go_enter Try.func12, Try.ntmps12
    go_wp2_with fail
    refine (l02Ok_any a b _).mono ?_
    rintro e w1 ⟨rfl, b1⟩
    rw [HV.out]
    obtain ⟨k0, k1, k2, k3⟩ := K.out.below b1
    have B1 := hide (bstep (balloc (Below.refl w.heap.size w) _) b1)
    clear b1
    go_wp2_with fail
    refine (l03Terms_any a b _ v1 v2).mono ?_
    rintro e w2 ⟨ao, cap, rfl, o2, b2⟩
    go_wp2_with fail
    go_ret2
    exact ⟨ao, cap, rfl, o2.mono_base B1.out.size, bstep B1.out b2⟩
theorem implTermsOf_any (a b : Int) (w : World) : Calls Try.prog 14 #[.agg #[.int .i64 a, .int .i64 b]] w fun e w' => ∃ ao cap, e = .returned (.tuple #[.slice ao (termsL a b).length cap, .int .i64 (termsC a b)]) ∧ OwnsI w' w.heap.size (.slice ao (termsL a b).length cap) (termsL a b) ∧ Below w.heap.size w w' := by
  have K := hide (cell2_new (w := w) (u := .int .i64 a) (v := .int .i64 b) 27)
  cases h : validR a b
  · have e : termsL a b = [] := by unfold termsL; rw [h]; rfl
    have e2 : termsC a b = 1 := by unfold termsC; rw [h]; rfl
    have HV := hide h
    rw [e, e2]
    clear e e2
    go_enter Try.func14, Try.ntmps14
    go_wp2_with fail
    refine (implValidRatio_any a b _).mono ?_
    rintro e w1 ⟨rfl, b1⟩
    rw [HV.out]
    go_wp2_with fail
    go_ret2
    exact ⟨none, 0, rfl, OwnsI.none_, bstep (balloc (Below.refl _ _) _) b1⟩
  · have e : termsL a b = cf a b := by unfold termsL; rw [h]; rfl
    have e2 : termsC a b = 0 := by unfold termsC; rw [h]; rfl
    have HV := hide h
    obtain ⟨v1, v2⟩ := validR_bd' h
    rw [e, e2]
    clear e e2
    go_enter Try.func14, Try.ntmps14
    go_wp2_with fail
    refine (implValidRatio_any a b _).mono ?_
    rintro e w1 ⟨rfl, b1⟩
    rw [HV.out]
    obtain ⟨k0, k1, k2, k3⟩ := K.out.below b1
    have B1 := hide (bstep (balloc (Below.refl w.heap.size w) _) b1)
    clear b1
    go_wp2_with fail
    refine (termsOf_any a b _ v1 v2).mono ?_
    rintro e w2 ⟨ao, cap, rfl, o2, b2⟩
    go_wp2_with fail
    go_ret2
    exact ⟨ao, cap, rfl, o2.mono_base B1.out.size, bstep B1.out b2⟩
theorem walk_FnExactTermsOf (a b : Int) (w : World) (_h0 : -9223372036854775808 ≤ a ∧ a ≤ 9223372036854775807) (_h1 : -9223372036854775808 ≤ b ∧ b ≤ 9223372036854775807) :
    Calls Try.prog 3 #[.agg #[.int .i64 a, .int .i64 b]] w fun e w' => e = .returned (.bool true) ∧ Below w.heap.size w w' := by
  have hlen : (termsL a b).length ≤ 1000000000000 := termsL_len a b
  obtain ⟨L, hL⟩ : ∃ L, L = termsL a b := ⟨_, rfl⟩
  have H1 := specTermsOf_any a b
  have H2 := implTermsOf_any a b
  rw [← hL] at hlen H1 H2
  have C1 := hide H1
  have C2 := hide H2
  clear H1 H2 hL
  have K0 := hide (cell2_new (w := w) (u := .int .i64 a) (v := .int .i64 b) 23)
  have B0 := hide (balloc (Below.refl w.heap.size w) (.cells #[.int .i64 a, .int .i64 b] 23))
  go_enter Try.func3, Try.ntmps3
  go_wp2_with fail
  refine (toRatio_any a b _).mono ?_
  rintro e v1 ⟨rfl, c1⟩
  have K1 := hide (K0.out.below c1)
  have B1 := hide (bstep B0.out c1)
  go_wp2_with fail
  refine (C1.out _).mono ?_
  rintro e w1 ⟨a1, d1, rfl, o1, b1⟩
  have D1 := hide (bstep B1.out b1)
  have K2 := hide (K1.out.below b1)
  obtain ⟨k0, k1, k2, k3⟩ := K2.out
  clear c1
  go_wp2_with fail
  refine (toRatio_any a b _).mono ?_
  rintro e v2 ⟨rfl, c2⟩
  have K3 := hide (K2.out.below c2)
  have o11 := o1.below c2
  have D1' := hide (bstep D1.out c2)
  clear k0 k1 k2 k3
  go_wp2_with fail
  refine (C2.out _).mono ?_
  rintro e w2 ⟨a2, d2, rfl, o2, b2⟩
  have K4 := hide (K3.out.below b2)
  have D2 := hide (bstep D1'.out b2)
  have o12 := o11.below b2
  go_wp2_with fail
  refine (eqInt64S_any _ _ _ _ _ _ _ o2 o12).mono ?_
  rintro e w3 ⟨rfl, b3⟩
  have o13 := o12.below b3
  have o23 := o2.below b3
  have hd : decide (L = L) = true := decide_eq_true rfl
  have D3 := hide (bstep D2.out b3)
  have K5 := hide (K4.out.below b3)
  go_wp2_with fail
  refine (markInt64S_any _ _ 1 _ _ o23 (by omega) hlen).mono ?_
  rintro e w4 ⟨rfl, o24, g4⟩
  have o14 := o13.same g4 (own_ne o11 o23)
  have D4 := hide (below_mark D3.out g4 o23 D1'.out.size)
  have K6 := hide (K5.out.grown g4 (fun k hk => by have h1 := o23.lt k hk; have h2 := K3.out.lt; omega))
  go_wp2_with fail
  refine (heldInt64S_any _ 1 _ _ _ o24 (by omega) hlen).mono ?_
  rintro e w5 ⟨rfl, b5⟩
  have o15 := o14.below b5
  have o25 := o24.below b5
  have D5 := hide (bstep D4.out b5)
  have K7 := hide (K6.out.below b5)
  obtain ⟨k0, k1, k2, k3⟩ := K7.out
  go_wp2_with fail
  refine (toRatio_any a b _).mono ?_
  rintro e v3 ⟨rfl, c3⟩
  have o15' := o15.below c3
  have o25' := o25.below c3
  have D5' := hide (bstep D5.out c3)
  clear k0 k1 k2 k3
  go_wp2_with fail
  refine (C2.out _).mono ?_
  rintro e w6 ⟨a3, d3, rfl, o3, b6⟩
  have o16 := o15'.below b6
  have o26 := o25'.below b6
  have D6 := hide (bstep D5'.out b6)
  go_wp2_with fail
  refine (eqInt64S_any _ _ _ _ _ _ _ o3 o16).mono ?_
  rintro e w7 ⟨rfl, b7⟩
  have o27 := o26.below b7
  have D7 := hide (bstep D6.out b7)
  go_wp2_with fail
  refine (heldInt64S_any _ 1 _ _ _ o27 (by omega) hlen).mono ?_
  rintro e w8 ⟨rfl, b8⟩
  go_wp2_with fail
  go_ret
  exact ⟨rfl, bstep D7.out b8⟩
end Go.Proofs.Ytjojeoehdocojaa
