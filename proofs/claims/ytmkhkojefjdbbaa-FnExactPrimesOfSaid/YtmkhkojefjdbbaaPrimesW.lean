/-
  The prime factors: contracts of both functions and of their callers, and the walks of IsPrime's and PrimesOf's laws.
-/
import Derived.Test.YtmkhkojefjdbbaaMem
import Derived.Test.YtmkhkojefjdbbaaPrimes
namespace Go.Proofs.Ytmkhkojefjdbbaa
open Go.RowKit

theorem ret_slice {ao : Option Addr} {n m c : Nat} (h : n = m) : Ending.returned (.slice ao n c) = .returned (.slice ao m c) := by rw [h]
set_option maxHeartbeats 1000000 in
theorem primesOf_any (N : Int) (w : World) (hN : 1 ≤ N ∧ N ≤ 1000000000) :
    Calls Try.prog 57 #[.int .i64 N] w fun e w' => ∃ ao cap, e = .returned (.slice ao (fac 2 N).length cap) ∧ OwnsI w' w.heap.size (.slice ao (fac 2 N).length cap) (fac 2 N) ∧ Below w.heap.size w w' := by
  go_enter Try.func57, Try.ntmps57
  go_wp2
  go_loopw [0, 3, 4] (fun nv sv pv wr => ∃ (n p : Int) (acc : List Int) (ao : Option Addr) (cap : Nat), 1 ≤ n ∧ n ≤ 1000000000 ∧ 2 ≤ p ∧ p ≤ 40000 ∧ acc ++ fac p n = fac 2 N ∧ (acc.length : Int) + n ≤ 1000000000 ∧
      nv = .int .i64 n ∧ pv = .int .i64 p ∧ sv = .slice ao acc.length cap ∧ OwnsI wr w.heap.size (.slice ao acc.length cap) acc ∧ Below w.heap.size w wr) (fun _ _ pv _ => (40000 - intOf pv).toNat)
  case atStart => exact ⟨N, 2, [], none, 0, hN.1, hN.2, by omega, by omega, rfl, by simp; omega, rfl, rfl, rfl, OwnsI.none_, Below.refl _ _⟩
  case round =>
    obtain ⟨n, p, acc, ao, cap, hn1, hn2, hp1, hp2, heq, hlen, rfl, rfl, rfl, hown, hbel⟩ := hrel
    have HEQ := hide heq
    have HB := hide hbel
    have HO := hide hown
    have hsz := hbel.size
    clear heq hbel hown
    have h0 : 0 ≤ p * p := Int.mul_nonneg (by omega) (by omega)
    have h00 : p * p ≤ 40000 * 40000 := Int.mul_le_mul hp2 hp2 (by omega) (by omega)
    by_cases hsq : p * p ≤ n
    · have hp3 := sq_bd p n hp1 hsq hn2
      have hgo := hide (fac_go p n hp1 hsq)
      obtain ⟨wo, hwo⟩ : ∃ wo : World, wo = wr := ⟨_, rfl⟩
      subst hwo
      go_wp2
      go_loopw [0, 3] (fun nv sv wr => ∃ (n' : Int) (acc' : List Int) (ao : Option Addr) (cap : Nat), 1 ≤ n' ∧ n' ≤ n ∧ acc' ++ (strip p n').1 ++ fac (p + 1) (strip p n').2 = fac 2 N ∧ (acc'.length : Int) + n' ≤ 1000000000 ∧
          nv = .int .i64 n' ∧ sv = .slice ao acc'.length cap ∧ OwnsI wr w.heap.size (.slice ao acc'.length cap) acc' ∧ Below w.heap.size w wr) (fun nv _ _ => (intOf nv).toNat)
      case atStart => exact ⟨n, acc, ao, cap, hn1, by omega, by rw [List.append_assoc, ← hgo.out]; exact HEQ.out, hlen, rfl, rfl, HO.out, HB.out⟩
      case round =>
        obtain ⟨n', acc', ao', cap', hm1, hm2, heq', hlen', rfl, rfl, hown', hbel'⟩ := hrel
        have HEQ' := hide heq'
        have HB' := hide hbel'
        have HO' := hide hown'
        have hsz' := hbel'.size
        clear heq' hbel' hown'
        have hmod : n' % p = 0 ∨ ¬ n' % p = 0 := Classical.em _
        rcases hmod with hmod | hmod
        · have hz : (n' % p == 0) = true := by simpa using hmod
          obtain ⟨d1, d2, _⟩ := div_pos_of_dvd p n' hp1 hm1 hmod
          have hs := hide (strip_yes p n' hp1 hm1 hmod)
          clear hmod
          go_wp2_with (at_builtin; refine wpList_appendI rfl _ _ rfl w.heap.size _ acc' rfl HO'.out p _ rfl (by omega) hsz' ?_; intro ao2 cap2 w2 hown2 hg2)
          go_roundw
          case rel =>
            refine ⟨n' / p, acc' ++ [p], ao2, cap2, d1, by omega, ?_, by simp; omega, rfl, by simp, by simpa using hown2, HB'.out.grown hg2 hsz' (fun k hk => (HO'.out.lt k hk).1)⟩
            have e := HEQ'.out
            rw [hs.out] at e
            simpa using e
          case measure => simp [intOf]; omega
        · have hz : (n' % p == 0) = false := by simpa using hmod
          have hs := hide (strip_no p n' hmod)
          clear hmod
          go_wp2
          go_roundw
          case rel =>
            refine ⟨n', p + 1, acc', ao', cap', hm1, by omega, by omega, by omega, ?_, hlen', rfl, rfl, rfl, HO'.out, HB'.out⟩
            have e := HEQ'.out
            rw [hs.out] at e
            simpa using e
          case measure => simp [intOf]; omega
    · have hend := hide (fac_end p n hsq)
      by_cases h1 : 1 < n
      · go_wp2_with (at_builtin; refine wpList_appendI rfl _ _ rfl w.heap.size _ acc rfl HO.out n _ rfl (by omega) hsz ?_; intro ao2 cap2 w2 hown2 hg2)
        go_ret
        have e : acc ++ [n] = fac 2 N := by rw [← HEQ.out, hend.out, if_pos h1]
        have el : acc.length + 1 = (fac 2 N).length := by rw [← e]; simp
        rw [e, el] at hown2
        exact ⟨ao2, cap2, ret_slice el, hown2, HB.out.grown hg2 hsz (fun k hk => (HO.out.lt k hk).1)⟩
      · go_wp2
        go_ret
        have e : acc = fac 2 N := by rw [← HEQ.out, hend.out, if_neg (by omega), List.append_nil]
        have ho := HO.out
        rw [e] at ho
        exact ⟨ao, cap, ret_slice (by rw [e]), ho, HB.out⟩
set_option maxHeartbeats 1000000 in
theorem l04Primes_any (N : Int) (w : World) (hN : 1 ≤ N ∧ N ≤ 1000000000) :
    Calls Try.prog 55 #[.int .i64 N] w fun e w' => ∃ ao cap, e = .returned (.slice ao (fac 2 N).length cap) ∧ OwnsI w' w.heap.size (.slice ao (fac 2 N).length cap) (fac 2 N) ∧ Below w.heap.size w w' := by
  go_enter Try.func55, Try.ntmps55
  go_wp2
  go_loopw [0, 3, 4] (fun nv sv pv wr => ∃ (n p : Int) (acc : List Int) (ao : Option Addr) (cap : Nat), 1 ≤ n ∧ n ≤ 1000000000 ∧ 2 ≤ p ∧ p ≤ 40000 ∧ acc ++ fac p n = fac 2 N ∧ (acc.length : Int) + n ≤ 1000000000 ∧
      nv = .int .i64 n ∧ pv = .int .i64 p ∧ sv = .slice ao acc.length cap ∧ OwnsI wr w.heap.size (.slice ao acc.length cap) acc ∧ Below w.heap.size w wr) (fun _ _ pv _ => (40000 - intOf pv).toNat)
  case atStart => exact ⟨N, 2, [], some ⟨w.heap.size, 0, none⟩, 0, hN.1, hN.2, by omega, by omega, rfl, by simp; omega, rfl, rfl, rfl, OwnsI.made_, balloc (Below.refl _ _) _⟩
  case round =>
    obtain ⟨n, p, acc, ao, cap, hn1, hn2, hp1, hp2, heq, hlen, rfl, rfl, rfl, hown, hbel⟩ := hrel
    have HEQ := hide heq
    have HB := hide hbel
    have HO := hide hown
    have hsz := hbel.size
    clear heq hbel hown
    have h0 : 0 ≤ p * p := Int.mul_nonneg (by omega) (by omega)
    have h00 : p * p ≤ 40000 * 40000 := Int.mul_le_mul hp2 hp2 (by omega) (by omega)
    by_cases hsq : p * p ≤ n
    · have hp3 := sq_bd p n hp1 hsq hn2
      have hgo := hide (fac_go p n hp1 hsq)
      obtain ⟨wo, hwo⟩ : ∃ wo : World, wo = wr := ⟨_, rfl⟩
      subst hwo
      go_wp2
      go_loopw [0, 3] (fun nv sv wr => ∃ (n' : Int) (acc' : List Int) (ao : Option Addr) (cap : Nat), 1 ≤ n' ∧ n' ≤ n ∧ acc' ++ (strip p n').1 ++ fac (p + 1) (strip p n').2 = fac 2 N ∧ (acc'.length : Int) + n' ≤ 1000000000 ∧
          nv = .int .i64 n' ∧ sv = .slice ao acc'.length cap ∧ OwnsI wr w.heap.size (.slice ao acc'.length cap) acc' ∧ Below w.heap.size w wr) (fun nv _ _ => (intOf nv).toNat)
      case atStart => exact ⟨n, acc, ao, cap, hn1, by omega, by rw [List.append_assoc, ← hgo.out]; exact HEQ.out, hlen, rfl, rfl, HO.out, HB.out⟩
      case round =>
        obtain ⟨n', acc', ao', cap', hm1, hm2, heq', hlen', rfl, rfl, hown', hbel'⟩ := hrel
        have HEQ' := hide heq'
        have HB' := hide hbel'
        have HO' := hide hown'
        have hsz' := hbel'.size
        clear heq' hbel' hown'
        have hmod : n' % p = 0 ∨ ¬ n' % p = 0 := Classical.em _
        rcases hmod with hmod | hmod
        · have hz : (n' % p == 0) = true := by simpa using hmod
          obtain ⟨d1, d2, _⟩ := div_pos_of_dvd p n' hp1 hm1 hmod
          have hs := hide (strip_yes p n' hp1 hm1 hmod)
          clear hmod
          go_wp2_with (at_builtin; refine wpList_appendI rfl _ _ rfl w.heap.size _ acc' rfl HO'.out p _ rfl (by omega) hsz' ?_; intro ao2 cap2 w2 hown2 hg2)
          go_roundw
          case rel =>
            refine ⟨n' / p, acc' ++ [p], ao2, cap2, d1, by omega, ?_, by simp; omega, rfl, by simp, by simpa using hown2, HB'.out.grown hg2 hsz' (fun k hk => (HO'.out.lt k hk).1)⟩
            have e := HEQ'.out
            rw [hs.out] at e
            simpa using e
          case measure => simp [intOf]; omega
        · have hz : (n' % p == 0) = false := by simpa using hmod
          have hs := hide (strip_no p n' hmod)
          clear hmod
          go_wp2
          go_roundw
          case rel =>
            refine ⟨n', p + 1, acc', ao', cap', hm1, by omega, by omega, by omega, ?_, hlen', rfl, rfl, rfl, HO'.out, HB'.out⟩
            have e := HEQ'.out
            rw [hs.out] at e
            simpa using e
          case measure => simp [intOf]; omega
    · have hend := hide (fac_end p n hsq)
      by_cases h1 : 1 < n
      · go_wp2_with (at_builtin; refine wpList_appendI rfl _ _ rfl w.heap.size _ acc rfl HO.out n _ rfl (by omega) hsz ?_; intro ao2 cap2 w2 hown2 hg2)
        go_ret
        have e : acc ++ [n] = fac 2 N := by rw [← HEQ.out, hend.out, if_pos h1]
        have el : acc.length + 1 = (fac 2 N).length := by rw [← e]; simp
        rw [e, el] at hown2
        exact ⟨ao2, cap2, ret_slice el, hown2, HB.out.grown hg2 hsz (fun k hk => (HO.out.lt k hk).1)⟩
      · go_wp2
        go_ret
        have e : acc = fac 2 N := by rw [← HEQ.out, hend.out, if_neg (by omega), List.append_nil]
        have ho := HO.out
        rw [e] at ho
        exact ⟨ao, cap, ret_slice (by rw [e]), ho, HB.out⟩
def isPrimeB (n : Int) : Bool := both (inR n 2 1000000000) ((((fac 2 n).length : Int)) == 1)
theorem fac_one : fac 2 1 = [] := by rw [fac_end 2 1 (by decide)]; rfl
theorem implIsPrime_any (n : Int) (w : World) : Calls Try.prog 31 #[.int .i64 n] w fun e w' => e = .returned (.bool (isPrimeB n)) ∧ Below w.heap.size w w' := by
  cases h : inR n 2 1000000000
  · go_enter Try.func31, Try.ntmps31
    go_wp2_with (go_at_call 56; refine (within_any _ _ _ _).mono ?_; rintro e w' ⟨rfl, rfl⟩)
    go_ret
    exact ⟨ret_bool (both_f1 h).symm, Below.refl _ _⟩
  · have h1 := inR_true h
    go_enter Try.func31, Try.ntmps31
    go_wp2_with (first | (go_at_call 56; refine (within_any _ _ _ _).mono ?_; rintro e w' ⟨rfl, rfl⟩) | (go_at_call 57; refine (primesOf_any n _ (by omega)).mono ?_; rintro e w1 ⟨ao, cap, rfl, hown, hb⟩))
    go_ret
    exact ⟨ret_bool (by unfold isPrimeB both; rw [h]; rfl), hb⟩
theorem specIsPrime_any (n : Int) (w : World) : Calls Try.prog 30 #[.int .i64 n] w fun e w' => e = .returned (.bool (isPrimeB n)) ∧ Below w.heap.size w w' := by
  cases h : inR n 1 1000000000
  · go_enter Try.func30, Try.ntmps30
    go_wp2_with (go_at_call 49; refine (l04Ask_any _ _).mono ?_; rintro e w' ⟨rfl, rfl⟩)
    go_ret
    exact ⟨ret_bool (both_f1 (inR_no (by have := inR_false h; omega))).symm, Below.refl _ _⟩
  · have h1 := inR_true h
    go_enter Try.func30, Try.ntmps30
    go_wp2_with (first | (go_at_call 49; refine (l04Ask_any _ _).mono ?_; rintro e w' ⟨rfl, rfl⟩) | (go_at_call 55; refine (l04Primes_any n _ (by omega)).mono ?_; rintro e w1 ⟨ao, cap, rfl, hown, hb⟩))
    go_ret
    refine ⟨ret_bool ?_, hb⟩
    unfold isPrimeB both
    by_cases e1 : n = 1
    · subst e1; rw [fac_one]; rfl
    · rw [inR_mk (show 2 ≤ n ∧ n ≤ 1000000000 by omega)]; rfl
theorem walk_FnExactIsPrime (a0 : Int) (w : World) (_h0 : -9223372036854775808 ≤ a0 ∧ a0 ≤ 9223372036854775807) :
    Calls Try.prog 11 #[.int .i64 a0] w fun e w' => e = .returned (.bool true) ∧ Below w.heap.size w w' := by
  go_enter Try.func11, Try.ntmps11
  go_wp2_with (first | (go_at_call 30; refine (specIsPrime_any _ _).mono ?_; rintro e w1 ⟨rfl, hb1⟩) | (go_at_call 31; refine (implIsPrime_any _ _).mono ?_; rintro e w2 ⟨rfl, hb2⟩))
  go_ret
  exact ⟨rfl, bstep hb1 hb2⟩
def primesL (n : Int) : List Int := if inR n 1 1000000000 then fac 2 n else []
def primesC (n : Int) : Int := if inR n 1 1000000000 then 0 else 2
theorem primesL_len (n : Int) : (primesL n).length ≤ 1000000000000 := by
  unfold primesL
  cases h : inR n 1 1000000000
  · simp
  · have h1 := inR_true h
    have h2 := fac_len 2 n h1.1
    simp only [if_true]
    omega
theorem implPrimesOf_any (n : Int) (w : World) : Calls Try.prog 33 #[.int .i64 n] w fun e w' => ∃ ao cap, e = .returned (.tuple #[.slice ao (primesL n).length cap, .int .i64 (primesC n)]) ∧ OwnsI w' w.heap.size (.slice ao (primesL n).length cap) (primesL n) ∧ Below w.heap.size w w' := by
  cases h : inR n 1 1000000000
  · have e : primesL n = [] := by unfold primesL; rw [h]; rfl
    have e2 : primesC n = 2 := by unfold primesC; rw [h]; rfl
    rw [e, e2]
    go_enter Try.func33, Try.ntmps33
    go_wp2_with (go_at_call 51; refine (countable_any _ _).mono ?_; rintro e w' ⟨rfl, rfl⟩)
    go_ret2
    exact ⟨none, 0, rfl, OwnsI.none_, Below.refl _ _⟩
  · have h1 := inR_true h
    have e : primesL n = fac 2 n := by unfold primesL; rw [h]; rfl
    have e2 : primesC n = 0 := by unfold primesC; rw [h]; rfl
    rw [e, e2]
    clear e e2
    go_enter Try.func33, Try.ntmps33
    go_wp2_with (first | (go_at_call 51; refine (countable_any _ _).mono ?_; rintro e w' ⟨rfl, rfl⟩) | (go_at_call 57; refine (primesOf_any n _ (by omega)).mono ?_; rintro e w1 ⟨ao, cap, rfl, hown, hb⟩))
    go_ret2
    exact ⟨ao, cap, rfl, hown, hb⟩
theorem specPrimesOf_any (n : Int) (w : World) : Calls Try.prog 32 #[.int .i64 n] w fun e w' => ∃ ao cap, e = .returned (.tuple #[.slice ao (primesL n).length cap, .int .i64 (primesC n)]) ∧ OwnsI w' w.heap.size (.slice ao (primesL n).length cap) (primesL n) ∧ Below w.heap.size w w' := by
  cases h : inR n 1 1000000000
  · have e : primesL n = [] := by unfold primesL; rw [h]; rfl
    have e2 : primesC n = 2 := by unfold primesC; rw [h]; rfl
    rw [e, e2]
    go_enter Try.func32, Try.ntmps32
    go_wp2_with (go_at_call 49; refine (l04Ask_any _ _).mono ?_; rintro e w' ⟨rfl, rfl⟩)
    go_ret2
    exact ⟨none, 0, rfl, OwnsI.none_, Below.refl _ _⟩
  · have h1 := inR_true h
    have e : primesL n = fac 2 n := by unfold primesL; rw [h]; rfl
    have e2 : primesC n = 0 := by unfold primesC; rw [h]; rfl
    rw [e, e2]
    clear e e2
    go_enter Try.func32, Try.ntmps32
    go_wp2_with (first | (go_at_call 49; refine (l04Ask_any _ _).mono ?_; rintro e w' ⟨rfl, rfl⟩) | (go_at_call 55; refine (l04Primes_any n _ (by omega)).mono ?_; rintro e w1 ⟨ao, cap, rfl, hown, hb⟩))
    go_ret2
    exact ⟨ao, cap, rfl, hown, hb⟩
theorem walk_FnExactPrimesOf (a0 : Int) (w : World) (_h0 : -9223372036854775808 ≤ a0 ∧ a0 ≤ 9223372036854775807) :
    Calls Try.prog 12 #[.int .i64 a0] w fun e w' => e = .returned (.bool true) ∧ Below w.heap.size w w' := by
  have hlen : (primesL a0).length ≤ 1000000000000 := primesL_len a0
  obtain ⟨L, hL⟩ : ∃ L, L = primesL a0 := ⟨_, rfl⟩
  have H1 := specPrimesOf_any a0
  have H2 := implPrimesOf_any a0
  rw [← hL] at hlen H1 H2
  have C1 := hide H1
  have C2 := hide H2
  clear H1 H2 hL
  go_enter Try.func12, Try.ntmps12
  go_wp2_with fail
  refine (C1.out _).mono ?_
  rintro e w1 ⟨a1, c1, rfl, o1, b1⟩
  go_wp2_with fail
  refine (C2.out _).mono ?_
  rintro e w2 ⟨a2, c2, rfl, o2, b2⟩
  have o12 := o1.below b2
  go_wp2_with fail
  refine (eqInt64S_any _ _ _ _ _ _ _ o2 o12).mono ?_
  rintro e w3 ⟨rfl, b3⟩
  have o13 := o12.below b3
  have o23 := o2.below b3
  have hd : decide (L = L) = true := decide_eq_true rfl
  go_wp2_with fail
  refine (markInt64S_any _ _ 1 _ _ o23 (by omega) hlen).mono ?_
  rintro e w4 ⟨rfl, o24, g4⟩
  have o14 := o13.same g4 (own_ne o1 o23)
  go_wp2_with fail
  refine (heldInt64S_any _ 1 _ _ _ o24 (by omega) hlen).mono ?_
  rintro e w5 ⟨rfl, b5⟩
  have o15 := o14.below b5
  have o25 := o24.below b5
  go_wp2_with fail
  refine (C2.out _).mono ?_
  rintro e w6 ⟨a3, c3, rfl, o3, b6⟩
  have o16 := o15.below b6
  have o26 := o25.below b6
  go_wp2_with fail
  refine (eqInt64S_any _ _ _ _ _ _ _ o3 o16).mono ?_
  rintro e w7 ⟨rfl, b7⟩
  have o27 := o26.below b7
  go_wp2_with fail
  refine (heldInt64S_any _ 1 _ _ _ o27 (by omega) hlen).mono ?_
  rintro e w8 ⟨rfl, b8⟩
  go_wp2_with fail
  go_ret
  exact ⟨rfl, bstep (bstep (bstep (bstep (below_mark (bstep (bstep b1 b2) b3) g4 o23 b1.size) b5) b6) b7) b8⟩
end Go.Proofs.Ytmkhkojefjdbbaa
