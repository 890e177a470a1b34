/-
  The prime factors: contracts of both functions and of their callers, and the walks of IsPrime's and PrimesOf's laws.
-/
import Derived.Test.YthagogjklocmoaaMem
import Derived.Test.YthagogjklocmoaaPrimes
namespace Go.Proofs.Ythagogjklocmoaa
open Go.RowKit

theorem ret_slice {ao : Option Addr} {n m c : Nat} (h : n = m) : Ending.returned (.slice ao n c) = .returned (.slice ao m c) := by rw [h]
set_option maxHeartbeats 1000000 in
theorem primesOf_any (N : Int) (w : World) (hN : 1 ≤ N ∧ N ≤ 1000000000) :
    Calls Try.prog 41 #[.int .i64 N] w fun e w' => ∃ ao cap, e = .returned (.slice ao (fac 2 N).length cap) ∧ OwnsI w' w.heap.size (.slice ao (fac 2 N).length cap) (fac 2 N) ∧ Below w.heap.size w w' := by
  go_enter Try.func41, Try.ntmps41
  go_wp2
  go_loopw [0, 3, 4] (fun nv sv pv wr => ∃ (n p : Int) (acc : List Int) (ao : Option Addr) (cap : Nat), 1 ≤ n ∧ n ≤ 1000000000 ∧ 2 ≤ p ∧ p ≤ 40000 ∧ acc ++ fac p n = fac 2 N ∧ (acc.length : Int) + n ≤ 1000000000 ∧
      nv = .int .i64 n ∧ pv = .int .i64 p ∧ sv = .slice ao acc.length cap ∧ OwnsI wr w.heap.size (.slice ao acc.length cap) acc ∧ Below w.heap.size w wr) (fun _ _ pv _ => (40000 - intOf pv).toNat)
  case atStart => exact ⟨N, 2, [], none, 0, hN.1, hN.2, by omega, by omega, rfl, by simp; omega, rfl, rfl, rfl, OwnsI.none_, Below.refl _ _⟩
  case round =>
    obtain ⟨n, p, acc, ao, cap, hn1, hn2, hp1, hp2, heq, hlen, rfl, rfl, rfl, hown, hbel⟩ := hrel
    have HEQ := hide heq
    have HB := hide hbel
    have HO := hide hown
    have hsz := hbel.size
    clear heq hbel hown
    have h0 : 0 ≤ p * p := Int.mul_nonneg (by omega) (by omega)
    have h00 : p * p ≤ 40000 * 40000 := Int.mul_le_mul hp2 hp2 (by omega) (by omega)
    by_cases hsq : p * p ≤ n
    · have hp3 := sq_bd p n hp1 hsq hn2
      have hgo := hide (fac_go p n hp1 hsq)
      obtain ⟨wo, hwo⟩ : ∃ wo : World, wo = wr := ⟨_, rfl⟩
      subst hwo
      go_wp2
      go_loopw [0, 3] (fun nv sv wr => ∃ (n' : Int) (acc' : List Int) (ao : Option Addr) (cap : Nat), 1 ≤ n' ∧ n' ≤ n ∧ acc' ++ (strip p n').1 ++ fac (p + 1) (strip p n').2 = fac 2 N ∧ (acc'.length : Int) + n' ≤ 1000000000 ∧
          nv = .int .i64 n' ∧ sv = .slice ao acc'.length cap ∧ OwnsI wr w.heap.size (.slice ao acc'.length cap) acc' ∧ Below w.heap.size w wr) (fun nv _ _ => (intOf nv).toNat)
      case atStart => exact ⟨n, acc, ao, cap, hn1, by omega, by rw [List.append_assoc, ← hgo.out]; exact HEQ.out, hlen, rfl, rfl, HO.out, HB.out⟩
      case round =>
        obtain ⟨n', acc', ao', cap', hm1, hm2, heq', hlen', rfl, rfl, hown', hbel'⟩ := hrel
        have HEQ' := hide heq'
        have HB' := hide hbel'
        have HO' := hide hown'
        have hsz' := hbel'.size
        clear heq' hbel' hown'
        have hmod : n' % p = 0 ∨ ¬ n' % p = 0 := Classical.em _
        rcases hmod with hmod | hmod
        · have hz : (n' % p == 0) = true := by simpa using hmod
          obtain ⟨d1, d2, _⟩ := div_pos_of_dvd p n' hp1 hm1 hmod
          have hs := hide (strip_yes p n' hp1 hm1 hmod)
          clear hmod
          go_wp2_with (at_builtin; refine wpList_appendI rfl _ _ rfl w.heap.size _ acc' rfl HO'.out p _ rfl (by omega) hsz' ?_; intro ao2 cap2 w2 hown2 hg2)
          go_roundw
          case rel =>
            refine ⟨n' / p, acc' ++ [p], ao2, cap2, d1, by omega, ?_, by simp; omega, rfl, by simp, by simpa using hown2, HB'.out.grown hg2 hsz' (fun k hk => (HO'.out.lt k hk).1)⟩
            have e := HEQ'.out
            rw [hs.out] at e
            simpa using e
          case measure => simp [intOf]; omega
        · have hz : (n' % p == 0) = false := by simpa using hmod
          have hs := hide (strip_no p n' hmod)
          clear hmod
          go_wp2
          go_roundw
          case rel =>
            refine ⟨n', p + 1, acc', ao', cap', hm1, by omega, by omega, by omega, ?_, hlen', rfl, rfl, rfl, HO'.out, HB'.out⟩
            have e := HEQ'.out
            rw [hs.out] at e
            simpa using e
          case measure => simp [intOf]; omega
    · have hend := hide (fac_end p n hsq)
      by_cases h1 : 1 < n
      · go_wp2_with (at_builtin; refine wpList_appendI rfl _ _ rfl w.heap.size _ acc rfl HO.out n _ rfl (by omega) hsz ?_; intro ao2 cap2 w2 hown2 hg2)
        go_ret
        have e : acc ++ [n] = fac 2 N := by rw [← HEQ.out, hend.out, if_pos h1]
        have el : acc.length + 1 = (fac 2 N).length := by rw [← e]; simp
        rw [e, el] at hown2
        exact ⟨ao2, cap2, ret_slice el, hown2, HB.out.grown hg2 hsz (fun k hk => (HO.out.lt k hk).1)⟩
      · go_wp2
        go_ret
        have e : acc = fac 2 N := by rw [← HEQ.out, hend.out, if_neg (by omega), List.append_nil]
        have ho := HO.out
        rw [e] at ho
        exact ⟨ao, cap, ret_slice (by rw [e]), ho, HB.out⟩
end Go.Proofs.Ythagogjklocmoaa
