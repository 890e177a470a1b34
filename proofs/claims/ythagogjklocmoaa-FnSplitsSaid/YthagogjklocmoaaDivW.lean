/-
  Divisors: the contract of the reference's function.
-/
import Derived.Test.YthagogjklocmoaaDivs
import Derived.Test.YthagogjklocmoaaTwoRows
namespace Go.Proofs.Ythagogjklocmoaa
open Go.RowKit

theorem root_exists (n : Int) (hn : 0 ≤ n) : ∃ k : Nat, (k : Int) * k ≤ n ∧ n < ((k + 1 : Nat) : Int) * ((k + 1 : Nat) : Int) := by
  obtain ⟨m, rfl⟩ := Int.eq_ofNat_of_zero_le hn
  induction m with
  | zero => exact ⟨0, by simp, by simp⟩
  | succ m ih =>
    obtain ⟨k, h1, h2⟩ := ih (by omega)
    by_cases h : ((m + 1 : Nat) : Int) < ((k + 1 : Nat) : Int) * ((k + 1 : Nat) : Int)
    · exact ⟨k, by omega, h⟩
    · refine ⟨k + 1, by omega, ?_⟩
      have e : ((k + 1 + 1 : Nat) : Int) * ((k + 1 + 1 : Nat) : Int) = ((k + 1 : Nat) : Int) * ((k + 1 : Nat) : Int) + 2 * ((k + 1 : Nat) : Int) + 1 := by
        push_cast
        grind
      omega
theorem root_unique {n : Int} {k k' : Nat} (h1 : (k : Int) * k ≤ n) (h2 : n < ((k + 1 : Nat) : Int) * ((k + 1 : Nat) : Int)) (h3 : (k' : Int) * k' ≤ n) (h4 : n < ((k' + 1 : Nat) : Int) * ((k' + 1 : Nat) : Int)) : k = k' := by
  have key : ∀ a b : Nat, (a : Int) * a ≤ n → n < ((b + 1 : Nat) : Int) * ((b + 1 : Nat) : Int) → a ≤ b := fun a b ha hb => by
    rcases Nat.lt_or_ge b a with s | s
    · exfalso
      have : ((b + 1 : Nat) : Int) * ((b + 1 : Nat) : Int) ≤ (a : Int) * a := Int.mul_le_mul (by omega) (by omega) (by omega) (by omega)
      omega
    · exact s
  exact Nat.le_antisymm (key k k' h1 h4) (key k' k h3 h2)
theorem lowD_len (n : Int) (k : Nat) : (lowD n k).length ≤ k := by
  unfold lowD
  have h := List.length_filter_le (fun d : Int => decide (n % d = 0)) ((List.range k).map fun i => ((i + 1 : Nat) : Int))
  simpa using h
theorem highD_len (n : Int) (k : Nat) : (highD n k).length ≤ k := by
  unfold highD
  rw [List.length_map]
  exact Nat.le_trans (List.length_filter_le _ _) (lowD_len n k)
/-- All divisors in ascending order. -/
def DivL (n : Int) (L : List Int) : Prop := ∃ k : Nat, (k : Int) * k ≤ n ∧ n < ((k + 1 : Nat) : Int) * ((k + 1 : Nat) : Int) ∧ L = divAll n k
theorem divL_unique {n : Int} {L L' : List Int} (h : DivL n L) (h' : DivL n L') : L = L' := by
  obtain ⟨k, h1, h2, rfl⟩ := h
  obtain ⟨k', h3, h4, rfl⟩ := h'
  rw [root_unique h1 h2 h3 h4]
def DivPost (n : Int) (w : World) (e : Ending) (w' : World) : Prop := ∃ (L : List Int) (ao : Option Addr) (cap : Nat), DivL n L ∧ L.length ≤ 1000000 ∧ e = .returned (.slice ao L.length cap) ∧ OwnsI w' w.heap.size (.slice ao L.length cap) L ∧ Below w.heap.size w w'
set_option maxHeartbeats 2000000 in
theorem l04Divisors_any (N : Int) (w : World) (hN : 1 ≤ N ∧ N ≤ 1000000000) : Calls Try.prog 38 #[.int .i64 N] w (DivPost N w) := by
  have O1 := hide ((OwnsI.made_ (w := w)).below (balloc (Below.refl _ _) (.cells #[] 2)))
  have O2 := hide ((OwnsI.made_ (w := w.alloc (.cells #[] 2))).mono_base' (B' := w.heap.size) (by simp))
  go_enter Try.func38, Try.ntmps38
  go_wp2
  go_loopw [3, 4, 5] (fun s3 s4 s5 wr => ∃ (k : Nat) (xs ys : List Int) (a1 a2 : Option Addr) (p1 p2 : Nat), k ≤ 40000 ∧ s5 = .int .i64 ((k : Int) + 1) ∧ s3 = .slice a1 xs.length p1 ∧ s4 = .slice a2 ys.length p2 ∧ xs = lowD N k ∧ ys = highD N k ∧ (k : Int) * k ≤ N ∧
      OwnsI wr w.heap.size (.slice a1 xs.length p1) xs ∧ OwnsI wr w.heap.size (.slice a2 ys.length p2) ys ∧ Apart (.slice a1 xs.length p1) (.slice a2 ys.length p2) ∧ Below w.heap.size w wr) (fun _ _ s5 _ => (50000 - intOf s5).toNat)
  case atStart =>
    refine ⟨0, [], [], some ⟨w.heap.size, 0, none⟩, some ⟨w.heap.size + 1, 0, none⟩, 0, 0, by omega, rfl, rfl, rfl, rfl, rfl, by simp; omega, ?_, ?_, ?_, balloc (balloc (Below.refl _ _) _) _⟩
    · exact O1.out
    · have h := O2.out
      simpa using h
    · exact .inr (by simp [Value.ownBlock])
  case round =>
    obtain ⟨k, xs, ys, a1, a2, p1, p2, hk, rfl, rfl, rfl, hxs, hys, hkk, o1, o2, hap, hbel⟩ := hrel
    have HO1 := hide o1
    have HO2 := hide o2
    have HAP := hide hap
    have HB := hide hbel
    have hsz := hbel.size
    have hl1 : xs.length ≤ 40000 := by have := lowD_len N k; rw [hxs]; omega
    have hl2 : ys.length ≤ 40000 := by have := highD_len N k; rw [hys]; omega
    have HXS := hide hxs
    have HYS := hide hys
    have HKK := hide hkk
    obtain ⟨d, hd⟩ : ∃ d, d = (k : Int) + 1 := ⟨_, rfl⟩
    have HD := hide (show ((k + 1 : Nat) : Int) = d by omega)
    have hd0 : 1 ≤ d ∧ d ≤ 40001 := by omega
    have HD2 := hide hd
    rw [← hd]
    have hdd : 0 ≤ d * d ∧ d * d ≤ 40001 * 40001 := ⟨Int.mul_nonneg (by omega) (by omega), Int.mul_le_mul hd0.2 hd0.2 (by omega) (by omega)⟩
    clear o1 o2 hap hbel hxs hys hkk hd
    by_cases hsq : d * d ≤ N
    · have hd1 : d ≤ 39999 := by
        rcases Int.lt_or_le d 40000 with s | s
        · omega
        · have : 40000 * 40000 ≤ d * d := Int.mul_le_mul s s (by omega) (by omega)
          omega
      have hq : 0 ≤ N / d ∧ N / d ≤ N := ⟨Int.ediv_nonneg (by omega) (by omega), Int.ediv_le_self _ (by omega)⟩
      by_cases hm : N % d = 0
      · have hm' : (N % d != 0) = false := by simpa using hm
        have HLY := hide (by have h := lowD_yes (n := N) (k := k); rw [HD.out] at h; exact h hm)
        have hk1 : ((k + 1 : Nat) : Int) * ((k + 1 : Nat) : Int) ≤ N := by rw [HD.out]; exact hsq
        have HK1 := hide hk1
        clear hk1
        by_cases hlt : d * d < N
        · have HHY := hide (by have h := highD_yes (n := N) (k := k); rw [HD.out] at h; exact h hm hlt)
          clear hm
          go_wp2_with (at_builtin; first
            | (refine wpList_append2 rfl (.tmp 20) (.tmp 22) rfl w.heap.size _ xs rfl HO1.out d _ rfl (by omega) hsz ?_; intro ao2 cap2 w2 hown2 hg2 hsep2; have Q1 := hide hown2; have Q2 := hide (HO2.out.same hg2 (apart_symm HAP.out)); have QA := hide (apart_symm (hsep2 _ _ _ HO2.out (apart_symm HAP.out))); have QB := hide (HB.out.grown hg2 hsz (fun k hk => (HO1.out.lt k hk).1)); have hsz2 := QB.out.size; clear hown2 hg2 hsep2)
            | (refine wpList_append2 rfl (.tmp 29) (.tmp 33) rfl w.heap.size _ ys rfl Q2.out (N / d) _ rfl (by omega) hsz2 ?_; intro ao3 cap3 w3 hown3 hg3 hsep3))
          go_roundw
          case rel =>
            refine ⟨k + 1, xs ++ [d], ys ++ [N / d], ao2, ao3, cap2, cap3, by have := HD2.out; omega, by have := HD2.out; congr 1; omega, by simp, by simp, by rw [HXS.out, HLY.out], by rw [HYS.out, HHY.out], HK1.out, ?_, by simpa using hown3, ?_, QB.out.grown hg3 hsz2 (fun k hk => (Q2.out.lt k hk).1)⟩
            · have := Q1.out.same hg3 QA.out
              simpa using this
            · have := hsep3 _ _ _ Q1.out QA.out
              simpa using this
          case measure => simp only [intOf]; omega
        · have HHM := hide (by have h := highD_mid (n := N) (k := k); rw [HD.out] at h; exact h hm hlt)
          clear hm
          go_wp2_with (at_builtin; refine wpList_append2 rfl (.tmp 20) (.tmp 22) rfl w.heap.size _ xs rfl HO1.out d _ rfl (by omega) hsz ?_; intro ao2 cap2 w2 hown2 hg2 hsep2)
          go_roundw
          case rel =>
            refine ⟨k + 1, xs ++ [d], ys, ao2, a2, cap2, p2, by have := HD2.out; omega, by have := HD2.out; congr 1; omega, by simp, rfl, by rw [HXS.out, HLY.out], by rw [HYS.out, HHM.out], HK1.out, by simpa using hown2, HO2.out.same hg2 (apart_symm HAP.out), ?_, HB.out.grown hg2 hsz (fun k hk => (HO1.out.lt k hk).1)⟩
            have := apart_symm (hsep2 _ _ _ HO2.out (apart_symm HAP.out))
            simpa using this
          case measure => simp only [intOf]; omega
      · have hm' : (N % d != 0) = true := by simpa using hm
        have HLN := hide (by have h := lowD_no (n := N) (k := k); rw [HD.out] at h; exact h hm)
        have HHN := hide (by have h := highD_no (n := N) (k := k); rw [HD.out] at h; exact h hm)
        have hk1 : ((k + 1 : Nat) : Int) * ((k + 1 : Nat) : Int) ≤ N := by rw [HD.out]; exact hsq
        have HK1 := hide hk1
        clear hk1 hm
        go_wp2_with fail
        go_roundw
        case rel => exact ⟨k + 1, xs, ys, a1, a2, p1, p2, by have := HD2.out; omega, by have := HD2.out; congr 1; omega, rfl, rfl, by rw [HXS.out, HLN.out], by rw [HYS.out, HHN.out], HK1.out, HO1.out, HO2.out, HAP.out, HB.out⟩
        case measure => simp only [intOf]; omega
    · have HSQ := hide (show N < ((k + 1 : Nat) : Int) * ((k + 1 : Nat) : Int) by rw [HD.out]; omega)
      go_wp2_with fail
      go_loopw [3, 6] (fun s3 s6 wr' => ∃ (j : Nat) (zs : List Int) (a3 : Option Addr) (p3 : Nat), j ≤ ys.length ∧ s6 = .int .i64 ((j : Int) - 1) ∧ s3 = .slice a3 zs.length p3 ∧ zs = xs ++ (ys.drop j).reverse ∧
          OwnsI wr' w.heap.size (.slice a3 zs.length p3) zs ∧ OwnsI wr' w.heap.size (.slice a2 ys.length p2) ys ∧ Apart (.slice a3 zs.length p3) (.slice a2 ys.length p2) ∧ Below w.heap.size w wr') (fun _ s6 _ => (intOf s6 + 1).toNat)
      case atStart => exact ⟨ys.length, xs, a1, p1, by omega, rfl, rfl, by simp, HO1.out, HO2.out, HAP.out, HB.out⟩
      case round =>
        obtain ⟨j, zs, a3, p3, hj, rfl, rfl, hzs, o1, o2, hap, hbel⟩ := hrel
        have HP1 := hide o1
        have HP2 := hide o2
        have HAP2 := hide hap
        have HBB := hide hbel
        have hszz := hbel.size
        have hl3 : zs.length ≤ 80000 := by rw [hzs]; simp; omega
        have HZ := hide hzs
        clear o1 hap hbel hzs
        cases j with
        | zero =>
          clear o2
          go_wp2_with fail
          go_ret
          refine ⟨zs, a3, p3, ⟨k, HKK.out, HSQ.out, ?_⟩, by omega, rfl, HP1.out, HBB.out⟩
          rw [HZ.out, HXS.out, HYS.out]
          simp [divAll]
        | succ i =>
          rcases o2.form with ⟨_, h0⟩ | ⟨g, cap, heq, _, _, _, _⟩
          · rw [h0] at hj; simp at hj
          · cases heq
            have c1 := o2.cell rfl i (by omega)
            obtain ⟨x, hx⟩ : ∃ x, x = ys.getD i 0 := ⟨_, rfl⟩
            rw [← hx] at c1
            have HX := hide hx
            have i0 : ((i + 1 : Nat) : Int) - 1 = (i : Int) := by omega
            rw [i0]
            clear hx o2 i0
            go_wp2_with (at_builtin; refine wpList_append2 rfl (.tmp 42) (.tmp 47) rfl w.heap.size _ zs rfl HP1.out x _ rfl (by omega) hszz ?_; intro ao2 cap2 w2 hown2 hg2 hsep2)
            go_roundw
            case rel =>
              refine ⟨i, zs ++ [x], ao2, cap2, by omega, rfl, by simp, ?_, by simpa using hown2, HP2.out.same hg2 (apart_symm HAP2.out), ?_, HBB.out.grown hg2 hszz (fun k hk => (HP1.out.lt k hk).1)⟩
              · rw [HZ.out, HX.out, List.append_assoc]
                congr 1
                have hi : i < ys.length := by omega
                rw [List.drop_eq_getElem_cons hi, List.reverse_cons, List.getD_eq_getElem?_getD, List.getElem?_eq_getElem hi]
                rfl
              · have := apart_symm (hsep2 _ _ _ HP2.out (apart_symm HAP2.out))
                simpa using this
            case measure => simp only [intOf]; omega
end Go.Proofs.Ythagogjklocmoaa
