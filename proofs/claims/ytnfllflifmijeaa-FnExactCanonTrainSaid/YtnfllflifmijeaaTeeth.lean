/-
  TeethOf: contracts and the walk of its law.
-/
import Derived.Test.YtnfllflifmijeaaTrainV
namespace Go.Proofs.Ytnfllflifmijeaa
open Go.RowKit

def tsum : List (Int × Int) → Int
  | [] => 0
  | p :: ps => p.1 + p.2 + tsum ps
theorem tsum_take (ps : List (Int × Int)) (k : Nat) (h : k < ps.length) : tsum (ps.take (k + 1)) = tsum (ps.take k) + ((ps.getD k (0, 0)).1 + (ps.getD k (0, 0)).2) := by
  induction ps generalizing k with
  | nil => simp at h
  | cons p ps ih =>
    cases k with
    | zero => simp [tsum]
    | succ k =>
      simp only [List.take_succ_cons, tsum]
      rw [ih k (by simpa using h)]
      simp only [List.getD_cons_succ]
      omega
theorem validT_pair {ps : List (Int × Int)} (h : validT ps = true) (k : Nat) (hk : k < ps.length) : pairOk (ps.getD k (0, 0)).1 (ps.getD k (0, 0)).2 = true := by
  unfold validT at h
  simp only [Bool.and_eq_true, List.all_eq_true] at h
  rw [List.getD_eq_getElem?_getD, List.getElem?_eq_getElem hk]
  exact h.1 _ (List.getElem_mem hk)
theorem validT_len {ps : List (Int × Int)} (h : validT ps = true) : ps.length ≤ 5 := by
  unfold validT at h
  simp only [Bool.and_eq_true, decide_eq_true_eq] at h
  exact h.2
theorem pairOk_bd {a b : Int} (h : pairOk a b = true) : (6 ≤ a ∧ a ≤ 240) ∧ (6 ≤ b ∧ b ≤ 240) := by
  unfold pairOk both at h
  cases h1 : inR a 6 240
  · rw [h1] at h; simp at h
  · rw [h1] at h
    cases h2 : inR b 6 240
    · rw [h2] at h; simp at h
    · exact ⟨inR_true h1, inR_true h2⟩
theorem tsum_bd {ps : List (Int × Int)} (h : validT ps = true) (k : Nat) (hk : k ≤ ps.length) : 0 ≤ tsum (ps.take k) ∧ tsum (ps.take k) ≤ 480 * k := by
  induction k with
  | zero => simp [tsum]
  | succ k ih =>
    have h1 := ih (by omega)
    have h2 := pairOk_bd (validT_pair h k (by omega))
    rw [tsum_take ps k (by omega)]
    omega
theorem l05Sum_any (ao : Option Addr) (ps : List (Int × Int)) (cap : Nat) (w : World) (h : ReadsP w ao ps) (hv : validT ps = true) :
    Calls Try.prog 50 #[.slice ao ps.length cap] w fun e w' => e = .returned (.int .i64 (tsum ps)) ∧ Below w.heap.size w w' := by
  have hn := validT_len hv
  have HV := hide hv
  clear hv
  obtain ⟨n, hn'⟩ : ∃ n, n = ps.length := ⟨_, rfl⟩
  rw [← hn'] at hn ⊢
  have HN := hide hn'
  have HA := hide h
  clear hn' h
  go_enter Try.func50, Try.ntmps50
  go_wp2
  go_loopw [3, 4] (fun s i wr => ∃ k : Nat, k ≤ n ∧ s = .int .i64 (tsum (ps.take k)) ∧ i = .int .i64 k ∧ Below w.heap.size w wr) (fun _ i _ => n - (intOf i).toNat)
  case atStart => exact ⟨0, by omega, by simp [tsum], rfl, Below.refl _ _⟩
  case round =>
    obtain ⟨k, hk, rfl, rfl, hbel⟩ := hrel
    have HBL := hide hbel
    by_cases hlt : k < n
    · obtain ⟨b1, off1, rfl, _, hc1⟩ := (HA.out.below hbel) (by have := HN.out; omega)
      obtain ⟨q1, q2⟩ := hc1 k (by have := HN.out; omega)
      have hp := pairOk_bd (validT_pair HV.out k (by have := HN.out; omega))
      have hs := tsum_bd HV.out k (by have := HN.out; omega)
      have HT := hide (tsum_take ps k (by have := HN.out; omega))
      obtain ⟨x, hx⟩ : ∃ x, x = ps.getD k (0, 0) := ⟨_, rfl⟩
      obtain ⟨s, hss⟩ : ∃ s, s = tsum (ps.take k) := ⟨_, rfl⟩
      rw [← hx] at q1 q2 hp
      rw [← hss] at hs ⊢
      have HX := hide hx
      have HS := hide hss
      obtain ⟨x1, x2⟩ := x
      simp only at q1 q2 hp
      clear hx hss hc1 HA hbel
      have i0 : (0 : Int) ≤ (k : Int) := by omega
      have i1 : (k : Int) < (n : Int) := by omega
      go_wp2_with fail
      go_quiet (fail)
      go_wp2_with fail
      go_roundw
      case rel => exact ⟨k + 1, by omega, by rw [HT.out, ← HX.out, ← HS.out], by go_num, bdrewN HBL.out _⟩
      case measure => simp [intOf]; omega
    · have e : k = n := by omega
      clear hbel
      go_wp2
      go_ret
      exact ⟨ret_int (by rw [e, HN.out, List.take_length]), HBL.out⟩
theorem specTeethOf_any (ao : Option Addr) (ps : List (Int × Int)) (cap : Nat) (w : World) (h : ReadsP w ao ps) (hn : ps.length ≤ 1048576) :
    Calls Try.prog 15 #[.slice ao ps.length cap] w fun e w' => e = .returned (.tuple #[.int .i64 (if validT ps then tsum ps else 0), .int .i64 (if validT ps then 0 else 1)]) ∧ Below w.heap.size w w' := by
  have H := hide (l05Ok_any ao ps cap w h hn)
  cases hv : validT ps
  · have HV := hide hv
    clear h
    go_enter Try.func15, Try.ntmps15
    go_wp2_with fail
    refine H.out.mono ?_
    rintro e w1 ⟨rfl, hb1⟩
    rw [HV.out]
    go_wp2_with fail
    go_ret2
    exact ⟨rfl, hb1⟩
  · have HV := hide hv
    have HR := hide h
    clear h
    go_enter Try.func15, Try.ntmps15
    go_wp2_with fail
    refine H.out.mono ?_
    rintro e w1 ⟨rfl, hb1⟩
    rw [HV.out]
    go_wp2_with fail
    refine (l05Sum_any ao ps cap _ (HR.out.below hb1) HV.out).mono ?_
    rintro e w2 ⟨rfl, hb2⟩
    go_wp2_with fail
    go_ret2
    exact ⟨rfl, bstep hb1 hb2⟩
theorem teethOf_any (ao : Option Addr) (ps : List (Int × Int)) (cap : Nat) (w : World) (h : ReadsP w ao ps) (hv : validT ps = true) :
    Calls Try.prog 53 #[.slice ao ps.length cap] w fun e w' => e = .returned (.int .i64 (tsum ps)) ∧ Below w.heap.size w w' := by
  have hn := validT_len hv
  have HV := hide hv
  clear hv
  obtain ⟨n, hn'⟩ : ∃ n, n = ps.length := ⟨_, rfl⟩
  rw [← hn'] at hn ⊢
  have HN := hide hn'
  have HA := hide h
  clear hn' h
  go_enter Try.func53, Try.ntmps53
  go_wp2
  go_loopw [3, 8] (fun s i wr => ∃ k : Nat, k ≤ n ∧ s = .int .i64 (tsum (ps.take k)) ∧ i = .int .i64 k ∧ Below w.heap.size w wr) (fun _ i _ => n - (intOf i).toNat)
  case atStart => exact ⟨0, by omega, by simp [tsum], rfl, Below.refl _ _⟩
  case round =>
    obtain ⟨k, hk, rfl, rfl, hbel⟩ := hrel
    have HBL := hide hbel
    by_cases hlt : k < n
    · obtain ⟨b1, off1, rfl, _, hc1⟩ := (HA.out.below hbel) (by have := HN.out; omega)
      obtain ⟨q1, q2⟩ := hc1 k (by have := HN.out; omega)
      have hp := pairOk_bd (validT_pair HV.out k (by have := HN.out; omega))
      have hs := tsum_bd HV.out k (by have := HN.out; omega)
      have HT := hide (tsum_take ps k (by have := HN.out; omega))
      obtain ⟨x, hx⟩ : ∃ x, x = ps.getD k (0, 0) := ⟨_, rfl⟩
      obtain ⟨s, hss⟩ : ∃ s, s = tsum (ps.take k) := ⟨_, rfl⟩
      rw [← hx] at q1 q2 hp
      rw [← hss] at hs ⊢
      have HX := hide hx
      have HS := hide hss
      obtain ⟨x1, x2⟩ := x
      simp only at q1 q2 hp
      clear hx hss hc1 HA hbel
      go_wp2_with fail
      go_roundw
      case rel => exact ⟨k + 1, by omega, by rw [HT.out, ← HX.out, ← HS.out], by go_num, balloc HBL.out _⟩
      case measure => simp [intOf]; omega
    · have e : k = n := by omega
      clear hbel
      go_wp2
      go_ret
      exact ⟨ret_int (by rw [e, HN.out, List.take_length]), HBL.out⟩
theorem implTeethOf_any (ao : Option Addr) (ps : List (Int × Int)) (cap : Nat) (w : World) (h : ReadsP w ao ps) (hn : ps.length ≤ 1048576) :
    Calls Try.prog 17 #[.slice ao ps.length cap] w fun e w' => e = .returned (.tuple #[.int .i64 (if validT ps then tsum ps else 0), .int .i64 (if validT ps then 0 else 1)]) ∧ Below w.heap.size w w' := by
  have H := hide (implValidTrain_any ao ps cap w h hn)
  cases hv : validT ps
  · have HV := hide hv
    clear h
    go_enter Try.func17, Try.ntmps17
    go_wp2_with fail
    refine H.out.mono ?_
    rintro e w1 ⟨rfl, hb1⟩
    rw [HV.out]
    go_wp2_with fail
    go_ret2
    exact ⟨rfl, hb1⟩
  · have HV := hide hv
    have HR := hide h
    clear h
    go_enter Try.func17, Try.ntmps17
    go_wp2_with fail
    refine H.out.mono ?_
    rintro e w1 ⟨rfl, hb1⟩
    rw [HV.out]
    go_wp2_with fail
    refine (teethOf_any ao ps cap _ (HR.out.below hb1) HV.out).mono ?_
    rintro e w2 ⟨rfl, hb2⟩
    go_wp2_with fail
    go_ret2
    exact ⟨rfl, bstep hb1 hb2⟩
theorem walk_FnExactTeethOf (a : Option Addr) (len cap : Nat) (ps : List (Int × Int)) (w : World) (h : IsPairs w a len cap ps) :
    Calls Try.prog 3 #[.slice a len cap] w fun e w' => e = .returned (.bool true) ∧ Below w.heap.size w w' := by
  obtain ⟨rfl, hm, hr⟩ := h
  by_cases hl : ps.length ≤ 1048576
  · have hs : szP ps.length 1048576 = 1048576 - (ps.length : Int) := by unfold szP; rw [if_pos (by omega)]
    have hdd := hide (decide_eq_true (rfl : ps = ps))
    have HR := hide hr
    obtain ⟨u, hu⟩ : ∃ u, u = (if validT ps then tsum ps else 0) := ⟨_, rfl⟩
    obtain ⟨v, hv⟩ : ∃ v : Int, v = (if validT ps then 0 else 1) := ⟨_, rfl⟩
    have n1 : (u != u) = false := by simp
    have n2 : (v != v) = false := by simp
    have HU := hide hu
    have HV := hide hv
    clear hr hu hv
    go_enter Try.func3, Try.ntmps3
    go_wp2_with fail
    refine (szPairS_any a ps.length cap 1048576 _ hm (by omega)).mono ?_
    rintro e w0 ⟨rfl, rfl⟩
    go_wp2_with fail
    refine (toPairS_any a ps cap _ HR.out hl).mono ?_
    rintro e w1 ⟨g1, rfl, o1, b1⟩
    go_wp2_with fail
    refine (specTeethOf_any _ ps _ _ o1.reads hl).mono ?_
    rintro e w2 ⟨rfl, b2⟩
    rw [← HU.out, ← HV.out]
    have B2 := bstep b1 b2
    go_wp2_with fail
    refine (toPairS_any a ps cap _ (HR.out.below B2) hl).mono ?_
    rintro e w3 ⟨g3, rfl, o3, b3⟩
    have B3 := bstep B2 b3
    go_wp2_with fail
    refine (implTeethOf_any _ ps _ _ o3.reads hl).mono ?_
    rintro e w4 ⟨rfl, b4⟩
    rw [← HU.out, ← HV.out]
    have B4 := bstep B3 b4
    have o34 := o3.below b4
    go_wp2_with fail
    refine (toPairS_any a ps cap _ (HR.out.below B4) hl).mono ?_
    rintro e w5 ⟨g5, rfl, o5, b5⟩
    have B5 := bstep B4 b5
    have o35 := o34.below b5
    go_wp2_with fail
    refine (eqPairS_any _ _ ps ps _ _ _ o35.reads o5.reads hl hl).mono ?_
    rintro e w6 ⟨rfl, b6⟩
    have hd := hdd.out
    go_wp2_with fail
    go_ret
    exact ⟨rfl, bstep B5 b6⟩
  · have hs : szP ps.length 1048576 = -1 := by unfold szP; rw [if_neg (by omega)]
    go_enter Try.func3, Try.ntmps3
    go_wp2_with fail
    refine (szPairS_any a ps.length cap 1048576 _ hm (by omega)).mono ?_
    rintro e w0 ⟨rfl, rfl⟩
    go_wp2_with fail
    go_ret
    exact ⟨rfl, Below.refl _ _⟩
end Go.Proofs.Ytnfllflifmijeaa
