/-
  ValidTrain, SameTrain: contracts and the walks of their laws.
-/
import Derived.Test.YtmkhkojefjdbbaaTrain
namespace Go.Proofs.Ytmkhkojefjdbbaa
open Go.RowKit

def validT (ps : List (Int × Int)) : Bool := (ps.all fun p => pairOk p.1 p.2) && decide (ps.length ≤ 5)
theorem validT_bad {ps : List (Int × Int)} {k : Nat} (hk : k < ps.length) (h : pairOk (ps.getD k (0, 0)).1 (ps.getD k (0, 0)).2 = false) : validT ps = false := by
  unfold validT
  have : (ps.all fun p => pairOk p.1 p.2) = false := by
    rw [List.all_eq_false]
    rw [List.getD_eq_getElem?_getD, List.getElem?_eq_getElem hk] at h
    exact ⟨ps[k], List.getElem_mem hk, by simpa using h⟩
  rw [this]; rfl
theorem validT_all {ps : List (Int × Int)} (h : ∀ j, j < ps.length → pairOk (ps.getD j (0, 0)).1 (ps.getD j (0, 0)).2 = true) : validT ps = decide (ps.length ≤ 5) := by
  unfold validT
  have : (ps.all fun p => pairOk p.1 p.2) = true := by
    rw [List.all_eq_true]
    intro p hp
    obtain ⟨j, hj, rfl⟩ := List.getElem_of_mem hp
    have := h j hj
    rw [List.getD_eq_getElem?_getD, List.getElem?_eq_getElem hj] at this
    exact this
  rw [this]; rfl
theorem l05Ok_any (ao : Option Addr) (ps : List (Int × Int)) (cap : Nat) (w : World) (h : ReadsP w ao ps) (hn : ps.length ≤ 1048576) :
    Calls Try.prog 58 #[.slice ao ps.length cap] w fun e w' => e = .returned (.bool (validT ps)) ∧ Below w.heap.size w w' := by
  obtain ⟨n, hn'⟩ : ∃ n, n = ps.length := ⟨_, rfl⟩
  rw [← hn'] at hn ⊢
  have HN := hide hn'
  have HA := hide h
  clear hn' h
  go_enter Try.func58, Try.ntmps58
  go_wp2
  go_loopw [3] (fun i wr => ∃ k : Nat, k ≤ n ∧ (∀ j, j < k → pairOk (ps.getD j (0, 0)).1 (ps.getD j (0, 0)).2 = true) ∧ i = .int .i64 k ∧ Below w.heap.size w wr) (fun i _ => n - (intOf i).toNat)
  case atStart => exact ⟨0, by omega, by omega, rfl, Below.refl _ _⟩
  case round =>
    obtain ⟨k, hk, hall, rfl, hbel⟩ := hrel
    have HAL := hide hall
    have HBL := hide hbel
    clear hall
    by_cases hlt : k < n
    · obtain ⟨b1, off1, rfl, _, hc1⟩ := (HA.out.below hbel) (by have := HN.out; omega)
      obtain ⟨q1, q2⟩ := hc1 k (by have := HN.out; omega)
      obtain ⟨x, hx⟩ : ∃ x, x = ps.getD k (0, 0) := ⟨_, rfl⟩
      rw [← hx] at q1 q2
      have HX := hide hx
      obtain ⟨x1, x2⟩ := x
      simp only at q1 q2
      clear hx hc1 HA hbel
      cases hp : pairOk x1 x2
      · go_wp2_with fail
        refine (l05Pair_any x1 x2 _).mono ?_
        rintro e w1 ⟨rfl, hb1⟩
        go_wp2_with fail
        go_ret
        exact ⟨ret_bool (validT_bad (k := k) (by have := HN.out; omega) (by rw [← HX.out]; exact hp)).symm, bstep HBL.out hb1⟩
      · go_wp2_with fail
        refine (l05Pair_any x1 x2 _).mono ?_
        rintro e w1 ⟨rfl, hb1⟩
        go_wp2_with fail
        go_roundw
        case rel =>
          refine ⟨k + 1, by omega, fun j hj => ?_, by go_num, bstep HBL.out hb1⟩
          rcases Nat.lt_succ_iff_lt_or_eq.1 hj with h1 | rfl
          · exact HAL.out j h1
          · rw [← HX.out]; exact hp
        case measure => simp [intOf]; omega
    · have hv := hide (validT_all (ps := ps) (fun j hj => HAL.out j (by have := HN.out; omega)))
      clear hbel
      by_cases h5 : n ≤ 5
      · have h5' : decide ((n : Int) ≤ 5) = true := by simp; omega
        go_wp2
        go_ret
        exact ⟨ret_bool (by rw [hv.out, ← HN.out, decide_eq_true h5]), HBL.out⟩
      · have h5' : decide ((n : Int) ≤ 5) = false := by simp; omega
        go_wp2
        go_ret
        exact ⟨ret_bool (by rw [hv.out, ← HN.out, decide_eq_false h5]), HBL.out⟩
theorem specValidTrain_any (ao : Option Addr) (ps : List (Int × Int)) (cap : Nat) (w : World) (h : ReadsP w ao ps) (hn : ps.length ≤ 1048576) :
    Calls Try.prog 38 #[.slice ao ps.length cap] w fun e w' => e = .returned (.bool (validT ps)) ∧ Below w.heap.size w w' := by
  have H := hide (l05Ok_any ao ps cap w h hn)
  clear h
  go_enter Try.func38, Try.ntmps38
  go_wp2_with fail
  refine H.out.mono ?_
  rintro e w1 ⟨rfl, hb1⟩
  go_wp2_with fail
  go_ret
  exact ⟨rfl, hb1⟩
theorem implValidTrain_any (ao : Option Addr) (ps : List (Int × Int)) (cap : Nat) (w : World) (h : ReadsP w ao ps) (hn : ps.length ≤ 1048576) :
    Calls Try.prog 40 #[.slice ao ps.length cap] w fun e w' => e = .returned (.bool (validT ps)) ∧ Below w.heap.size w w' := by
  obtain ⟨n, hn'⟩ : ∃ n, n = ps.length := ⟨_, rfl⟩
  rw [← hn'] at hn ⊢
  have HN := hide hn'
  have HA := hide h
  clear hn' h
  go_enter Try.func40, Try.ntmps40
  go_wp2
  go_loopw [7] (fun i wr => ∃ k : Nat, k ≤ n ∧ (∀ j, j < k → pairOk (ps.getD j (0, 0)).1 (ps.getD j (0, 0)).2 = true) ∧ i = .int .i64 k ∧ Below w.heap.size w wr) (fun i _ => n - (intOf i).toNat)
  case atStart => exact ⟨0, by omega, by omega, rfl, Below.refl _ _⟩
  case round =>
    obtain ⟨k, hk, hall, rfl, hbel⟩ := hrel
    have HAL := hide hall
    have HBL := hide hbel
    clear hall
    by_cases hlt : k < n
    · obtain ⟨b1, off1, rfl, _, hc1⟩ := (HA.out.below hbel) (by have := HN.out; omega)
      obtain ⟨q1, q2⟩ := hc1 k (by have := HN.out; omega)
      obtain ⟨x, hx⟩ : ∃ x, x = ps.getD k (0, 0) := ⟨_, rfl⟩
      rw [← hx] at q1 q2
      have HX := hide hx
      obtain ⟨x1, x2⟩ := x
      simp only at q1 q2
      clear hx hc1 HA hbel
      cases hp : pairOk x1 x2
      · go_wp2_with fail
        refine (implValidPair_any x1 x2 _).mono ?_
        rintro e w1 ⟨rfl, hb1⟩
        go_wp2_with fail
        go_ret
        exact ⟨ret_bool (validT_bad (k := k) (by have := HN.out; omega) (by rw [← HX.out]; exact hp)).symm, bstep (balloc HBL.out _) hb1⟩
      · go_wp2_with fail
        refine (implValidPair_any x1 x2 _).mono ?_
        rintro e w1 ⟨rfl, hb1⟩
        go_wp2_with fail
        go_roundw
        case rel =>
          refine ⟨k + 1, by omega, fun j hj => ?_, by go_num, bstep (balloc HBL.out _) hb1⟩
          rcases Nat.lt_succ_iff_lt_or_eq.1 hj with h1 | rfl
          · exact HAL.out j h1
          · rw [← HX.out]; exact hp
        case measure => simp [intOf]; omega
    · have hv := hide (validT_all (ps := ps) (fun j hj => HAL.out j (by have := HN.out; omega)))
      clear hbel
      by_cases h5 : n ≤ 5
      · have h5' : decide ((n : Int) ≤ 5) = true := by simp; omega
        go_wp2
        go_ret
        exact ⟨ret_bool (by rw [hv.out, ← HN.out, decide_eq_true h5]), HBL.out⟩
      · have h5' : decide ((n : Int) ≤ 5) = false := by simp; omega
        go_wp2
        go_ret
        exact ⟨ret_bool (by rw [hv.out, ← HN.out, decide_eq_false h5]), HBL.out⟩
theorem walk_FnExactValidTrain (a : Option Addr) (len cap : Nat) (ps : List (Int × Int)) (w : World) (h : IsPairs w a len cap ps) :
    Calls Try.prog 13 #[.slice a len cap] w fun e w' => e = .returned (.bool true) ∧ Below w.heap.size w w' := by
  obtain ⟨rfl, hm, hr⟩ := h
  by_cases hl : ps.length ≤ 1048576
  · have hs : szP ps.length 1048576 = 1048576 - (ps.length : Int) := by unfold szP; rw [if_pos (by omega)]
    have hdd := hide (decide_eq_true (rfl : ps = ps))
    have HR := hide hr
    clear hr
    go_enter Try.func13, Try.ntmps13
    go_wp2_with fail
    refine (szPairS_any a ps.length cap 1048576 _ hm (by omega)).mono ?_
    rintro e w0 ⟨rfl, rfl⟩
    go_wp2_with fail
    refine (toPairS_any a ps cap _ HR.out hl).mono ?_
    rintro e w1 ⟨g1, rfl, o1, b1⟩
    go_wp2_with fail
    refine (specValidTrain_any _ ps _ _ o1.reads hl).mono ?_
    rintro e w2 ⟨rfl, b2⟩
    have B2 := bstep b1 b2
    go_wp2_with fail
    refine (toPairS_any a ps cap _ (HR.out.below B2) hl).mono ?_
    rintro e w3 ⟨g3, rfl, o3, b3⟩
    have B3 := bstep B2 b3
    go_wp2_with fail
    refine (implValidTrain_any _ ps _ _ o3.reads hl).mono ?_
    rintro e w4 ⟨rfl, b4⟩
    have B4 := bstep B3 b4
    have o34 := o3.below b4
    go_wp2_with fail
    refine (toPairS_any a ps cap _ (HR.out.below B4) hl).mono ?_
    rintro e w5 ⟨g5, rfl, o5, b5⟩
    have B5 := bstep B4 b5
    have o35 := o34.below b5
    go_wp2_with fail
    refine (eqPairS_any _ _ ps ps _ _ _ o35.reads o5.reads hl hl).mono ?_
    rintro e w6 ⟨rfl, b6⟩
    have hd := hdd.out
    go_wp2_with fail
    go_ret
    exact ⟨rfl, bstep B5 b6⟩
  · have hs : szP ps.length 1048576 = -1 := by unfold szP; rw [if_neg (by omega)]
    go_enter Try.func13, Try.ntmps13
    go_wp2_with fail
    refine (szPairS_any a ps.length cap 1048576 _ hm (by omega)).mono ?_
    rintro e w0 ⟨rfl, rfl⟩
    go_wp2_with fail
    go_ret
    exact ⟨rfl, Below.refl _ _⟩
end Go.Proofs.Ytmkhkojefjdbbaa
