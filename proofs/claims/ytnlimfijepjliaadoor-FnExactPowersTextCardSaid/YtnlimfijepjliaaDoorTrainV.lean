/-
  ValidTrain, SameTrain: contracts and the walks of their laws.
-/
import Derived.Test.YtnlimfijepjliaaDoorTrain
namespace Go.Proofs.YtnlimfijepjliaaDoor
open Go.RowKit

def validT (ps : List (Int × Int)) : Bool := (ps.all fun p => pairOk p.1 p.2) && decide (ps.length ≤ 5)
theorem validT_bad {ps : List (Int × Int)} {k : Nat} (hk : k < ps.length) (h : pairOk (ps.getD k (0, 0)).1 (ps.getD k (0, 0)).2 = false) : validT ps = false := by
  unfold validT
  have : (ps.all fun p => pairOk p.1 p.2) = false := by
    rw [List.all_eq_false]
    rw [List.getD_eq_getElem?_getD, List.getElem?_eq_getElem hk] at h
    exact ⟨ps[k], List.getElem_mem hk, by simpa using h⟩
  rw [this]; rfl
theorem validT_all {ps : List (Int × Int)} (h : ∀ j, j < ps.length → pairOk (ps.getD j (0, 0)).1 (ps.getD j (0, 0)).2 = true) : validT ps = decide (ps.length ≤ 5) := by
  unfold validT
  have : (ps.all fun p => pairOk p.1 p.2) = true := by
    rw [List.all_eq_true]
    intro p hp
    obtain ⟨j, hj, rfl⟩ := List.getElem_of_mem hp
    have := h j hj
    rw [List.getD_eq_getElem?_getD, List.getElem?_eq_getElem hj] at this
    exact this
  rw [this]; rfl
theorem l05Ok_any (ao : Option Addr) (ps : List (Int × Int)) (cap : Nat) (w : World) (h : ReadsP w ao ps) (hn : ps.length ≤ 1048576) :
    Calls Tryd.prog 60 #[.slice ao ps.length cap] w fun e w' => e = .returned (.bool (validT ps)) ∧ Below w.heap.size w w' := by
  obtain ⟨n, hn'⟩ : ∃ n, n = ps.length := ⟨_, rfl⟩
  rw [← hn'] at hn ⊢
  have HN := hide hn'
  have HA := hide h
  clear hn' h
  go_enter Tryd.func60, Tryd.ntmps60
  go_wp2
  go_loopw [3] (fun i wr => ∃ k : Nat, k ≤ n ∧ (∀ j, j < k → pairOk (ps.getD j (0, 0)).1 (ps.getD j (0, 0)).2 = true) ∧ i = .int .i64 k ∧ Below w.heap.size w wr) (fun i _ => n - (intOf i).toNat)
  case atStart => exact ⟨0, by omega, by omega, rfl, Below.refl _ _⟩
  case round =>
    obtain ⟨k, hk, hall, rfl, hbel⟩ := hrel
    have HAL := hide hall
    have HBL := hide hbel
    clear hall
    by_cases hlt : k < n
    · obtain ⟨b1, off1, rfl, _, hc1⟩ := (HA.out.below hbel) (by have := HN.out; omega)
      obtain ⟨q1, q2⟩ := hc1 k (by have := HN.out; omega)
      obtain ⟨x, hx⟩ : ∃ x, x = ps.getD k (0, 0) := ⟨_, rfl⟩
      rw [← hx] at q1 q2
      have HX := hide hx
      obtain ⟨x1, x2⟩ := x
      simp only at q1 q2
      clear hx hc1 HA hbel
      cases hp : pairOk x1 x2
      · go_wp2_with fail
        refine (l05Pair_any x1 x2 _).mono ?_
        rintro e w1 ⟨rfl, hb1⟩
        go_wp2_with fail
        go_ret
        exact ⟨ret_bool (validT_bad (k := k) (by have := HN.out; omega) (by rw [← HX.out]; exact hp)).symm, bstep HBL.out hb1⟩
      · go_wp2_with fail
        refine (l05Pair_any x1 x2 _).mono ?_
        rintro e w1 ⟨rfl, hb1⟩
        go_wp2_with fail
        go_roundw
        case rel =>
          refine ⟨k + 1, by omega, fun j hj => ?_, by go_num, bstep HBL.out hb1⟩
          rcases Nat.lt_succ_iff_lt_or_eq.1 hj with h1 | rfl
          · exact HAL.out j h1
          · rw [← HX.out]; exact hp
        case measure => simp [intOf]; omega
    · have hv := hide (validT_all (ps := ps) (fun j hj => HAL.out j (by have := HN.out; omega)))
      clear hbel
      by_cases h5 : n ≤ 5
      · have h5' : decide ((n : Int) ≤ 5) = true := by simp; omega
        go_wp2
        go_ret
        exact ⟨ret_bool (by rw [hv.out, ← HN.out, decide_eq_true h5]), HBL.out⟩
      · have h5' : decide ((n : Int) ≤ 5) = false := by simp; omega
        go_wp2
        go_ret
        exact ⟨ret_bool (by rw [hv.out, ← HN.out, decide_eq_false h5]), HBL.out⟩
theorem implValidTrain_any (ao : Option Addr) (ps : List (Int × Int)) (cap : Nat) (w : World) (h : ReadsP w ao ps) (hn : ps.length ≤ 1048576) :
    Calls Tryd.prog 63 #[.slice ao ps.length cap] w fun e w' => e = .returned (.bool (validT ps)) ∧ Below w.heap.size w w' := by
  obtain ⟨n, hn'⟩ : ∃ n, n = ps.length := ⟨_, rfl⟩
  rw [← hn'] at hn ⊢
  have HN := hide hn'
  have HA := hide h
  clear hn' h
  go_enter Tryd.func63, Tryd.ntmps63
  go_wp2
  go_loopw [7] (fun i wr => ∃ k : Nat, k ≤ n ∧ (∀ j, j < k → pairOk (ps.getD j (0, 0)).1 (ps.getD j (0, 0)).2 = true) ∧ i = .int .i64 k ∧ Below w.heap.size w wr) (fun i _ => n - (intOf i).toNat)
  case atStart => exact ⟨0, by omega, by omega, rfl, Below.refl _ _⟩
  case round =>
    obtain ⟨k, hk, hall, rfl, hbel⟩ := hrel
    have HAL := hide hall
    have HBL := hide hbel
    clear hall
    by_cases hlt : k < n
    · obtain ⟨b1, off1, rfl, _, hc1⟩ := (HA.out.below hbel) (by have := HN.out; omega)
      obtain ⟨q1, q2⟩ := hc1 k (by have := HN.out; omega)
      obtain ⟨x, hx⟩ : ∃ x, x = ps.getD k (0, 0) := ⟨_, rfl⟩
      rw [← hx] at q1 q2
      have HX := hide hx
      obtain ⟨x1, x2⟩ := x
      simp only at q1 q2
      clear hx hc1 HA hbel
      cases hp : pairOk x1 x2
      · go_wp2_with fail
        refine (implValidPair_any x1 x2 _).mono ?_
        rintro e w1 ⟨rfl, hb1⟩
        go_wp2_with fail
        go_ret
        exact ⟨ret_bool (validT_bad (k := k) (by have := HN.out; omega) (by rw [← HX.out]; exact hp)).symm, bstep (balloc HBL.out _) hb1⟩
      · go_wp2_with fail
        refine (implValidPair_any x1 x2 _).mono ?_
        rintro e w1 ⟨rfl, hb1⟩
        go_wp2_with fail
        go_roundw
        case rel =>
          refine ⟨k + 1, by omega, fun j hj => ?_, by go_num, bstep (balloc HBL.out _) hb1⟩
          rcases Nat.lt_succ_iff_lt_or_eq.1 hj with h1 | rfl
          · exact HAL.out j h1
          · rw [← HX.out]; exact hp
        case measure => simp [intOf]; omega
    · have hv := hide (validT_all (ps := ps) (fun j hj => HAL.out j (by have := HN.out; omega)))
      clear hbel
      by_cases h5 : n ≤ 5
      · have h5' : decide ((n : Int) ≤ 5) = true := by simp; omega
        go_wp2
        go_ret
        exact ⟨ret_bool (by rw [hv.out, ← HN.out, decide_eq_true h5]), HBL.out⟩
      · have h5' : decide ((n : Int) ≤ 5) = false := by simp; omega
        go_wp2
        go_ret
        exact ⟨ret_bool (by rw [hv.out, ← HN.out, decide_eq_false h5]), HBL.out⟩
end Go.Proofs.YtnlimfijepjliaaDoor
