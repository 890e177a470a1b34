/-
  Contracts of the helpers over slices of pairs: toPairS, eqPair, eqPairS.
-/
import Derived.Test.YtnlimfijepjliaaDoorPairs
namespace Go.Proofs.YtnlimfijepjliaaDoor
open Go.RowKit

theorem infoP : (Tryd.prog.info? 70).map (fun i => (i.zero, i.size, i.bytes)) = some (some (.agg #[.int .i64 0, .int .i64 0]), 2, 16) := by kernel_rfl
theorem flat_rep (n : Nat) : flat (List.replicate n (0, 0)) = List.replicate (n * 2) (.int .i64 0) := by
  induction n with
  | zero => rfl
  | succ n ih => rw [List.replicate_succ, flat_cons, ih, show (n + 1) * 2 = n * 2 + 1 + 1 by omega, List.replicate_succ, List.replicate_succ]
theorem made_flat (n : Nat) : (madeCells (Value.cells (.agg #[.int .i64 0, .int .i64 0])) (n * 2)).toList = flat (List.replicate n (0, 0)) := by
  rw [flat_rep]
  apply List.ext_getElem
  · simp [madeCells]
  · intro j h1 h2
    have hj : j % 2 = 0 ∨ j % 2 = 1 := by omega
    rcases hj with hj | hj <;> simp [madeCells, Value.cells, hj]
theorem make_pairs (w : World) (n : Nat) (hn : n ≤ 1048576) : ∃ w1, (Instr.makeSlice 38 (.int .i64 (n : Int)) (.int .i64 (n : Int))).run Tryd.prog w = .ok (.slice (some ⟨w.heap.size, 0, none⟩) n n) w1 ∧
    OwnsP w1 w.heap.size (.slice (some ⟨w.heap.size, 0, none⟩) n n) (List.replicate n (0, 0)) ∧ Below w.heap.size w w1 := by
  obtain ⟨i0, hi, hz0, hz1, hz2⟩ := info_parts infoP
  obtain ⟨w1, h1, h2, h3⟩ := run_make_full (P := Tryd.prog) w w.heap.size 38 70 i0 _ 2 (by rw [Tryd.underlying38]) hi hz0 hz1   .i64 .i64 n (by rw [hz2]; omega) (by unfold maxLen; omega) (Nat.le_refl _)
  refine ⟨w1, h1, ?_, (Below.refl _ _).grown h3 (Nat.le_refl _) (by simp)⟩
  unfold OwnsP
  rw [List.length_replicate, ← made_flat]
  exact h2
theorem toPairS_any (ao : Option Addr) (ps : List (Int × Int)) (cap : Nat) (w : World) (h : ReadsP w ao ps) (hn : ps.length ≤ 1048576) :
    Calls Tryd.prog 27 #[.slice ao ps.length cap] w fun e w' => ∃ g, e = .returned (.slice (some ⟨g, 0, none⟩) ps.length ps.length) ∧ OwnsP w' w.heap.size (.slice (some ⟨g, 0, none⟩) ps.length ps.length) ps ∧ Below w.heap.size w w' := by
  obtain ⟨w1, hmk, hown, hb1⟩ := make_pairs w ps.length hn
  obtain ⟨n, hn'⟩ : ∃ n, n = ps.length := ⟨_, rfl⟩
  rw [← hn'] at hn hmk hown ⊢
  have HN := hide hn'
  clear hn'
  go_enter Tryd.func27, Tryd.ntmps27
  go_wp2
  clear hmk
  go_loopw [4] (fun i wr => ∃ (k : Nat) (qs : List (Int × Int)), k ≤ n ∧ qs.length = n ∧ (∀ j, j < k → qs.getD j (0, 0) = ps.getD j (0, 0)) ∧ OwnsP wr w.heap.size (.slice (some ⟨w.heap.size, 0, none⟩) n n) qs ∧ Below w.heap.size w wr ∧ i = .int .i64 k) (fun i _ => n - (intOf i).toNat)
  case atStart => exact ⟨0, _, by omega, by simp, by omega, hown, hb1, rfl⟩
  case round =>
    obtain ⟨k, qs, hk, hql, hall, ho, hb, rfl⟩ := hrel
    have HQ := hide hql
    have HA := hide hall
    have HB := hide hb
    have hsz := hb.size
    have hr := h.below hb
    clear hql hall hb hown hb1
    by_cases hlt : k < n
    · obtain ⟨b, off, rfl, hbl, hcell⟩ := hr (by have := HN.out; omega)
      obtain ⟨c0, c1⟩ := hcell k (by have := HN.out; omega)
      have HO := hide ho
      have HN' := hide hcell
      clear ho hcell hr h
      obtain ⟨x, hx⟩ : ∃ x, x = (ps.getD k (0, 0)).1 := ⟨_, rfl⟩
      obtain ⟨y, hy⟩ : ∃ y, y = (ps.getD k (0, 0)).2 := ⟨_, rfl⟩
      rw [← hx] at c0
      rw [← hy] at c1
      have HX := hide hx
      have HY := hide hy
      clear hx hy
      go_wp2_with fail
      refine (toPair_any x y _).mono ?_
      rintro e w2 ⟨rfl, hb2⟩
      have ho2 := HO.out.below hb2
      obtain ⟨d0, d1⟩ := ho2.cell HQ.out.symm k (by have := HQ.out; omega)
      have f0 := ho2.frozen HQ.out.symm (k * 2)
      have f1 := ho2.frozen HQ.out.symm (k * 2 + 1)
      have HO2 := hide ho2
      have HB2 := hide hb2
      clear ho2 hb2
      go_wp2_with fail
      go_roundw
      case rel =>
        have hst := HO2.out.stored HQ.out.symm k x y
        refine ⟨k + 1, qs.set k (x, y), by omega, by rw [List.length_set]; exact HQ.out, fun j hj => ?_, hst.1, ?_, by go_num⟩
        · rcases Nat.lt_succ_iff_lt_or_eq.1 hj with h1 | rfl
          · rw [← HA.out j h1]
            simp only [List.getD_eq_getElem?_getD]
            rw [List.getElem?_set_ne (by omega)]
          · have := HQ.out
            simp only [List.getD_eq_getElem?_getD]
            rw [List.getElem?_set_self (by omega), HX.out, HY.out]
            simp
        · exact bset (bset (bstep HB.out HB2.out) (Nat.le_refl _) _) (Nat.le_refl _) _
      case measure => simp [intOf]; omega
    · go_wp2
      go_ret
      have e : k = n := by omega
      have e2 : qs = ps := by
        apply List.ext_getElem (by rw [HQ.out, HN.out])
        intro j h1 h2
        have := HA.out j (by rw [e, HN.out]; exact h2)
        simpa [List.getD_eq_getElem?_getD, List.getElem?_eq_getElem h1, List.getElem?_eq_getElem h2] using this
      rw [e2] at ho
      exact ⟨w.heap.size, rfl, ho, HB.out⟩
end Go.Proofs.YtnlimfijepjliaaDoor
