/-
  Rows of rows of int64: the walks of the helpers that compare, mark and look.
-/
import Derived.Test.YthagogjklocmoaaRowsM
namespace Go.Proofs.Ythagogjklocmoaa
open Go.RowKit

theorem eqI_same (va vb : Value) (xs : List Int) (B1 B2 : Nat) (w : World) (ha : OwnsI w B1 va xs) (hb : OwnsI w B2 vb xs) : Calls Try.prog 27 #[va, vb] w fun e w' => e = .returned (.bool true) ∧ Below w.heap.size w w' := by
  have h := eqInt64S_any va vb xs xs B1 B2 w ha hb
  rw [decide_eq_true rfl] at h
  exact h
set_option maxHeartbeats 1000000 in
set_option maxRecDepth 100000 in
theorem eqInt64SS_any (rows : List (List Int)) (es1 es2 : List (Nat × Nat)) (a1 a2 : Option Addr) (c1 c2 m B1 B2 : Nat) (w : World) (hm : m = rows.length) (ha : Own2 w B1 (.slice a1 m c1) rows es1) (hb : Own2 w B2 (.slice a2 m c2) rows es2) (hl : m ≤ 1000) :
    Calls Try.prog 13 #[.slice a1 m c1, .slice a2 m c2] w fun e w' => e = .returned (.bool true) ∧ Below w.heap.size w w' := by
  have HM := hide hm
  have HA := hide ha
  have HB := hide hb
  clear hm ha hb
  go_enter Try.func13, Try.ntmps13
  go_wp2_with fail
  go_loopw [5] (fun s5 wr => ∃ i : Nat, i ≤ m ∧ s5 = .int .i64 (i : Int) ∧ Below w.heap.size w wr) (fun s5 _ => m - (intOf s5).toNat)
  case atStart => exact ⟨0, by omega, rfl, Below.refl _ _⟩
  case round =>
    obtain ⟨i, hi, rfl, hbel⟩ := hrel
    have HW := hide hbel
    by_cases hlt : i < m
    · obtain ⟨p1, q1, _, o1, _, g1, e1, f1, k1⟩ := (HA.out.below hbel).at_ (i := i) (by have := HM.out; omega)
      obtain ⟨p2, q2, _, o2, _, g2, e2, f2, k2⟩ := (HB.out.below hbel).at_ (i := i) (by have := HM.out; omega)
      obtain ⟨r, hr⟩ : ∃ r, r = rows.getD i [] := ⟨_, rfl⟩
      rw [← hr] at o1 o2 k1 k2
      rw [← HM.out] at f1 f2
      cases f1
      cases f2
      obtain ⟨t, ht⟩ : ∃ t, t = r.length := ⟨_, rfl⟩
      rw [← ht] at o1 o2 k1 k2
      have O1 := hide o1
      have O2 := hide o2
      have i0 : (0 : Int) ≤ (i : Int) := by omega
      have i1 : (i : Int) < (m : Int) := by omega
      clear hbel o1 o2 hr ht
      go_upto_region 6 with fail
      obtain ⟨wb, hwb⟩ : ∃ wb, wb = wr := ⟨_, rfl⟩
      rw [← hwb] at k1 k2 O1 O2 HW ⊢
      clear hwb
      have kk1 := cell_regrown k1
      have kk2 := cell_regrown k2
      have cA := fun d os => Calls.regrown_of (w := wb) (d := d) (os := os) (eqI_same _ _ r B1 B2 _ (O1.out.below (below_regrown _ _ _)) (O2.out.below (below_regrown _ _ _)))
      refine wp_region_quiet_below (by kernel_rfl) (by kernel_rfl) ?_
      repeat (go_big_quiet_step (exact cA _ _))
      refine wpQuiet_nil ?_
      intro _ hw'
      obtain ⟨⟨dq, osq⟩, hw''⟩ := hw'
      subst hw''
      have B1 := hide (bstep HW.out (below_regrown _ dq osq))
      clear cA kk1 kk2 k1 k2
      go_wp2_with fail
      go_roundw
      case rel => exact ⟨i + 1, by omega, by first | rfl | go_num, B1.out⟩
      case measure => simp only [intOf]; omega
    · go_wp2_with fail
      go_ret
      exact ⟨rfl, HW.out⟩
set_option maxHeartbeats 1000000 in
set_option maxRecDepth 100000 in
theorem markInt64SS_any (rows : List (List Int)) (es : List (Nat × Nat)) (ao : Option Addr) (cap m B : Nat) (w : World) (hm : m = rows.length) (ha : Own2 w B (.slice ao m cap) rows es) (hl : m ≤ 1000) (ht : tot rows ≤ 900) (hB : B ≤ w.heap.size) :
    Calls Try.prog 14 #[.slice ao m cap, .int .i64 1] w fun e w' => e = .returned (.int .i64 (1 + (tot rows : Nat))) ∧ ∃ rows', MkR rows rows' m ∧ Own2 w' B (.slice ao m cap) rows' es ∧ Below B w w' := by
  have HM := hide hm
  have HA := hide ha
  clear hm ha
  go_enter Try.func14, Try.ntmps14
  go_wp2_with fail
  go_loopw [1, 5] (fun s1 s5 wr => ∃ (i : Nat) (rows' : List (List Int)), i ≤ m ∧ s1 = .int .i64 (1 + (tot (rows.take i) : Nat)) ∧ s5 = .int .i64 (i : Int) ∧ MkR rows rows' i ∧ Own2 wr B (.slice ao m cap) rows' es ∧ Below B w wr) (fun _ s5 _ => m - (intOf s5).toNat)
  case atStart => exact ⟨0, rows, by omega, by simp [tot], rfl, MkR.zero _, HA.out, Below.refl _ _⟩
  case round =>
    obtain ⟨i, rows', hi, rfl, rfl, hmk, hown, hbel⟩ := hrel
    have HMK := hide hmk
    have HO := hide hown
    have HW := hide hbel
    have ht2 := tot_take rows i
    by_cases hlt : i < m
    · have hir : i < rows.length := by have := HM.out; omega
      have HTS := hide (tot_step hir)
      have hln := hmk.2.1 i hir
      obtain ⟨p, q, he, o1, hne, g1, e1, f1, k1⟩ := hown.at_ (i := i) (by rw [hmk.1]; exact hir)
      rw [hmk.1, ← HM.out] at f1
      cases f1
      have HST := hide (fun (w' : World) (mm : List Int) (hg : wr.grownBy w' (some p)) (h1 : mm.length = (rows'.getD i []).length) (h2 : OwnsI w' B (.slice (some ⟨p, 0, none⟩) (rows'.getD i []).length q) mm) => hown.set (by rw [hmk.1]; exact hir) he hg h1 h2)
      have HMS := hide (hmk.step hir)
      rw [hln] at HST
      have hpB := (o1.lt p rfl).1
      have hpl := (o1.lt p rfl).2
      obtain ⟨r, hr⟩ : ∃ r, r = rows'.getD i [] := ⟨_, rfl⟩
      rw [← hr] at o1 k1 hln
      obtain ⟨t, htt⟩ : ∃ t, t = (rows.getD i []).length := ⟨_, rfl⟩
      rw [← htt] at HST HMS hln HTS
      rw [hln] at o1 k1
      obtain ⟨k, hk⟩ : ∃ k, k = tot (rows.take i) := ⟨_, rfl⟩
      rw [← hk] at HTS HMS ht2 ⊢
      have htb : k + t ≤ tot rows := by have := HTS.out; have := tot_take rows (i + 1); omega
      have HLN := hide hln
      have hrl : r.length ≤ 1000000000000 := by omega
      have HCL := hide (markInt64S_any (.slice (some ⟨p, 0, none⟩) t q) r (1 + (k : Nat)) B wr o1 (by omega) hrl)
      rw [HLN.out] at HCL
      have i0 : (0 : Int) ≤ (i : Int) := by omega
      have i1 : (i : Int) < (m : Int) := by omega
      clear hmk hown hbel hr htt hk he o1 hln hne hrl
      go_wp2_with fail
      refine HCL.out.mono ?_
      rintro e w2 ⟨rfl, o2, g2⟩
      have HN := hide (HST.out w2 _ g2 (by rw [marks_len]) o2)
      have HB2 := hide (show Below B w w2 from ⟨g2.os.trans HW.out.os, g2.tape.trans HW.out.tape, g2.output.trans HW.out.output, Nat.le_trans HW.out.size g2.size, fun j hj => (g2.block j (by have := HW.out.size; omega) (by simp [Value.ownBlock]; omega)).trans (HW.out.block j hj)⟩)
      clear o2 g2 HCL HST
      go_wp2_with fail
      go_roundw
      case rel => exact ⟨i + 1, _, by omega, by rw [HTS.out]; first | rfl | (congr 1; omega), by first | rfl | go_num, HMS.out, HN.out, HB2.out⟩
      case measure => simp only [intOf]; omega
    · have e : rows.take i = rows := List.take_of_length_le (by have := HM.out; omega)
      have hie : i = m := by omega
      rw [e]
      clear hmk hown hbel e ht2
      go_wp2_with fail
      go_ret
      subst hie
      exact ⟨rfl, rows', HMK.out, HO.out, HW.out⟩
set_option maxHeartbeats 1000000 in
set_option maxRecDepth 100000 in
theorem heldInt64SS_any (rows rows' : List (List Int)) (es : List (Nat × Nat)) (ao : Option Addr) (cap m B : Nat) (w : World) (hm : m = rows.length) (hk : MkR rows rows' m) (ha : Own2 w B (.slice ao m cap) rows' es) (hl : m ≤ 1000) (ht : tot rows ≤ 900) :
    Calls Try.prog 15 #[.slice ao m cap, .int .i64 1] w fun e w' => e = .returned (.int .i64 (1 + (tot rows : Nat))) ∧ Below w.heap.size w w' := by
  have HM := hide hm
  have HA := hide ha
  have HK := hide hk
  clear hm ha hk
  go_enter Try.func15, Try.ntmps15
  go_wp2_with fail
  go_loopw [1, 5] (fun s1 s5 wr => ∃ i : Nat, i ≤ m ∧ s1 = .int .i64 (1 + (tot (rows.take i) : Nat)) ∧ s5 = .int .i64 (i : Int) ∧ Below w.heap.size w wr) (fun _ s5 _ => m - (intOf s5).toNat)
  case atStart => exact ⟨0, by omega, by simp [tot], rfl, Below.refl _ _⟩
  case round =>
    obtain ⟨i, hi, rfl, rfl, hbel⟩ := hrel
    have HW := hide hbel
    have ht2 := tot_take rows i
    by_cases hlt : i < m
    · have hir : i < rows.length := by have := HM.out; omega
      have HTS := hide (tot_step hir)
      have hln := HK.out.2.1 i hir
      have hmr := HK.out.2.2 i hlt
      obtain ⟨p, q, _, o1, _, g1, e1, f1, k1⟩ := (HA.out.below hbel).at_ (i := i) (by rw [HK.out.1]; exact hir)
      rw [HK.out.1, ← HM.out] at f1
      cases f1
      rw [hln] at o1 k1
      rw [hmr] at o1
      obtain ⟨t, htt⟩ : ∃ t, t = (rows.getD i []).length := ⟨_, rfl⟩
      rw [← htt] at o1 k1 HTS
      obtain ⟨k, hk⟩ : ∃ k, k = tot (rows.take i) := ⟨_, rfl⟩
      rw [← hk] at HTS ht2 o1 ⊢
      have htb : k + t ≤ tot rows := by have := HTS.out; have := tot_take rows (i + 1); omega
      have HCL := hide (heldInt64S_any (.slice (some ⟨p, 0, none⟩) t q) (1 + (k : Nat)) t B wr o1 (by omega) (by omega))
      have i0 : (0 : Int) ≤ (i : Int) := by omega
      have i1 : (i : Int) < (m : Int) := by omega
      clear hbel o1 hln hmr htt hk
      go_wp2_with fail
      refine HCL.out.mono ?_
      rintro e w2 ⟨rfl, b2⟩
      have HB2 := hide (bstep HW.out b2)
      have hpos : ¬ (1 + (k : Int) + (t : Int) < 0) := by omega
      clear b2 HCL
      go_wp2_with fail
      go_roundw
      case rel => exact ⟨i + 1, by omega, by rw [HTS.out]; first | rfl | (congr 1; omega), by first | rfl | go_num, HB2.out⟩
      case measure => simp only [intOf]; omega
    · have e : rows.take i = rows := List.take_of_length_le (by have := HM.out; omega)
      rw [e]
      clear hbel e ht2
      go_wp2_with fail
      go_ret
      exact ⟨rfl, HW.out⟩
end Go.Proofs.Ythagogjklocmoaa
