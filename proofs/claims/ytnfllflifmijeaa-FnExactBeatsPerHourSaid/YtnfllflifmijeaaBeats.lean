/-
  BeatsPerHour: contracts and the walk of its law.
-/
import Derived.Test.YtnfllflifmijeaaTrainQ
namespace Go.Proofs.Ytnfllflifmijeaa
open Go.RowKit

theorem trGo_valid (ps : List (Int × Int)) (hp : ∀ p ∈ ps, pairOk p.1 p.2 = true) (n d : Int) (hv : validR n d = true) (h : (trGo ps n d).2.2 = true) : validR (trGo ps n d).1 (trGo ps n d).2.1 = true := by
  induction ps generalizing n d with
  | nil => exact hv
  | cons p ps ih =>
    have hb := pairOk_bd (hp p (by simp))
    have hs := mk_small (a := -p.1) (b := p.2) (by omega) (by omega)
    unfold trGo at h ⊢
    cases hok : mkOk (n * mkN (-p.1) p.2) (d * mkD (-p.1) p.2)
    · rw [hok] at h; exact absurd h (by simp)
    · rw [hok] at h
      rw [if_pos rfl] at h ⊢
      exact ih (fun q hq => hp q (List.mem_cons_of_mem _ hq)) _ _ (mk_prod hv hs hok) h
theorem validT_mem {ps : List (Int × Int)} (h : validT ps = true) : ∀ p ∈ ps, pairOk p.1 p.2 = true := by
  unfold validT at h
  simp only [Bool.and_eq_true, List.all_eq_true] at h
  exact h.1
theorem validR_abs {n d : Int} (h : validR n d = true) : validR (absI n) d = true := by
  obtain ⟨h1, h2, h3⟩ := validR_true h
  have := absI_nonneg n
  have := absI_le n 1000000000 h2
  exact validR_mk h1 (by omega) (by rw [gcdI_absI_left]; exact h3)
theorem validR_whole {n : Int} (h : -1000000000 ≤ n ∧ n ≤ 1000000000) : validR n 1 = true := validR_mk (by omega) h (by unfold gcdI; simp)
def btN (ps : List (Int × Int)) (t : Int) : Int := if validT ps then (if inR t 6 240 then (if (trGo ps 1 1).2.2 then mkN (absI (trGo ps 1 1).1 * (2 * t)) (trGo ps 1 1).2.1 else 0) else 0) else 0
def btD (ps : List (Int × Int)) (t : Int) : Int := if validT ps then (if inR t 6 240 then (if (trGo ps 1 1).2.2 then mkD (absI (trGo ps 1 1).1 * (2 * t)) (trGo ps 1 1).2.1 else 0) else 0) else 0
def btC (ps : List (Int × Int)) (t : Int) : Int := if validT ps then (if inR t 6 240 then (if (trGo ps 1 1).2.2 then codeT (mkOk (absI (trGo ps 1 1).1 * (2 * t)) (trGo ps 1 1).2.1) else 2) else 2) else 1
theorem bt_f {ps : List (Int × Int)} (t : Int) (h : validT ps = false) : btN ps t = 0 ∧ btD ps t = 0 ∧ btC ps t = 1 := by unfold btN btD btC; rw [h]; exact ⟨rfl, rfl, rfl⟩
theorem bt_tf {ps : List (Int × Int)} {t : Int} (h : validT ps = true) (h2 : inR t 6 240 = false) : btN ps t = 0 ∧ btD ps t = 0 ∧ btC ps t = 2 := by unfold btN btD btC; rw [h, h2]; exact ⟨rfl, rfl, rfl⟩
theorem bt_ttf {ps : List (Int × Int)} {t : Int} (h : validT ps = true) (h2 : inR t 6 240 = true) (h3 : (trGo ps 1 1).2.2 = false) : btN ps t = 0 ∧ btD ps t = 0 ∧ btC ps t = 2 := by unfold btN btD btC; rw [h, h2, h3]; exact ⟨rfl, rfl, rfl⟩
theorem bt_ttt {ps : List (Int × Int)} {t : Int} (h : validT ps = true) (h2 : inR t 6 240 = true) (h3 : (trGo ps 1 1).2.2 = true) : btN ps t = mkN (absI (trGo ps 1 1).1 * (2 * t)) (trGo ps 1 1).2.1 ∧ btD ps t = mkD (absI (trGo ps 1 1).1 * (2 * t)) (trGo ps 1 1).2.1 ∧ btC ps t = codeT (mkOk (absI (trGo ps 1 1).1 * (2 * t)) (trGo ps 1 1).2.1) := by unfold btN btD btC; rw [h, h2, h3]; exact ⟨rfl, rfl, rfl⟩
/-- Two cells are as they were, block g4 is a variable of two cells, and below w0's size nothing has turned. -/
def HeldC (g4 : Nat) (p1 p2 : Addr) (a b : Value) (w0 w' : World) : Prop := w'.cell? p1 = some a ∧ w'.cell? p2 = some b ∧ (∃ u v, Cell2 w' g4 u v) ∧ Below w0.heap.size w0 w'
section
variable {g4 : Nat} {p1 p2 : Addr} {a b : Value} {w0 w1 w2 : World}
theorem heldC_step (h : HeldC g4 p1 p2 a b w0 w1) (hb : Below w1.heap.size w1 w2) : HeldC g4 p1 p2 a b w0 w2 := by
  obtain ⟨h1, h2, ⟨u, v, h3⟩, h5⟩ := h
  exact ⟨(hb.cell (World.block_lt_of_cell? w1 _ h1)).trans h1, (hb.cell (World.block_lt_of_cell? w1 _ h2)).trans h2, ⟨u, v, h3.below hb⟩, bstep h5 hb⟩
theorem heldC_set {b1 o1 o2 : Nat} (h : HeldC g4 ⟨b1, o1, none⟩ ⟨b1, o2, none⟩ a b w0 w1) (hne : b1 ≠ g4) (hg : w0.heap.size ≤ g4) (u v : Value) : HeldC g4 ⟨b1, o1, none⟩ ⟨b1, o2, none⟩ a b w0 ((w1.setCell ⟨g4, 0, none⟩ u).setCell ⟨g4, 1, none⟩ v) := by
  obtain ⟨h1, h2, ⟨u', v', h3⟩, h5⟩ := h
  refine ⟨?_, ?_, ⟨_, _, h3.set u v⟩, bset (bset h5 hg _) hg _⟩
  · rw [World.cell?_setCell_other _ _ _ _ (fun e => by cases e; exact hne rfl), World.cell?_setCell_other _ _ _ _ (fun e => by cases e; exact hne rfl)]; exact h1
  · rw [World.cell?_setCell_other _ _ _ _ (fun e => by cases e; exact hne rfl), World.cell?_setCell_other _ _ _ _ (fun e => by cases e; exact hne rfl)]; exact h2
end
theorem setCell_same2 {w : World} {g : Nat} {a b : Value} {t : TypeId} (n : Value) (h : g = w.heap.size) : (w.alloc (.cells #[a, b] t)).setCell ⟨g, 0, none⟩ n = w.alloc (.cells #[n, b] t) := by
  subst h
  simp [go_sem]
set_option maxHeartbeats 1000000 in
theorem specBeats_any (ao : Option Addr) (ps : List (Int × Int)) (cap : Nat) (t : Int) (w : World) (h : ReadsP w ao ps) (hn : ps.length ≤ 1048576) :
    Calls Try.prog 26 #[.slice ao ps.length cap, .int .i64 t] w fun e w' => e = .returned (.tuple #[.agg #[.int .i64 (btN ps t), .int .i64 (btD ps t)], .int .i64 (btC ps t)]) ∧ Below w.heap.size w w' := by
  have C0 := cell2_new (w := w) (u := .int .i64 0) (v := .int .i64 0) 34
  have H := hide (l05Ok_any ao ps cap (w.alloc (.cells #[.int .i64 0, .int .i64 0] 34)) (h.below (balloc (Below.refl _ _) _)) hn)
  have HC := hide C0
  have HR := hide h
  clear h C0
  cases hv : validT ps
  · have HV := hide hv
    obtain ⟨e1, e2, e3⟩ := bt_f t hv
    rw [e1, e2, e3]
    clear e1 e2 e3
    go_enter Try.func26, Try.ntmps26
    go_wp2_with fail
    refine H.out.mono ?_
    rintro e w1 ⟨rfl, hb1⟩
    rw [HV.out]
    obtain ⟨z0, z1, z2, z3⟩ := HC.out.below hb1
    have hz0 := (HC.out.below hb1).lt
    go_wp2_with fail
    refine bodyPost_ret (v := .tuple #[.agg #[.int .i64 0, .int .i64 0], .int .i64 1]) (by simp [results, Try.results26, go_sem, z0, z1, z2, z3, hz0]) rfl ⟨rfl, ?_⟩
    repeat (first | exact Below.refl _ _ | refine bstep ?_ hb1 | refine balloc ?_ _ | refine bset ?_ (Nat.le_refl _) _)
  · cases hv2 : inR t 6 240
    · have HV := hide hv
      have HV2 := hide hv2
      obtain ⟨e1, e2, e3⟩ := bt_tf hv hv2
      rw [e1, e2, e3]
      clear e1 e2 e3
      go_enter Try.func26, Try.ntmps26
      go_wp2_with fail
      refine H.out.mono ?_
      rintro e w1 ⟨rfl, hb1⟩
      rw [HV.out]
      obtain ⟨z0, z1, z2, z3⟩ := HC.out.below hb1
      have hz0 := (HC.out.below hb1).lt
      go_wp2_with fail
      refine (l05Teeth_any t _).mono ?_
      rintro e w' ⟨rfl, rfl⟩
      rw [HV2.out]
      go_wp2_with fail
      refine bodyPost_ret (v := .tuple #[.agg #[.int .i64 0, .int .i64 0], .int .i64 2]) (by simp [results, Try.results26, go_sem, z0, z1, z2, z3, hz0]) rfl ⟨rfl, ?_⟩
      repeat (first | exact Below.refl _ _ | refine bstep ?_ hb1 | refine balloc ?_ _ | refine bset ?_ (Nat.le_refl _) _)
    · have HV := hide hv
      have HV2 := hide hv2
      have ht := inR_true hv2
      obtain ⟨R, hR⟩ : ∃ R, R = trGo ps 1 1 := ⟨_, rfl⟩
      have HQ := hide hR
      cases hv3 : (trGo ps 1 1).2.2
      · obtain ⟨e1, e2, e3⟩ := bt_ttf hv hv2 hv3
        rw [e1, e2, e3]
        rw [← hR] at hv3
        obtain ⟨r1, r2, r3⟩ := R
        simp only at hv3
        subst hv3
        clear e1 e2 e3 hR
        go_enter Try.func26, Try.ntmps26
        go_wp2_with fail
        refine H.out.mono ?_
        rintro e w1 ⟨rfl, hb1⟩
        rw [HV.out]
        have B1 := hide (bstep (balloc (Below.refl w.heap.size w) _) hb1)
        have C1 := hide (HC.out.below hb1)
        clear hb1
        go_wp2_with fail
        refine (l05Teeth_any t _).mono ?_
        rintro e w' ⟨rfl, rfl⟩
        rw [HV2.out]
        go_wp2_with fail
        refine (l05Ratio_any ao ps cap _ (HR.out.below B1.out) HV.out).mono ?_
        rintro e w2 ⟨rfl, hb2⟩
        rw [← HQ.out]
        have B2 := hide (bstep B1.out hb2)
        obtain ⟨z0, z1, z2, z3⟩ := C1.out.below hb2
        have hz0 := (C1.out.below hb2).lt
        clear hb2
        go_wp2_with fail
        refine bodyPost_ret (v := .tuple #[.agg #[.int .i64 0, .int .i64 0], .int .i64 2]) (by simp [results, Try.results26, go_sem, z0, z1, z2, z3, hz0]) rfl ⟨rfl, ?_⟩
        repeat (first | exact B2.out | refine balloc ?_ _ | refine bset ?_ (Nat.le_refl _) _)
      · obtain ⟨e1, e2, e3⟩ := bt_ttt hv hv2 hv3
        have hvr := trGo_valid ps (validT_mem hv) 1 1 valid_one hv3
        rw [e1, e2, e3]
        rw [← hR] at hv3 hvr ⊢
        obtain ⟨r1, r2, r3⟩ := R
        simp only at hv3 hvr ⊢
        subst hv3
        have hva := validR_abs hvr
        obtain ⟨d1, d2⟩ := validR_bd hva
        obtain ⟨d3, d4⟩ := validR_bd hvr
        have hw := IntWalk.i64_in (2 * t) (by omega)
        have HM := hide (fun w => l02Mul_any (absI r1) r2 (2 * t) 1 w d1 d2 (by omega) (by omega))
        rw [Int.mul_one] at HM
        have HP1 := hide (mkN_part (absI r1 * (2 * t)) r2)
        have HP2 := hide (mkD_part (absI r1 * (2 * t)) r2)
        rw [← codeT_of]
        clear e1 e2 e3 hR hva hvr
        go_enter Try.func26, Try.ntmps26
        go_wp2_with fail
        refine H.out.mono ?_
        rintro e w1 ⟨rfl, hb1⟩
        rw [HV.out]
        have B1 := hide (bstep (balloc (Below.refl w.heap.size w) _) hb1)
        have C1 := hide (HC.out.below hb1)
        clear hb1
        go_wp2_with fail
        refine (l05Teeth_any t _).mono ?_
        rintro e w' ⟨rfl, rfl⟩
        rw [HV2.out]
        go_wp2_with fail
        refine (l05Ratio_any ao ps cap _ (HR.out.below B1.out) HV.out).mono ?_
        rintro e w2 ⟨rfl, hb2⟩
        rw [← HQ.out]
        have B2 := hide (bstep B1.out hb2)
        have C2 := hide (C1.out.below hb2)
        have hz0 := (C1.out.below hb2).lt
        clear hb2
        go_wp2_with fail
        refine (l02Size_any r1 _ (by omega)).mono ?_
        rintro e w' ⟨rfl, rfl⟩
        have D0 := hide (balloc B2.out (.cells #[.int .i64 (absI r1), .int .i64 r2] 34))
        have D1 := hide (C2.out.alloc (.cells #[.int .i64 (absI r1), .int .i64 r2] 34))
        have D2 := hide (cell2_new (w := w2) (u := .int .i64 (absI r1)) (v := .int .i64 r2) 34)
        go_upto_region 9 with fail
        try rw [setCell_same2 _ rfl]
        have hne : w2.heap.size ≠ w.heap.size := by omega
        obtain ⟨q1, q2, q3, q4⟩ := D2.out
        go_region_held3 (fun w' => w'.cell? ⟨w2.heap.size, 0, none⟩ = some (.int .i64 (absI r1)) ∧ w'.cell? ⟨w2.heap.size, 1, none⟩ = some (.int .i64 r2) ∧ (∃ u v, Cell2 w' w.heap.size u v) ∧ Below w.heap.size w w')
          (first | exact ⟨q1, q2, ⟨_, _, D1.out⟩, D0.out.drew⟩ | exact heldC_step (by assumption) hb | exact heldC_set (by assumption) hne (Nat.le_refl _) _ _)
          (first
            | (go_at_call 65; refine (l02Whole_any (2 * t) _).mono ?_; rintro e w' ⟨rfl, hb⟩; have h2 := heldC_step (g4 := w.heap.size) (p1 := ⟨w2.heap.size, 0, none⟩) (p2 := ⟨w2.heap.size, 1, none⟩) (a := .int .i64 (absI r1)) (b := .int .i64 r2) (w0 := w) (by assumption) hb)
            | (go_at_call 64; refine (HM.out _).mono ?_; rintro e w' ⟨rfl, hb⟩; have h2 := heldC_step (g4 := w.heap.size) (p1 := ⟨w2.heap.size, 0, none⟩) (p2 := ⟨w2.heap.size, 1, none⟩) (a := .int .i64 (absI r1)) (b := .int .i64 r2) (w0 := w) (by assumption) hb)
            | (go_at_call 59; refine (l02Code_any _ _ _ _).mono ?_; rintro e w' ⟨rfl, hb⟩; have h2 := heldC_step (g4 := w.heap.size) (p1 := ⟨w2.heap.size, 0, none⟩) (p2 := ⟨w2.heap.size, 1, none⟩) (a := .int .i64 (absI r1)) (b := .int .i64 r2) (w0 := w) (by assumption) hb; obtain ⟨y1, y2, ⟨u, v, y3⟩, y4⟩ := h2; have hz := y3.lt; obtain ⟨k0, k1, k2, k3⟩ := y3))
        rw [HP1.out, HP2.out]
        obtain ⟨x0, x1, x2, x3⟩ := Cell2.set ⟨k0, k1, k2, k3⟩ (.int .i64 (mkN (absI r1 * (2 * t)) r2)) (.int .i64 (mkD (absI r1 * (2 * t)) r2))
        go_wp2_with fail
        refine bodyPost_ret (v := .tuple #[.agg #[.int .i64 (mkN (absI r1 * (2 * t)) r2), .int .i64 (mkD (absI r1 * (2 * t)) r2)], .int .i64 (codeOf (mkOk (absI r1 * (2 * t)) r2))]) (by simp [results, Try.results26, go_sem, x0, x1]) rfl ⟨rfl, ?_⟩
        exact bset (bset y4 (Nat.le_refl _) _) (Nat.le_refl _) _
theorem abs_any (n : Int) (w : World) (h : -4000000000000000000 ≤ n ∧ n ≤ 4000000000000000000) : Calls Try.prog 68 #[.int .i64 n] w fun e w' => e = .returned (.int .i64 (absI n)) ∧ w = w' := by
  by_cases hn : n < 0
  · go_enter Try.func68, Try.ntmps68
    go_wp2
    go_ret
    exact ⟨ret_int (absI_of_neg hn).symm, rfl⟩
  · go_enter Try.func68, Try.ntmps68
    go_wp2
    go_ret
    exact ⟨ret_int (absI_of_nonneg (by omega)).symm, rfl⟩
set_option maxHeartbeats 1000000 in
theorem implBeats_any (ao : Option Addr) (ps : List (Int × Int)) (cap : Nat) (t : Int) (w : World) (h : ReadsP w ao ps) (hn : ps.length ≤ 1048576) :
    Calls Try.prog 27 #[.slice ao ps.length cap, .int .i64 t] w fun e w' => e = .returned (.tuple #[.agg #[.int .i64 (btN ps t), .int .i64 (btD ps t)], .int .i64 (btC ps t)]) ∧ Below w.heap.size w w' := by
  have C0 := cell2_new (w := w) (u := .int .i64 0) (v := .int .i64 0) 34
  have H := hide (implValidTrain_any ao ps cap (w.alloc (.cells #[.int .i64 0, .int .i64 0] 34)) (h.below (balloc (Below.refl _ _) _)) hn)
  have HC := hide C0
  have HR := hide h
  clear h C0
  cases hv : validT ps
  · have HV := hide hv
    obtain ⟨e1, e2, e3⟩ := bt_f t hv
    rw [e1, e2, e3]
    clear e1 e2 e3
    go_enter Try.func27, Try.ntmps27
    go_wp2_with fail
    refine H.out.mono ?_
    rintro e w1 ⟨rfl, hb1⟩
    rw [HV.out]
    obtain ⟨z0, z1, z2, z3⟩ := HC.out.below hb1
    have hz0 := (HC.out.below hb1).lt
    go_wp2_with fail
    refine bodyPost_ret (v := .tuple #[.agg #[.int .i64 0, .int .i64 0], .int .i64 1]) (by simp [results, Try.results27, go_sem, z0, z1, z2, z3, hz0]) rfl ⟨rfl, ?_⟩
    repeat (first | exact Below.refl _ _ | refine bstep ?_ hb1 | refine balloc ?_ _ | refine bset ?_ (Nat.le_refl _) _)
  · cases hv2 : inR t 6 240
    · have HV := hide hv
      have HV2 := hide hv2
      obtain ⟨e1, e2, e3⟩ := bt_tf hv hv2
      rw [e1, e2, e3]
      clear e1 e2 e3
      go_enter Try.func27, Try.ntmps27
      go_wp2_with fail
      refine H.out.mono ?_
      rintro e w1 ⟨rfl, hb1⟩
      rw [HV.out]
      obtain ⟨z0, z1, z2, z3⟩ := HC.out.below hb1
      have hz0 := (HC.out.below hb1).lt
      go_wp2_with fail
      refine (toothed_any t _).mono ?_
      rintro e w' ⟨rfl, rfl⟩
      rw [HV2.out]
      go_wp2_with fail
      refine bodyPost_ret (v := .tuple #[.agg #[.int .i64 0, .int .i64 0], .int .i64 2]) (by simp [results, Try.results27, go_sem, z0, z1, z2, z3, hz0]) rfl ⟨rfl, ?_⟩
      repeat (first | exact Below.refl _ _ | refine bstep ?_ hb1 | refine balloc ?_ _ | refine bset ?_ (Nat.le_refl _) _)
    · have HV := hide hv
      have HV2 := hide hv2
      have ht := inR_true hv2
      obtain ⟨R, hR⟩ : ∃ R, R = trGo ps 1 1 := ⟨_, rfl⟩
      have HQ := hide hR
      cases hv3 : (trGo ps 1 1).2.2
      · obtain ⟨e1, e2, e3⟩ := bt_ttf hv hv2 hv3
        rw [e1, e2, e3]
        rw [← hR] at hv3
        obtain ⟨r1, r2, r3⟩ := R
        simp only at hv3
        subst hv3
        clear e1 e2 e3 hR
        go_enter Try.func27, Try.ntmps27
        go_wp2_with fail
        refine H.out.mono ?_
        rintro e w1 ⟨rfl, hb1⟩
        rw [HV.out]
        have B1 := hide (bstep (balloc (Below.refl w.heap.size w) _) hb1)
        have C1 := hide (HC.out.below hb1)
        clear hb1
        go_wp2_with fail
        refine (toothed_any t _).mono ?_
        rintro e w' ⟨rfl, rfl⟩
        rw [HV2.out]
        go_wp2_with fail
        refine (trainRatio_any ao ps cap _ (HR.out.below B1.out) HV.out).mono ?_
        rintro e w2 ⟨rfl, hb2⟩
        rw [← HQ.out]
        have ec : codeT false = 2 := rfl
        simp only [ec]
        have B2 := hide (bstep B1.out hb2)
        obtain ⟨z0, z1, z2, z3⟩ := C1.out.below hb2
        have hz0 := (C1.out.below hb2).lt
        clear hb2
        go_wp2_with fail
        refine bodyPost_ret (v := .tuple #[.agg #[.int .i64 0, .int .i64 0], .int .i64 2]) (by simp [results, Try.results27, go_sem, z0, z1, z2, z3, hz0]) rfl ⟨rfl, ?_⟩
        repeat (first | exact B2.out | refine balloc ?_ _ | refine bset ?_ (Nat.le_refl _) _)
      · obtain ⟨e1, e2, e3⟩ := bt_ttt hv hv2 hv3
        have hvr := trGo_valid ps (validT_mem hv) 1 1 valid_one hv3
        rw [e1, e2, e3]
        rw [← hR] at hv3 hvr ⊢
        obtain ⟨r1, r2, r3⟩ := R
        simp only at hv3 hvr ⊢
        subst hv3
        have hva := validR_abs hvr
        obtain ⟨d1, d2⟩ := validR_bd hva
        obtain ⟨d3, d4⟩ := validR_bd hvr
        have hw := IntWalk.i64_in (2 * t) (by omega)
        have HM := hide (implMulRatio_any (absI r1) r2 (2 * t) 1)
        have HE := mul_valid hva (validR_whole (n := 2 * t) (by omega))
        rw [Int.mul_one] at HE
        rw [HE.1, HE.2.1, HE.2.2] at HM
        clear e1 e2 e3 hR hva hvr HE
        go_enter Try.func27, Try.ntmps27
        go_wp2_with fail
        refine H.out.mono ?_
        rintro e w1 ⟨rfl, hb1⟩
        rw [HV.out]
        have B1 := hide (bstep (balloc (Below.refl w.heap.size w) _) hb1)
        have C1 := hide (HC.out.below hb1)
        clear hb1
        go_wp2_with fail
        refine (toothed_any t _).mono ?_
        rintro e w' ⟨rfl, rfl⟩
        rw [HV2.out]
        go_wp2_with fail
        refine (trainRatio_any ao ps cap _ (HR.out.below B1.out) HV.out).mono ?_
        rintro e w2 ⟨rfl, hb2⟩
        rw [← HQ.out]
        have ec : codeT true = 0 := rfl
        have B2 := hide (bstep B1.out hb2)
        have C2 := hide (C1.out.below hb2)
        have hz0 := (C1.out.below hb2).lt
        simp only [ec]
        clear hb2
        have D0 := hide (balloc B2.out (.cells #[.int .i64 r1, .int .i64 r2] 34))
        have D1 := hide (C2.out.alloc (.cells #[.int .i64 r1, .int .i64 r2] 34))
        have D2 := hide (cell2_new (w := w2) (u := .int .i64 r1) (v := .int .i64 r2) 34)
        go_upto_region 8 with fail
        have hne : w2.heap.size ≠ w.heap.size := by omega
        obtain ⟨q1, q2, q3, q4⟩ := D2.out
        go_region_held3 (fun w' => w'.cell? ⟨w2.heap.size, 0, none⟩ = some (.int .i64 r1) ∧ w'.cell? ⟨w2.heap.size, 1, none⟩ = some (.int .i64 r2) ∧ (∃ u v, Cell2 w' w.heap.size u v) ∧ Below w.heap.size w w')
          (first | exact ⟨q1, q2, ⟨_, _, D1.out⟩, D0.out.drew⟩ | exact heldC_step (by assumption) hb | exact heldC_set (by assumption) hne (Nat.le_refl _) _ _)
          (first
            | (go_at_call 68; refine (abs_any r1 _ (by omega)).mono ?_; rintro e w' ⟨rfl, rfl⟩)
            | (go_at_call 67; refine (HM.out _).mono ?_; rintro e w' ⟨rfl, hb⟩; have h2 := heldC_step (g4 := w.heap.size) (p1 := ⟨w2.heap.size, 0, none⟩) (p2 := ⟨w2.heap.size, 1, none⟩) (a := .int .i64 r1) (b := .int .i64 r2) (w0 := w) (by assumption) hb; obtain ⟨y1, y2, ⟨u, v, y3⟩, y4⟩ := h2; have hz := y3.lt; obtain ⟨k0, k1, k2, k3⟩ := y3))
        obtain ⟨x0, x1, x2, x3⟩ := Cell2.set ⟨k0, k1, k2, k3⟩ (.int .i64 (mkN (absI r1 * (2 * t)) r2)) (.int .i64 (mkD (absI r1 * (2 * t)) r2))
        go_wp2_with fail
        refine bodyPost_ret (v := .tuple #[.agg #[.int .i64 (mkN (absI r1 * (2 * t)) r2), .int .i64 (mkD (absI r1 * (2 * t)) r2)], .int .i64 (codeT (mkOk (absI r1 * (2 * t)) r2))]) (by simp [results, Try.results27, go_sem, x0, x1]) rfl ⟨rfl, ?_⟩
        exact bset (bset y4 (Nat.le_refl _) _) (Nat.le_refl _) _
theorem walk_FnExactBeatsPerHour (a : Option Addr) (len cap : Nat) (ps : List (Int × Int)) (t : Int) (w : World) (h : IsPairs w a len cap ps) (_ht : -9223372036854775808 ≤ t ∧ t ≤ 9223372036854775807) :
    Calls Try.prog 6 #[.slice a len cap, .int .i64 t] w fun e w' => e = .returned (.bool true) ∧ Below w.heap.size w w' := by
  obtain ⟨rfl, hm, hr⟩ := h
  by_cases hl : ps.length ≤ 1048576
  · have hs : szP ps.length 1048576 = 1048576 - (ps.length : Int) := by unfold szP; rw [if_pos (by omega)]
    have hdd := hide (decide_eq_true (rfl : ps = ps))
    have HR := hide hr
    clear hr
    have hc : (btC ps t != btC ps t) = false := by simp
    have hq := hide (eqR_refl (btN ps t) (btD ps t))
    go_enter Try.func6, Try.ntmps6
    go_wp2_with fail
    refine (szPairS_any a ps.length cap 1048576 _ hm (by omega)).mono ?_
    rintro e w0 ⟨rfl, rfl⟩
    go_wp2_with fail
    refine (toPairS_any a ps cap _ HR.out hl).mono ?_
    rintro e w1 ⟨g1, rfl, o1, b1⟩
    go_wp2_with fail
    refine (specBeats_any _ ps _ t _ o1.reads hl).mono ?_
    rintro e w2 ⟨rfl, b2⟩
    have B2 := hide (balloc (bstep b1 b2) (.cells #[.int .i64 (btN ps t), .int .i64 (btD ps t)] 34))
    have C2 := hide (cell2_new (w := w2) (u := .int .i64 (btN ps t)) (v := .int .i64 (btD ps t)) 34)
    clear b1 b2 o1
    go_wp2_with fail
    refine (toPairS_any a ps cap _ (HR.out.below B2.out) hl).mono ?_
    rintro e w3 ⟨g3, rfl, o3, b3⟩
    have B3 := hide (bstep B2.out b3)
    have C3 := hide (C2.out.below b3)
    clear b3
    go_wp2_with fail
    refine (implBeats_any _ ps _ t _ o3.reads hl).mono ?_
    rintro e w4 ⟨rfl, b4⟩
    have B4 := hide (balloc (bstep B3.out b4) (.cells #[.int .i64 (btN ps t), .int .i64 (btD ps t)] 34))
    have O4 := hide ((o3.below b4).below (balloc (Below.refl _ _) (.cells #[.int .i64 (btN ps t), .int .i64 (btD ps t)] 34)))
    obtain ⟨z0, z1, z2, z3⟩ := C3.out.below b4
    have hz := (C3.out.below b4).lt
    clear b4 o3
    go_wp2_with fail
    refine (eqRatio_any _ _ _ _ _).mono ?_
    rintro e w5 ⟨rfl, b5⟩
    rw [hq.out]
    have B5 := hide (bstep B4.out b5)
    have O5 := hide (O4.out.below b5)
    clear b5
    go_wp2_with fail
    refine (toPairS_any a ps cap _ (HR.out.below B5.out) hl).mono ?_
    rintro e w6 ⟨g6, rfl, o6, b6⟩
    have B6 := hide (bstep B5.out b6)
    have O6 := hide (O5.out.below b6)
    clear b6
    go_wp2_with fail
    refine (eqPairS_any _ _ ps ps _ _ _ O6.out.reads o6.reads hl hl).mono ?_
    rintro e w7 ⟨rfl, b7⟩
    have hd := hdd.out
    go_wp2_with fail
    go_ret
    exact ⟨rfl, bstep B6.out b7⟩
  · have hs : szP ps.length 1048576 = -1 := by unfold szP; rw [if_neg (by omega)]
    go_enter Try.func6, Try.ntmps6
    go_wp2_with fail
    refine (szPairS_any a ps.length cap 1048576 _ hm (by omega)).mono ?_
    rintro e w0 ⟨rfl, rfl⟩
    go_wp2_with fail
    go_ret
    exact ⟨rfl, Below.refl _ _⟩
end Go.Proofs.Ytnfllflifmijeaa
