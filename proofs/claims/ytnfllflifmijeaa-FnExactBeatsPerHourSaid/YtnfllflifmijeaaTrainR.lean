/-
  The ratio of a train: contracts of both functions.
-/
import Derived.Test.YtnfllflifmijeaaTeeth
import Derived.Test.YtnfllflifmijeaaOpsS
import Derived.Test.YtnfllflifmijeaaCell
import Derived.Deep.CutRange
import Derived.IntWalk
namespace Go.Proofs.Ytnfllflifmijeaa
open Go.RowKit

/-- The ratio of a train from n/d on: numerator, denominator, and whether every one on the way was valid. -/
def trGo : List (Int × Int) → Int → Int → Int × Int × Bool
  | [], n, d => (n, d, true)
  | p :: ps, n, d => if mkOk (n * mkN (-p.1) p.2) (d * mkD (-p.1) p.2) then trGo ps (mkN (n * mkN (-p.1) p.2) (d * mkD (-p.1) p.2)) (mkD (n * mkN (-p.1) p.2) (d * mkD (-p.1) p.2)) else (0, 0, false)
theorem trGo_step (ps : List (Int × Int)) (k : Nat) (h : k < ps.length) (n d : Int) : trGo (ps.drop k) n d =
    if mkOk (n * mkN (-(ps.getD k (0, 0)).1) (ps.getD k (0, 0)).2) (d * mkD (-(ps.getD k (0, 0)).1) (ps.getD k (0, 0)).2) then trGo (ps.drop (k + 1)) (mkN (n * mkN (-(ps.getD k (0, 0)).1) (ps.getD k (0, 0)).2) (d * mkD (-(ps.getD k (0, 0)).1) (ps.getD k (0, 0)).2)) (mkD (n * mkN (-(ps.getD k (0, 0)).1) (ps.getD k (0, 0)).2) (d * mkD (-(ps.getD k (0, 0)).1) (ps.getD k (0, 0)).2)) else (0, 0, false) := by
  have e : ps.drop k = ps.getD k (0, 0) :: ps.drop (k + 1) := by
    rw [List.getD_eq_getElem?_getD, List.getElem?_eq_getElem h]
    exact List.drop_eq_getElem_cons h
  rw [e]; rfl
theorem validR_bd {n d : Int} (h : validR n d = true) : (-1000000000 ≤ n ∧ n ≤ 1000000000) ∧ (1 ≤ d ∧ d ≤ 1000000000) := ⟨(validR_true h).2.1, (validR_true h).1⟩
theorem absI_le (n B : Int) (h : -B ≤ n ∧ n ≤ B) : absI n ≤ B := by unfold absI; omega
theorem qN_le (n d : Int) : qN n d ≤ absI n := Int.ediv_le_self _ (absI_nonneg n)
theorem qD_le (n d : Int) : qD n d ≤ absI d := Int.ediv_le_self _ (absI_nonneg d)
theorem mk_small {a b : Int} (ha : -1000 ≤ a ∧ a ≤ 1000) (hb : 1 ≤ b ∧ b ≤ 1000) : validR (mkN a b) (mkD a b) = true := by
  have h1 := qN_le a b
  have h2 := qD_le a b
  have h3 := absI_le a 1000 ha
  have h4 := absI_le b 1000 (by omega)
  exact mk_valid (by omega) (by omega) (by omega) (by unfold mkOk; rw [decide_eq_true (by omega), decide_eq_true (by omega)]; rfl)
theorem mk_prod {a b c d : Int} (h : validR a b = true) (h' : validR c d = true) (hok : mkOk (a * c) (b * d) = true) : validR (mkN (a * c) (b * d)) (mkD (a * c) (b * d)) = true := by
  obtain ⟨h1, h2⟩ := validR_bd h
  obtain ⟨h3, h4⟩ := validR_bd h'
  have m1 := mulB a c h1 h3
  have m2 := mulB b d (by omega) (by omega)
  have m3 := mulNe b d (by omega) (by omega)
  exact mk_valid m3 (absI_le _ _ (by omega)) (absI_le _ _ (by omega)) hok
theorem valid_one : validR 1 1 = true := by decide
def HeldB (p1 p2 : Addr) (a b : Value) (w0 w' : World) : Prop := w'.cell? p1 = some a ∧ w'.cell? p2 = some b ∧ Below w0.heap.size w0 w'
section
variable {p1 p2 : Addr} {a b : Value} {w0 w1 w2 : World}
theorem heldB_step (h : HeldB p1 p2 a b w0 w1) (hb : Below w1.heap.size w1 w2) : HeldB p1 p2 a b w0 w2 := by
  obtain ⟨h1, h2, h5⟩ := h
  exact ⟨(hb.cell (World.block_lt_of_cell? w1 _ h1)).trans h1, (hb.cell (World.block_lt_of_cell? w1 _ h2)).trans h2, bstep h5 hb⟩
theorem heldB_alloc (h : HeldB p1 p2 a b w0 w1) (o : Obj) : HeldB p1 p2 a b w0 (w1.alloc o) := heldB_step h (balloc (Below.refl _ _) _)
theorem heldB_set {b1 o1 o2 g : Nat} (h : HeldB ⟨b1, o1, none⟩ ⟨b1, o2, none⟩ a b w0 w1) (hlt : b1 < w0.heap.size) (hg : w0.heap.size ≤ g) (u v : Value) : HeldB ⟨b1, o1, none⟩ ⟨b1, o2, none⟩ a b w0 ((w1.setCell ⟨g, 0, none⟩ u).setCell ⟨g, 1, none⟩ v) := by
  obtain ⟨h1, h2, h5⟩ := h
  have hne : b1 ≠ g := by omega
  refine ⟨?_, ?_, bset (bset h5 hg _) hg _⟩
  · rw [World.cell?_setCell_other _ _ _ _ (fun e => by cases e; exact hne rfl), World.cell?_setCell_other _ _ _ _ (fun e => by cases e; exact hne rfl)]; exact h1
  · rw [World.cell?_setCell_other _ _ _ _ (fun e => by cases e; exact hne rfl), World.cell?_setCell_other _ _ _ _ (fun e => by cases e; exact hne rfl)]; exact h2
theorem left2B_alloc {n m : Int} {t : TypeId} (h : HeldB p1 p2 a b w0 w1) : Left2 w0 n m (.pointer (some ⟨w1.heap.size, 0, none⟩)) (w1.alloc (.cells #[.int .i64 n, .int .i64 m] t)) :=
  ⟨w1.heap.size, rfl, by simp [go_sem], by simp [go_sem], balloc h.2.2 _⟩
theorem left2B_set {g : Nat} {u v : Value} {n m : Int} (h : HeldB p1 p2 a b w0 w1) (k0 : w1.cell? ⟨g, 0, none⟩ = some u) (k1 : w1.cell? ⟨g, 1, none⟩ = some v) (hg : w0.heap.size ≤ g) :
    Left2 w0 n m (.pointer (some ⟨g, 0, none⟩)) ((w1.setCell ⟨g, 0, none⟩ (.int .i64 n)).setCell ⟨g, 1, none⟩ (.int .i64 m)) := by
  refine ⟨g, rfl, ?_, ?_, bset (bset h.2.2 hg _) hg _⟩
  · rw [World.cell?_setCell_other _ _ _ _ (fun e => by cases e)]
    exact World.cell?_setCell_same _ _ _ k0
  · have h1 : (w1.setCell ⟨g, 0, none⟩ (.int .i64 n)).cell? ⟨g, 1, none⟩ = some v := by
      rw [World.cell?_setCell_other _ _ _ _ (fun e => by cases e)]
      exact k1
    exact World.cell?_setCell_same _ _ _ h1
end
theorem l02Whole_any (n : Int) (w : World) : Calls Try.prog 65 #[.int .i64 n] w fun e w' => e = .returned (.agg #[.int .i64 n, .int .i64 1]) ∧ Below w.heap.size w w' := by
  go_enter Try.func65, Try.ntmps65
  go_wp2
  refine bodyPost_ret (v := .agg #[.int .i64 n, .int .i64 1]) (by simp [results, Try.results65, go_sem]) rfl ⟨rfl, ?_⟩
  repeat (first | exact Below.refl _ _ | refine balloc ?_ _ | refine bset ?_ (Nat.le_refl _) _)
set_option maxHeartbeats 1000000 in
theorem l05Ratio_any (ao : Option Addr) (ps : List (Int × Int)) (cap : Nat) (w : World) (h : ReadsP w ao ps) (hv : validT ps = true) :
    Calls Try.prog 60 #[.slice ao ps.length cap] w fun e w' => e = .returned (.tuple #[.agg #[.int .i64 (trGo ps 1 1).1, .int .i64 (trGo ps 1 1).2.1], .bool (trGo ps 1 1).2.2]) ∧ Below w.heap.size w w' := by
  have hn := validT_len hv
  have HV := hide hv
  clear hv
  obtain ⟨N, hn'⟩ : ∃ n, n = ps.length := ⟨_, rfl⟩
  obtain ⟨R, hR⟩ : ∃ R, R = trGo ps 1 1 := ⟨_, rfl⟩
  rw [← hn'] at hn ⊢
  rw [← hR]
  have HN := hide hn'
  have HA := hide h
  have HR := hide hR
  clear hn' h hR
  go_enter Try.func60, Try.ntmps60
  go_wp2_with fail
  refine (l02Whole_any 1 _).mono ?_
  rintro e w1 ⟨rfl, hb1⟩
  have c0 : Cell2 w1 w.heap.size (.int .i64 0) (.int .i64 0) := (cell2_new (w := w) 34).below hb1
  have c1 := cell2_new (w := w1) (u := .int .i64 1) (v := .int .i64 1) 34
  have hlt1 := c0.lt
  have B1 := hide (balloc (bstep (balloc (Below.refl _ _) _) hb1) (.cells #[.int .i64 1, .int .i64 1] 34))
  have C0 := hide (c0.alloc (.cells #[.int .i64 1, .int .i64 1] 34))
  have C1 := hide c1
  clear hb1 c0 c1
  go_wp2_with fail
  obtain ⟨G, hG⟩ : ∃ G, G = w1.heap.size := ⟨_, rfl⟩
  go_loopw [5] (fun i wr => ∃ (k : Nat) (n d : Int), k ≤ N ∧ i = .int .i64 k ∧ validR n d = true ∧ trGo (ps.drop k) n d = R ∧ Cell2 wr w.heap.size (.int .i64 0) (.int .i64 0) ∧ Cell2 wr w1.heap.size (.int .i64 n) (.int .i64 d) ∧ Below w.heap.size w wr) (fun i _ => N - (intOf i).toNat)
  case atStart => exact ⟨0, 1, 1, by omega, rfl, valid_one, by rw [HR.out]; rfl, C0.out, C1.out, B1.out⟩
  case round =>
    obtain ⟨k, n, d, hk, rfl, hvr, heq, k0, k1, hbel⟩ := hrel
    have HVR := hide hvr
    have HEQ := hide heq
    have HB := hide hbel
    have K0 := hide k0
    have K1 := hide k1
    obtain ⟨vb1, vb2⟩ := validR_bd hvr
    have hlw := k1.lt
    clear hvr heq
    by_cases hlt : k < N
    · obtain ⟨b1, off1, rfl, hlb, hc1⟩ := (HA.out.below hbel) (by have := HN.out; omega)
      obtain ⟨q1, q2⟩ := hc1 k (by have := HN.out; omega)
      have hp := pairOk_bd (validT_pair HV.out k (by have := HN.out; omega))
      have HT := hide (trGo_step ps k (by have := HN.out; omega) n d)
      obtain ⟨x, hx⟩ : ∃ x, x = ps.getD k (0, 0) := ⟨_, rfl⟩
      rw [← hx] at q1 q2 hp HT
      obtain ⟨x1, x2⟩ := x
      simp only at q1 q2 hp HT
      clear hx hc1 HA hbel k0 k1
      have i0 : (0 : Int) ≤ (k : Int) := by omega
      have i1 : (k : Int) < (N : Int) := by omega
      have VS := hide (mk_small (a := -x1) (b := x2) (by omega) (by omega))
      obtain ⟨vs1, vs2⟩ := validR_bd VS.out
      go_upto_region 5 with fail
      have hw := IntWalk.i64_in (-x1) (by omega)
      go_cut [6, 7] from 11 to 41 (fun s6 s7 wx => Left2 wr (mkN (-x1) x2) (mkD (-x1) x2) s6 wx ∧ s7 = .bool (mkOk (-x1) x2))
      case first =>
        go_region_held3 (fun w' => w'.cell? ⟨b1, off1 + k * 2, none⟩ = some (.int .i64 x1) ∧ w'.cell? ⟨b1, off1 + k * 2 + 1, none⟩ = some (.int .i64 x2) ∧ Below wr.heap.size wr w')
          (first | exact ⟨q1, q2, (Below.refl _ _).drew⟩ | exact heldB_step (by assumption) hb | exact heldB_alloc (by assumption) _ | exact heldB_set (by assumption) hlb (by first | omega | (simp; done) | (simp; omega)) _ _)
          (first
            | (go_at_call 90; refine (l02Make_any (-x1) x2 _ (by omega) (by omega) (by omega)).mono ?_; rintro e w' ⟨rfl, hb⟩; (first | (with_reducible have kk := held_alloc hb) | (with_reducible have kk := held_alloc_drew hb) | (have kk := held_carry hb k0 k1 k2 k3) | skip); (try obtain ⟨k0, k1, k2, k3⟩ := kk); (try clear kk); (try simp at k0 k1 k2 k3); have h2 := heldB_step (p1 := ⟨b1, off1 + k * 2, none⟩) (p2 := ⟨b1, off1 + k * 2 + 1, none⟩) (a := .int .i64 x1) (b := .int .i64 x2) (w0 := wr) (by assumption) hb; have h5 := h2.2.2.size; (try simp at h5)))
        all_goals (go_wp2_with fail; go_meet; refine ⟨?_, rfl⟩; first | exact left2B_alloc h2 | exact left2B_set h2 k0 k1 (by first | omega | (simp; done) | (simp; omega)))
      case rest =>
        obtain ⟨⟨g, rfl, e0, e1, hb2⟩, rfl⟩ := hcut
        have hg := World.block_lt_of_cell? _ _ e0
        have C0 := hide (K0.out.below hb2)
        have C1' := K1.out.below hb2
        obtain ⟨f0, f1, f2, f3⟩ := C1'
        have HB2 := hide (bstep HB.out hb2)
        have CC := hide (show Cell2 wc w1.heap.size (.int .i64 n) (.int .i64 d) from ⟨f0, f1, f2, f3⟩)
        have m1 := mulB n (mkN (-x1) x2) vb1 vs1
        have m3 := mulB d (mkD (-x1) x2) (by omega) (by omega)
        clear hb2 q1 q2
        go_wp2_with fail
        refine (l02Mul_any n d (mkN (-x1) x2) (mkD (-x1) x2) _ vb1 vb2 vs1 vs2).mono ?_
        rintro e w3 ⟨rfl, hb3⟩
        have HB3 := hide (bstep HB2.out hb3)
        obtain ⟨f0', f1', f2', f3'⟩ := CC.out.below hb3
        have CC3 := hide (CC.out.below hb3)
        have C3 := hide (C0.out.below hb3)
        obtain ⟨z0, z1, z2, z3⟩ := C0.out.below hb3
        have hz := CC3.out.lt
        have hz0 := C3.out.lt
        clear hb3 f0 f1 f2 f3
        cases hok : mkOk (n * mkN (-x1) x2) (d * mkD (-x1) x2)
        · have HO := hide hok
          have e : R = (0, 0, false) := by rw [← HEQ.out, HT.out, HO.out]; rfl
          have HE := hide e
          clear e
          go_wp2_with fail
          rw [HE.out]
          refine bodyPost_ret (v := .tuple #[.agg #[.int .i64 0, .int .i64 0], .bool false]) (by simp [results, Try.results60, go_sem, z0, z1, z2, z3, hz0]) rfl ⟨rfl, ?_⟩
          repeat (first | exact HB3.out | refine balloc ?_ _ | refine bset ?_ (Nat.le_refl _) _)
        · have HO := hide hok
          have e : trGo (ps.drop (k + 1)) (mkN (n * mkN (-x1) x2) (d * mkD (-x1) x2)) (mkD (n * mkN (-x1) x2) (d * mkD (-x1) x2)) = R := by rw [← HEQ.out, HT.out, HO.out]; rfl
          have HE := hide e
          have HV3 := hide (mk_prod HVR.out VS.out hok)
          clear e
          go_wp2_with fail
          go_roundw
          case rel =>
            exact ⟨k + 1, _, _, by omega, by go_num, HV3.out, HE.out, (C3.out.other (Nat.ne_of_lt hlt1) _ _).alloc _, (CC3.out.set _ _).alloc _, balloc (bset (bset HB3.out (Nat.le_of_lt hlt1) _) (Nat.le_of_lt hlt1) _) _⟩
          case measure => simp [intOf]; omega
    · have e : k = N := by omega
      have e2 : R = (n, d, true) := by rw [← HEQ.out, e, HN.out, List.drop_length]; rfl
      have HE := hide e2
      obtain ⟨f0, f1, f2, f3⟩ := k1
      obtain ⟨z0, z1, z2, z3⟩ := k0
      have hz0 := K0.out.lt
      obtain ⟨y0, y1, y2, y3⟩ := K0.out.set (.int .i64 n) (.int .i64 d)
      clear hbel
      go_wp2_with fail
      rw [HE.out]
      refine bodyPost_ret (v := .tuple #[.agg #[.int .i64 n, .int .i64 d], .bool true]) (by simp [results, Try.results60, go_sem, z0, z1, z2, z3, y0, y1, hz0]) rfl ⟨rfl, ?_⟩
      repeat (first | exact HB.out | refine bset ?_ (Nat.le_refl _) _)
def codeT (ok : Bool) : Int := if ok then 0 else 2
theorem mul_valid {a b c d : Int} (h : validR a b = true) (h' : validR c d = true) : mulN a b c d = mkN (a * c) (b * d) ∧ mulD a b c d = mkD (a * c) (b * d) ∧ mulC a b c d = codeT (mkOk (a * c) (b * d)) := by
  obtain ⟨e1, e2, e3⟩ := mul_tt h h'
  obtain ⟨h1, h2⟩ := validR_bd h
  obtain ⟨h3, h4⟩ := validR_bd h'
  have hne := mulNe b d (by omega) (by omega)
  rw [e1, e2, e3]
  unfold mrN mrD mrC codeT
  rw [if_neg hne, if_neg hne, if_neg hne]
  exact ⟨rfl, rfl, rfl⟩
theorem mk_bad {n d : Int} (h : mkOk n d = false) : mkN n d = 0 ∧ mkD n d = 0 := by unfold mkN mkD; rw [h]; exact ⟨rfl, rfl⟩
theorem make_small {a b : Int} (ha : -1000 ≤ a ∧ a ≤ 1000) (hb : 1 ≤ b ∧ b ≤ 1000) : mrN a b = mkN a b ∧ mrD a b = mkD a b := by
  unfold mrN mrD
  rw [if_neg (by omega), if_neg (by omega)]
  exact ⟨rfl, rfl⟩
set_option maxHeartbeats 1000000 in
theorem trainRatio_any (ao : Option Addr) (ps : List (Int × Int)) (cap : Nat) (w : World) (h : ReadsP w ao ps) (hv : validT ps = true) :
    Calls Try.prog 61 #[.slice ao ps.length cap] w fun e w' => e = .returned (.tuple #[.agg #[.int .i64 (trGo ps 1 1).1, .int .i64 (trGo ps 1 1).2.1], .int .i64 (codeT (trGo ps 1 1).2.2)]) ∧ Below w.heap.size w w' := by
  have hn := validT_len hv
  have HV := hide hv
  clear hv
  obtain ⟨N, hn'⟩ : ∃ n, n = ps.length := ⟨_, rfl⟩
  obtain ⟨R, hR⟩ : ∃ R, R = trGo ps 1 1 := ⟨_, rfl⟩
  rw [← hn'] at hn ⊢
  rw [← hR]
  have HN := hide hn'
  have HA := hide h
  have HR := hide hR
  clear hn' h hR
  have c0 := cell2_new (w := w) (u := .int .i64 0) (v := .int .i64 0) 34
  have c1 := cell2_new (w := w.alloc (.cells #[.int .i64 0, .int .i64 0] 34)) (u := .int .i64 1) (v := .int .i64 1) 34
  rw [show (w.alloc (.cells #[.int .i64 0, .int .i64 0] 34)).heap.size = w.heap.size + 1 from by simp] at c1
  have C0 := hide (c0.alloc (.cells #[.int .i64 1, .int .i64 1] 34))
  have C1 := hide c1
  have B1 := hide (balloc (balloc (Below.refl w.heap.size w) (.cells #[.int .i64 0, .int .i64 0] 34)) (.cells #[.int .i64 1, .int .i64 1] 34))
  clear c0 c1
  go_enter Try.func61, Try.ntmps61
  go_wp2_with fail
  go_loopw [14] (fun i wr => ∃ (k : Nat) (n d : Int), k ≤ N ∧ i = .int .i64 k ∧ validR n d = true ∧ trGo (ps.drop k) n d = R ∧ Cell2 wr w.heap.size (.int .i64 0) (.int .i64 0) ∧ Cell2 wr (w.heap.size + 1) (.int .i64 n) (.int .i64 d) ∧ Below w.heap.size w wr) (fun i _ => N - (intOf i).toNat)
  case atStart => exact ⟨0, 1, 1, by omega, rfl, valid_one, by rw [HR.out]; rfl, C0.out, C1.out, B1.out⟩
  case round =>
    obtain ⟨k, n, d, hk, rfl, hvr, heq, k0, k1, hbel⟩ := hrel
    have HVR := hide hvr
    have HEQ := hide heq
    have HB := hide hbel
    have K0 := hide k0
    have K1 := hide k1
    obtain ⟨vb1, vb2⟩ := validR_bd hvr
    have hlw := k1.lt
    clear hvr heq
    by_cases hlt : k < N
    · obtain ⟨b1, off1, rfl, hlb, hc1⟩ := (HA.out.below hbel) (by have := HN.out; omega)
      obtain ⟨q1, q2⟩ := hc1 k (by have := HN.out; omega)
      have hp := pairOk_bd (validT_pair HV.out k (by have := HN.out; omega))
      have HT := hide (trGo_step ps k (by have := HN.out; omega) n d)
      obtain ⟨x, hx⟩ : ∃ x, x = ps.getD k (0, 0) := ⟨_, rfl⟩
      rw [← hx] at q1 q2 hp HT
      obtain ⟨x1, x2⟩ := x
      simp only at q1 q2 hp HT
      clear hx hc1 HA hbel k0 k1
      have VS := hide (mk_small (a := -x1) (b := x2) (by omega) (by omega))
      have ES := hide (make_small (a := -x1) (b := x2) (by omega) (by omega))
      obtain ⟨vs1, vs2⟩ := validR_bd VS.out
      have EM := hide (mul_valid HVR.out VS.out)
      go_wp2_with fail
      refine (implMakeRatio_any (-x1) x2 _ (by omega) (by omega)).mono ?_
      rintro e w2 ⟨rfl, hb2⟩
      rw [ES.out.1, ES.out.2]
      have HB2 := hide (bstep (balloc HB.out _) hb2)
      obtain ⟨f0, f1, f2, f3⟩ := (K1.out.alloc _).below hb2
      have CC := hide ((K1.out.alloc _).below hb2)
      have C0 := hide ((K0.out.alloc _).below hb2)
      clear hb2 q1 q2
      have hlc := CC.out.lt
      go_wp2_with fail
      refine (implMulRatio_any n d (mkN (-x1) x2) (mkD (-x1) x2) _).mono ?_
      rintro e w3 ⟨rfl, hb3⟩
      rw [EM.out.1, EM.out.2.1, EM.out.2.2]
      have HB3 := hide (bstep (balloc HB2.out _) hb3)
      obtain ⟨f0', f1', f2', f3'⟩ := (CC.out.alloc _).below hb3
      have CC3 := hide ((CC.out.alloc _).below hb3)
      have C3 := hide ((C0.out.alloc _).below hb3)
      obtain ⟨z0, z1, z2, z3⟩ := (C0.out.alloc _).below hb3
      have hz := CC3.out.lt
      have hz0 := C3.out.lt
      clear hb3 f0 f1 f2 f3
      cases hok : mkOk (n * mkN (-x1) x2) (d * mkD (-x1) x2)
      · have HO := hide hok
        have e : R = (0, 0, false) := by rw [← HEQ.out, HT.out, HO.out]; rfl
        have HE := hide e
        clear e
        have ec : codeT false = 2 := rfl
        rw [ec]
        go_wp2_with fail
        rw [HE.out]
        refine bodyPost_ret (v := .tuple #[.agg #[.int .i64 0, .int .i64 0], .int .i64 2]) (by simp [results, Try.results61, go_sem, z0, z1, z2, z3, hz0]) rfl ⟨rfl, ?_⟩
        repeat (first | exact HB3.out | refine balloc ?_ _ | refine bset ?_ (Nat.le_refl _) _)
      · have HO := hide hok
        have e : trGo (ps.drop (k + 1)) (mkN (n * mkN (-x1) x2) (d * mkD (-x1) x2)) (mkD (n * mkN (-x1) x2) (d * mkD (-x1) x2)) = R := by rw [← HEQ.out, HT.out, HO.out]; rfl
        have HE := hide e
        have HV3 := hide (mk_prod HVR.out VS.out hok)
        clear e
        have ec : codeT true = 0 := rfl
        rw [ec]
        go_wp2_with fail
        go_roundw
        case rel =>
          exact ⟨k + 1, _, _, by omega, by go_num, HV3.out, HE.out, (C3.out.other (by omega) _ _).alloc _, (CC3.out.set _ _).alloc _, balloc (bset (bset HB3.out (Nat.le_succ _) _) (Nat.le_succ _) _) _⟩
        case measure => simp [intOf]; omega
    · have e : k = N := by omega
      have e2 : R = (n, d, true) := by rw [← HEQ.out, e, HN.out, List.drop_length]; rfl
      have HE := hide e2
      obtain ⟨f0, f1, f2, f3⟩ := k1
      obtain ⟨z0, z1, z2, z3⟩ := k0
      have hz0 := K0.out.lt
      obtain ⟨y0, y1, y2, y3⟩ := K0.out.set (.int .i64 n) (.int .i64 d)
      clear hbel
      go_wp2_with fail
      rw [HE.out]
      refine bodyPost_ret (v := .tuple #[.agg #[.int .i64 n, .int .i64 d], .int .i64 0]) (by simp [results, Try.results61, go_sem, z0, z1, z2, z3, y0, y1, hz0]) rfl ⟨rfl, ?_⟩
      repeat (first | exact HB.out | refine bset ?_ (Nat.le_refl _) _)
end Go.Proofs.Ytnfllflifmijeaa
