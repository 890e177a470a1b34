/-
  Trains: eqPairS, ValidTrain, SameTrain: contracts and the walks of their laws.
-/
import Derived.Test.YtnlimfijepjliaaDoorPairsW
import Derived.Deep.RegionHeld3
namespace Go.Proofs.YtnlimfijepjliaaDoor
open Go.RowKit

/-- Four cells are as they were, and below w0's size nothing has turned. -/
def HeldA (p1 p2 p3 p4 : Addr) (a b c d : Value) (w0 w' : World) : Prop :=
  w'.cell? p1 = some a ∧ w'.cell? p2 = some b ∧ w'.cell? p3 = some c ∧ w'.cell? p4 = some d ∧ Below w0.heap.size w0 w'
theorem heldA_step {p1 p2 p3 p4 : Addr} {a b c d : Value} {w0 w1 w2 : World} (h : HeldA p1 p2 p3 p4 a b c d w0 w1) (hb : Below w1.heap.size w1 w2) : HeldA p1 p2 p3 p4 a b c d w0 w2 := by
  obtain ⟨h1, h2, h3, h4, h5⟩ := h
  exact ⟨(hb.cell (World.block_lt_of_cell? w1 _ h1)).trans h1, (hb.cell (World.block_lt_of_cell? w1 _ h2)).trans h2, (hb.cell (World.block_lt_of_cell? w1 _ h3)).trans h3, (hb.cell (World.block_lt_of_cell? w1 _ h4)).trans h4, bstep h5 hb⟩
def prEq (a b c d : Int) : Bool := decide ((a, b) = (c, d))
theorem eqPair_any (a b c d : Int) (w : World) : Calls Tryd.prog 64 #[.agg #[.int .i64 a, .int .i64 b], .agg #[.int .i64 c, .int .i64 d]] w fun e w' => e = .returned (.bool (prEq a b c d)) ∧ Below w.heap.size w w' := by
  by_cases h1 : a = c
  · subst h1
    have g1 : (a != a) = false := by simp
    by_cases h2 : b = d
    · subst h2
      have g2 : (b != b) = false := by simp
      go_enter Tryd.func64, Tryd.ntmps64
      go_wp2
      go_ret
      exact ⟨by simp [prEq], (by repeat (first | exact Below.refl _ _ | refine balloc ?_ _))⟩
    · have g2 : (b != d) = true := by simpa using h2
      have H := hide h2
      clear h2
      go_enter Tryd.func64, Tryd.ntmps64
      go_wp2
      go_ret
      exact ⟨by simp [prEq, H.out], (by repeat (first | exact Below.refl _ _ | refine balloc ?_ _))⟩
  · have g1 : (a != c) = true := by simpa using h1
    have H := hide h1
    clear h1
    go_enter Tryd.func64, Tryd.ntmps64
    go_wp2
    go_ret
    exact ⟨by simp [prEq, H.out], (by repeat (first | exact Below.refl _ _ | refine balloc ?_ _))⟩
set_option maxHeartbeats 1000000 in
theorem eqPairS_any (ao bo : Option Addr) (ps qs : List (Int × Int)) (ca cb : Nat) (w : World) (ha : ReadsP w ao ps) (hb : ReadsP w bo qs) (hn : ps.length ≤ 1048576) (hm : qs.length ≤ 1048576) :
    Calls Tryd.prog 29 #[.slice ao ps.length ca, .slice bo qs.length cb] w fun e w' => e = .returned (.bool (decide (ps = qs))) ∧ Below w.heap.size w w' := by
  obtain ⟨n, hn'⟩ : ∃ n, n = ps.length := ⟨_, rfl⟩
  obtain ⟨m, hm'⟩ : ∃ m, m = qs.length := ⟨_, rfl⟩
  rw [← hn'] at hn ⊢
  rw [← hm'] at hm ⊢
  by_cases hl : n = m
  · have HL := hide (show ps.length = qs.length by omega)
    have HN := hide hn'
    have hne : ((n : Int) != (m : Int)) = false := by simp; omega
    have hle : n ≤ m := by omega
    clear hn' hm' hl
    have HA := hide ha
    have HB := hide hb
    clear ha hb
    go_enter Tryd.func29, Tryd.ntmps29
    go_wp2
    have HNE := hide hne
    clear hne
    go_loopw [5] (fun i wr => ∃ k : Nat, k ≤ n ∧ (∀ j, j < k → ps.getD j (0, 0) = qs.getD j (0, 0)) ∧ i = .int .i64 k ∧ Below w.heap.size w wr) (fun i _ => n - (intOf i).toNat)
    case atStart => exact ⟨0, by omega, by omega, rfl, Below.refl _ _⟩
    case round =>
      obtain ⟨k, hk, hall, rfl, hbel⟩ := hrel
      have HAL := hide hall
      have HBL := hide hbel
      clear hall
      by_cases hlt : k < n
      · obtain ⟨b1, off1, rfl, _, hc1⟩ := (HA.out.below hbel) (by have := HN.out; omega)
        obtain ⟨b2, off2, rfl, _, hc2⟩ := (HB.out.below hbel) (by have := HN.out; have := HL.out; omega)
        obtain ⟨q1, q2⟩ := hc1 k (by have := HN.out; omega)
        obtain ⟨q3, q4⟩ := hc2 k (by have := HN.out; have := HL.out; omega)
        obtain ⟨x, hx⟩ : ∃ x, x = ps.getD k (0, 0) := ⟨_, rfl⟩
        obtain ⟨y, hy⟩ : ∃ y, y = qs.getD k (0, 0) := ⟨_, rfl⟩
        rw [← hx] at q1 q2
        rw [← hy] at q3 q4
        have HX := hide hx
        have HY := hide hy
        obtain ⟨x1, x2⟩ := x
        obtain ⟨y1, y2⟩ := y
        simp only at q1 q2 q3 q4
        clear hx hy hc1 hc2 HA HB hbel
        have i0 : (0 : Int) ≤ (k : Int) := by omega
        have i1 : (k : Int) < (n : Int) := by omega
        have i2 : (k : Int) < (m : Int) := by omega
        by_cases hxy : (x1, x2) = (y1, y2)
        · have hd : prEq x1 x2 y1 y2 = true := decide_eq_true hxy
          have HXY := hide hxy
          clear hxy
          go_wp2_with fail
          go_region_held3 (fun w' => w'.cell? ⟨b1, off1 + k * 2, none⟩ = some (.int .i64 x1) ∧ w'.cell? ⟨b1, off1 + k * 2 + 1, none⟩ = some (.int .i64 x2) ∧ w'.cell? ⟨b2, off2 + k * 2, none⟩ = some (.int .i64 y1) ∧ w'.cell? ⟨b2, off2 + k * 2 + 1, none⟩ = some (.int .i64 y2) ∧ Below wr.heap.size wr w')
            (first | exact ⟨q1, q2, q3, q4, (Below.refl _ _).drew⟩ | exact heldA_step (by assumption) hb)
            (first
              | (go_at_call 64; refine (eqPair_any _ _ _ _ _).mono ?_; rintro e w' ⟨rfl, hb⟩; have h2 := heldA_step (p1 := ⟨b1, off1 + k * 2, none⟩) (p2 := ⟨b1, off1 + k * 2 + 1, none⟩) (p3 := ⟨b2, off2 + k * 2, none⟩) (p4 := ⟨b2, off2 + k * 2 + 1, none⟩) (a := .int .i64 x1) (b := .int .i64 x2) (c := .int .i64 y1) (d := .int .i64 y2) (w0 := wr) (by assumption) hb))
          go_wp2_with fail
          go_roundw
          case rel =>
            refine ⟨k + 1, by omega, fun j hj => ?_, by go_num, bstep HBL.out h2.2.2.2.2⟩
            rcases Nat.lt_succ_iff_lt_or_eq.1 hj with h1 | rfl
            · exact HAL.out j h1
            · rw [← HX.out, ← HY.out]; exact HXY.out
          case measure => simp [intOf]; omega
        · have hd : prEq x1 x2 y1 y2 = false := decide_eq_false hxy
          have HXY := hide hxy
          clear hxy
          go_wp2_with fail
          go_region_held3 (fun w' => w'.cell? ⟨b1, off1 + k * 2, none⟩ = some (.int .i64 x1) ∧ w'.cell? ⟨b1, off1 + k * 2 + 1, none⟩ = some (.int .i64 x2) ∧ w'.cell? ⟨b2, off2 + k * 2, none⟩ = some (.int .i64 y1) ∧ w'.cell? ⟨b2, off2 + k * 2 + 1, none⟩ = some (.int .i64 y2) ∧ Below wr.heap.size wr w')
            (first | exact ⟨q1, q2, q3, q4, (Below.refl _ _).drew⟩ | exact heldA_step (by assumption) hb)
            (first
              | (go_at_call 64; refine (eqPair_any _ _ _ _ _).mono ?_; rintro e w' ⟨rfl, hb⟩; have h2 := heldA_step (p1 := ⟨b1, off1 + k * 2, none⟩) (p2 := ⟨b1, off1 + k * 2 + 1, none⟩) (p3 := ⟨b2, off2 + k * 2, none⟩) (p4 := ⟨b2, off2 + k * 2 + 1, none⟩) (a := .int .i64 x1) (b := .int .i64 x2) (c := .int .i64 y1) (d := .int .i64 y2) (w0 := wr) (by assumption) hb))
          go_wp2_with fail
          go_ret
          exact ⟨ret_bool (decide_eq_false (fun e => HXY.out (by rw [HX.out, HY.out, e]))).symm, bstep HBL.out h2.2.2.2.2⟩
      · go_wp2
        go_ret
        refine ⟨ret_bool (decide_eq_true ?_).symm, HBL.out⟩
        apply List.ext_getElem HL.out
        intro j h1 h2
        have := HAL.out j (by have := HN.out; omega)
        simpa [List.getD_eq_getElem?_getD, List.getElem?_eq_getElem h1, List.getElem?_eq_getElem h2] using this
  · have hne : ((n : Int) != (m : Int)) = true := by simp; omega
    have HL := hide (show ps.length ≠ qs.length by omega)
    clear hl hn' hm' ha hb
    go_enter Tryd.func29, Tryd.ntmps29
    go_wp2
    go_ret
    exact ⟨ret_bool (decide_eq_false (fun e => HL.out (by rw [e]))).symm, Below.refl _ _⟩
end Go.Proofs.YtnlimfijepjliaaDoor
