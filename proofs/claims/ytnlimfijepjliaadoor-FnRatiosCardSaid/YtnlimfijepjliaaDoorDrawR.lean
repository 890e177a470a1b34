/-
  Drawn ratios: contracts.
-/
import Derived.Test.YtnlimfijepjliaaDoorSrc
import Derived.Test.YtnlimfijepjliaaDoorRatioX
namespace Go.Proofs.YtnlimfijepjliaaDoor
open Go.RowKit

theorem Cell2.grown' {w w' : World} {g : Nat} {u v : Value} {row : Option Nat} (h : Cell2 w g u v) (hg : w.grownBy w' row) (hne : some g ≠ row) : Cell2 w' g u v := by
  obtain ⟨k0, k1, k2, k3⟩ := h
  have hlt : g < w.heap.size := World.block_lt_of_cell? w _ k0
  have hb := hg.block g hlt hne
  exact ⟨(World.cell?_of_block (a := ⟨g, 0, none⟩) hb).trans k0, (World.cell?_of_block (a := ⟨g, 1, none⟩) hb).trans k1, (World.frozen?_of_block (a := ⟨g, 0, none⟩) hb).trans k2, (World.frozen?_of_block (a := ⟨g, 1, none⟩) hb).trans k3⟩
theorem gal {w w' : World} {r : Option Nat} (h : w.grownBy w' r) (o : Obj) : w.grownBy (w'.alloc o) r := gtr h (World.grownBy_alloc w' o r)
theorem gbl {w w1 w2 : World} {r : Option Nat} (h : w.grownBy w1 r) (hb : Below w1.heap.size w1 w2) : w.grownBy w2 r := gtr h ⟨hb.os, hb.tape, hb.output, hb.size, fun i hi _ => hb.block i hi⟩
theorem SrcS.lt {w : World} {g : Nat} {ao : Option Addr} {n cap : Nat} {K : Int} (h : SrcS w g ao n cap K) : g < w.heap.size := by
  obtain ⟨⟨a, s, _, _, c0, _⟩, _⟩ := h
  exact World.block_lt_of_cell? w _ c0
theorem SrcS.alloc {w : World} {g : Nat} {ao : Option Addr} {n cap : Nat} {K : Int} (h : SrcS w g ao n cap K) (o : Obj) : SrcS (w.alloc o) g ao n cap K := h.below (balloc (Below.refl _ _) o)
theorem mk_big {a b : Int} (ha : -1000000000 ≤ a ∧ a ≤ 1000000000) (hb : 1 ≤ b ∧ b ≤ 1000000000) : validR (mkN a b) (mkD a b) = true := by
  have h1 : qN a b ≤ absI a := Int.ediv_le_self _ (absI_nonneg a)
  have h2 : qD a b ≤ absI b := Int.ediv_le_self _ (absI_nonneg b)
  have h3 : absI a ≤ 1000000000 := by unfold absI; omega
  have h4 : absI b ≤ 1000000000 := by unfold absI; omega
  exact mk_valid (by omega) (by omega) (by omega) (by unfold mkOk; rw [decide_eq_true (by omega), decide_eq_true (by omega)]; rfl)
theorem among_lit (g : Nat) (ao : Option Addr) (n cap : Nat) (K : Int) (vs : List Int) (t : TypeId) (w : World) (h : SrcS w g ao n cap K) (hn : n ≤ 1000000000000) (hK : K ≤ 1000000000) (hl : 1 < vs.length ∧ vs.length ≤ 1000) :
    Calls Tryd.prog 95 #[.pointer (some ⟨g, 0, none⟩), .slice (some ⟨w.heap.size, 0, none⟩) vs.length vs.length] (w.alloc (.cells (vs.map (Value.int .i64)).toArray t)) fun e w' => ∃ v : Int, e = .returned (.int .i64 v) ∧ v ∈ vs ∧ SrcS w' g ao n cap (K + 2) ∧ w.grownBy w' (some g) := by
  have hlt := h.lt
  refine (among_any g ao n cap K w.heap.size vs vs.length _ (h.alloc _) hn hK hl (fun j hj => ?_) (by omega) (by simp)).mono ?_
  · rw [World.cell?_alloc_at _ _ _ _ rfl]
    simp [List.getElem?_map, List.getElem?_eq_getElem hj]
  · rintro e w' ⟨v, rfl, hv, hS, hg⟩
    exact ⟨v, rfl, hv, hS, gtr (World.grownBy_alloc w _ _) hg⟩
theorem draw_end {w w' : World} {g g' : Nat} {ao : Option Addr} {n cap : Nat} {K0 K : Int} (h0 : SrcS w g ao n cap K0) (h : SrcS w' g ao n cap K) (hg : w.grownBy w' (some g)) (hge : w.heap.size ≤ g') (hne : g ≠ g') (p q : Value) (o : Obj) :
    SrcS (((w'.setCell ⟨g', 0, none⟩ p).setCell ⟨g', 1, none⟩ q).alloc o) g ao n cap K ∧ w.grownBy (((w'.setCell ⟨g', 0, none⟩ p).setCell ⟨g', 1, none⟩ q).alloc o) (some g) := by
  have hG : w.grownBy ((w'.setCell ⟨g', 0, none⟩ p).setCell ⟨g', 1, none⟩ q) (some g) := by
    have e1 := gsc w' g' 0 p
    have e2 := gsc (w'.setCell ⟨g', 0, none⟩ p) g' 1 q
    refine ⟨e2.os.trans (e1.os.trans hg.os), e2.tape.trans (e1.tape.trans hg.tape), e2.output.trans (e1.output.trans hg.output), Nat.le_trans hg.size (Nat.le_trans e1.size e2.size), fun i hi hn => ?_⟩
    have hii : i ≠ g' := by omega
    rw [e2.block i (Nat.lt_of_lt_of_le hi (Nat.le_trans hg.size e1.size)) (by simpa using hii), e1.block i (Nat.lt_of_lt_of_le hi hg.size) (by simpa using hii)]
    exact hg.block i hi hn
  refine ⟨SrcS.alloc ⟨?_, h0.2.1.grown hG (fun hp x hx => by have := h0.2.2 hp x hx; simpa using this), h0.2.2⟩ o, gal hG o⟩
  obtain ⟨a, s, h1, h2, c0, c1, c2, f1, f2⟩ := h.1
  refine ⟨a, s, h1, h2, ?_, ?_, ?_, by simpa [go_sem] using f1, by simpa [go_sem] using f2⟩
  · rw [World.cell?_setCell_other _ _ _ _ (fun e => by cases e <;> exact hne rfl), World.cell?_setCell_other _ _ _ _ (fun e => by cases e <;> exact hne rfl)]; exact c0
  · rw [World.cell?_setCell_other _ _ _ _ (fun e => by cases e <;> exact hne rfl), World.cell?_setCell_other _ _ _ _ (fun e => by cases e <;> exact hne rfl)]; exact c1
  · rw [World.cell?_setCell_other _ _ _ _ (fun e => by cases e <;> exact hne rfl), World.cell?_setCell_other _ _ _ _ (fun e => by cases e <;> exact hne rfl)]; exact c2
set_option maxHeartbeats 1000000 in
theorem l02Draw_any (g : Nat) (ao : Option Addr) (n cap : Nat) (K : Int) (w : World) (h : SrcS w g ao n cap K) (hn : n ≤ 1000000000000) (hK : K ≤ 1000000) :
    Calls Tryd.prog 71 #[.pointer (some ⟨g, 0, none⟩)] w fun e w' => ∃ x y : Int, e = .returned (.agg #[.int .i64 x, .int .i64 y]) ∧ validR x y = true ∧ SrcS w' g ao n cap (K + 8) ∧ w.grownBy w' (some g) := by
  have hlt := h.lt
  have HS := hide (h.alloc (.cells #[.int .i64 0, .int .i64 0] 27))
  have H0 := hide h
  have C0 := hide (cell2_new (w := w) (u := .int .i64 0) (v := .int .i64 0) 27)
  have G0 := hide (World.grownBy_alloc w (.cells #[.int .i64 0, .int .i64 0] 27) (some g))
  have hne : some w.heap.size ≠ some g := by simp; omega
  have hneg : g ≠ w.heap.size := by omega
  clear h
  go_enter Tryd.func71, Tryd.ntmps71
  go_wp2_with fail
  refine (pick_any g ao n cap K 100 _ HS.out hn (by omega) (by omega)).mono ?_
  rintro e w1 ⟨v, rfl, ⟨v0, v1⟩, hS1, hg1⟩
  have HS1 := hide hS1
  have C1 := hide (C0.out.grown' hg1 hne)
  have G1 := hide (gtr G0.out hg1)
  clear hS1 hg1
  go_wp2_with fail
  refine (pick_any g ao n cap (K + 2) 30 _ HS1.out hn (by omega) (by omega)).mono ?_
  rintro e w2 ⟨u, rfl, ⟨u0, u1⟩, hS2, hg2⟩
  have HS2 := hide hS2
  have C2 := hide (C1.out.grown' hg2 hne)
  have G2 := hide (gtr G1.out hg2)
  clear hS2 hg2
  go_wp2_with fail
  refine (pick_any g ao n cap (K + 2 + 2) 8 _ HS2.out hn (by omega) (by omega)).mono ?_
  rintro e w3 ⟨t, rfl, ⟨t0, t1⟩, hS3, hg3⟩
  have HS3 := hide hS3
  have C3 := hide (C2.out.grown' hg3 hne)
  have G3 := hide (gtr G2.out hg3)
  clear hS3 hg3
  by_cases ht0 : t = 0
  · subst ht0
    go_wp2_with fail
    refine (among_lit g ao n cap (K + 2 + 2 + 2) [1000000000, -1000000000, 999999937, 0, 1461, 29530589] 2 w3 HS3.out hn (by omega) (by decide)).mono ?_
    rintro e w4 ⟨x, rfl, hx, hS4, hg4⟩
    have hx' : -1000000000 ≤ x ∧ x ≤ 1000000000 := by simp at hx; omega
    have HS4 := hide hS4
    have C4 := hide (C3.out.grown' hg4 hne)
    have G4 := hide (gtr G3.out hg4)
    clear hS4 hg4 hx
    go_wp2_with fail
    have VV := hide (mk_big (a := x) (b := 1 + u) (by omega) (by omega))
    refine (l02Make_any (x) (1 + u) _ (by omega) (by omega) (by omega)).mono ?_
    rintro e w5 ⟨rfl, hb5⟩
    have hz := (C4.out.below hb5).lt
    obtain ⟨z0, z1, z2, z3⟩ := C4.out.below hb5
    have FIN := hide (draw_end H0.out (HS4.out.below hb5) (gbl G4.out hb5) (Nat.le_refl _) hneg (.int .i64 (mkN (x) (1 + u))) (.int .i64 (mkD (x) (1 + u))) (.cells #[.int .i64 (mkN (x) (1 + u)), .int .i64 (mkD (x) (1 + u))] 27))
    clear hb5
    go_wp2_with fail
    refine bodyPost_ret (v := .agg #[.int .i64 (mkN (x) (1 + u)), .int .i64 (mkD (x) (1 + u))]) (by simp [results, Tryd.results71, go_sem, z0, z1, z2, z3, hz]) rfl ⟨_, _, rfl, VV.out, FIN.out.1.mono (by omega), FIN.out.2⟩
  · by_cases ht1 : t = 1
    · subst ht1
      go_wp2_with fail
      refine (among_lit g ao n cap (K + 2 + 2 + 2) [1000000000, 999999937, 4, 1000000] 2 w3 HS3.out hn (by omega) (by decide)).mono ?_
      rintro e w4 ⟨x, rfl, hx, hS4, hg4⟩
      have hx' : 1 ≤ x ∧ x ≤ 1000000000 := by simp at hx; omega
      have HS4 := hide hS4
      have C4 := hide (C3.out.grown' hg4 hne)
      have G4 := hide (gtr G3.out hg4)
      clear hS4 hg4 hx
      go_wp2_with fail
      have VV := hide (mk_big (a := v - 40) (b := x) (by omega) (by omega))
      refine (l02Make_any (v - 40) (x) _ (by omega) (by omega) (by omega)).mono ?_
      rintro e w5 ⟨rfl, hb5⟩
      have hz := (C4.out.below hb5).lt
      obtain ⟨z0, z1, z2, z3⟩ := C4.out.below hb5
      have FIN := hide (draw_end H0.out (HS4.out.below hb5) (gbl G4.out hb5) (Nat.le_refl _) hneg (.int .i64 (mkN (v - 40) (x))) (.int .i64 (mkD (v - 40) (x))) (.cells #[.int .i64 (mkN (v - 40) (x)), .int .i64 (mkD (v - 40) (x))] 27))
      clear hb5
      go_wp2_with fail
      refine bodyPost_ret (v := .agg #[.int .i64 (mkN (v - 40) (x)), .int .i64 (mkD (v - 40) (x))]) (by simp [results, Tryd.results71, go_sem, z0, z1, z2, z3, hz]) rfl ⟨_, _, rfl, VV.out, FIN.out.1.mono (by omega), FIN.out.2⟩
    · have n0 : (t == 0) = false := by simpa using ht0
      have n1 : (t == 1) = false := by simpa using ht1
      go_wp2_with fail
      have VV := hide (mk_big (a := v - 40) (b := 1 + u) (by omega) (by omega))
      refine (l02Make_any (v - 40) (1 + u) _ (by omega) (by omega) (by omega)).mono ?_
      rintro e w5 ⟨rfl, hb5⟩
      have hz := (C3.out.below hb5).lt
      obtain ⟨z0, z1, z2, z3⟩ := C3.out.below hb5
      have FIN := hide (draw_end H0.out (HS3.out.below hb5) (gbl G3.out hb5) (Nat.le_refl _) hneg (.int .i64 (mkN (v - 40) (1 + u))) (.int .i64 (mkD (v - 40) (1 + u))) (.cells #[.int .i64 (mkN (v - 40) (1 + u)), .int .i64 (mkD (v - 40) (1 + u))] 27))
      clear hb5
      go_wp2_with fail
      refine bodyPost_ret (v := .agg #[.int .i64 (mkN (v - 40) (1 + u)), .int .i64 (mkD (v - 40) (1 + u))]) (by simp [results, Tryd.results71, go_sem, z0, z1, z2, z3, hz]) rfl ⟨_, _, rfl, VV.out, FIN.out.1.mono (by omega), FIN.out.2⟩
end Go.Proofs.YtnlimfijepjliaaDoor
