/-
  The drawn ratios of a law: contracts of l00From, A2Ratios, a2Long, a2At.
-/
import Derived.Test.YtnlimfijepjliaaDoorDrawR
import Derived.Deep.RegionWith
import Derived.Test.YtnlimfijepjliaaDoorInRows
namespace Go.Proofs.YtnlimfijepjliaaDoor
open Go.RowKit

theorem l00From_any (ao : Option Addr) (n cap : Nat) (w : World) (hb : BytesR w ao n) :
    Calls Tryd.prog 70 #[.slice ao n cap] w fun e w' => e = .returned (.pointer (some ⟨w.heap.size, 0, none⟩)) ∧ SrcS w' w.heap.size ao n cap 0 ∧ Below w.heap.size w w' := by
  go_enter Tryd.func70, Tryd.ntmps70
  go_wp2_with fail
  go_ret
  refine ⟨rfl, ⟨⟨0, 0, by omega, by omega, ?_, ?_, ?_, ?_, ?_⟩, ?_, fun hp x hx => by
    obtain ⟨b, off, e, hl, _⟩ := hb hp
    rw [hx] at e
    cases e
    show b ≠ w.heap.size
    omega⟩, balloc (Below.refl _ _) _⟩
  · simp [go_sem]
  · simp [go_sem]
  · simp [go_sem]
  · simp [go_sem]
  · simp [go_sem]
  · exact fun hp => by
      obtain ⟨b, off, e, hl, hc⟩ := hb hp
      refine ⟨b, off, e, by simp; omega, fun j hj => ?_⟩
      obtain ⟨v, hv, h0⟩ := hc j hj
      exact ⟨v, ((balloc (Below.refl w.heap.size w) _).cell (p := ⟨b, off + j, none⟩) hl).trans hv, h0⟩
theorem pair_cells {w : World} (a b c d : Value) (t u : TypeId) : Cell2 ((w.alloc (.cells #[a, b] t)).alloc (.cells #[c, d] u)) w.heap.size a b ∧ Cell2 ((w.alloc (.cells #[a, b] t)).alloc (.cells #[c, d] u)) (w.heap.size + 1) c d := by
  refine ⟨⟨?_, ?_, ?_, ?_⟩, ⟨?_, ?_, ?_, ?_⟩⟩ <;> simp [go_sem, World.cell?_alloc_past]
/-- A row of bytes that came in. -/
theorem row_bytes {w : World} {a : Option Addr} {len cap : Nat} {zs : List Int} (h : IsRow .u8 w a len cap zs) : BytesR w a len ∧ len ≤ maxLen := by
  rcases h with ⟨rfl, rfl, rfl, rfl⟩ | ⟨x, rfl, hl, hm, hz, hc, hw⟩
  · exact ⟨fun hp => absurd hp (by omega), Nat.zero_le _⟩
  · refine ⟨fun hp => ?_, by omega⟩
    obtain ⟨b, off, spot⟩ := x
    have h0 := hc 0 (by omega)
    have hspot : spot = none := by simpa [Addr.add] using World.cell?_spot h0
    subst hspot
    have hadd : ∀ n, (⟨b, off, none⟩ : Addr).add n = ⟨b, off + n, none⟩ := fun n => by unfold Addr.add; split <;> simp_all
    refine ⟨b, off, rfl, ?_, fun j hj => ?_⟩
    · have := World.block_lt_of_cell? w _ h0
      rw [hadd] at this
      exact this
    · have h1 := hc j (by omega)
      rw [hadd] at h1
      refine ⟨_, h1, ?_⟩
      have h2 := hw (zs.getD j 0) (by
        rw [List.getD_eq_getElem?_getD, List.getElem?_eq_getElem (by omega)]
        exact List.getElem_mem _)
      exact bounds_u8 h2
def longB (n m : Nat) : Bool := decide (3000 < n) || decide (3000 < m)
theorem a2Long_any (a b : Option Addr) (n m c d : Nat) (w : World) (hn : n ≤ maxLen) (hm : m ≤ maxLen) :
    Calls Tryd.prog 35 #[.slice a n c, .slice b m d] w fun e w' => e = .returned (.bool (longB n m)) ∧ w = w' := by
  unfold maxLen at hn hm
  by_cases h1 : 3000 < n
  · have e : longB n m = true := by unfold longB; rw [decide_eq_true h1]; rfl
    rw [e]
    clear e
    go_enter Tryd.func35, Tryd.ntmps35
    go_wp2
    go_ret
    exact ⟨by simp, rfl⟩
  · by_cases h2 : 3000 < m
    · have e : longB n m = true := by unfold longB; rw [decide_eq_true h2, decide_eq_false h1]; rfl
      rw [e]
      clear e
      go_enter Tryd.func35, Tryd.ntmps35
      go_wp2
      go_ret
      exact ⟨by simp; omega, rfl⟩
    · have e : longB n m = false := by unfold longB; rw [decide_eq_false h2, decide_eq_false h1]; rfl
      rw [e]
      clear e
      go_enter Tryd.func35, Tryd.ntmps35
      go_wp2
      go_ret
      exact ⟨by simp; omega, rfl⟩
theorem grown_of_below' {a w : World} (h : Below a.heap.size a w) (row : Option Nat) : a.grownBy w row := ⟨h.os, h.tape, h.output, h.size, fun i hi _ => h.block i hi⟩
def A2Post (w : World) (e : Ending) (w' : World) : Prop := ∃ x y x' y' : Int, e = .returned (.tuple #[.agg #[.int .i64 x, .int .i64 y], .agg #[.int .i64 x', .int .i64 y']]) ∧ validR x y = true ∧ validR x' y' = true ∧ Below w.heap.size w w'
set_option maxHeartbeats 1000000 in
theorem a2Ratios_any (ao : Option Addr) (n cap : Nat) (w : World) (hb : BytesR w ao n) (hn : n ≤ 1000000000000) :
    Calls Tryd.prog 36 #[.slice ao n cap] w (A2Post w) := by
  have c2 := (cell2_new (w := w) (u := .int .i64 0) (v := .int .i64 0) 27).alloc (.cells #[.int .i64 0, .int .i64 0] 27)
  have c3 := cell2_new (w := w.alloc (.cells #[.int .i64 0, .int .i64 0] 27)) (u := .int .i64 0) (v := .int .i64 0) 27
  rw [show (w.alloc (.cells #[.int .i64 0, .int .i64 0] 27)).heap.size = w.heap.size + 1 from by simp] at c3
  have B0 := hide (balloc (balloc (Below.refl w.heap.size w) (.cells #[.int .i64 0, .int .i64 0] 27)) (.cells #[.int .i64 0, .int .i64 0] 27))
  have C2 := hide c2
  have C3 := hide c3
  have HB := hide (hb.grown (grown_of_below' B0.out none) (fun _ _ _ => by simp))
  clear c2 c3 hb
  go_enter Tryd.func36, Tryd.ntmps36
  go_wp2_with fail
  refine (l00From_any ao n cap _ HB.out).mono ?_
  rintro e w1 ⟨rfl, hS1, hb1⟩
  have D2 := hide (C2.out.below hb1)
  have D3 := hide (C3.out.below hb1)
  have B1 := hide (bstep B0.out hb1)
  have HS1 := hide hS1
  obtain ⟨g, hg⟩ : ∃ g, g = ((w.alloc (.cells #[.int .i64 0, .int .i64 0] 27)).alloc (.cells #[.int .i64 0, .int .i64 0] 27)).heap.size := ⟨_, rfl⟩
  rw [← hg] at HS1 ⊢
  have hg2 : w.heap.size + 1 < g := by rw [hg]; simp
  clear hb1 hS1 hg
  go_wp2_with fail
  refine (l02Draw_any g ao n cap 0 _ HS1.out hn (by omega)).mono ?_
  rintro e w2 ⟨x, y, rfl, hv, hS2, hgr2⟩
  have E2 := hide ((D2.out.grown' hgr2 (by simp; omega)).alloc (.cells #[.int .i64 x, .int .i64 y] 27))
  have E3 := hide ((D3.out.grown' hgr2 (by simp; omega)).alloc (.cells #[.int .i64 x, .int .i64 y] 27))
  have HV := hide hv
  have B2 := hide (balloc (B1.out.grown hgr2 B1.out.size (fun j hj => by simp at hj; omega)) (.cells #[.int .i64 x, .int .i64 y] 27))
  have HS2 := hide (hS2.alloc (.cells #[.int .i64 x, .int .i64 y] 27))
  have Q5 := hide (cell2_new (w := w2) (u := .int .i64 x) (v := .int .i64 y) 27)
  have n1 : g < w2.heap.size := hS2.lt
  clear hv hS2 hgr2
  go_wp2_with fail
  obtain ⟨wz, hwz⟩ : ∃ wz, wz = w2.alloc (.cells #[.int .i64 x, .int .i64 y] 27) := ⟨_, rfl⟩
  obtain ⟨g5, hg5⟩ : ∃ g5, g5 = w2.heap.size := ⟨_, rfl⟩
  rw [← hwz] at E2 E3 B2 HS2 Q5 ⊢
  rw [← hg5] at Q5 n1 ⊢
  clear hwz hg5
  obtain ⟨k0, k1, k2, k3⟩ := Q5.out
  have HDR := hide (fun w' (h : SrcS w' g ao n cap (0 + 8)) => l02Draw_any g ao n cap _ w' h hn (by omega))
  have HSD := hide (HS2.out.below (Below.refl wz.heap.size wz).drew)
  have D5 := hide (Q5.out.below (Below.refl wz.heap.size wz).drew)
  have F2 := hide (E2.out.below (Below.refl wz.heap.size wz).drew)
  have F3 := hide (E3.out.below (Below.refl wz.heap.size wz).drew)
  have hne5 : some g5 ≠ some g := by simp; omega
  have hne2 : some w.heap.size ≠ some g := by simp; omega
  have hne3 : some (w.heap.size + 1) ≠ some g := by simp; omega
  have HNE := hide (And.intro hne5 (And.intro hne2 hne3))
  have l2 : ¬ g5 = w.heap.size := by have := E2.out.lt; omega
  have l3 : ¬ g5 = w.heap.size + 1 := by omega
  clear hne5 hne2 hne3
  go_region_with ((refine (HDR.out _ HSD.out).mono ?_; rintro e w' ⟨x', y', rfl, hv', hS', hgr⟩; have HV' := hide hv'; have B3 := hide (B2.out.drew.grown hgr B2.out.size (fun j hj => by simp at hj; omega)); obtain ⟨z0, z1, z2, z3⟩ := F2.out.grown' hgr HNE.out.2.1; obtain ⟨z4, z5, z6, z7⟩ := F3.out.grown' hgr HNE.out.2.2; obtain ⟨z8, z9, z10, z11⟩ := D5.out.grown' hgr HNE.out.1; clear hv' hS' hgr))
  all_goals
    go_wp2_with fail
    refine bodyPost_ret (v := .tuple #[.agg #[.int .i64 x, .int .i64 y], .agg #[.int .i64 x', .int .i64 y']]) (by simp [results, Tryd.results36, go_sem, z0, z1, z4, z5]) rfl ⟨x, y, x', y', rfl, HV.out, HV'.out, ?_⟩
    exact bset (bset (bset (bset B3.out (Nat.le_refl _) _) (Nat.le_refl _) _) (Nat.le_succ _) _) (Nat.le_succ _) _
end Go.Proofs.YtnlimfijepjliaaDoor
