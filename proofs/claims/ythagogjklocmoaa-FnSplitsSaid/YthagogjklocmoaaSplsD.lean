/-
  Splits of a number out of its divisors: plain facts, and the contract of the reference's list of splits.
-/
import Derived.Test.YthagogjklocmoaaDivQ
import Derived.Test.YthagogjklocmoaaFindM
namespace Go.Proofs.Ythagogjklocmoaa
open Go.RowKit

theorem rise_of {D : List Int} (h : D.Pairwise (· < ·)) (h1 : ∀ x ∈ D, 1 ≤ x ∧ x ≤ 1000000000) : Rise D := by
  have e : ∀ j (hj : j < D.length), D.getD j 0 = D[j] := fun j hj => by rw [List.getD_eq_getElem?_getD, List.getElem?_eq_getElem hj]; rfl
  refine ⟨fun j hj => by rw [e j hj]; exact h1 _ (List.getElem_mem hj), fun i j hij hj => ?_⟩
  rw [e j hj, e i (by omega)]
  rcases Nat.lt_or_ge i j with s | s
  · exact Int.le_of_lt (List.pairwise_iff_getElem.mp h i j (by omega) hj s)
  · obtain rfl : i = j := by omega
    exact Int.le_refl _
theorem divsL_all {n : Int} (h1 : 1 ≤ n) : (∀ x, x ∈ divsL n ↔ 1 ≤ x ∧ x ∣ n) ∧ (divsL n).Pairwise (· < ·) := by
  obtain ⟨k, a, b, e⟩ := divsL_is h1
  rw [e]
  exact divAll_spec h1 a b
theorem divsL_rise {n : Int} (hn : 1 ≤ n ∧ n ≤ 1000000000) : Rise (divsL n) := by
  obtain ⟨hm, hs⟩ := divsL_all hn.1
  exact rise_of hs fun x hx => by
    have q := (hm x).1 hx
    have := Int.le_of_dvd (by omega) q.2
    omega
theorem divsF_rise {n : Int} (hn : 1 ≤ n ∧ n ≤ 1000000000) (p : Int → Bool) : Rise ((divsL n).filter p) := by
  obtain ⟨hm, hs⟩ := divsL_all hn.1
  exact rise_of (hs.sublist List.filter_sublist) fun x hx => by
    have q := (hm x).1 (List.mem_filter.1 hx).1
    have := Int.le_of_dvd (by omega) q.2
    omega
theorem divsL_some {n : Int} (hn : 1 ≤ n) : 0 < (divsL n).length := List.length_pos_of_mem (((divsL_all hn).1 1).2 ⟨by omega, Int.one_dvd _⟩)
/-- The first T splits of n into c factors. -/
def spl (T : Nat) (n low high : Int) (c : Nat) : List (List Int) := (allS (divsL n) high c n low).take T
theorem spl_len (T : Nat) (n low high : Int) (c : Nat) : (spl T n low high c).length ≤ T := by
  unfold spl
  rw [List.length_take]
  omega
theorem map_pre (X : List (List Int)) : X.map (([] : List Int) ++ ·) = X := by
  have : (fun r : List Int => [] ++ r) = id := by funext r; simp
  rw [this, List.map_id]
theorem spl_fnd (T : Nat) (n low high : Int) (c : Nat) : fnd T [] ((allS (divsL n) high c n low).map ([] ++ ·)) = spl T n low high c := by
  rw [map_pre]
  unfold fnd spl
  rw [List.nil_append]
theorem spl_filter (T : Nat) (n low high : Int) (c : Nat) : fnd T [] ((allS ((divsL n).filter fun x => inR x low high) high c n low).map ([] ++ ·)) = spl T n low high c := by
  rw [← spl_fnd]
  congr 2
  exact allS_filter (divsL n) low high c n low (Int.le_refl _)
theorem Own2.mono {w : World} {B B' : Nat} {v : Value} {rows : List (List Int)} {es : List (Nat × Nat)} (h : Own2 w B v rows es) (hb : B' ≤ B) : Own2 w B' v rows es := by
  refine ⟨h.1, ?_, fun p hp => ⟨(h.2.2.1 p hp).1.mono_base' hb, (h.2.2.1 p hp).2⟩, h.2.2.2⟩
  refine ⟨h.2.1.1, ?_⟩
  rcases h.2.1.2 with h2 | ⟨g, cap, cur, h1, h2, h3⟩
  · exact .inl h2
  · exact .inr ⟨g, cap, cur, h1, Nat.le_trans hb h2, h3⟩
/-- A search's struct as it is made. -/
theorem findSt_new {w : World} {gd : Nat} {D : List Int} {dcap : Nat} {high : Int} {most : Nat} (t : TypeId) (hd : ∀ j, j < D.length → w.cell? ⟨gd, j, none⟩ = some (.int .i64 (D.getD j 0))) (hg : gd < w.heap.size) :
    FindSt (w.alloc (.cells #[.slice (some ⟨gd, 0, none⟩) D.length dcap, .int .i64 high, .int .i64 (most : Int), .slice none 0 0] t)) w.heap.size gd (w.heap.size + 1) D dcap high most (.slice none 0 0) [] [] := by
  refine ⟨⟨by simp [go_sem], by simp [go_sem], by simp [go_sem], by simp [go_sem], by simp [go_sem]⟩, fun j hj => ?_, Own2.nil _ _, by omega, by omega, by omega, by simp⟩
  exact ((balloc (Below.refl w.heap.size w) (.cells #[.slice (some ⟨gd, 0, none⟩) D.length dcap, .int .i64 high, .int .i64 (most : Int), .slice none 0 0] t)).cell (p := ⟨gd, j, none⟩) hg).trans (hd j hj)
theorem below_fr {B : Nat} {w W w' : World} {b : Nat} {vo po : Option Nat} (h : Below B w W) (f : Fr W w' b vo po) (hw : B ≤ w.heap.size) (hb : B ≤ b) (hv : ∀ k, vo = some k → B ≤ k) (hp : ∀ k, po = some k → B ≤ k) : Below B w w' :=
  have g := f.below (B := B) (Nat.le_trans hw h.size) hb hv hp
  ⟨g.os.trans h.os, g.tape.trans h.tape, g.output.trans h.output, Nat.le_trans h.size g.size, fun i hi => (g.block i hi).trans (h.block i hi)⟩
/-- What a list of splits leaves: rows of the call's own. -/
def SplsPost (w : World) (rows : List (List Int)) (e : Ending) (w' : World) : Prop := ∃ ao cap es, e = .returned (.slice ao rows.length cap) ∧ Own2 w' w.heap.size (.slice ao rows.length cap) rows es ∧ Below w.heap.size w w'
set_option maxHeartbeats 2000000 in
theorem l04Splits_any (n low high : Int) (c most : Nat) (w : World) (hn : 1 ≤ n ∧ n ≤ 1000000000) (hh : high ≤ 1000000000) (hc : c ≤ 3) (hm : most ≤ 1000) :
    Calls Try.prog 26 #[.int .i64 n, .int .i64 low, .int .i64 high, .int .i64 ((c + 1 : Nat) : Int), .int .i64 (most : Int)] w (SplsPost w (spl (most + 1) n low high (c + 1))) := by
  have hp := divsL_some hn.1
  have hlen := divsL_len hn
  have HD := hide (l04DivisorsF_any n)
  have HR := hide (divsL_rise hn)
  have HF := hide (spl_fnd (most + 1) n low high (c + 1))
  obtain ⟨L, hL⟩ : ∃ L, L = divsL n := ⟨_, rfl⟩
  rw [← hL] at hp hlen HD HR HF
  clear hL
  obtain ⟨m, hm2⟩ : ∃ m, m = L.length := ⟨_, rfl⟩
  have HM := hide hm2
  rw [← hm2] at hp hlen HD
  obtain ⟨cc, hcc⟩ : ∃ cc, cc = c + 1 := ⟨_, rfl⟩
  rw [← hcc] at HF ⊢
  have HCALL := hide (fun (W : World) (b g B cap : Nat) (hst : FindSt W b g B L cap high most (.slice none 0 0) [] []) => show Calls Try.prog 39 #[.pointer (some ⟨b, 0, none⟩), .int .i64 n, .int .i64 low, .int .i64 (cc : Int), .slice none 0 0] W fun e w' => e = .returned (.tuple #[]) ∧ FindPost W b g B L cap high most (.slice none 0 0) (spl (most + 1) n low high cc) w' from by
    have h := findC_any c (by omega) n low [] none 0 b g B L cap high most (.slice none 0 0) [] [] W hm (by simp) (by simp; omega) hn hh HR.out (by have := HM.out; omega) hst (.inl ⟨rfl, rfl⟩) (fun k hk => by cases hk)
    rw [← hcc, HF.out] at h
    exact h)
  obtain ⟨rows, hrows⟩ : ∃ rows, rows = spl (most + 1) n low high cc := ⟨_, rfl⟩
  rw [← hrows] at HCALL ⊢
  clear hm2 hcc hrows HF
  go_enter Try.func26, Try.ntmps26
  go_wp2_with fail
  refine (HD.out _ hn).mono ?_
  rintro e w1 ⟨ao, cap, rfl, hown, hb⟩
  obtain ⟨g, rfl⟩ : ∃ g, ao = some ⟨g, 0, none⟩ := by
    rcases hown.form with ⟨hx, h0⟩ | ⟨g', cap', hx, _⟩
    · rw [h0] at HM; have := HM.out; simp at this; omega
    · cases hx; exact ⟨g', rfl⟩
  have hg := (hown.lt g (by simp [Value.ownBlock])).2
  have HST := hide (findSt_new (w := w1) (gd := g) (D := L) (dcap := cap) (high := high) (most := most) 57 (fun j hj => hown.cell HM.out j hj) hg)
  rw [← HM.out] at HST
  have HB := hide (balloc hb (.cells #[.slice (some ⟨g, 0, none⟩) m cap, .int .i64 high, .int .i64 (most : Int), .slice none 0 0] 57))
  have hsz := hb.size
  clear hown hb hg
  go_wp2_with fail
  refine (HCALL.out _ _ _ _ _ HST.out).mono ?_
  rintro e w3 ⟨rfl, v3, es3, f1, f2, f3⟩
  have HO3 := hide f1.2.2.1
  have HB3 := hide (below_fr HB.out f2 (Nat.le_refl _) hsz (fun k hk => by cases hk) (fun k hk => by cases hk))
  have k3 := f1.1.2.2.2.1
  obtain ⟨ao3, cap3, rfl⟩ := f1.2.2.1.form
  clear f1 f2 f3 HST
  go_wp2_with fail
  go_ret
  exact ⟨ao3, cap3, es3, rfl, HO3.out.mono (by omega), HB3.out⟩
end Go.Proofs.Ythagogjklocmoaa
