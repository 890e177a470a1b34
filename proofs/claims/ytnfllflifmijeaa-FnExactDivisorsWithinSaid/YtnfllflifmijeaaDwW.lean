/-
  DivisorsWithin: contracts of both functions, and the walk of its law.
-/
import Derived.Test.YtnfllflifmijeaaDivQ
import Derived.Lib.SliceRun
namespace Go.Proofs.Ytnfllflifmijeaa
open Go.RowKit Go.Sort Go.Shelf Go.Lib

theorem closure_gives (lo hi x : Int) (B1 B2 : Nat) (W : World) (h1 : W.cell? ⟨B1, 0, none⟩ = some (.int .i64 lo)) (h2 : W.cell? ⟨B2, 0, none⟩ = some (.int .i64 hi)) :
    FnGives Try.prog 82 #[.pointer (some ⟨B1, 0, none⟩), .pointer (some ⟨B2, 0, none⟩)] #[.int .i64 x] (.bool (!inR x lo hi)) W := by
  show Calls Try.prog 82 #[.int .i64 x, .pointer (some ⟨B1, 0, none⟩), .pointer (some ⟨B2, 0, none⟩)] W _
  go_enter Try.func82, Try.ntmps82
  go_wp2_with (go_at_call 80; refine (within_any _ _ _ _).mono ?_; rintro e w' ⟨rfl, rfl⟩)
  go_ret
  exact ⟨rfl, 0, rfl⟩
theorem closure_pred (lo hi : Int) (B1 B2 : Nat) (w : World) (l1 : B1 < w.heap.size) (l2 : B2 < w.heap.size) (h1 : w.cell? ⟨B1, 0, none⟩ = some (.int .i64 lo)) (h2 : w.cell? ⟨B2, 0, none⟩ = some (.int .i64 hi)) :
    PredAt Try.prog 82 #[.pointer (some ⟨B1, 0, none⟩), .pointer (some ⟨B2, 0, none⟩)] (Value.int .i64) (fun x => !inR x lo hi) w :=
  fun W x hb => closure_gives lo hi x B1 B2 W ((hb.cell (p := ⟨B1, 0, none⟩) l1).trans h1) ((hb.cell (p := ⟨B2, 0, none⟩) l2).trans h2)
theorem closure_over (lo hi : Int) (B1 B2 blk off size : Nat) (w : World) (l1 : B1 < w.heap.size) (l2 : B2 < w.heap.size) (n1 : B1 ≠ blk) (n2 : B2 ≠ blk) (h1 : w.cell? ⟨B1, 0, none⟩ = some (.int .i64 lo)) (h2 : w.cell? ⟨B2, 0, none⟩ = some (.int .i64 hi)) :
    PredOver Try.prog 82 #[.pointer (some ⟨B1, 0, none⟩), .pointer (some ⟨B2, 0, none⟩)] (Value.int .i64) (fun x => !inR x lo hi) blk off size w :=
  fun n os dk x _ => by
    have key : ∀ (B : Nat) (v : Value), B < w.heap.size → B ≠ blk → w.cell? ⟨B, 0, none⟩ = some v → (sortWorld (Value.int .i64) w blk off n dk os).cell? ⟨B, 0, none⟩ = some v := fun B v hB hne hc => by
      unfold sortWorld
      rw [cell?_grow _ _ _ (by show B < (putRow _ _ _ _ _).heap.size; rw [size_putRow]; exact hB), cell?_putRow_other _ _ blk off _ _ (Or.inl hne)]
      exact hc
    exact closure_gives lo hi x B1 B2 _ (key B1 _ l1 n1 h1) (key B2 _ l2 n2 h2)
theorem OwnsI.cut {w : World} {B g n cap : Nat} {xs ys : List Int} (h : OwnsI w B (.slice (some ⟨g, 0, none⟩) n cap) (xs ++ ys)) : OwnsI w B (.slice (some ⟨g, 0, none⟩) xs.length cap) xs := by
  refine ⟨by simp, ?_⟩
  rcases h.2 with ⟨h1, _⟩ | ⟨g', cap', cur, h1, h2, h3, h4, h5, h6, h7⟩
  · cases h1
  · cases h1
    refine .inr ⟨g, cap, cur, rfl, h2, h3, ?_, h5, h6, ?_⟩
    · rw [List.length_append] at h4; omega
    · have e := congrArg (List.take (xs.length * 1)) h7
      rw [List.take_take, List.length_append, Nat.min_eq_left (by omega)] at e
      rw [e]
      simp
theorem delete_any (xs : List Int) (lo hi : Int) (B g cap n B1 B2 : Nat) (w : World) (h : OwnsI w B (.slice (some ⟨g, 0, none⟩) n cap) xs) (hn : n = xs.length) (hl : xs.length ≤ 1000000000)
    (l1 : B1 < w.heap.size) (l2 : B2 < w.heap.size) (n1 : B1 ≠ g) (n2 : B2 ≠ g) (h1 : w.cell? ⟨B1, 0, none⟩ = some (.int .i64 lo)) (h2 : w.cell? ⟨B2, 0, none⟩ = some (.int .i64 hi)) :
    Calls Try.prog 81 #[.slice (some ⟨g, 0, none⟩) n cap, .func (.func 82) #[] #[.pointer (some ⟨B1, 0, none⟩), .pointer (some ⟨B2, 0, none⟩)]] w fun e w' =>
      e = .returned (.slice (some ⟨g, 0, none⟩) (xs.filter fun x => inR x lo hi).length cap) ∧ OwnsI w' B (.slice (some ⟨g, 0, none⟩) (xs.filter fun x => inR x lo hi).length cap) (xs.filter fun x => inR x lo hi) ∧ w.grownBy w' (some g) := by
  subst hn
  rcases h.2 with ⟨h0, _⟩ | ⟨g', cap', cur, h0, k2, k3, k4, k5, k6, k7⟩
  · cases h0
  · cases h0
    have hh : Holds (Value.int .i64) w g 0 xs.toArray := holds_of_blockI k3 (by simpa using k7)
    have eg : ∀ args w, (callFunc 82 args).run Try.prog w = .ok (.enter 82 args) w := enters_of Try.func82 (by kernel_rfl) rfl
    have zr : ∀ w, (zeroValue 2).run Try.prog w = .ok (.int .i64 0) w := fun w => by kernel_rfl
    have hcon := Try.slices_DeleteFunc (Value.int .i64) (fun _ => rfl) (fun x => !inR x lo hi) 82 #[.pointer (some ⟨B1, 0, none⟩), .pointer (some ⟨B2, 0, none⟩)] eg 0 zr g 0 cap xs.toArray w
      (closure_pred lo hi B1 B2 w l1 l2 h1 h2) (closure_over lo hi B1 B2 g 0 _ w l1 l2 n1 n2 h1 h2) hh (by simp; omega) (by simpa using k4)
    simp only [Bool.not_not, List.size_toArray] at hcon
    refine hcon.mono ?_
    rintro e w' ⟨rfl, q, rfl⟩
    have hfl := List.length_filter_le (fun x => inR x lo hi) xs
    have hlen : ((xs.filter fun x => inR x lo hi) ++ List.replicate (xs.length - (xs.filter fun x => inR x lo hi).length) 0).length = xs.length := by simp; omega
    refine ⟨rfl, ?_, ?_⟩
    · have := ownsRow_sortedI (os := #[]) (n := q) (ss := xs) (ts := (xs.filter fun x => inR x lo hi) ++ List.replicate (xs.length - (xs.filter fun x => inR x lo hi).length) 0) hlen k2 k3 k4 k5 (by simpa using k6)
      rw [grow_empty] at this
      refine OwnsI.cut (n := xs.length) (ys := List.replicate (xs.length - (xs.filter fun x => inR x lo hi).length) 0) ?_
      unfold OwnsI
      rw [hlen]
      exact this
    · have := grownBy_sortedI (w := w) (g := g) (n := q) (os := #[]) ((xs.filter fun x => inR x lo hi) ++ List.replicate (xs.length - (xs.filter fun x => inR x lo hi).length) 0).toArray
      rw [grow_empty] at this
      exact this
def dwL (n lo hi : Int) : List Int := if inR n 1 1000000000 then (divsL n).filter (fun x => inR x lo hi) else []
def dwC (n _lo _hi : Int) : Int := if inR n 1 1000000000 then 0 else 2
theorem dwL_len (n lo hi : Int) : (dwL n lo hi).length ≤ 1000000000000 := by
  unfold dwL
  cases h : inR n 1 1000000000
  · simp
  · have := divsL_len (inR_true h)
    have h2 := List.length_filter_le (fun x => inR x lo hi) (divsL n)
    simp only [if_true]
    omega
theorem divsL_pos {n : Int} (hn : 1 ≤ n) : 0 < (divsL n).length := by
  obtain ⟨k, h1, h2, h3⟩ := divsL_is hn
  rw [h3]
  exact List.length_pos_of_mem (((divAll_spec hn h1 h2).1 1).2 ⟨by omega, Int.one_dvd _⟩)
theorem implDivisorsWithin_any (n lo hi : Int) (w : World) : Calls Try.prog 40 #[.int .i64 n, .int .i64 lo, .int .i64 hi] w fun e w' => ∃ ao cap, e = .returned (.tuple #[.slice ao (dwL n lo hi).length cap, .int .i64 (dwC n lo hi)]) ∧ OwnsI w' w.heap.size (.slice ao (dwL n lo hi).length cap) (dwL n lo hi) ∧ Below w.heap.size w w' := by
  cases h : inR n 1 1000000000
  · have e : dwL n lo hi = [] := by unfold dwL; rw [h]; rfl
    have e2 : dwC n lo hi = 2 := by unfold dwC; rw [h]; rfl
    rw [e, e2]
    go_enter Try.func40, Try.ntmps40
    go_wp2_with (go_at_call 73; refine (countable_any _ _).mono ?_; rintro e w' ⟨rfl, rfl⟩)
    go_ret2
    exact ⟨none, 0, rfl, OwnsI.none_, balloc (balloc (Below.refl _ _) _) _⟩
  · have h1 := inR_true h
    have e : dwL n lo hi = (divsL n).filter (fun x => inR x lo hi) := by unfold dwL; rw [h]; rfl
    have e2 : dwC n lo hi = 0 := by unfold dwC; rw [h]; rfl
    rw [e, e2]
    have hp := divsL_pos h1.1
    have hlen := divsL_len h1
    have HD := hide (divisorsOfF_any n)
    obtain ⟨L, hL⟩ : ∃ L, L = divsL n := ⟨_, rfl⟩
    rw [← hL] at hp hlen HD ⊢
    clear e e2 hL
    obtain ⟨m, hm⟩ : ∃ m, m = L.length := ⟨_, rfl⟩
    have HM := hide hm
    rw [← hm] at hp hlen HD
    clear hm
    go_enter Try.func40, Try.ntmps40
    go_wp2_with (go_at_call 73; refine (countable_any _ _).mono ?_; rintro e w' ⟨rfl, rfl⟩)
    refine (HD.out _ h1).mono ?_
    rintro e w1 ⟨ao, cap, rfl, hown, hb⟩
    obtain ⟨g, rfl⟩ : ∃ g, ao = some ⟨g, 0, none⟩ := by
      rcases hown.form with ⟨hx, h0⟩ | ⟨g', cap', hx, _⟩
      · rw [h0] at HM; have := HM.out; simp at this; omega
      · cases hx; exact ⟨g', rfl⟩
    have hg := (hown.lt g (by simp [Value.ownBlock])).1
    simp at hg
    have c1 : w1.cell? ⟨w.heap.size, 0, none⟩ = some (.int .i64 lo) := by rw [hb.cell (by simp; omega)]; simp [go_sem, World.cell?_alloc_past]
    have c2 : w1.cell? ⟨w.heap.size + 1, 0, none⟩ = some (.int .i64 hi) := by rw [hb.cell (by simp)]; simp [go_sem, World.cell?_alloc_past]
    have hsz : w.heap.size + 1 < w1.heap.size := by have := hb.size; simp at this; omega
    have HDEL := hide (delete_any L lo hi _ g cap m w.heap.size (w.heap.size + 1) w1 hown HM.out (by have := HM.out; omega) (by omega) hsz (by omega) (by omega) c1 c2)
    have B1 := hide (bstep (balloc (balloc (Below.refl w.heap.size w) _) _) hb)
    clear hown hb c1 c2
    go_wp2_with fail
    refine HDEL.out.mono ?_
    rintro e w2 ⟨rfl, o2, g2⟩
    go_wp2_with fail
    go_ret2
    exact ⟨some ⟨g, 0, none⟩, cap, rfl, o2.mono_base' (by simp; omega), B1.out.grown g2 B1.out.size (fun k hk => by cases hk; omega)⟩
theorem ret2_slice {ao : Option Addr} {n m c : Nat} {k : Int} (h : n = m) : Ending.returned (.tuple #[.slice ao n c, .int .i64 k]) = .returned (.tuple #[.slice ao m c, .int .i64 k]) := by rw [h]
set_option maxHeartbeats 1000000 in
theorem specDivisorsWithin_any (n lo hi : Int) (w : World) : Calls Try.prog 39 #[.int .i64 n, .int .i64 lo, .int .i64 hi] w fun e w' => ∃ ao cap, e = .returned (.tuple #[.slice ao (dwL n lo hi).length cap, .int .i64 (dwC n lo hi)]) ∧ OwnsI w' w.heap.size (.slice ao (dwL n lo hi).length cap) (dwL n lo hi) ∧ Below w.heap.size w w' := by
  cases h : inR n 1 1000000000
  · have e : dwL n lo hi = [] := by unfold dwL; rw [h]; rfl
    have e2 : dwC n lo hi = 2 := by unfold dwC; rw [h]; rfl
    rw [e, e2]
    go_enter Try.func39, Try.ntmps39
    go_wp2_with (go_at_call 71; refine (l04Ask_any _ _).mono ?_; rintro e w' ⟨rfl, rfl⟩)
    go_ret2
    exact ⟨none, 0, rfl, OwnsI.none_, Below.refl _ _⟩
  · have h1 := inR_true h
    have e : dwL n lo hi = (divsL n).filter (fun x => inR x lo hi) := by unfold dwL; rw [h]; rfl
    have e2 : dwC n lo hi = 0 := by unfold dwC; rw [h]; rfl
    rw [e, e2]
    have hlen := divsL_len h1
    have HD := hide (l04DivisorsF_any n)
    obtain ⟨L, hL⟩ : ∃ L, L = divsL n := ⟨_, rfl⟩
    rw [← hL] at hlen HD ⊢
    clear e e2 hL
    obtain ⟨m, hm⟩ : ∃ m, m = L.length := ⟨_, rfl⟩
    have HM := hide hm
    rw [← hm] at hlen HD
    clear hm
    go_enter Try.func39, Try.ntmps39
    go_wp2_with (go_at_call 71; refine (l04Ask_any _ _).mono ?_; rintro e w' ⟨rfl, rfl⟩)
    refine (HD.out _ h1).mono ?_
    rintro e w1 ⟨ao, cap, rfl, hown, hb⟩
    have HO := hide hown
    have HB := hide hb
    have O2 := hide (OwnsI.made_ (w := w1))
    have hs1 := hb.size
    clear hown hb
    go_wp2_with fail
    go_loopw [9, 10] (fun s9 s10 wr => ∃ (j : Nat) (ys : List Int) (a9 : Option Addr) (p9 : Nat), j ≤ m ∧ s10 = .int .i64 (j : Int) ∧ s9 = .slice a9 ys.length p9 ∧ ys = (L.take j).filter (fun x => inR x lo hi) ∧ OwnsI wr w1.heap.size (.slice a9 ys.length p9) ys ∧ Below w1.heap.size w1 wr) (fun _ s10 _ => m - (intOf s10).toNat)
    case atStart => exact ⟨0, [], some ⟨w1.heap.size, 0, none⟩, 0, by omega, rfl, rfl, by simp, O2.out, balloc (Below.refl _ _) _⟩
    case round =>
      obtain ⟨j, ys, a9, p9, hj, rfl, rfl, hys, o9, hbel⟩ := hrel
      have HY := hide hys
      have H9 := hide o9
      have HBB := hide hbel
      have hsz := hbel.size
      have hyl : ys.length ≤ 100000 := by
        rw [hys]
        have h2 := List.length_filter_le (fun x => inR x lo hi) (L.take j)
        rw [List.length_take] at h2
        omega
      have hl := HO.out.below hbel
      clear hys o9 hbel
      by_cases hlt : j < m
      · obtain ⟨g, rfl⟩ : ∃ g, ao = some ⟨g, 0, none⟩ := by
          rcases hl.form with ⟨hx, h0⟩ | ⟨g', cap', hx, _⟩
          · rw [h0] at HM; have := HM.out; simp at this; omega
          · cases hx; exact ⟨g', rfl⟩
        have c1 := hl.cell HM.out j (by have := HM.out; omega)
        obtain ⟨x, hx⟩ : ∃ x, x = L.getD j 0 := ⟨_, rfl⟩
        rw [← hx] at c1
        have hjl : j < L.length := by have := HM.out; omega
        have HT := hide (show L.take (j + 1) = L.take j ++ [x] by rw [List.take_succ_eq_append_getElem hjl, hx, List.getD_eq_getElem?_getD, List.getElem?_eq_getElem hjl]; rfl)
        clear hl hx hjl
        cases hin : inR x lo hi
        · have HIN := hide hin
          go_wp2_with fail
          refine (l00In_any _ _ _ _).mono ?_
          rintro e w' ⟨rfl, rfl⟩
          rw [HIN.out]
          go_wp2_with fail
          go_roundw
          case rel => exact ⟨j + 1, ys, a9, p9, by omega, by go_num, rfl, by rw [HT.out, List.filter_append, ← HY.out]; simp [HIN.out], H9.out, HBB.out⟩
          case measure => simp only [intOf]; omega
        · have HIN := hide hin
          go_wp2_with fail
          refine (l00In_any _ _ _ _).mono ?_
          rintro e w' ⟨rfl, rfl⟩
          rw [HIN.out]
          go_wp2_with (at_builtin; refine wpList_appendI rfl _ _ rfl w1.heap.size _ ys rfl H9.out x _ rfl (by omega) hsz ?_; intro ao2 cap2 w2 hown2 hg2)
          go_roundw
          case rel => exact ⟨j + 1, ys ++ [x], ao2, cap2, by omega, by go_num, by simp, by rw [HT.out, List.filter_append, ← HY.out]; simp [HIN.out], by simpa using hown2, HBB.out.grown hg2 hsz (fun k hk => (H9.out.lt k hk).1)⟩
          case measure => simp only [intOf]; omega
      · go_wp2_with fail
        go_ret2
        have e : ys = L.filter (fun x => inR x lo hi) := by rw [HY.out, List.take_of_length_le (by have := HM.out; omega)]
        have ho := H9.out
        rw [e] at ho
        exact ⟨a9, p9, ret2_slice (by rw [e]), ho.mono_base' hs1, bstep HB.out HBB.out⟩
theorem walk_FnExactDivisorsWithin (a0 a1 a2 : Int) (w : World) (_h0 : -9223372036854775808 ≤ a0 ∧ a0 ≤ 9223372036854775807) (_h1 : -9223372036854775808 ≤ a1 ∧ a1 ≤ 9223372036854775807) (_h2 : -9223372036854775808 ≤ a2 ∧ a2 ≤ 9223372036854775807) :
    Calls Try.prog 10 #[.int .i64 a0, .int .i64 a1, .int .i64 a2] w fun e w' => e = .returned (.bool true) ∧ Below w.heap.size w w' := by
  have hlen : (dwL a0 a1 a2).length ≤ 1000000000000 := dwL_len a0 a1 a2
  obtain ⟨L, hL⟩ : ∃ L, L = dwL a0 a1 a2 := ⟨_, rfl⟩
  have H1 := specDivisorsWithin_any a0 a1 a2
  have H2 := implDivisorsWithin_any a0 a1 a2
  rw [← hL] at hlen H1 H2
  have C1 := hide H1
  have C2 := hide H2
  clear H1 H2 hL
  go_enter Try.func10, Try.ntmps10
  go_wp2_with fail
  refine (C1.out _).mono ?_
  rintro e w1 ⟨a1, d1, rfl, o1, b1⟩
  have D1 := hide b1
  go_wp2_with fail
  refine (C2.out _).mono ?_
  rintro e w2 ⟨a2, d2, rfl, o2, b2⟩
  have D2 := hide (bstep D1.out b2)
  have o12 := o1.below b2
  go_wp2_with fail
  refine (eqInt64S_any _ _ _ _ _ _ _ o2 o12).mono ?_
  rintro e w3 ⟨rfl, b3⟩
  have o13 := o12.below b3
  have o23 := o2.below b3
  have hd : decide (L = L) = true := decide_eq_true rfl
  have D3 := hide (bstep D2.out b3)
  go_wp2_with fail
  refine (markInt64S_any _ _ 1 _ _ o23 (by omega) hlen).mono ?_
  rintro e w4 ⟨rfl, o24, g4⟩
  have o14 := o13.same g4 (own_ne o1 o23)
  have D4 := hide (below_mark D3.out g4 o23 D1.out.size)
  go_wp2_with fail
  refine (heldInt64S_any _ 1 _ _ _ o24 (by omega) hlen).mono ?_
  rintro e w5 ⟨rfl, b5⟩
  have o15 := o14.below b5
  have o25 := o24.below b5
  have D5 := hide (bstep D4.out b5)
  go_wp2_with fail
  refine (C2.out _).mono ?_
  rintro e w6 ⟨a3, d3, rfl, o3, b6⟩
  have o16 := o15.below b6
  have o26 := o25.below b6
  have D6 := hide (bstep D5.out b6)
  go_wp2_with fail
  refine (eqInt64S_any _ _ _ _ _ _ _ o3 o16).mono ?_
  rintro e w7 ⟨rfl, b7⟩
  have o27 := o26.below b7
  have D7 := hide (bstep D6.out b7)
  go_wp2_with fail
  refine (heldInt64S_any _ 1 _ _ _ o27 (by omega) hlen).mono ?_
  rintro e w8 ⟨rfl, b8⟩
  go_wp2_with fail
  go_ret
  exact ⟨rfl, bstep D7.out b8⟩
end Go.Proofs.Ytnfllflifmijeaa
