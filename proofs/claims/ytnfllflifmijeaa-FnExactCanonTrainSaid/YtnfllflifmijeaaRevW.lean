/-
  ReverseTrain: contracts of both functions.
-/
import Derived.Test.YtnfllflifmijeaaRev
import Derived.Test.YtnfllflifmijeaaTeeth
import Derived.Test.YtnfllflifmijeaaCell
import Derived.IntWalk
import Derived.Deep.AppendLies
import Derived.Deep.RegionHeld3
namespace Go.Proofs.Ytnfllflifmijeaa
open Go.RowKit

/-- 'append(out, y)' at a step of a region that draws its order, out a row of pairs that the call owns. -/
theorem step_appendP {ops : Array Oper} {o : Oper} {a : Act} {K : Act → World → Prop} {Q : Exit → Act → World → Prop} {E : Prop} {w : World} (hgd : o.guard = none) (s x : Operand)
    (ho : o.op = .call { callee := .builtin .append, args := #[s, x], argTypes := #[26, 26] })
    (base : Nat) (v : Value) (xs : List (Int × Int)) (hs : a.eval s = v) (hown : OwnsP w base v xs) (y z : Int) (c m : Nat) (hx : a.eval x = .slice (some ⟨m, 0, none⟩) 1 c)
    (h0 : w.cell? ⟨m, 0, none⟩ = some (.int .i64 y)) (h1 : w.cell? ⟨m, 1, none⟩ = some (.int .i64 z)) (hl : xs.length ≤ 1000000000000) (hbase : base ≤ w.heap.size)
    (h : ∀ ao cap w', OwnsP w' base (.slice ao (xs.length + 1) cap) (xs ++ [(y, z)]) → w.grownBy w' v.ownBlock → K (a.put o.dst (.slice ao (xs.length + 1) cap)) w') :
    if Region.wanted o (yielded ops a.tmps) = true then Oper.wp Try.prog o a w K Q else E := by
  obtain ⟨i0, hi, hz0, hz1, hz2⟩ := info_parts infoP
  refine step_append_lies w hgd s x 26 ho base 63 i0 (.agg #[.int .i64 0, .int .i64 0]) 2 16 (by rw [Try.underlying26]) hi hz0 hz1 hz2 rfl (by decide) v xs.length (flat xs) hs hown ⟨m, 0, none⟩ 1 c [.int .i64 y, .int .i64 z] hx rfl ?_ ?_ (by decide) (by unfold maxLen; omega) (by omega) hbase _ rfl ?_
  · intro j u hj
    match j, hj with
    | 0, hj => simp at hj; subst hj; exact h0
    | 1, hj => simp at hj; subst hj; exact h1
  · intro u hu
    simp at hu
    rcases hu with rfl | rfl <;> rfl
  · intro g cap w' hown' hg _ _
    have hown'' : OwnsP w' base (.slice (some ⟨g, 0, none⟩) (xs.length + 1) cap) (xs ++ [(y, z)]) := by
      unfold OwnsP
      rw [flat_append]
      simpa [flat] using hown'
    exact h _ _ _ hown'' hg
theorem own_ne_r {w1 w2 : World} {base : Nat} {v0 v1 : Value} {xs ys : List Int} (o1 : OwnsI w1 base v0 xs) (o2 : OwnsI w2 w1.heap.size v1 ys) : v1.ownBlock = none ∨ v1.ownBlock ≠ v0.ownBlock := by
  cases h : v1.ownBlock with
  | none => exact .inl rfl
  | some k =>
    refine .inr fun e => ?_
    have h1 := o1.lt k e.symm
    have h2 := o2.lt k h
    omega
set_option maxHeartbeats 1000000 in
set_option maxRecDepth 100000 in
theorem paired_any (xo yo : Option Addr) (xs ys : List Int) (cx cy : Nat) (w : World) (hx : ReadsI w xo xs) (hy : ReadsI w yo ys) (hl : xs.length = ys.length) (hn : xs.length ≤ 1048576) :
    Calls Try.prog 58 #[.slice xo xs.length cx, .slice yo ys.length cy] w fun e w' => ∃ ao cap, e = .returned (.slice ao (xs.zip ys).length cap) ∧ OwnsP w' w.heap.size (.slice ao (xs.zip ys).length cap) (xs.zip ys) ∧ Below w.heap.size w w' := by
  obtain ⟨n, hn'⟩ : ∃ n, n = xs.length := ⟨_, rfl⟩
  have hm' : n = ys.length := hn'.trans hl
  rw [← hn'] at hn
  rw [← hn', ← hm']
  have HN := hide hn'
  have HM := hide hm'
  clear hm'
  have HX := hide hx
  have HY := hide hy
  clear hn' hx hy hl
  go_enter Try.func58, Try.ntmps58
  go_wp2
  go_loopw [5, 9] (fun s i wr => ∃ (k : Nat) (ao' : Option Addr) (cap' : Nat) (acc : List (Int × Int)), k ≤ n ∧ acc = (xs.zip ys).take k ∧ s = .slice ao' acc.length cap' ∧ i = .int .i64 k ∧ OwnsP wr w.heap.size (.slice ao' acc.length cap') acc ∧ Below w.heap.size w wr) (fun _ i _ => n - (intOf i).toNat)
  case atStart => exact ⟨0, none, 0, [], by omega, rfl, rfl, rfl, OwnsP.none_, Below.refl _ _⟩
  case round =>
    obtain ⟨k, ao', cap', acc, hk, hacc, rfl, rfl, hown, hbel⟩ := hrel
    have HBL := hide hbel
    have HAC := hide hacc
    have hsz := hbel.size
    have hal : acc.length ≤ n := by rw [hacc, List.length_take]; omega
    clear hacc
    by_cases hlt : k < n
    · obtain ⟨b1, off1, rfl, l1, hc1w⟩ := HX.out (by have := HN.out; omega)
      obtain ⟨b2, off2, rfl, l2, hc2w⟩ := HY.out (by have := HM.out; omega)
      obtain ⟨x, hx⟩ : ∃ x, x = xs.getD k 0 := ⟨_, rfl⟩
      obtain ⟨y, hy⟩ : ∃ y, y = ys.getD k 0 := ⟨_, rfl⟩
      have HXX := hide hx
      have HYY := hide hy
      have i0 : (0 : Int) ≤ (k : Int) := by omega
      have i1 : (k : Int) < (n : Int) := by omega
      have HLT := hide (fun j hj => (hown.lt j hj).1)
      have C1 := hide hc1w
      have C2 := hide hc2w
      have keep : ∀ w', Below w.heap.size w w' → w'.cell? ⟨b1, off1 + k, none⟩ = some (.int .i64 x) ∧ w'.cell? ⟨b2, off2 + k, none⟩ = some (.int .i64 y) ∧ Below w.heap.size w w' := fun w' hb => ⟨(hb.cell (p := ⟨b1, off1 + k, none⟩) l1).trans (by rw [hx]; exact C1.out k (by have := HN.out; omega)), (hb.cell (p := ⟨b2, off2 + k, none⟩) l2).trans (by rw [hy]; exact C2.out k (by have := HM.out; omega)), hb⟩
      have KEEP := hide keep
      have HB2 := hide hbel
      have HO2 := hide (hown.below (balloc (Below.refl _ _) (.cells #[.int .i64 x, .int .i64 y] 63)).drew)
      have hsz2 : w.heap.size ≤ (wr.alloc (.cells #[.int .i64 x, .int .i64 y] 63)).drew.heap.size := (balloc hbel (.cells #[.int .i64 x, .int .i64 y] 63)).drew.size
      have m0 : (wr.alloc (.cells #[.int .i64 x, .int .i64 y] 63)).drew.cell? ⟨wr.heap.size, 0, none⟩ = some (.int .i64 x) := (cell2_new (w := wr) (u := .int .i64 x) (v := .int .i64 y) 63).1
      have m1 : (wr.alloc (.cells #[.int .i64 x, .int .i64 y] 63)).drew.cell? ⟨wr.heap.size, 1, none⟩ = some (.int .i64 y) := (cell2_new (w := wr) (u := .int .i64 x) (v := .int .i64 y) 63).2.1
      have M0 := hide m0
      have M1 := hide m1
      clear hx hy hc1w hc2w HX HY hbel hown keep m0 m1
      go_wp2_with fail
      go_region_held3 (fun w' => w'.cell? ⟨b1, off1 + k, none⟩ = some (.int .i64 x) ∧ w'.cell? ⟨b2, off2 + k, none⟩ = some (.int .i64 y) ∧ Below w.heap.size w w')
        (first | exact KEEP.out _ HB2.out.drew | exact KEEP.out _ (balloc HB2.out _).drew | exact KEEP.out _ ((balloc HB2.out _).drew.grown hg2 hsz2 HLT.out))
        ((refine step_appendP rfl _ _ rfl w.heap.size _ acc rfl HO2.out x y _ _ rfl M0.out M1.out (by omega) hsz2 ?_; intro ao2 cap2 w3 hown2 hg2))
      go_wp2_with fail
      go_roundw
      case rel =>
        refine ⟨k + 1, ao2, cap2, acc ++ [(x, y)], by omega, ?_, by simp, by go_num, by simpa using hown2, (balloc HB2.out _).drew.grown hg2 hsz2 HLT.out⟩
        rw [HAC.out]
        have e1 : k < xs.length := by have := HN.out; omega
        have e2 : k < ys.length := by have := HM.out; omega
        have e3 : k < (xs.zip ys).length := by rw [List.length_zip]; omega
        rw [List.take_succ_eq_append_getElem e3]
        have g1 := HXX.out
        have g2 := HYY.out
        rw [List.getD_eq_getElem?_getD, List.getElem?_eq_getElem e1] at g1
        rw [List.getD_eq_getElem?_getD, List.getElem?_eq_getElem e2] at g2
        simp only [Option.getD_some] at g1 g2
        simp [← g1, ← g2]
      case measure => simp [intOf]; omega
    · have e : k = n := by omega
      have e2 : acc = xs.zip ys := by
        rw [HAC.out]
        apply List.take_of_length_le
        rw [List.length_zip]
        have := HN.out
        have := HM.out
        omega
      have HO := hide hown
      clear hbel hown
      go_wp2
      go_ret
      have ho := HO.out
      rw [e2] at ho
      exact ⟨ao', cap', ret_slice3 (by rw [e2]), ho, HBL.out⟩
def swp (p : Int × Int) : Int × Int := (p.2, p.1)
def revL (ps : List (Int × Int)) : List (Int × Int) := if validT ps then (ps.map swp).reverse else []
def trainC (ps : List (Int × Int)) : Int := if validT ps then 0 else 1
theorem revL_t {ps : List (Int × Int)} (h : validT ps = true) : revL ps = (ps.map swp).reverse ∧ trainC ps = 0 := by unfold revL trainC; rw [h]; exact ⟨rfl, rfl⟩
theorem revL_f {ps : List (Int × Int)} (h : validT ps = false) : revL ps = [] ∧ trainC ps = 1 := by unfold revL trainC; rw [h]; exact ⟨rfl, rfl⟩
theorem zip_rev (xs ys : List Int) (h : xs.length = ys.length) : xs.reverse.zip ys.reverse = (xs.zip ys).reverse := by
  induction xs generalizing ys with
  | nil => cases ys with
    | nil => rfl
    | cons y ys => simp at h
  | cons x xs ih => cases ys with
    | nil => simp at h
    | cons y ys =>
      simp only [List.reverse_cons, List.zip_cons_cons]
      rw [List.zip_append (by simpa using h), ih ys (by simpa using h)]
      rfl
theorem zip_swp (ps : List (Int × Int)) : (ps.map (·.2)).reverse.zip (ps.map (·.1)).reverse = (ps.map swp).reverse := by
  have e : (ps.map (·.2)).zip (ps.map (·.1)) = ps.map swp := by
    induction ps with
    | nil => rfl
    | cons p ps ih => simp only [List.map_cons, List.zip_cons_cons, ih]; rfl
  rw [← e]
  exact zip_rev _ _ (by simp)
theorem revL_len (ps : List (Int × Int)) : (revL ps).length ≤ 1048576 := by
  cases h : validT ps
  · rw [(revL_f h).1]; simp
  · have := validT_len h
    rw [(revL_t h).1]; simp; omega
set_option maxHeartbeats 1000000 in
set_option maxRecDepth 100000 in
theorem specReverseTrain_any (ao : Option Addr) (ps : List (Int × Int)) (cap : Nat) (w : World) (h : ReadsP w ao ps) (hn : ps.length ≤ 1048576) :
    Calls Try.prog 19 #[.slice ao ps.length cap] w fun e w' => ∃ ao' cap', e = .returned (.tuple #[.slice ao' (revL ps).length cap', .int .i64 (trainC ps)]) ∧ OwnsP w' w.heap.size (.slice ao' (revL ps).length cap') (revL ps) ∧ Below w.heap.size w w' := by
  have H := hide (l05Ok_any ao ps cap w h hn)
  cases hv : validT ps
  · obtain ⟨e1, e2⟩ := revL_f hv
    have HV := hide hv
    rw [e1, e2]
    clear e1 e2 h hv
    go_enter Try.func19, Try.ntmps19
    go_wp2_with fail
    refine H.out.mono ?_
    rintro e w1 ⟨rfl, hb1⟩
    rw [HV.out]
    go_wp2_with fail
    go_ret2
    exact ⟨none, 0, rfl, OwnsP.none_, hb1⟩
  · obtain ⟨e1, e2⟩ := revL_t hv
    have HV := hide hv
    have hn5 := validT_len hv
    have HA := hide h
    obtain ⟨n, hn'⟩ : ∃ n, n = ps.length := ⟨_, rfl⟩
    rw [e1, e2]
    rw [← hn'] at H hn hn5 ⊢
    have HN := hide hn'
    clear e1 e2 h hv hn'
    go_enter Try.func19, Try.ntmps19
    go_wp2_with fail
    refine H.out.mono ?_
    rintro e w1 ⟨rfl, hb1⟩
    rw [HV.out]
    have B1 := hide (balloc hb1 (.cells #[] 63))
    have O1 := hide ((OwnsP.made_ (w := w1)).mono_base hb1.size)
    have w1s := hb1.size
    clear hb1
    go_wp2_with fail
    go_loopw [4, 5] (fun s i wr => ∃ (k : Nat) (ii : Int) (ao' : Option Addr) (cap' : Nat) (acc : List (Int × Int)), k ≤ n ∧ ii = (k : Int) - 1 ∧ acc = ((ps.drop k).map swp).reverse ∧ s = .slice ao' acc.length cap' ∧ i = .int .i64 ii ∧ OwnsP wr w.heap.size (.slice ao' acc.length cap') acc ∧ Below w.heap.size w wr) (fun _ i _ => (intOf i + 1).toNat)
    case atStart => exact ⟨n, (n : Int) - 1, some ⟨w1.heap.size, 0, none⟩, 0, [], by omega, rfl, by rw [HN.out, List.drop_length]; rfl, rfl, rfl, O1.out, B1.out⟩
    case round =>
      obtain ⟨k, ii, ao', cap', acc, hk, hii, hacc, rfl, rfl, hown, hbel⟩ := hrel
      have HBL := hide hbel
      have HAC := hide hacc
      have hsz := hbel.size
      have hal : acc.length ≤ n := by rw [hacc, List.length_reverse, List.length_map, List.length_drop, HN.out]; omega
      clear hacc
      cases k with
      | zero =>
        have hi' : ii = -1 := by omega
        subst hi'
        clear hii
        have HO := hide hown
        have e2 : acc = (ps.map swp).reverse := HAC.out
        clear hbel hown
        go_wp2
        go_ret2
        have ho := HO.out
        rw [e2] at ho
        exact ⟨ao', cap', by subst e2; rfl, ho, HBL.out⟩
      | succ m =>
        have hi' : ii = (m : Int) := by omega
        subst hi'
        clear hii
        obtain ⟨b1, off1, rfl, l1, hc1w⟩ := HA.out (by have := HN.out; omega)
        obtain ⟨x, hx⟩ : ∃ x, x = ps.getD m (0, 0) := ⟨_, rfl⟩
        have HX := hide hx
        have C1 := hide hc1w
        obtain ⟨x1, x2⟩ := x
        have i0 : (0 : Int) ≤ (m : Int) := by omega
        have i1 : (m : Int) < (n : Int) := by omega
        have HLT := hide (fun j hj => (hown.lt j hj).1)
        have keep : ∀ w', Below w.heap.size w w' → w'.cell? ⟨b1, off1 + m * 2, none⟩ = some (.int .i64 x1) ∧ w'.cell? ⟨b1, off1 + m * 2 + 1, none⟩ = some (.int .i64 x2) ∧ Below w.heap.size w w' := fun w' hb => by
          have hm := C1.out m (by have := HN.out; omega)
          rw [← HX.out] at hm
          exact ⟨(hb.cell (p := ⟨b1, off1 + m * 2, none⟩) l1).trans hm.1, (hb.cell (p := ⟨b1, off1 + m * 2 + 1, none⟩) l1).trans hm.2, hb⟩
        have KEEP := hide keep
        have HB2 := hide hbel
        have HO2 := hide (hown.below (balloc (Below.refl _ _) (.cells #[.int .i64 x2, .int .i64 x1] 63)).drew)
        have hsz2 : w.heap.size ≤ (wr.alloc (.cells #[.int .i64 x2, .int .i64 x1] 63)).drew.heap.size := (balloc hbel (.cells #[.int .i64 x2, .int .i64 x1] 63)).drew.size
        have m0 : (wr.alloc (.cells #[.int .i64 x2, .int .i64 x1] 63)).drew.cell? ⟨wr.heap.size, 0, none⟩ = some (.int .i64 x2) := (cell2_new (w := wr) (u := .int .i64 x2) (v := .int .i64 x1) 63).1
        have m1 : (wr.alloc (.cells #[.int .i64 x2, .int .i64 x1] 63)).drew.cell? ⟨wr.heap.size, 1, none⟩ = some (.int .i64 x1) := (cell2_new (w := wr) (u := .int .i64 x2) (v := .int .i64 x1) 63).2.1
        have M0 := hide m0
        have M1 := hide m1
        clear hx hc1w HA hbel hown keep m0 m1
        go_wp2_with fail
        go_region_held3 (fun w' => w'.cell? ⟨b1, off1 + m * 2, none⟩ = some (.int .i64 x1) ∧ w'.cell? ⟨b1, off1 + m * 2 + 1, none⟩ = some (.int .i64 x2) ∧ Below w.heap.size w w')
          (first | exact KEEP.out _ HB2.out.drew | exact KEEP.out _ (balloc HB2.out _).drew | exact KEEP.out _ ((balloc HB2.out _).drew.grown hg2 hsz2 HLT.out))
          ((refine step_appendP rfl _ _ rfl w.heap.size _ acc rfl HO2.out x2 x1 _ _ rfl M0.out M1.out (by omega) hsz2 ?_; intro ao2 cap2 w3 hown2 hg2))
        go_wp2_with fail
        go_roundw
        case rel =>
          refine ⟨m, (m : Int) - 1, ao2, cap2, acc ++ [(x2, x1)], by omega, rfl, ?_, by simp, rfl, by simpa using hown2, (balloc HB2.out _).drew.grown hg2 hsz2 HLT.out⟩
          rw [HAC.out]
          have e1 : m < ps.length := by have := HN.out; omega
          rw [List.drop_eq_getElem_cons e1]
          have g1 := HX.out
          rw [List.getD_eq_getElem?_getD, List.getElem?_eq_getElem e1] at g1
          simp only [Option.getD_some] at g1
          simp [← g1, swp]
        case measure => simp [intOf]
set_option maxHeartbeats 1000000 in
theorem implReverseTrain_any (ao : Option Addr) (ps : List (Int × Int)) (cap : Nat) (w : World) (h : ReadsP w ao ps) (hn : ps.length ≤ 1048576) :
    Calls Try.prog 20 #[.slice ao ps.length cap] w fun e w' => ∃ ao' cap', e = .returned (.tuple #[.slice ao' (revL ps).length cap', .int .i64 (trainC ps)]) ∧ OwnsP w' w.heap.size (.slice ao' (revL ps).length cap') (revL ps) ∧ Below w.heap.size w w' := by
  have H := hide (implValidTrain_any ao ps cap w h hn)
  cases hv : validT ps
  · obtain ⟨e1, e2⟩ := revL_f hv
    have HV := hide hv
    rw [e1, e2]
    clear e1 e2 h hv
    go_enter Try.func20, Try.ntmps20
    go_wp2_with fail
    refine H.out.mono ?_
    rintro e w1 ⟨rfl, hb1⟩
    rw [HV.out]
    go_wp2_with fail
    go_ret2
    exact ⟨none, 0, rfl, OwnsP.none_, hb1⟩
  · obtain ⟨e1, e2⟩ := revL_t hv
    have HV := hide hv
    have hn5 := validT_len hv
    have HA := hide h
    rw [e1, e2]
    clear e1 e2 h hv
    go_enter Try.func20, Try.ntmps20
    go_wp2_with fail
    refine H.out.mono ?_
    rintro e w1 ⟨rfl, hb1⟩
    rw [HV.out]
    go_wp2_with fail
    refine (driversOf_any ao ps cap _ (HA.out.below hb1) (by omega)).mono ?_
    rintro e w2 ⟨a1, c1, rfl, o1, hb2⟩
    obtain ⟨dr, hdr⟩ : ∃ L, L = ps.map (·.1) := ⟨_, rfl⟩
    rw [← hdr] at o1 ⊢
    have HDR := hide hdr
    clear hdr
    have B2 := hide (bstep hb1 hb2)
    have w1s := hb1.size
    go_wp2_with fail
    refine (drivenOf_any ao ps cap _ (HA.out.below B2.out) (by omega)).mono ?_
    rintro e w3 ⟨a2, c2, rfl, o2, hb3⟩
    obtain ⟨dn, hdn⟩ : ∃ L, L = ps.map (·.2) := ⟨_, rfl⟩
    rw [← hdn] at o2 ⊢
    have HDN := hide hdn
    clear hdn
    have B3 := hide (bstep B2.out hb3)
    have o13 := o1.below hb3
    have w2s := B2.out.size
    clear hb1 hb2 hb3
    go_wp2_with fail
    refine (reverse_any _ _ _ _ o13).mono ?_
    rintro e w4 ⟨rfl, o14, g4⟩
    have o24 := o2.same g4 (own_ne_r o1 o2)
    have B4 := hide (B3.out.grown g4 B3.out.size (fun k hk => by have := o13.lt k hk; omega))
    go_wp2_with fail
    refine (reverse_any _ _ _ _ o24).mono ?_
    rintro e w5 ⟨rfl, o25, g5⟩
    have o15 := o14.same g5 (own_ne o1 o2)
    have B5 := hide (B4.out.grown g5 B4.out.size (fun k hk => by have := o24.lt k hk; omega))
    have l1 : dr.reverse.length = dr.length := List.length_reverse
    have l2 : dn.reverse.length = dn.length := List.length_reverse
    have l3 : dr.length = ps.length := by rw [HDR.out, List.length_map]
    have l4 : dn.length = ps.length := by rw [HDN.out, List.length_map]
    have HP := paired_any a2 a1 dn.reverse dr.reverse c2 c1 w5 o25.reads o15.reads (by omega) (by omega)
    rw [l1, l2] at HP
    have HPP := hide HP
    clear HP l1 l2 l3 l4
    go_wp2_with fail
    refine HPP.out.mono ?_
    rintro e w6 ⟨a3, c3, rfl, o3, hb6⟩
    rw [HDR.out, HDN.out, zip_swp] at o3 ⊢
    go_wp2_with fail
    go_ret2
    exact ⟨a3, c3, by rw [show (List.map swp ps).reverse.length = ps.length by simp]; rfl, o3.mono_base B5.out.size, bstep B5.out hb6⟩
end Go.Proofs.Ytnfllflifmijeaa
