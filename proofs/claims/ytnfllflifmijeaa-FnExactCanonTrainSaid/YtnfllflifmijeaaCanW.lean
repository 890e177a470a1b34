/-
  CanonTrain: the contracts of the reference's functions l05Canon and CanonTrain.
-/
import Derived.Test.YtnfllflifmijeaaCanS
namespace Go.Proofs.Ytnfllflifmijeaa
open Go.RowKit

theorem own_shape {w : World} {base : Nat} {v : Value} {xs : List Int} (h : OwnsI w base v xs) : ∃ ao cap, v = .slice ao xs.length cap := by
  rcases h.form with ⟨rfl, rfl⟩ | ⟨g, cap, rfl, _⟩
  · exact ⟨none, 0, rfl⟩
  · exact ⟨some ⟨g, 0, none⟩, cap, rfl⟩
theorem canZ_len {xs ys : List Int} {n : Nat} (h1 : n = xs.length) (h2 : n = ys.length) : (xs.reverse.zip ys).length = n := by
  rw [List.length_zip, List.length_reverse]; omega
theorem canZ_next {xs ys : List Int} {n k : Nat} (h1 : n = xs.length) (h2 : n = ys.length) (hk : k < n) : (xs.reverse.zip ys).take (k + 1) = (xs.reverse.zip ys).take k ++ [(xs.getD (n - 1 - k) 0, ys.getD k 0)] := by
  have e3 : k < (xs.reverse.zip ys).length := by rw [canZ_len h1 h2]; exact hk
  rw [List.take_succ_eq_append_getElem e3]
  congr 1
  have e1 : n - 1 - k < xs.length := by omega
  have e2 : k < ys.length := by omega
  rw [List.getElem_zip, List.getElem_reverse, List.getD_eq_getElem?_getD, List.getElem?_eq_getElem e1, List.getD_eq_getElem?_getD, List.getElem?_eq_getElem e2]
  simp [h1]
set_option maxHeartbeats 1000000 in
set_option maxRecDepth 100000 in
theorem l05Canon_any (g1 g2 : Nat) (xs ys : List Int) (n c1 c2 : Nat) (w : World) (hl1 : n = xs.length) (hl2 : n = ys.length) (h1 : ∀ j, j < xs.length → w.cell? ⟨g1, j, none⟩ = some (.int .i64 (xs.getD j 0))) (hg1 : g1 < w.heap.size)
    (h2 : ∀ j, j < ys.length → w.cell? ⟨g2, j, none⟩ = some (.int .i64 (ys.getD j 0))) (hg2 : g2 < w.heap.size) (hn : n ≤ 1048576) :
    Calls Try.prog 69 #[.slice (some ⟨g1, 0, none⟩) n c1, .slice (some ⟨g2, 0, none⟩) n c2] w fun e w' => ∃ ao cap, e = .returned (.slice ao n cap) ∧ OwnsP w' w.heap.size (.slice ao n cap) ((srt xs).reverse.zip (srt ys)) ∧ Below w.heap.size w w' := by
  have S1 := l05Sort_any g1 xs c1 w h1 hg1 (by omega)
  rw [← hl1] at S1
  have HS1 := hide S1
  have H2 := hide h2
  have HL2 := hide hl2
  have ls1 : n = (srt xs).length := by rw [srt_len]; exact hl1
  have ls2 : n = (srt ys).length := by rw [srt_len]; exact hl2
  obtain ⟨sx, hsx⟩ : ∃ L, L = srt xs := ⟨_, rfl⟩
  obtain ⟨sy, hsy⟩ : ∃ L, L = srt ys := ⟨_, rfl⟩
  have HSX := hide hsx
  have HSY := hide hsy
  rw [← hsx] at ls1 ⊢
  rw [← hsy] at ls2 ⊢
  have LX := hide ls1
  have LY := hide ls2
  clear S1 h1 h2 hl1 hl2 hsx hsy ls1 ls2
  go_enter Try.func69, Try.ntmps69
  go_wp2_with fail
  refine HS1.out.mono ?_
  rintro e w1 ⟨v1, rfl, o1, hb1⟩
  rw [← HSX.out] at o1
  obtain ⟨a1, p1, rfl⟩ := own_shape o1
  have O1 := hide o1
  have B1 := hide hb1
  have hz1 := hb1.size
  clear o1 hb1
  go_wp2_with fail
  have S2 := l05Sort_any g2 ys c2 w1 (fun j hj => (B1.out.cell (p := ⟨g2, j, none⟩) hg2).trans (H2.out j hj)) (by omega) (by have := HL2.out; omega)
  rw [← HL2.out] at S2
  refine S2.mono ?_
  clear S2
  rintro e w2 ⟨v2, rfl, o2, hb2⟩
  rw [← HSY.out] at o2
  obtain ⟨a2, p2, rfl⟩ := own_shape o2
  have HX := hide ((O1.out.below hb2).reads)
  have HY := hide o2.reads
  have B2 := hide (bstep B1.out hb2)
  have hz2 := B2.out.size
  rw [← LX.out, ← LY.out]
  clear O1 B1 o2 hb2
  go_wp2_with fail
  go_loopw [7, 8] (fun s i wr => ∃ (k : Nat) (ao' : Option Addr) (cap' : Nat) (acc : List (Int × Int)), k ≤ n ∧ acc = (sx.reverse.zip sy).take k ∧ s = .slice ao' acc.length cap' ∧ i = .int .i64 k ∧ OwnsP wr w2.heap.size (.slice ao' acc.length cap') acc ∧ Below w2.heap.size w2 wr) (fun _ i _ => n - (intOf i).toNat)
  case atStart => exact ⟨0, some ⟨w2.heap.size, 0, none⟩, 0, [], by omega, rfl, rfl, rfl, OwnsP.made_, balloc (Below.refl _ _) _⟩
  case round =>
    obtain ⟨k, ao', cap', acc, hk, hacc, rfl, rfl, hown, hbel⟩ := hrel
    have HBL := hide hbel
    have HAC := hide hacc
    have hsz := hbel.size
    have hal : acc.length ≤ n := by rw [hacc, List.length_take]; omega
    clear hacc
    by_cases hlt : k < n
    · obtain ⟨b1, off1, rfl, l1, hc1w⟩ := HX.out (by have := LX.out; omega)
      obtain ⟨b2, off2, rfl, l2, hc2w⟩ := HY.out (by have := LY.out; omega)
      obtain ⟨x, hx⟩ : ∃ x, x = sx.getD (n - 1 - k) 0 := ⟨_, rfl⟩
      obtain ⟨y, hy⟩ : ∃ y, y = sy.getD k 0 := ⟨_, rfl⟩
      obtain ⟨m, hm⟩ : ∃ m, m = n - 1 - k := ⟨_, rfl⟩
      rw [← hm] at hx
      have HM := hide hm
      have HXX := hide hx
      have HYY := hide hy
      have i0 : (0 : Int) ≤ (k : Int) := by omega
      have i1 : (k : Int) < (n : Int) := by omega
      have i2 : (0 : Int) ≤ (m : Int) := by omega
      have i3 : (m : Int) < (n : Int) := by omega
      have q1 : IntKind.i64.wrap ((n : Int) - 1) = (n : Int) - 1 := IntWalk.i64_in _ (by omega)
      have q2 : IntKind.i64.wrap ((n : Int) - 1 - (k : Int)) = (m : Int) := (IntWalk.i64_in _ (by omega)).trans (by omega)
      have HLT := hide (fun j hj => (hown.lt j hj).1)
      have C1 := hide hc1w
      have C2 := hide hc2w
      have keep : ∀ w', Below w2.heap.size w2 w' → w'.cell? ⟨b1, off1 + m, none⟩ = some (.int .i64 x) ∧ w'.cell? ⟨b2, off2 + k, none⟩ = some (.int .i64 y) ∧ Below w2.heap.size w2 w' := fun w' hb => ⟨(hb.cell (p := ⟨b1, off1 + m, none⟩) l1).trans (by rw [hx]; exact C1.out m (by have := LX.out; omega)), (hb.cell (p := ⟨b2, off2 + k, none⟩) l2).trans (by rw [hy]; exact C2.out k (by have := LY.out; omega)), hb⟩
      have KEEP := hide keep
      have HB2 := hide hbel
      have HO2 := hide (hown.below (balloc (Below.refl _ _) (.cells #[.int .i64 x, .int .i64 y] 63)).drew)
      have hsz2 : w2.heap.size ≤ (wr.alloc (.cells #[.int .i64 x, .int .i64 y] 63)).drew.heap.size := (balloc hbel (.cells #[.int .i64 x, .int .i64 y] 63)).drew.size
      have m0 : (wr.alloc (.cells #[.int .i64 x, .int .i64 y] 63)).drew.cell? ⟨wr.heap.size, 0, none⟩ = some (.int .i64 x) := (cell2_new (w := wr) (u := .int .i64 x) (v := .int .i64 y) 63).1
      have m1 : (wr.alloc (.cells #[.int .i64 x, .int .i64 y] 63)).drew.cell? ⟨wr.heap.size, 1, none⟩ = some (.int .i64 y) := (cell2_new (w := wr) (u := .int .i64 x) (v := .int .i64 y) 63).2.1
      have M0 := hide m0
      have M1 := hide m1
      clear hx hy hm hc1w hc2w HX HY hbel hown keep m0 m1
      go_wp2_with fail
      go_region_held3 (fun w' => w'.cell? ⟨b1, off1 + m, none⟩ = some (.int .i64 x) ∧ w'.cell? ⟨b2, off2 + k, none⟩ = some (.int .i64 y) ∧ Below w2.heap.size w2 w')
        (first | exact KEEP.out _ HB2.out.drew | exact KEEP.out _ (balloc HB2.out _).drew | exact KEEP.out _ ((balloc HB2.out _).drew.grown hg2 hsz2 HLT.out))
        ((refine step_appendP rfl _ _ rfl w2.heap.size _ acc rfl HO2.out x y _ _ rfl M0.out M1.out (by omega) hsz2 ?_; intro ao2 cap2 w3 hown2 hg2))
      go_wp2_with fail
      go_roundw
      case rel =>
        refine ⟨k + 1, ao2, cap2, acc ++ [(x, y)], by omega, ?_, by simp, by go_num, by simpa using hown2, (balloc HB2.out _).drew.grown hg2 hsz2 HLT.out⟩
        rw [HAC.out, HXX.out, HYY.out, HM.out]
        exact (canZ_next LX.out LY.out hlt).symm
      case measure => simp [intOf]; omega
    · have e : k = n := by omega
      have e2 : acc = sx.reverse.zip sy := by
        rw [HAC.out]
        exact List.take_of_length_le (by rw [canZ_len LX.out LY.out]; omega)
      have hln : acc.length = n := by rw [e2]; exact canZ_len LX.out LY.out
      have HO := hide hown
      have BF := hide (bstep B2.out hbel)
      rw [hln] at HO ⊢
      clear hbel hown HBL hln hal
      go_wp2
      go_ret
      have ho := HO.out.mono_base hz2
      rw [e2] at ho
      exact ⟨ao', cap', rfl, ho, BF.out⟩
set_option maxHeartbeats 1000000 in
set_option maxRecDepth 100000 in
theorem specCanonTrain_any (ao : Option Addr) (ps : List (Int × Int)) (cap : Nat) (w : World) (h : ReadsP w ao ps) (hn : ps.length ≤ 1048576) :
    Calls Try.prog 28 #[.slice ao ps.length cap] w fun e w' => ∃ ao' cap', e = .returned (.tuple #[.slice ao' (canL ps).length cap', .int .i64 (trainC ps)]) ∧ OwnsP w' w.heap.size (.slice ao' (canL ps).length cap') (canL ps) ∧ Below w.heap.size w w' := by
  have H := hide (l05Ok_any ao ps cap w h hn)
  cases hv : validT ps
  · obtain ⟨e1, e2⟩ := canL_f hv
    have HV := hide hv
    rw [e1, e2]
    clear e1 e2 h hv
    go_enter Try.func28, Try.ntmps28
    go_wp2_with fail
    refine H.out.mono ?_
    rintro e w1 ⟨rfl, hb1⟩
    rw [HV.out]
    go_wp2_with fail
    go_ret2
    exact ⟨none, 0, rfl, OwnsP.none_, hb1⟩
  · obtain ⟨e1, e2⟩ := canL_t hv
    have HV := hide hv
    have hn5 := validT_len hv
    have HA := hide h
    obtain ⟨n, hn'⟩ : ∃ n, n = ps.length := ⟨_, rfl⟩
    have el : ((srt (ps.map (·.1))).reverse.zip (srt (ps.map (·.2)))).length = n := canZ_len (by rw [srt_len, List.length_map]; exact hn') (by rw [srt_len, List.length_map]; exact hn')
    have EL := hide el
    rw [e1, e2, el]
    rw [← hn'] at H hn hn5 ⊢
    have HN := hide hn'
    obtain ⟨L, hL⟩ : ∃ L, L = (srt (ps.map (·.1))).reverse.zip (srt (ps.map (·.2))) := ⟨_, rfl⟩
    have HL := hide hL
    rw [← hL]
    clear e1 e2 h hv hn' el hL
    have HE := fun w1 : World => OwnsI.made_ (w := w1)
    go_enter Try.func28, Try.ntmps28
    go_wp2_with fail
    refine H.out.mono ?_
    rintro e w1 ⟨rfl, hb1⟩
    rw [HV.out]
    have B1 := hide hb1
    have w1s := hb1.size
    have O1 := hide ((OwnsI.made_ (w := w1)).below (balloc (Below.refl _ _) (.cells #[] 2)))
    have O2 := hide ((OwnsI.made_ (w := w1.alloc (.cells #[] 2))).mono_base' (B' := w1.heap.size) (by simp))
    clear hb1 HE
    go_wp2_with fail
    go_loopw [4, 5, 6] (fun s4 s5 s6 wr => ∃ (k : Nat) (xs ys : List Int) (g1 g2 : Nat) (p1 p2 : Nat), k ≤ n ∧ xs = (ps.take k).map (·.1) ∧ ys = (ps.take k).map (·.2) ∧ s4 = .slice (some ⟨g1, 0, none⟩) xs.length p1 ∧ s5 = .slice (some ⟨g2, 0, none⟩) ys.length p2 ∧ s6 = .int .i64 (k : Int) ∧
        OwnsI wr w1.heap.size (.slice (some ⟨g1, 0, none⟩) xs.length p1) xs ∧ OwnsI wr w1.heap.size (.slice (some ⟨g2, 0, none⟩) ys.length p2) ys ∧ Apart (.slice (some ⟨g1, 0, none⟩) xs.length p1) (.slice (some ⟨g2, 0, none⟩) ys.length p2) ∧ Below w1.heap.size w1 wr) (fun _ _ s6 _ => n - (intOf s6).toNat)
    case atStart =>
      refine ⟨0, [], [], w1.heap.size, w1.heap.size + 1, 0, 0, by omega, rfl, rfl, rfl, rfl, rfl, O1.out, ?_, .inr (by simp [Value.ownBlock]), balloc (balloc (Below.refl _ _) _) _⟩
      have h := O2.out
      simpa using h
    case round =>
      obtain ⟨k, xs, ys, g1, g2, p1, p2, hk, hxs, hys, rfl, rfl, rfl, o1, o2, hap, hbel⟩ := hrel
      have lx : xs.length = k := by rw [hxs, List.length_map, List.length_take]; have := HN.out; omega
      have ly : ys.length = k := by rw [hys, List.length_map, List.length_take]; have := HN.out; omega
      have LX := hide lx
      have LY := hide ly
      have HXS := hide hxs
      have HYS := hide hys
      have HO1 := hide o1
      have HO2 := hide o2
      have HAP := hide hap
      have HB := hide hbel
      have hsz := hbel.size
      have hx2 : xs.length ≤ 5 := by omega
      have hy2 : ys.length ≤ 5 := by omega
      clear lx ly hxs hys o1 o2 hap hbel
      by_cases hlt : k < n
      · obtain ⟨b, off, rfl, l1, hcw⟩ := HA.out (by have := HN.out; omega)
        obtain ⟨q, hq⟩ : ∃ q, q = ps.getD k (0, 0) := ⟨_, rfl⟩
        have HQ := hide hq
        have hcc := hcw k (by have := HN.out; omega)
        rw [← hq] at hcc
        obtain ⟨x, y⟩ := q
        have BB := hide (bstep B1.out HB.out)
        have c1 := (BB.out.cell (p := ⟨b, off + k * 2, none⟩) l1).trans hcc.1
        have c2 := (BB.out.cell (p := ⟨b, off + k * 2 + 1, none⟩) l1).trans hcc.2
        have hbw : b < w1.heap.size := by omega
        have CC := hide (fun (w' : World) (hb : Below w1.heap.size w1 w') => show w'.cell? ⟨b, off + k * 2, none⟩ = some (.int .i64 x) ∧ w'.cell? ⟨b, off + k * 2 + 1, none⟩ = some (.int .i64 y) from ⟨((bstep B1.out hb).cell (p := ⟨b, off + k * 2, none⟩) l1).trans hcc.1, ((bstep B1.out hb).cell (p := ⟨b, off + k * 2 + 1, none⟩) l1).trans hcc.2⟩)
        have i0 : (0 : Int) ≤ (k : Int) := by omega
        have i1 : (k : Int) < (n : Int) := by omega
        clear hq hcw hcc
        go_wp2_with (at_builtin; first
          | (refine wpList_append2 rfl (.tmp 18) (.tmp 24) rfl w1.heap.size _ xs rfl HO1.out x _ rfl (by omega) hsz ?_; intro ao2 cap2 w2 hown2 hg2 hsep2; have Q1 := hide hown2; have Q2 := hide (HO2.out.same hg2 (apart_symm HAP.out)); have QA := hide (apart_symm (hsep2 _ _ _ HO2.out (apart_symm HAP.out))); have QB := hide (HB.out.grown hg2 hsz (fun k hk => (HO1.out.lt k hk).1)); have hsz2 := QB.out.size; obtain ⟨d1, d2⟩ := CC.out _ QB.out; clear hown2 hg2 hsep2)
          | (refine wpList_append2 rfl (.tmp 26) (.tmp 32) rfl w1.heap.size _ ys rfl Q2.out y _ rfl (by omega) hsz2 ?_; intro ao3 cap3 w3 hown3 hg3 hsep3))
        have Q1' := hide (Q1.out.same hg3 QA.out)
        have QA' := hide (hsep3 _ _ _ Q1.out QA.out)
        have QB' := hide (QB.out.grown hg3 hsz2 (fun k hk => (Q2.out.lt k hk).1))
        have Q3 := hide hown3
        clear hown3 hg3 hsep3
        rcases Q1'.out.form with ⟨_, h0⟩ | ⟨g3, cap4, h4, _⟩
        · simp at h0
        rcases Q3.out.form with ⟨_, h0⟩ | ⟨g5, cap6, h6, _⟩
        · simp at h0
        simp only [Value.slice.injEq] at h4 h6
        obtain ⟨rfl, _, _⟩ := h4
        obtain ⟨rfl, _, _⟩ := h6
        go_roundw
        case rel =>
          have hlt' : k < ps.length := by have := HN.out; omega
          have g1 := HQ.out
          rw [List.getD_eq_getElem?_getD, List.getElem?_eq_getElem hlt'] at g1
          simp only [Option.getD_some] at g1
          refine ⟨k + 1, xs ++ [x], ys ++ [y], g3, g5, cap2, cap3, by omega, ?_, ?_, by simp, by simp, by first | rfl | go_num, by simpa using Q1'.out, by simpa using Q3.out, by simpa using QA'.out, QB'.out⟩
          · rw [HXS.out, List.take_succ_eq_append_getElem hlt', ← g1]; simp
          · rw [HYS.out, List.take_succ_eq_append_getElem hlt', ← g1]; simp
        case measure => simp only [intOf]; omega
      · obtain rfl : k = n := by omega
        have ex : xs = ps.map (·.1) := by rw [HXS.out, List.take_of_length_le (by have := HN.out; omega)]
        have ey : ys = ps.map (·.2) := by rw [HYS.out, List.take_of_length_le (by have := HN.out; omega)]
        have hL := HL.out
        rw [← ex, ← ey] at hL
        have HCN := hide (l05Canon_any g1 g2 xs ys k p1 p2 wr LX.out.symm LY.out.symm (fun j hj => HO1.out.cell rfl j hj) (HO1.out.lt g1 rfl).2 (fun j hj => HO2.out.cell rfl j hj) (HO2.out.lt g2 rfl).2 (by omega))
        rw [← hL] at HCN
        have BB := hide (bstep B1.out HB.out)
        rw [LX.out, LY.out]
        clear ex ey hL HO1 HO2 HXS HYS
        go_wp2_with fail
        refine HCN.out.mono ?_
        rintro e w4 ⟨a3, c3, rfl, o3, hb4⟩
        have hzz := BB.out.size
        go_wp2_with fail
        go_ret2
        exact ⟨a3, c3, rfl, o3.mono_base hzz, bstep BB.out hb4⟩
theorem canL_len (ps : List (Int × Int)) : (canL ps).length ≤ 1048576 := by
  cases h : validT ps
  · rw [(canL_f h).1]; simp
  · have := validT_len h
    rw [(canL_t h).1, List.length_zip, List.length_reverse, srt_len, srt_len]
    simp
    omega
end Go.Proofs.Ytnfllflifmijeaa
