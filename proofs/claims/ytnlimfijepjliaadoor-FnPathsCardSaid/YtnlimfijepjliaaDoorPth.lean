/-
  FnPaths: the walk of the law.
-/
import Derived.Test.YtnlimfijepjliaaDoorBack
import Derived.Test.YtnlimfijepjliaaDoorPathI
import Derived.Test.YtnlimfijepjliaaDoorRopI
import Derived.Test.YtnlimfijepjliaaDoorDrawA
namespace Go.Proofs.YtnlimfijepjliaaDoor
open Go.RowKit

theorem bytes_frozen (w : World) (s : ByteArray) (j : Nat) (hj : j < s.size) : (Lib.bytesWorld w 5 s).frozen? ⟨w.heap.size, j, none⟩ = false := by
  have hc := Lib.bytesWorld_cell w 5 s j hj
  have hn := Lib.bytesWorld_at_new w 5 s
  unfold World.cell? at hc
  unfold World.frozen?
  simp only [hn] at hc ⊢
  have hs : j < (Lib.bytesCells w 5 s).size := by
    rcases Nat.lt_or_ge j (Lib.bytesCells w 5 s).size with h | h
    · exact h
    · simp [Array.getElem?_eq_none h] at hc
  simp
  omega
theorem bytes_conv2 (w : World) (s : ByteArray) : ∃ w1 cap, (convert 9 47 (.string s)).run Tryd.prog w = .ok (.slice (some ⟨w.heap.size, 0, none⟩) s.size cap) w1 ∧ (∀ j, j < s.size → w1.cell? ⟨w.heap.size, j, none⟩ = some (.int .u8 (s.data.toList.getD j 0).toNat) ∧ w1.frozen? ⟨w.heap.size, j, none⟩ = false) ∧ Below w.heap.size w w1 :=
  ⟨_, _, Lib.run_convert_string_bytes w 9 47 5 s Tryd.underlying9 Tryd.underlying47 Tryd.underlying5, fun j hj => ⟨Lib.bytesWorld_cell w _ s j hj, bytes_frozen w s j hj⟩,
    ⟨rfl, rfl, rfl, by rw [Lib.bytesWorld_size]; omega, fun k hk => Lib.bytesWorld_at_old w _ s k hk⟩⟩
theorem flip_get (l : List UInt8) (j : Nat) (hj : j < l.length) : (flipL l).getD j 0 = if l.getD j 0 = 76 then 82 else 76 := by
  unfold flipL
  rw [List.getD_eq_getElem?_getD, List.getElem?_map, List.getD_eq_getElem?_getD, List.getElem?_eq_getElem hj]
  rfl
def mixB (l : List UInt8) (k j : Nat) : UInt8 := if j < k then (flipL l).getD j 0 else l.getD j 0
theorem valid_abs {a b : Int} (h : validR a b = true) : validR (absI a) b = true := by
  obtain ⟨h1, h2, h3⟩ := validR_true h
  refine validR_mk h1 ?_ (by rw [gcdI_absI_left]; exact h3)
  unfold absI
  omega
theorem a2Size_any (a b : Int) (w : World) (ha : -1000000000 ≤ a ∧ a ≤ 1000000000) :
    Calls Tryd.prog 45 #[.agg #[.int .i64 a, .int .i64 b]] w fun e w' => e = .returned (.agg #[.int .i64 (absI a), .int .i64 b]) ∧ Below w.heap.size w w' := by
  by_cases h : a < 0
  · rw [absI_of_neg h]
    have q : IntKind.i64.wrap (-a) = -a := IntWalk.i64_in _ (by omega)
    go_enter Tryd.func45, Tryd.ntmps45
    go_wp2_with fail
    refine bodyPost_ret (v := .agg #[.int .i64 (-a), .int .i64 b]) (by simp [results, Tryd.results45, go_sem]) rfl ⟨rfl, ?_⟩
    repeat (first | exact Below.refl _ _ | refine balloc ?_ _ | refine bset ?_ (by first | exact Nat.le_refl _ | (simp; done) | (simp; omega)) _)
  · rw [absI_of_nonneg h]
    go_enter Tryd.func45, Tryd.ntmps45
    go_wp2_with fail
    refine bodyPost_ret (v := .agg #[.int .i64 a, .int .i64 b]) (by simp [results, Tryd.results45, go_sem]) rfl ⟨rfl, ?_⟩
    repeat (first | exact Below.refl _ _ | refine balloc ?_ _ | refine bset ?_ (by first | exact Nat.le_refl _ | (simp; done) | (simp; omega)) _)
set_option maxHeartbeats 4000000 in
set_option maxRecDepth 100000 in
theorem walk_FnPaths (a0 : Option Addr) (len0 cap0 : Nat) (z0 : List Int) (w : World) (h0 : IsRow .u8 w a0 len0 cap0 z0) (_hL : laidMetH Tryd.prog Rows.fnPathsRow.laid w) (_hS : w.ShapedOpen Tryd.prog) :
    Calls Tryd.prog 12 #[.slice a0 len0 cap0] w fun e w' => e = .returned (.bool true) ∧ Below w.heap.size w w' := by
  obtain ⟨b0, m0⟩ := row_bytes h0
  clear h0 _hL _hS
  have H0 := hide b0
  clear b0
  cases hl : longB len0 0
  · have hlen : len0 ≤ 3000 := by
      unfold longB at hl
      simp only [Bool.or_eq_false_iff, decide_eq_false_iff_not] at hl
      omega
    have HL := hide hl
    clear hl
    go_enter Tryd.func12, Tryd.ntmps12
    go_wp2_with fail
    refine (a2Long_any _ _ _ _ _ _ _ m0 (Nat.zero_le _)).mono ?_
    rintro e w' ⟨rfl, rfl⟩
    rw [HL.out]
    go_wp2_with fail
    refine (a2Ratios_any a0 len0 cap0 _ H0.out (by omega)).mono ?_
    rintro e w1 ⟨a, b, a', b', rfl, hv, _, hb1⟩
    obtain ⟨v1, v2⟩ := validR_bd' hv
    have CA := hide (fun w => a2Size_any a b w v1)
    have hva := valid_abs hv
    have hn0 : 0 ≤ absI a := absI_nonneg a
    obtain ⟨n, hn⟩ : ∃ n, n = absI a := ⟨_, rfl⟩
    rw [← hn] at CA hva hn0
    obtain ⟨v3, _⟩ := validR_bd' hva
    have HVA := hide hva
    have K0 := hide (pair_cells (w := w1) (.int .i64 a) (.int .i64 b) (.int .i64 a') (.int .i64 b') 27 27)
    have B1 := hide (balloc (balloc hb1 (.cells #[.int .i64 a, .int .i64 b] 27)) (.cells #[.int .i64 a', .int .i64 b'] 27))
    have hw1 : w.heap.size ≤ w1.heap.size := hb1.size
    clear hv hb1 hva hn
    go_wp2_with fail
    refine (CA.out _).mono ?_
    rintro e w2 ⟨rfl, hb2⟩
    have K1 := hide (K0.out.1.below hb2)
    have B2 := hide (bstep B1.out hb2)
    obtain ⟨k0, k1, k2, k3⟩ := K1.out
    clear hb2
    go_upto_region 5 with fail
    obtain ⟨g, hg⟩ : ∃ g, g = w1.heap.size := ⟨_, rfl⟩
    rw [← hg] at K1 hw1 ⊢
    obtain ⟨w3, hw3⟩ : ∃ w3, w3 = (w2.setCell ⟨g, 0, none⟩ (.int .i64 n)).setCell ⟨g, 1, none⟩ (.int .i64 b) := ⟨_, rfl⟩
    have K3 := hide (show Cell2 w3 g (.int .i64 n) (.int .i64 b) by rw [hw3]; exact K1.out.set _ _)
    have B3 := hide (show Below w.heap.size w w3 by rw [hw3]; exact bset (bset B2.out hw1 _) hw1 _)
    rw [← hw3]
    clear hw3 k0 k1 k2 k3 hg
    obtain ⟨k0, k1, k2, k3⟩ := K3.out
    have CP := hide (fun w => implPathOf_any n b w)
    by_cases hpos : 0 < n
    · by_cases hbig : (pathT (tdec (cf n b))).length ≤ 200
      · obtain ⟨hk1, hk2⟩ := back HVA.out hpos hbig
        have hV : pathV n b = pathT (tdec (cf n b)) := by unfold pathV; rw [HVA.out, if_pos ⟨rfl, hpos⟩, if_pos hbig]
        have hC : pathC n b = 0 := by unfold pathC; rw [HVA.out, if_pos rfl, if_pos hpos, if_pos hbig]
        rw [hV, hC] at CP
        obtain ⟨l, hl⟩ : ∃ l, l = pathT (tdec (cf n b)) := ⟨_, rfl⟩
        rw [← hl] at CP hk1 hk2 hbig
        have hfl : (flipL l).length = l.length := by unfold flipL; simp
        obtain ⟨s, hs⟩ : ∃ s : ByteArray, s = ⟨l.toArray⟩ := ⟨_, rfl⟩
        have hsl : s.data.toList = l := by rw [hs]
        have hsz : s.size = l.length := by rw [hs]; rfl
        rw [← hs] at CP
        have hs200 : s.size ≤ 200 := by omega
        have CR := hide (fun w => show Calls Tryd.prog 44 #[.string s] w fun e w' => e = .returned (.tuple #[.agg #[.int .i64 n, .int .i64 b], .int .i64 0]) ∧ Below w.heap.size w w' from by
          have h := implRop_any s w (by omega)
          rw [hsl, hk1] at h
          exact h)
        obtain ⟨s2, hs2⟩ : ∃ s : ByteArray, s = ⟨(flipL l).toArray⟩ := ⟨_, rfl⟩
        have CR2 := hide (fun w => show Calls Tryd.prog 44 #[.string s2] w fun e w' => e = .returned (.tuple #[.agg #[.int .i64 b, .int .i64 n], .int .i64 0]) ∧ Below w.heap.size w w' from by
          have h := implRop_any s2 w (by rw [hs2]; show (flipL l).length ≤ _; omega)
          rw [hs2] at h ⊢
          rw [show (⟨(flipL l).toArray⟩ : ByteArray).data.toList = flipL l from rfl, hk2] at h
          exact h)
        have HSL := hide hsl
        have HSZ := hide hsz
        have HFL := hide hfl
        have HS2 := hide hs2
        clear hk1 hk2 hV hC hl hs hsl hsz hfl hs2 hbig
        go_wp2_with fail
        refine (CP.out _).mono ?_
        rintro e w4 ⟨rfl, hb4⟩
        have K4 := hide (K3.out.below hb4)
        have B4 := hide (bstep B3.out hb4)
        clear hb4 k0 k1 k2 k3
        go_wp2_with fail
        refine (CR.out _).mono ?_
        rintro e w5 ⟨rfl, hb5⟩
        have K5 := hide ((K4.out.below hb5).alloc (.cells #[.int .i64 n, .int .i64 b] 27))
        have KS := hide (cell2_new (w := w5) (u := .int .i64 n) (v := .int .i64 b) 27)
        have B5 := hide (balloc (bstep B4.out hb5) (.cells #[.int .i64 n, .int .i64 b] 27))
        have hg5 : g < w5.heap.size := (K4.out.below hb5).lt
        have hw5 : w.heap.size ≤ w5.heap.size := by omega
        obtain ⟨w6, cap, hcv, hcb, hb6⟩ := bytes_conv2 (w5.alloc (.cells #[.int .i64 n, .int .i64 b] 27)) s
        rw [show (w5.alloc (.cells #[.int .i64 n, .int .i64 b] 27)).heap.size = w5.heap.size + 1 by simp] at hcv hcb
        have K6 := hide (K5.out.below hb6)
        have KS6 := hide (KS.out.below hb6)
        have B6 := hide (bstep B5.out hb6)
        rw [HSL.out] at hcb
        have HCB := hide hcb
        clear hb5 hb6 hcb
        go_wp2_with fail
        obtain ⟨gb, hgb⟩ : ∃ x, x = w5.heap.size + 1 := ⟨_, rfl⟩
        obtain ⟨gs, hgs⟩ : ∃ x, x = w5.heap.size := ⟨_, rfl⟩
        rw [← hgb] at HCB
        rw [← hgs] at KS6
        rw [← hgb, ← hgs]
        have n1 : ¬ gb = g := by omega
        have n2 : ¬ gb = gs := by omega
        have hgbw : w.heap.size ≤ gb := by omega
        clear hgb hgs hg5 hw5 K4 K5 KS hcv
        go_loopw [10] (fun s10 wr => ∃ k : Nat, k ≤ s.size ∧ s10 = .int .i64 (k : Int) ∧ (∀ j, j < s.size → wr.cell? ⟨gb, j, none⟩ = some (.int .u8 (mixB l k j).toNat) ∧ wr.frozen? ⟨gb, j, none⟩ = false) ∧ Cell2 wr g (.int .i64 n) (.int .i64 b) ∧ Cell2 wr gs (.int .i64 n) (.int .i64 b) ∧ Below w.heap.size w wr) (fun s10 _ => s.size - (intOf s10).toNat)
        case atStart => exact ⟨0, by omega, rfl, HCB.out, K6.out, KS6.out, B6.out⟩
        case round =>
          obtain ⟨k, hk, rfl, hcell, hkg, hks, hbel⟩ := hrel
          have HC := hide hcell
          have HKG := hide hkg
          have HKS := hide hks
          have HB := hide hbel
          clear hbel
          by_cases hlt : k < s.size
          · obtain ⟨c0, f0⟩ := hcell k hlt
            have hx : mixB l k k = l.getD k 0 := by unfold mixB; rw [if_neg (by omega)]
            rw [hx] at c0
            have hfg := flip_get l k (by rw [← HSZ.out]; exact hlt)
            obtain ⟨x, hxx⟩ : ∃ x, x = l.getD k 0 := ⟨_, rfl⟩
            rw [← hxx] at c0 hfg
            have HKEEP := hide (fun (u : UInt8) (hu : (flipL l).getD k 0 = u) => show ∀ j, j < s.size → (wr.setCell ⟨gb, k, none⟩ (.int .u8 u.toNat)).cell? ⟨gb, j, none⟩ = some (.int .u8 (mixB l (k + 1) j).toNat) ∧ (wr.setCell ⟨gb, k, none⟩ (.int .u8 u.toNat)).frozen? ⟨gb, j, none⟩ = false from fun j hj => by
              obtain ⟨e1, e2⟩ := HC.out j hj
              refine ⟨?_, by simpa [go_sem] using e2⟩
              by_cases hjk : j = k
              · subst hjk
                rw [World.cell?_setCell_same _ _ _ e1]
                unfold mixB
                rw [if_pos (by omega), hu]
              · rw [World.cell?_setCell_other _ _ _ _ (fun e => by cases e; exact hjk rfl), e1]
                unfold mixB
                by_cases h3 : j < k
                · rw [if_pos h3, if_pos (by omega)]
                · rw [if_neg h3, if_neg (by omega)])
            have HKO := hide (fun (u v : Value) (q : Nat) (hq : ¬ gb = q) (hc : Cell2 wr q (.int .i64 n) (.int .i64 b)) => show Cell2 (wr.setCell ⟨gb, k, none⟩ u) q (.int .i64 n) (.int .i64 b) from by
              obtain ⟨t0, t1, t2, t3⟩ := hc
              refine ⟨?_, ?_, ?_, ?_⟩
              · rw [World.cell?_setCell_other _ _ _ _ (fun e => by cases e; exact hq rfl)]; exact t0
              · rw [World.cell?_setCell_other _ _ _ _ (fun e => by cases e; exact hq rfl)]; exact t1
              · simpa [go_sem] using t2
              · simpa [go_sem] using t3)
            have i0 : (0 : Int) ≤ (k : Int) := by omega
            have i1 : (k : Int) < (s.size : Int) := by omega
            clear hcell hx hxx hkg hks
            by_cases x1 : x = 76
            · obtain ⟨_, z1⟩ := u8_is (n := 76) (by decide) x1
              have z1' : ((x.toNat : Int) == 76) = true := z1
              rw [if_pos x1] at hfg
              have HKP := hide (HKEEP.out 82 hfg)
              clear x1 z1 hfg HKEEP
              go_wp2_with fail
              go_roundw
              case rel => exact ⟨k + 1, by omega, by first | rfl | go_num, HKP.out, HKO.out _ (.int .i64 0) g n1 HKG.out, HKO.out _ (.int .i64 0) gs n2 HKS.out, bset HB.out hgbw _⟩
              case measure => simp only [intOf]; omega
            · obtain ⟨_, z1⟩ := u8_ne (n := 76) (by decide) x1
              have z1' : ((x.toNat : Int) == 76) = false := z1
              rw [if_neg x1] at hfg
              have HKP := hide (HKEEP.out 76 hfg)
              clear x1 z1 hfg HKEEP
              go_wp2_with fail
              go_roundw
              case rel => exact ⟨k + 1, by omega, by first | rfl | go_num, HKP.out, HKO.out _ (.int .i64 0) g n1 HKG.out, HKO.out _ (.int .i64 0) gs n2 HKS.out, bset HB.out hgbw _⟩
              case measure => simp only [intOf]; omega
          · have hcv := run_convert_bytes_back (P := Tryd.prog) wr 47 9 5 ⟨gb, 0, none⟩ cap (flipL l) Tryd.underlying47 Tryd.underlying5 Tryd.underlying9 (fun j hj => by
              have hj2 : j < s.size := by rw [HSZ.out, ← HFL.out]; exact hj
              have h := (HC.out j hj2).1
              rw [show (⟨gb, 0, none⟩ : Addr).add j = ⟨gb, j, none⟩ from addr_add gb j, h]
              unfold mixB
              rw [if_pos (by omega), List.getD_eq_getElem?_getD, List.getElem?_eq_getElem hj]
              rfl)
            rw [HFL.out, ← HSZ.out, ← HS2.out] at hcv
            clear hcell hkg hks
            go_wp2_with fail
            refine (CR2.out _).mono ?_
            rintro e w7 ⟨rfl, hb7⟩
            have B7 := hide (balloc (bstep HB.out hb7) (.cells #[.int .i64 b, .int .i64 n] 27))
            obtain ⟨p0, p1, p2, p3⟩ := (HKG.out.below hb7).alloc (.cells #[.int .i64 b, .int .i64 n] 27)
            obtain ⟨q0, q1, q2, q3⟩ := (HKS.out.below hb7).alloc (.cells #[.int .i64 b, .int .i64 n] 27)
            obtain ⟨r0, r1, r2, r3⟩ := cell2_new (w := w7) (u := .int .i64 b) (v := .int .i64 n) 27
            clear hb7 hcv
            go_wp2_with fail
            go_ret
            exact ⟨by simp, B7.out⟩
      · have hC : pathC n b = 5 := by unfold pathC; rw [HVA.out, if_pos rfl, if_pos hpos, if_neg hbig]
        rw [hC] at CP
        obtain ⟨s, hs⟩ : ∃ s : ByteArray, s = ⟨(pathV n b).toArray⟩ := ⟨_, rfl⟩
        rw [← hs] at CP
        clear hC hs hbig
        go_wp2_with fail
        refine (CP.out _).mono ?_
        rintro e w4 ⟨rfl, hb4⟩
        have B4 := hide (bstep B3.out hb4)
        clear hb4 k0 k1 k2 k3
        go_wp2_with fail
        go_ret
        exact ⟨rfl, B4.out⟩
    · have hz : n = 0 := by omega
      have hC : pathC n b = 2 := by unfold pathC; rw [HVA.out, if_pos rfl, if_neg hpos]
      rw [hC] at CP
      obtain ⟨s, hs⟩ : ∃ s : ByteArray, s = ⟨(pathV n b).toArray⟩ := ⟨_, rfl⟩
      rw [← hs] at CP
      subst hz
      clear hC hs
      go_wp2_with fail
      refine (CP.out _).mono ?_
      rintro e w4 ⟨rfl, hb4⟩
      have B4 := hide (bstep B3.out hb4)
      obtain ⟨p0, p1, p2, p3⟩ := K3.out.below hb4
      clear hb4 k0 k1 k2 k3
      go_wp2_with fail
      go_ret
      exact ⟨rfl, B4.out⟩
  · have HL := hide hl
    clear hl
    go_enter Tryd.func12, Tryd.ntmps12
    go_wp2_with fail
    refine (a2Long_any _ _ _ _ _ _ _ m0 (Nat.zero_le _)).mono ?_
    rintro e w' ⟨rfl, rfl⟩
    rw [HL.out]
    go_wp2_with fail
    go_ret
    exact ⟨rfl, Below.refl _ _⟩
end Go.Proofs.YtnlimfijepjliaaDoor
