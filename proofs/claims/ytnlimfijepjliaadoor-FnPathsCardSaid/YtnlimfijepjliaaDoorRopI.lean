/-
  RatioOfPath: the program's walk, and the walk of the law.
-/
import Derived.Test.YtnlimfijepjliaaDoorRop
import Derived.Test.YtnlimfijepjliaaDoorRatioX
import Derived.Test.YtnlimfijepjliaaDoorShelf
import Derived.Test.YtnlimfijepjliaaDoorMax
import Derived.Test.YtnlimfijepjliaaDoorRows
import Derived.Shelf.Strings.SlTrimAscii
namespace Go.Proofs.YtnlimfijepjliaaDoor
open Go.RowKit

theorem trimLR_any (s : ByteArray) (w : World) (hs : s.size ≤ 4294967280) :
    Calls Tryd.prog 74 #[.string s, .string ⟨#[76, 82]⟩] w fun e w' => e = .returned (.string ⟨(Lib.trimS s.data.toList [76, 82]).toArray⟩) ∧ Below w.heap.size w w' :=
  Any.strings_Trim_laid Tryd.lays160 (by kernel_rfl) s ⟨#[76, 82]⟩ w (by omega) (by decide) (ascii_of_all (by decide))
theorem cells_keep {w : World} {g h : Nat} {u v x : Value} {j : Nat} (hc : w.cell? ⟨h, j, none⟩ = some x) (hne : ¬ g = h) : ((w.setCell ⟨g, 0, none⟩ u).setCell ⟨g, 1, none⟩ v).cell? ⟨h, j, none⟩ = some x := by
  rw [World.cell?_setCell_other _ _ _ _ (fun e => by cases e; exact hne rfl), World.cell?_setCell_other _ _ _ _ (fun e => by cases e; exact hne rfl)]
  exact hc
set_option maxHeartbeats 4000000 in
set_option maxRecDepth 100000 in
theorem implRop_any (s : ByteArray) (w : World) (hs : s.size ≤ 4294967280) :
    Calls Tryd.prog 44 #[.string s] w fun e w' => e = .returned (ropV s.data.toList) ∧ Below w.heap.size w w' := by
  have B0 := hide (balloc (Below.refl w.heap.size w) (.cells #[.int .i64 0, .int .i64 0] 27))
  have K0 := hide (cell2_new (w := w) (u := .int .i64 0) (v := .int .i64 0) 27)
  have CT := hide (fun w => trimLR_any s w hs)
  have hlen := len_of s
  obtain ⟨l, hl⟩ : ∃ l, l = s.data.toList := ⟨_, rfl⟩
  rw [← hl] at hlen CT ⊢
  obtain ⟨R, hR⟩ : ∃ R, R = ropV l := ⟨_, rfl⟩
  rw [← hR]
  have HR := hide hR
  have HL := hide hl
  have HLEN := hide hlen
  clear hR hl hlen
  by_cases h200 : 200 < s.size
  · have HE := hide (HR.out.trans (ropV_long (by rw [HLEN.out]; exact h200)))
    go_enter Tryd.func44, Tryd.ntmps44
    go_wp2_with fail
    refine bodyPost_ret (v := .tuple #[.agg #[.int .i64 0, .int .i64 0], .int .i64 5]) (by simp [results, Tryd.results44, go_sem]) rfl ⟨by rw [HE.out], ?_⟩
    repeat (first | exact B0.out | refine balloc ?_ _ | refine bset ?_ (by first | (simp; done) | (simp; omega)) _)
  · have H2 := hide (show ¬ 200 < l.length by rw [HLEN.out]; exact h200)
    cases hlr : lrOk l
    · have ht := trim_no hlr
      have HE := hide (HR.out.trans (ropV_bad H2.out hlr))
      obtain ⟨T, hT⟩ : ∃ T : ByteArray, T = ⟨(Lib.trimS l [76, 82]).toArray⟩ := ⟨_, rfl⟩
      have he : T.toList.isEmpty = false := isEmpty_of (by
        intro e
        apply ht
        rw [hT] at e
        exact List.eq_nil_of_length_eq_zero e)
      rw [← hT] at CT
      clear hT ht hlr
      go_enter Tryd.func44, Tryd.ntmps44
      go_wp2_with fail
      refine (CT.out _).mono ?_
      rintro e w1 ⟨rfl, hb1⟩
      have B1 := hide (bstep B0.out hb1)
      obtain ⟨k0, k1, k2, k3⟩ := K0.out.below hb1
      clear hb1
      go_wp2_with fail
      refine bodyPost_ret (v := .tuple #[.agg #[.int .i64 0, .int .i64 0], .int .i64 7]) (by simp [results, Tryd.results44, go_sem, k0, k1]) rfl ⟨by rw [HE.out], ?_⟩
      repeat (first | exact B1.out | refine balloc ?_ _ | refine bset ?_ (by first | (simp; done) | (simp; omega)) _)
    · have HLR := hide hlr
      have ht := trim_yes hlr
      rw [ht] at CT
      clear ht hlr
      go_enter Tryd.func44, Tryd.ntmps44
      go_wp2_with fail
      refine (CT.out _).mono ?_
      rintro e w1 ⟨rfl, hb1⟩
      have B1 := hide (bstep B0.out hb1)
      have K1 := hide (K0.out.below hb1)
      have hl1 : w.heap.size < w1.heap.size := (K0.out.below hb1).lt
      clear hb1
      obtain ⟨w2, hw2⟩ : ∃ w2, w2 = ((w1.alloc (.cells #[.int .i64 0, .int .i64 1] 27)).alloc (.cells #[.int .i64 1, .int .i64 0] 27)).alloc (.cells #[.int .i64 1, .int .i64 1] 27) := ⟨_, rfl⟩
      have C4 := hide (show Cell2 w2 w1.heap.size (.int .i64 0) (.int .i64 1) by rw [hw2]; exact ((cell2_new 27).alloc _).alloc _)
      have C5 := hide (show Cell2 w2 (w1.heap.size + 1) (.int .i64 1) (.int .i64 0) by
        rw [hw2]
        have h := (cell2_new (w := w1.alloc (.cells #[.int .i64 0, .int .i64 1] 27)) (u := .int .i64 1) (v := .int .i64 0) 27).alloc (.cells #[.int .i64 1, .int .i64 1] 27)
        simpa using h)
      have C6 := hide (show Cell2 w2 (w1.heap.size + 2) (.int .i64 1) (.int .i64 1) by
        rw [hw2]
        have h := cell2_new (w := (w1.alloc (.cells #[.int .i64 0, .int .i64 1] 27)).alloc (.cells #[.int .i64 1, .int .i64 0] 27)) (u := .int .i64 1) (v := .int .i64 1) 27
        simpa using h)
      have BW : Below w1.heap.size w1 w2 := by rw [hw2]; exact balloc (balloc (balloc (Below.refl _ _) _) _) _
      have B2 := hide (bstep B1.out BW)
      have K2 := hide (K1.out.below BW)
      have hz2 : w2.heap.size = w1.heap.size + 3 := by rw [hw2]; simp
      obtain ⟨w3, cap, hcv, hcb, hb3⟩ := bytes_conv w2 s
      rw [hz2] at hcv hcb
      have C4' := hide (C4.out.below hb3)
      have C5' := hide (C5.out.below hb3)
      have C6' := hide (C6.out.below hb3)
      have K3 := hide (K2.out.below hb3)
      have B3 := hide (bstep B2.out hb3)
      have HCB := hide hcb
      clear BW hcb hb3 hz2 C4 C5 C6
      subst hw2
      go_wp2_with fail
      obtain ⟨g7, e7⟩ : ∃ g, g = w1.heap.size + 3 := ⟨_, rfl⟩
      obtain ⟨g6, e6⟩ : ∃ g, g = w1.heap.size + 1 + 1 := ⟨_, rfl⟩
      obtain ⟨g5, e5⟩ : ∃ g, g = w1.heap.size + 1 := ⟨_, rfl⟩
      obtain ⟨g4, e4⟩ : ∃ g, g = w1.heap.size := ⟨_, rfl⟩
      have hKB : ∀ j, j < s.size → w3.cell? ⟨g7, j, none⟩ = some (.int .u8 (l.getD j 0).toNat) := by
        rw [e7, HL.out]
        exact HCB.out
      have K4 := hide (show Cell2 w3 g4 (.int .i64 0) (.int .i64 1) by rw [e4]; exact C4'.out)
      have K5 := hide (show Cell2 w3 g5 (.int .i64 1) (.int .i64 0) by rw [e5]; exact C5'.out)
      have K6 := hide (show Cell2 w3 g6 (.int .i64 1) (.int .i64 1) by rw [e6]; exact C6'.out)
      have KB := hide hKB
      rw [← e7, ← e6, ← e5, ← e4]
      obtain ⟨g0, e0⟩ : ∃ g, g = w.heap.size := ⟨_, rfl⟩
      rw [← e0] at K3
      have hg0 : w.heap.size ≤ g0 := by omega
      have hg4 : w.heap.size ≤ g4 := by omega
      have hg5 : w.heap.size ≤ g5 := by omega
      have hg6 : w.heap.size ≤ g6 := by omega
      have n04 : ¬ g0 = g4 := by omega
      have n05 : ¬ g0 = g5 := by omega
      have n06 : ¬ g0 = g6 := by omega
      have n40 : ¬ g4 = g0 := by omega
      have n50 : ¬ g5 = g0 := by omega
      have n60 : ¬ g6 = g0 := by omega
      have n45 : ¬ g4 = g5 := by omega
      have n46 : ¬ g4 = g6 := by omega
      have n56 : ¬ g5 = g6 := by omega
      have n54 : ¬ g5 = g4 := by omega
      have n64 : ¬ g6 = g4 := by omega
      have n65 : ¬ g6 = g5 := by omega
      have n47 : ¬ g4 = g7 := by omega
      have n57 : ¬ g5 = g7 := by omega
      have n67 : ¬ g6 = g7 := by omega
      try rw [← e0]
      have HG0 := hide e0
      clear hKB e7 e6 e5 e4 e0 HCB C4' C5' C6' K0 K1 K2 hl1
      go_loopw [8, 23] (fun _ s23 wr => ∃ (k : Nat) (a b c d : Int), k ≤ s.size ∧ (0 ≤ a ∧ 0 ≤ b ∧ 0 ≤ c ∧ 0 ≤ d) ∧ (a + c ≤ 1000000000 ∧ b + d ≤ 1000000000) ∧ rp l 0 1 1 0 = rp (l.drop k) a b c d ∧ s23 = .int .i64 (k : Int) ∧ Cell2 wr g4 (.int .i64 a) (.int .i64 b) ∧ Cell2 wr g5 (.int .i64 c) (.int .i64 d) ∧ Cell2 wr g6 (.int .i64 (a + c)) (.int .i64 (b + d)) ∧ Cell2 wr g0 (.int .i64 0) (.int .i64 0) ∧ (∀ j, j < s.size → wr.cell? ⟨g7, j, none⟩ = some (.int .u8 (l.getD j 0).toNat)) ∧ Below w.heap.size w wr) (fun _ s23 _ => s.size - (intOf s23).toNat)
      case atStart => exact ⟨0, 0, 1, 1, 0, by omega, by omega, by omega, rfl, rfl, K4.out, K5.out, K6.out, K3.out, KB.out, B3.out⟩
      case round =>
        obtain ⟨k, a, b, c, d, hk, ⟨a0, b0, c0, d0⟩, ⟨ac, bd⟩, hrp, rfl, H4, H5, H6, H0, hbt, hbel⟩ := hrel
        have HRP := hide hrp
        have HK4 := hide H4
        have HK5 := hide H5
        have HK6 := hide H6
        have HK0 := hide H0
        have HBT := hide hbt
        have HB := hide hbel
        obtain ⟨k0, k1, k2, k3⟩ := H0
        obtain ⟨p0, p1, p2, p3⟩ := H4
        obtain ⟨q0, q1, q2, q3⟩ := H5
        obtain ⟨r0, r1, r2, r3⟩ := H6
        clear hrp hbel
        by_cases hlt : k < s.size
        · have hb := hbt k hlt
          have hll : k < l.length := by rw [HLEN.out]; exact hlt
          have hget : l.drop k = l.getD k 0 :: l.drop (k + 1) := by
            rw [List.drop_eq_getElem_cons hll, List.getD_eq_getElem?_getD, List.getElem?_eq_getElem hll]
            rfl
          obtain ⟨x, hx⟩ : ∃ x, x = l.getD k 0 := ⟨_, rfl⟩
          rw [← hx] at hb hget
          have i0 : (0 : Int) ≤ (k : Int) := by omega
          have i1 : (k : Int) < (s.size : Int) := by omega
          clear hbt hx hll
          by_cases x1 : x = 76
          · obtain ⟨_, z1⟩ := u8_is (n := 76) (by decide) x1
            have z1' : ((x.toNat : Int) == 76) = true := z1
            have hst := HRP.out
            rw [hget, x1, rp_L] at hst
            clear x1 z1 hget k0 k1 k2 k3
            go_upto_region 13 with fail
            obtain ⟨wx, hwx⟩ : ∃ wx, wx = (wr.setCell ⟨g5, 0, none⟩ (.int .i64 (a + c))).setCell ⟨g5, 1, none⟩ (.int .i64 (b + d)) := ⟨_, rfl⟩
            have X4 : Cell2 wx g4 (.int .i64 (a)) (.int .i64 (b)) := by rw [hwx]; exact HK4.out.other n45 _ _
            have X5 : Cell2 wx g5 (.int .i64 (a + c)) (.int .i64 (b + d)) := by rw [hwx]; exact HK5.out.set _ _
            have X6 : Cell2 wx g6 (.int .i64 (a + c)) (.int .i64 (b + d)) := by rw [hwx]; exact HK6.out.other n65 _ _
            have X0 := hide (show Cell2 wx g0 (.int .i64 0) (.int .i64 0) by rw [hwx]; exact HK0.out.other n05 _ _)
            have XB := hide (show ∀ j, j < s.size → wx.cell? ⟨g7, j, none⟩ = some (.int .u8 (l.getD j 0).toNat) by rw [hwx]; exact fun j hj => cells_keep (HBT.out j hj) n57)
            have BX := hide (show Below w.heap.size w wx by rw [hwx]; exact bset (bset HB.out hg5 _) hg5 _)
            have HX4 := hide X4
            have HX5 := hide X5
            have HX6 := hide X6
            rw [← hwx]
            clear hwx p0 p1 p2 p3 q0 q1 q2 q3 r0 r1 r2 r3
            obtain ⟨p0, p1, p2, p3⟩ := X4
            obtain ⟨q0, q1, q2, q3⟩ := X5
            obtain ⟨r0, r1, r2, r3⟩ := X6
            go_upto_region 14 with fail
            obtain ⟨wy, hwy⟩ : ∃ wy, wy = (wx.setCell ⟨g6, 0, none⟩ (.int .i64 (a + (a + c)))).setCell ⟨g6, 1, none⟩ (.int .i64 (b + (b + d))) := ⟨_, rfl⟩
            have Y4 := hide (show Cell2 wy g4 (.int .i64 (a)) (.int .i64 (b)) by rw [hwy]; exact HX4.out.other n46 _ _)
            have Y5 := hide (show Cell2 wy g5 (.int .i64 (a + c)) (.int .i64 (b + d)) by rw [hwy]; exact HX5.out.other n56 _ _)
            have Y6 : Cell2 wy g6 (.int .i64 (a + (a + c))) (.int .i64 (b + (b + d))) := by rw [hwy]; exact HX6.out.set _ _
            have Y0 : Cell2 wy g0 (.int .i64 0) (.int .i64 0) := by rw [hwy]; exact X0.out.other n06 _ _
            have YB := hide (show ∀ j, j < s.size → wy.cell? ⟨g7, j, none⟩ = some (.int .u8 (l.getD j 0).toNat) by rw [hwy]; exact fun j hj => cells_keep (XB.out j hj) n67)
            have BY := hide (show Below w.heap.size w wy by rw [hwy]; exact bset (bset BX.out hg6 _) hg6 _)
            have HY6 := hide Y6
            have HY0 := hide Y0
            rw [← hwy]
            clear hwy p0 p1 p2 p3 q0 q1 q2 q3 r0 r1 r2 r3
            obtain ⟨k0, k1, k2, k3⟩ := Y0
            obtain ⟨r0, r1, r2, r3⟩ := Y6
            by_cases g1 : 1000000000 < a + (a + c)
            · have HE := hide (HR.out.trans (ropV_none H2.out HLR.out (by rw [hst, if_pos (.inl g1)])))
              clear hst
              go_wp2_with fail
              refine bodyPost_ret (v := .tuple #[.agg #[.int .i64 0, .int .i64 0], .int .i64 2]) (by simp [results, Tryd.results44, go_sem, k0, k1, n04, n05, n06, n40, n50, n60]) rfl ⟨by rw [HE.out], ?_⟩
              repeat (first | exact BY.out | refine balloc ?_ _ | refine bset ?_ (by first | exact hg0 | exact hg4 | exact hg5 | exact hg6 | exact Nat.le_refl _ | (simp; done) | (simp; omega)) _)
            · by_cases g2 : 1000000000 < b + (b + d)
              · have HE := hide (HR.out.trans (ropV_none H2.out HLR.out (by rw [hst, if_pos (.inr g2)])))
                clear hst
                go_wp2_with fail
                refine bodyPost_ret (v := .tuple #[.agg #[.int .i64 0, .int .i64 0], .int .i64 2]) (by simp [results, Tryd.results44, go_sem, k0, k1, n04, n05, n06, n40, n50, n60]) rfl ⟨by rw [HE.out], ?_⟩
                repeat (first | exact BY.out | refine balloc ?_ _ | refine bset ?_ (by first | exact hg0 | exact hg4 | exact hg5 | exact hg6 | exact Nat.le_refl _ | (simp; done) | (simp; omega)) _)
              · rw [if_neg (by omega)] at hst
                have HST := hide hst
                clear hst
                go_wp2_with fail
                go_roundw
                case rel => exact ⟨k + 1, a, b, a + c, b + d, by omega, by omega, by omega, HST.out, by first | rfl | go_num, Y4.out, Y5.out, HY6.out, HY0.out, YB.out, BY.out⟩
                case measure => simp only [intOf]; omega
          · obtain ⟨_, z1⟩ := u8_ne (n := 76) (by decide) x1
            have z1' : ((x.toNat : Int) == 76) = false := z1
            have hst := HRP.out
            rw [hget, rp_R x1] at hst
            clear x1 z1 hget k0 k1 k2 k3
            go_upto_region 13 with fail
            obtain ⟨wx, hwx⟩ : ∃ wx, wx = (wr.setCell ⟨g4, 0, none⟩ (.int .i64 (a + c))).setCell ⟨g4, 1, none⟩ (.int .i64 (b + d)) := ⟨_, rfl⟩
            have X4 : Cell2 wx g4 (.int .i64 (a + c)) (.int .i64 (b + d)) := by rw [hwx]; exact HK4.out.set _ _
            have X5 : Cell2 wx g5 (.int .i64 (c)) (.int .i64 (d)) := by rw [hwx]; exact HK5.out.other n54 _ _
            have X6 : Cell2 wx g6 (.int .i64 (a + c)) (.int .i64 (b + d)) := by rw [hwx]; exact HK6.out.other n64 _ _
            have X0 := hide (show Cell2 wx g0 (.int .i64 0) (.int .i64 0) by rw [hwx]; exact HK0.out.other n04 _ _)
            have XB := hide (show ∀ j, j < s.size → wx.cell? ⟨g7, j, none⟩ = some (.int .u8 (l.getD j 0).toNat) by rw [hwx]; exact fun j hj => cells_keep (HBT.out j hj) n47)
            have BX := hide (show Below w.heap.size w wx by rw [hwx]; exact bset (bset HB.out hg4 _) hg4 _)
            have HX4 := hide X4
            have HX5 := hide X5
            have HX6 := hide X6
            rw [← hwx]
            clear hwx p0 p1 p2 p3 q0 q1 q2 q3 r0 r1 r2 r3
            obtain ⟨p0, p1, p2, p3⟩ := X4
            obtain ⟨q0, q1, q2, q3⟩ := X5
            obtain ⟨r0, r1, r2, r3⟩ := X6
            go_upto_region 14 with fail
            obtain ⟨wy, hwy⟩ : ∃ wy, wy = (wx.setCell ⟨g6, 0, none⟩ (.int .i64 (a + c + c))).setCell ⟨g6, 1, none⟩ (.int .i64 (b + d + d)) := ⟨_, rfl⟩
            have Y4 := hide (show Cell2 wy g4 (.int .i64 (a + c)) (.int .i64 (b + d)) by rw [hwy]; exact HX4.out.other n46 _ _)
            have Y5 := hide (show Cell2 wy g5 (.int .i64 (c)) (.int .i64 (d)) by rw [hwy]; exact HX5.out.other n56 _ _)
            have Y6 : Cell2 wy g6 (.int .i64 (a + c + c)) (.int .i64 (b + d + d)) := by rw [hwy]; exact HX6.out.set _ _
            have Y0 : Cell2 wy g0 (.int .i64 0) (.int .i64 0) := by rw [hwy]; exact X0.out.other n06 _ _
            have YB := hide (show ∀ j, j < s.size → wy.cell? ⟨g7, j, none⟩ = some (.int .u8 (l.getD j 0).toNat) by rw [hwy]; exact fun j hj => cells_keep (XB.out j hj) n67)
            have BY := hide (show Below w.heap.size w wy by rw [hwy]; exact bset (bset BX.out hg6 _) hg6 _)
            have HY6 := hide Y6
            have HY0 := hide Y0
            rw [← hwy]
            clear hwy p0 p1 p2 p3 q0 q1 q2 q3 r0 r1 r2 r3
            obtain ⟨k0, k1, k2, k3⟩ := Y0
            obtain ⟨r0, r1, r2, r3⟩ := Y6
            by_cases g1 : 1000000000 < a + c + c
            · have HE := hide (HR.out.trans (ropV_none H2.out HLR.out (by rw [hst, if_pos (.inl g1)])))
              clear hst
              go_wp2_with fail
              refine bodyPost_ret (v := .tuple #[.agg #[.int .i64 0, .int .i64 0], .int .i64 2]) (by simp [results, Tryd.results44, go_sem, k0, k1, n04, n05, n06, n40, n50, n60]) rfl ⟨by rw [HE.out], ?_⟩
              repeat (first | exact BY.out | refine balloc ?_ _ | refine bset ?_ (by first | exact hg0 | exact hg4 | exact hg5 | exact hg6 | exact Nat.le_refl _ | (simp; done) | (simp; omega)) _)
            · by_cases g2 : 1000000000 < b + d + d
              · have HE := hide (HR.out.trans (ropV_none H2.out HLR.out (by rw [hst, if_pos (.inr g2)])))
                clear hst
                go_wp2_with fail
                refine bodyPost_ret (v := .tuple #[.agg #[.int .i64 0, .int .i64 0], .int .i64 2]) (by simp [results, Tryd.results44, go_sem, k0, k1, n04, n05, n06, n40, n50, n60]) rfl ⟨by rw [HE.out], ?_⟩
                repeat (first | exact BY.out | refine balloc ?_ _ | refine bset ?_ (by first | exact hg0 | exact hg4 | exact hg5 | exact hg6 | exact Nat.le_refl _ | (simp; done) | (simp; omega)) _)
              · rw [if_neg (by omega)] at hst
                have HST := hide hst
                clear hst
                go_wp2_with fail
                go_roundw
                case rel => exact ⟨k + 1, a + c, b + d, c, d, by omega, by omega, by omega, HST.out, by first | rfl | go_num, Y4.out, Y5.out, HY6.out, HY0.out, YB.out, BY.out⟩
                case measure => simp only [intOf]; omega
        · have hend : rp l 0 1 1 0 = some (a + c, b + d) := by
            rw [HRP.out, List.drop_eq_nil_of_le (by have := HLEN.out; omega)]; rfl
          have HE := hide (HR.out.trans (ropV_some H2.out HLR.out hend))
          clear hend hbt
          go_wp2_with fail
          refine bodyPost_ret (v := .tuple #[.agg #[.int .i64 (a + c), .int .i64 (b + d)], .int .i64 0]) (by simp [results, Tryd.results44, go_sem, k0, k1, n04, n05, n06, n40, n50, n60]) rfl ⟨by rw [HE.out], ?_⟩
          repeat (first | exact HB.out | refine balloc ?_ _ | refine bset ?_ (by first | exact hg0 | exact hg4 | exact hg5 | exact hg6 | exact Nat.le_refl _ | (simp; done) | (simp; omega)) _)
theorem walk_FnExactRatioOfPath (a0 : ByteArray) (w : World) (h0 : a0.size ≤ maxLen) (_hL : laidMetH Tryd.prog Rows.fnExactRatioOfPathRow.laid w) (_hS : w.ShapedOpen Tryd.prog) :
    Calls Tryd.prog 11 #[.string a0] w fun e w' => e = .returned (.bool true) ∧ Below w.heap.size w w' := by
  have hm : a0.size ≤ 9223372036854775807 := h0
  clear _hL _hS
  by_cases hl : a0.size ≤ 1048576
  · obtain ⟨n, d, c, hv⟩ : ∃ (n d c : Int), ropV a0.data.toList = .tuple #[.agg #[.int .i64 n, .int .i64 d], .int .i64 c] := by
      unfold ropV
      split
      · exact ⟨_, _, _, rfl⟩
      · split
        · split
          · exact ⟨_, _, _, rfl⟩
          · exact ⟨_, _, _, rfl⟩
        · exact ⟨_, _, _, rfl⟩
    have C1 := hide (fun w => hv ▸ specRop_any a0 w (by omega))
    have C2 := hide (fun w => hv ▸ implRop_any a0 w (by omega))
    have hq := eqR_refl n d
    clear hv
    go_enter Tryd.func11, Tryd.ntmps11
    go_wp2_with fail
    refine (C1.out _).mono ?_
    rintro e w1 ⟨rfl, hb1⟩
    have B1 := hide hb1
    have BA := hide (balloc hb1 (.cells #[.int .i64 n, .int .i64 d] 27))
    have K1 := hide (cell2_new (w := w1) (u := .int .i64 n) (v := .int .i64 d) 27)
    clear hb1
    go_wp2_with fail
    refine (C2.out _).mono ?_
    rintro e w2 ⟨rfl, hb2⟩
    have B2 := hide (bstep BA.out hb2)
    obtain ⟨k0, k1, k2, k3⟩ := (K1.out.below hb2).alloc (.cells #[.int .i64 n, .int .i64 d] 27)
    have BA2 := hide (balloc B2.out (.cells #[.int .i64 n, .int .i64 d] 27))
    clear hb2
    go_wp2_with fail
    refine (eqRatio_any _ _ _ _ _).mono ?_
    rintro e w3 ⟨rfl, hb3⟩
    have B3 := hide (bstep BA2.out hb3)
    clear hb3 k0 k1 k2 k3
    rw [hq]
    go_wp2_with fail
    go_ret
    exact ⟨rfl, B3.out⟩
  · go_enter Tryd.func11, Tryd.ntmps11
    go_wp2_with fail
    go_ret
    exact ⟨rfl, Below.refl _ _⟩
end Go.Proofs.YtnlimfijepjliaaDoor
