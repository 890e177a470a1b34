/-
  The walk of the law FnNeighbours.
-/
import Derived.Test.YtjojeoehdocojaaBest
import Derived.Lib.QuietBelow
import Derived.BigQuiet
import Derived.Test.YtjojeoehdocojaaDrawA
import Derived.Test.YtjojeoehdocojaaSmp
import Derived.Test.YtjojeoehdocojaaSides
import Derived.Deep.RegionHeld3
namespace Go.Proofs.Ytjojeoehdocojaa
open Go.RowKit

/-- What the neighbours of a valid ratio are. -/
def NbGood (a b m l1 l2 h1 h2 : Int) : Prop := validR l1 l2 = true ∧ validR h1 h2 = true ∧ l2 ≤ m ∧ h2 ≤ m ∧
  ((b ≤ m ∧ l1 = a ∧ l2 = b ∧ h1 = a ∧ h2 = b) ∨ (m < b ∧ l1 * b < a * l2 ∧ a * h2 < h1 * b ∧ h1 * l2 - l1 * h2 = 1 ∧ m < l2 + h2))
theorem nb_good {a b m l1 l2 h1 h2 c : Int} (hv : validR a b = true) (hm : 1 ≤ m ∧ m ≤ 1000000000) (h : NbRes a b m l1 l2 h1 h2 c) : (c = 2 ∧ True) ∨ (c = 0 ∧ NbGood a b m l1 l2 h1 h2) := by
  rcases h with ⟨g, _⟩ | ⟨_, g, _⟩ | ⟨_, _, g, e1, e2, e3, e4, e5⟩ | ⟨_, _, g, x, y, z, u, hn, h⟩
  · rw [hv] at g; contradiction
  · rw [inR_mk hm] at g; contradiction
  · rw [e1, e2, e3, e4]
    exact .inr ⟨e5, hv, hv, g, g, .inl ⟨g, rfl, rfl, rfl, rfl⟩⟩
  · rcases h with ⟨hb, e1, e2, e3, e4, e5⟩ | ⟨_, _, _, _, _, e5⟩
    · right
      obtain ⟨b1, b2⟩ := both_true hb
      obtain ⟨⟨_, _, t1, t2, det⟩, u1, u2, u3⟩ := hn
      have hsm := sub_mul_mod a b
      rw [e1, e2, e3, e4]
      refine ⟨e5, b1, b2, t1.2, t2.2, .inr ⟨g, ?_, ?_, ?_, u3⟩⟩
      · have : a * y - (a / b * y + x) * b = a % b * y - x * b := by rw [← hsm]; grind
        omega
      · have : (a / b * u + z) * b - a * u = z * b - a % b * u := by rw [← hsm]; grind
        omega
      · have : (a / b * u + z) * y - (a / b * y + x) * u = z * y - x * u := by grind
        omega
    · exact .inl ⟨e5, trivial⟩
theorem sub_val {a b c d : Int} (h1 : validR a b = true) (h2 : validR c d = true) (h : subC a b c d = 0) : validR (subN a b c d) (subD a b c d) = true ∧ subN a b c d * (b * d) = (a * d - c * b) * subD a b c d := by
  obtain ⟨v1, v2, _⟩ := validR_true h1
  obtain ⟨w1, w2, _⟩ := validR_true h2
  obtain ⟨e1, e2, e3⟩ := sub_tt h1 h2
  have m1 := mulB a d v2 (by omega)
  have m2 := mulB c b w2 (by omega)
  have m3 := mulB b d (by omega) (by omega)
  have hp : 0 < b * d := Int.mul_pos (by omega) (by omega)
  have hne : ¬ b * d = 0 := by omega
  unfold mrC at e3
  rw [if_neg hne, h] at e3
  have hok : mkOk (a * d - c * b) (b * d) = true := by
    cases hh : mkOk (a * d - c * b) (b * d)
    · rw [hh] at e3; simp at e3
    · rfl
  rw [e1, e2, mrN_of _ hne, mrD_of _ hne]
  exact ⟨mk_valid hne (by unfold absI; omega) (by unfold absI; omega) hok, mk_val (by omega) hok⟩
theorem cmpR_lt {a b c d : Int} (h1 : validR a b = true) (h2 : validR c d = true) (h : a * d < c * b) : cmpR a b c d = -1 := by
  unfold cmpR cmpI; rw [both_tt h1 h2, if_pos rfl, if_pos h]
theorem cmpR_gt {a b c d : Int} (h1 : validR a b = true) (h2 : validR c d = true) (h : c * b < a * d) : cmpR a b c d = 1 := by
  unfold cmpR cmpI; rw [both_tt h1 h2, if_pos rfl, if_neg (by omega), if_pos h]
theorem cmpR_eq {a b c d : Int} (h1 : validR a b = true) (h2 : validR c d = true) (h : a * d = c * b) : cmpR a b c d = 0 := by
  unfold cmpR cmpI; rw [both_tt h1 h2, if_pos rfl, if_neg (by omega), if_neg (by omega)]
/-- Comparing the gaps is comparing the products. -/
theorem gaps_cmp {b l2 h2 U D un ud vn vd : Int} (hb : 1 ≤ b) (hl : 1 ≤ l2) (hh : 1 ≤ h2) (hu : 1 ≤ ud) (hv : 1 ≤ vd) (e1 : un * (b * l2) = U * ud) (e2 : vn * (h2 * b) = D * vd) :
    (U * h2 < D * l2 → un * vd < vn * ud) ∧ (D * l2 < U * h2 → vn * ud < un * vd) ∧ (U * h2 = D * l2 → un * vd = vn * ud) := by
  have hk : 0 < b * (l2 * h2) := Int.mul_pos (by omega) (Int.mul_pos (by omega) (by omega))
  have huv : 0 < ud * vd := Int.mul_pos (by omega) (by omega)
  have f1 : un * vd * (b * (l2 * h2)) = U * h2 * (ud * vd) := by
    have : un * vd * (b * (l2 * h2)) = un * (b * l2) * (vd * h2) := by grind
    rw [this, e1]; grind
  have f2 : vn * ud * (b * (l2 * h2)) = D * l2 * (ud * vd) := by
    have : vn * ud * (b * (l2 * h2)) = vn * (h2 * b) * (ud * l2) := by grind
    rw [this, e2]; grind
  refine ⟨fun h => ?_, fun h => ?_, fun h => ?_⟩
  · have : U * h2 * (ud * vd) < D * l2 * (ud * vd) := Int.mul_lt_mul_of_pos_right h huv
    exact Int.lt_of_mul_lt_mul_right (a := b * (l2 * h2)) (by omega) (by omega)
  · have : D * l2 * (ud * vd) < U * h2 * (ud * vd) := Int.mul_lt_mul_of_pos_right h huv
    exact Int.lt_of_mul_lt_mul_right (a := b * (l2 * h2)) (by omega) (by omega)
  · rw [h] at f1
    exact Int.eq_of_mul_eq_mul_right (a := b * (l2 * h2)) (by omega) (by omega)
/-- Eight cells are as they were, and below w0's size nothing has turned. -/
def Held8 (p1 p2 p3 p4 p5 p6 p7 p8 : Addr) (a b c d e f g h : Value) (w0 w' : World) : Prop :=
  w'.cell? p1 = some a ∧ w'.cell? p2 = some b ∧ w'.cell? p3 = some c ∧ w'.cell? p4 = some d ∧ w'.cell? p5 = some e ∧ w'.cell? p6 = some f ∧ w'.cell? p7 = some g ∧ w'.cell? p8 = some h ∧ Below w0.heap.size w0 w'
theorem held8_step {p1 p2 p3 p4 p5 p6 p7 p8 : Addr} {a b c d e f g h : Value} {w0 w1 w2 : World} (H : Held8 p1 p2 p3 p4 p5 p6 p7 p8 a b c d e f g h w0 w1) (hb : Below w1.heap.size w1 w2) : Held8 p1 p2 p3 p4 p5 p6 p7 p8 a b c d e f g h w0 w2 := by
  obtain ⟨h1, h2, h3, h4, h5, h6, h7, h8, h9⟩ := H
  exact ⟨(hb.cell (World.block_lt_of_cell? w1 _ h1)).trans h1, (hb.cell (World.block_lt_of_cell? w1 _ h2)).trans h2, (hb.cell (World.block_lt_of_cell? w1 _ h3)).trans h3, (hb.cell (World.block_lt_of_cell? w1 _ h4)).trans h4, (hb.cell (World.block_lt_of_cell? w1 _ h5)).trans h5, (hb.cell (World.block_lt_of_cell? w1 _ h6)).trans h6, (hb.cell (World.block_lt_of_cell? w1 _ h7)).trans h7, (hb.cell (World.block_lt_of_cell? w1 _ h8)).trans h8, bstep h9 hb⟩
set_option maxHeartbeats 4000000 in
set_option maxRecDepth 100000 in
theorem walk_FnNeighbours (a0 : Option Addr) (len0 cap0 : Nat) (z0 : List Int) (a1 : Option Addr) (len1 cap1 : Nat) (z1 : List Int) (w : World) (h0 : IsRow .u8 w a0 len0 cap0 z0) (h1 : IsRow .u8 w a1 len1 cap1 z1) :
    Calls Try.prog 9 #[.slice a0 len0 cap0, .slice a1 len1 cap1] w fun e w' => e = .returned (.bool true) ∧ Below w.heap.size w w' := by
  obtain ⟨b0, m0⟩ := row_bytes h0
  obtain ⟨b1, m1⟩ := row_bytes h1
  clear h0 h1
  have H0 := hide b0
  have H1 := hide b1
  clear b0 b1
  cases hl : longB len0 len1
  · have hlen : len0 ≤ 3000 ∧ len1 ≤ 3000 := by
      unfold longB at hl
      simp only [Bool.or_eq_false_iff, decide_eq_false_iff_not] at hl
      omega
    have HL := hide hl
    clear hl
    go_enter Try.func9, Try.ntmps9
    go_wp2_with fail
    refine (a2Long_any _ _ _ _ _ _ _ m0 m1).mono ?_
    rintro e w' ⟨rfl, rfl⟩
    rw [HL.out]
    go_wp2_with fail
    refine (a2Ratios_any a0 len0 cap0 _ H0.out (by omega)).mono ?_
    rintro e w1 ⟨a, b, a', b', rfl, hv, _, hb1⟩
    have HV := hide hv
    have hg0 : w.heap.size ≤ w1.heap.size := hb1.size
    have K0 := hide (pair_cells (w := w1) (.int .i64 a) (.int .i64 b) (.int .i64 a') (.int .i64 b') 27 27)
    have B1 := hide (balloc (balloc hb1 (.cells #[.int .i64 a, .int .i64 b] 27)) (.cells #[.int .i64 a', .int .i64 b'] 27))
    have HM := hide (H1.out.grown (grown_of_below' B1.out none) (fun _ _ _ => by simp))
    clear hv hb1
    go_wp2_with fail
    refine (a2At_any a1 len1 cap1 0 200 _ HM.out (by omega) (by omega) (by omega)).mono ?_
    rintro e w' ⟨k, rfl, hk, hw'⟩
    obtain ⟨wz, hwz⟩ : ∃ wz, wz = (w1.alloc (.cells #[.int .i64 a, .int .i64 b] 27)).alloc (.cells #[.int .i64 a', .int .i64 b'] 27) := ⟨_, rfl⟩
    rw [← hwz] at hw' K0 B1
    subst hw'
    obtain ⟨g, hg⟩ : ∃ g, g = w1.heap.size := ⟨_, rfl⟩
    rw [← hg] at K0 hg0 ⊢
    clear hwz hg HM
    obtain ⟨m, hmm⟩ : ∃ m, m = 1 + 7 * k := ⟨_, rfl⟩
    have hm : 1 ≤ m ∧ m ≤ 1394 := by omega
    have HNI := fun w => implNeighboursOf_any a b m w
    have HBI := fun w => implBestWithin_any a b m w
    rw [hmm] at HNI
    have HNII := hide HNI
    have HBII := hide HBI
    have HMM := hide hmm
    obtain ⟨k0, k1, k2, k3⟩ := K0.out.1
    clear HNI HBI hmm
    go_wp2_with fail
    refine (HNII.out _).mono ?_
    rw [← HMM.out]
    rintro e w2 ⟨⟨l1, l2, h1, h2, c, hnb, rfl⟩, hb2⟩
    have HNB := hide hnb
    have K1 := hide (((K0.out.1.below hb2).alloc (.cells #[.int .i64 l1, .int .i64 l2] 27)).alloc (.cells #[.int .i64 h1, .int .i64 h2] 27))
    have T1 := hide (two_cells (w := w2) (.int .i64 l1) (.int .i64 l2) (.int .i64 h1) (.int .i64 h2) 27 27)
    have B2 := hide (balloc (balloc (bstep B1.out hb2) (.cells #[.int .i64 l1, .int .i64 l2] 27)) (.cells #[.int .i64 h1, .int .i64 h2] 27))
    have hlt2 : g < w2.heap.size := (K0.out.1.below hb2).lt
    have hlt3 : g < w2.heap.size + 1 := by omega
    clear k0 k1 k2 k3
    obtain ⟨k0, k1, k2, k3⟩ := K0.out.1.below hb2
    clear hb2 hnb
    go_wp2_with fail
    refine (HBII.out _).mono ?_
    rintro e w3 ⟨⟨s1, s2, c', hbw, rfl⟩, hb3⟩
    obtain ⟨L1, L2, H1', H2', c2, hnb2, rfl, hbw⟩ := hbw
    obtain ⟨rfl, rfl, rfl, rfl, rfl⟩ := nbRes_unique HNB.out hnb2
    have HBW := hide hbw
    have K2 := hide ((K1.out.below hb3).alloc (.cells #[.int .i64 s1, .int .i64 s2] 27))
    have T2 := hide ((T1.out.1.below hb3).alloc (.cells #[.int .i64 s1, .int .i64 s2] 27))
    have T3 := hide ((T1.out.2.below hb3).alloc (.cells #[.int .i64 s1, .int .i64 s2] 27))
    have T4 := hide (cell2_new (w := w3) (u := .int .i64 s1) (v := .int .i64 s2) 27)
    have B3 := hide (balloc (bstep B2.out hb3) (.cells #[.int .i64 s1, .int .i64 s2] 27))
    have hq : w2.heap.size < w3.heap.size := (T1.out.1.below hb3).lt
    have hq2 : w2.heap.size + 1 < w3.heap.size := (T1.out.2.below hb3).lt
    clear hb3 hbw hnb2 k0 k1 k2 k3
    obtain ⟨wy, hwy⟩ : ∃ wy, wy = w3.alloc (.cells #[.int .i64 s1, .int .i64 s2] 27) := ⟨_, rfl⟩
    obtain ⟨q, hqq⟩ : ∃ q, q = w2.heap.size := ⟨_, rfl⟩
    obtain ⟨p, hpp⟩ : ∃ p, p = w3.heap.size := ⟨_, rfl⟩
    rw [← hwy] at K2 T2 T3 T4 B3
    rw [← hqq] at T2 T3 hq hq2 ⊢
    rw [← hpp] at T4 hq hq2
    rcases nb_good HV.out (by omega) HNB.out with ⟨rfl, _⟩ | ⟨rfl, hgood⟩
    · have HWY := hide hwy
      clear hwy hqq hpp
      go_wp2_with fail
      go_ret
      exact ⟨rfl, HWY.out ▸ B3.out⟩
    · obtain ⟨x1, x2, x3, x4, hx⟩ := hgood
      have X1 := hide x1
      have X2 := hide x2
      clear x1 x2
      go_upto_region 9 with fail
      rw [← hwy, ← hpp, ← hqq]
      clear hwy hqq hpp
      obtain ⟨k0, k1, k2, k3⟩ := T2.out
      go_wp2_with fail
      refine (specValidRatio_any l1 l2 _).mono ?_
      rintro e w4 ⟨rfl, hb4⟩
      rw [X1.out]
      have K3 := hide (K2.out.below hb4)
      have U2 := hide (T2.out.below hb4)
      have U3 := hide (T3.out.below hb4)
      have U4 := hide (T4.out.below hb4)
      have B4 := hide (bstep B3.out hb4)
      clear hb4 k0 k1 k2 k3
      obtain ⟨k0, k1, k2, k3⟩ := U3.out
      go_wp2_with fail
      refine (specValidRatio_any h1 h2 _).mono ?_
      rintro e w5 ⟨rfl, hb5⟩
      rw [X2.out]
      have K4 := hide (K3.out.below hb5)
      have V2 := hide (U2.out.below hb5)
      have V3 := hide (U3.out.below hb5)
      have V4 := hide (U4.out.below hb5)
      have B5 := hide (bstep B4.out hb5)
      clear hb5 k0 k1 k2 k3
      obtain ⟨k0, k1, k2, k3⟩ := V2.out
      obtain ⟨k4, k5, k6, k7⟩ := V3.out
      obtain ⟨k8, k9, k10, k11⟩ := V4.out
      obtain ⟨k12, k13, k14, k15⟩ := K4.out
      have HX := hide hx
      clear hx
      rcases HBW.out with ⟨g0, _⟩ | ⟨_, ht, e1, e2⟩ | ⟨_, ht, e1, e2⟩
      · exact absurd rfl g0
      · have e1' := e1.symm
        have e2' := e2.symm
        subst e1' e2'
        clear e1 e2
        have HT := hide ht
        clear ht HBW
        rcases HX.out with ⟨hx0, e1, e2, e3, e4⟩ | ⟨hx0, hx1, hx2, hx3, hx4⟩
        · subst e1 e2 e3 e4
          go_wp2_with fail
          go_ret
          exact ⟨rfl, B5.out⟩
        · clear HX
          have hne : ¬ (h1 = l1 ∧ h2 = l2) := by
            rintro ⟨rfl, rfl⟩
            have := hx3
            rw [Int.sub_self] at this
            omega
          by_cases he : h1 = l1
          · have he2 : ¬ h2 = l2 := fun e => hne ⟨he, e⟩
            subst he
            clear hne
            have hq1 := (validR_true X1.out)
            have hq2 := (validR_true X2.out)
            have hq0 := (validR_true HV.out)
            have cl := cmpR_lt X1.out HV.out hx1
            have ch := cmpR_gt X2.out HV.out hx2
            have HCL := hide (fun w => by have := specCompareRatio_any h1 l2 a b w; rwa [cl] at this)
            have HCH := hide (fun w => by have := specCompareRatio_any h1 h2 a b w; rwa [ch] at this)
            have m1 := mulB h1 l2 hq2.2.1 (by omega)
            have m2 := mulB h1 h2 hq1.2.1 (by omega)
            obtain ⟨un, hun⟩ : ∃ x, x = subN a b h1 l2 := ⟨_, rfl⟩
            obtain ⟨ud, hud⟩ : ∃ x, x = subD a b h1 l2 := ⟨_, rfl⟩
            obtain ⟨uc, huc⟩ : ∃ x, x = subC a b h1 l2 := ⟨_, rfl⟩
            obtain ⟨vn, hvn⟩ : ∃ x, x = subN h1 h2 a b := ⟨_, rfl⟩
            obtain ⟨vd, hvd⟩ : ∃ x, x = subD h1 h2 a b := ⟨_, rfl⟩
            obtain ⟨vc, hvc⟩ : ∃ x, x = subC h1 h2 a b := ⟨_, rfl⟩
            have SU := fun w => specSubRatio_any a b h1 l2 w
            have SV := fun w => specSubRatio_any h1 h2 a b w
            have FU := sub_val HV.out X1.out
            have FV := sub_val X2.out HV.out
            rw [← hun, ← hud, ← huc] at SU FU
            rw [← hvn, ← hvd, ← hvc] at SV FV
            have SUU := hide SU
            have SVV := hide SV
            have FUU := hide FU
            have FVV := hide FV
            have HQ1 := hide hq1
            have HQ2 := hide hq2
            have HQ0 := hide hq0
            clear SU SV FU FV hun hud huc hvn hvd hvc cl ch hq1 hq2 hq0
            go_wp2_with fail
            refine (HCL.out _).mono ?_
            rintro e w6 ⟨rfl, hb6⟩
            have K5 := hide (K4.out.below hb6)
            have Y2 := hide (V2.out.below hb6)
            have Y3 := hide (V3.out.below hb6)
            have Y4 := hide (V4.out.below hb6)
            have B6 := hide (bstep B5.out hb6)
            clear hb6 k0 k1 k2 k3 k4 k5 k6 k7 k8 k9 k10 k11 k12 k13 k14 k15
            obtain ⟨k0, k1, k2, k3⟩ := Y2.out
            obtain ⟨k4, k5, k6, k7⟩ := Y3.out
            obtain ⟨k12, k13, k14, k15⟩ := K5.out
            go_wp2_with fail
            refine (HCH.out _).mono ?_
            rintro e w7 ⟨rfl, hb7⟩
            have K6 := hide (K5.out.below hb7)
            have Z2 := hide (Y2.out.below hb7)
            have Z3 := hide (Y3.out.below hb7)
            have Z4 := hide (Y4.out.below hb7)
            have B7 := hide (bstep B6.out hb7)
            clear hb7 k0 k1 k2 k3 k4 k5 k6 k7 k12 k13 k14 k15
            obtain ⟨k0, k1, k2, k3⟩ := Z2.out
            obtain ⟨k4, k5, k6, k7⟩ := Z3.out
            obtain ⟨k12, k13, k14, k15⟩ := K6.out
            go_wp2_with fail
            refine (SUU.out _).mono ?_
            rintro e w8 ⟨rfl, hb8⟩
            have K7 := hide ((K6.out.below hb8).alloc (.cells #[.int .i64 un, .int .i64 ud] 27))
            have A2 := hide ((Z2.out.below hb8).alloc (.cells #[.int .i64 un, .int .i64 ud] 27))
            have A3 := hide ((Z3.out.below hb8).alloc (.cells #[.int .i64 un, .int .i64 ud] 27))
            have A4 := hide ((Z4.out.below hb8).alloc (.cells #[.int .i64 un, .int .i64 ud] 27))
            have A5 := hide (cell2_new (w := w8) (u := .int .i64 un) (v := .int .i64 ud) 27)
            have B8 := hide (balloc (bstep B7.out hb8) (.cells #[.int .i64 un, .int .i64 ud] 27))
            have hg8 : g < w8.heap.size := (K6.out.below hb8).lt
            have hq8 : q + 1 < w8.heap.size := (Z3.out.below hb8).lt
            clear k0 k1 k2 k3 k4 k5 k6 k7 k12 k13 k14 k15
            obtain ⟨k4, k5, k6, k7⟩ := Z3.out.below hb8
            obtain ⟨k12, k13, k14, k15⟩ := K6.out.below hb8
            clear hb8
            go_wp2_with fail
            refine (SVV.out _).mono ?_
            rintro e w9 ⟨rfl, hb9⟩
            have C2 := hide ((A2.out.below hb9).alloc (.cells #[.int .i64 vn, .int .i64 vd] 27))
            have C4 := hide ((A4.out.below hb9).alloc (.cells #[.int .i64 vn, .int .i64 vd] 27))
            have C5 := hide ((A5.out.below hb9).alloc (.cells #[.int .i64 vn, .int .i64 vd] 27))
            have C6 := hide (cell2_new (w := w9) (u := .int .i64 vn) (v := .int .i64 vd) 27)
            have B9 := hide (balloc (bstep B8.out hb9) (.cells #[.int .i64 vn, .int .i64 vd] 27))
            clear hb9 k4 k5 k6 k7 k12 k13 k14 k15
            go_wp2_with fail
            obtain ⟨wx, hwx⟩ : ∃ wx, wx = w9.alloc (.cells #[.int .i64 vn, .int .i64 vd] 27) := ⟨_, rfl⟩
            obtain ⟨r, hr⟩ : ∃ r, r = w8.heap.size := ⟨_, rfl⟩
            obtain ⟨t, ht⟩ : ∃ t, t = w9.heap.size := ⟨_, rfl⟩
            rw [← hwx] at C2 C4 C5 C6 B9 ⊢
            rw [← hr] at C5 ⊢
            rw [← ht] at C6 ⊢
            clear hwx hr ht hg8 hq8
            by_cases hu0 : uc = 0
            · by_cases hv0 : vc = 0
              · obtain ⟨u1, u2⟩ := FUU.out hu0
                obtain ⟨v1, v2⟩ := FVV.out hv0
                subst hu0 hv0
                obtain ⟨y1, y2, y3⟩ := gaps_cmp (HQ0.out.1.1) (HQ1.out.1.1) (HQ2.out.1.1) (validR_true u1).1.1 (validR_true v1).1.1 u2 v2
                obtain ⟨r0, r1, r2, r3⟩ := C2.out
                obtain ⟨r4, r5, r6, r7⟩ := C4.out
                obtain ⟨r8, r9, r10, r11⟩ := C5.out
                obtain ⟨r12, r13, r14, r15⟩ := C6.out
                have hto := of_decide_eq_true HT.out
                by_cases hlt : (h1 * b - a * h2) * l2 < (a * l2 - h1 * b) * h2
                · have hcc := cmpR_gt u1 v1 (y2 hlt)
                  clear hto hlt
                  have CC := hide (fun w => by have := specCompareRatio_any un ud vn vd w; rwa [hcc] at this)
                  have kk0 := cell_regrown r0
                  have kk1 := cell_regrown r1
                  have kk4 := cell_regrown r4
                  have kk5 := cell_regrown r5
                  have kk8 := cell_regrown r8
                  have kk9 := cell_regrown r9
                  have kk12 := cell_regrown r12
                  have kk13 := cell_regrown r13
                  clear hcc u1 u2 v1 v2 y1 y2 y3 r0 r1 r2 r3 r4 r5 r6 r7 r8 r9 r10 r11 r12 r13 r14 r15
                  have cP := fun d os => Calls.regrown_of (w := wx) (d := d) (os := os) (CC.out _)
                  refine wp_region_quiet_below (by kernel_rfl) (by kernel_rfl) ?_
                  repeat (go_big_quiet_step (exact cP _ _))
                  refine wpQuiet_nil ?_
                  intro _ hw'
                  obtain ⟨⟨dq, osq⟩, hw''⟩ := hw'
                  subst hw''
                  have h2 := hide (bstep B9.out (below_regrown wx dq osq))
                  clear cP kk0 kk1 kk4 kk5 kk8 kk9 kk12 kk13
                  go_wp2_with fail
                  go_ret
                  exact ⟨rfl, h2.out⟩
                · have hcc := cmpR_eq u1 v1 (y3 (by omega))
                  clear hto hlt
                  have CC := hide (fun w => by have := specCompareRatio_any un ud vn vd w; rwa [hcc] at this)
                  have kk0 := cell_regrown r0
                  have kk1 := cell_regrown r1
                  have kk4 := cell_regrown r4
                  have kk5 := cell_regrown r5
                  have kk8 := cell_regrown r8
                  have kk9 := cell_regrown r9
                  have kk12 := cell_regrown r12
                  have kk13 := cell_regrown r13
                  clear hcc u1 u2 v1 v2 y1 y2 y3 r0 r1 r2 r3 r4 r5 r6 r7 r8 r9 r10 r11 r12 r13 r14 r15
                  have cP := fun d os => Calls.regrown_of (w := wx) (d := d) (os := os) (CC.out _)
                  refine wp_region_quiet_below (by kernel_rfl) (by kernel_rfl) ?_
                  repeat (go_big_quiet_step (exact cP _ _))
                  refine wpQuiet_nil ?_
                  intro _ hw'
                  obtain ⟨⟨dq, osq⟩, hw''⟩ := hw'
                  subst hw''
                  have h2 := hide (bstep B9.out (below_regrown wx dq osq))
                  clear cP kk0 kk1 kk4 kk5 kk8 kk9 kk12 kk13
                  go_wp2_with fail
                  go_ret
                  exact ⟨rfl, h2.out⟩
              · have hu0' : (uc != 0) = false := by simpa using hu0
                have hv0' : (vc != 0) = true := by simpa using hv0
                clear hu0 hv0
                go_quiet (fail)
                go_wp2_with fail
                go_ret
                exact ⟨rfl, bdrewN B9.out _⟩
            · have hu0' : (uc != 0) = true := by simpa using hu0
              clear hu0
              go_quiet (fail)
              go_wp2_with fail
              go_ret
              exact ⟨rfl, bdrewN B9.out _⟩
          · clear hne
            have hq1 := (validR_true X1.out)
            have hq2 := (validR_true X2.out)
            have hq0 := (validR_true HV.out)
            have cl := cmpR_lt X1.out HV.out hx1
            have ch := cmpR_gt X2.out HV.out hx2
            have HCL := hide (fun w => by have := specCompareRatio_any l1 l2 a b w; rwa [cl] at this)
            have HCH := hide (fun w => by have := specCompareRatio_any h1 h2 a b w; rwa [ch] at this)
            have m1 := mulB h1 l2 hq2.2.1 (by omega)
            have m2 := mulB l1 h2 hq1.2.1 (by omega)
            obtain ⟨un, hun⟩ : ∃ x, x = subN a b l1 l2 := ⟨_, rfl⟩
            obtain ⟨ud, hud⟩ : ∃ x, x = subD a b l1 l2 := ⟨_, rfl⟩
            obtain ⟨uc, huc⟩ : ∃ x, x = subC a b l1 l2 := ⟨_, rfl⟩
            obtain ⟨vn, hvn⟩ : ∃ x, x = subN h1 h2 a b := ⟨_, rfl⟩
            obtain ⟨vd, hvd⟩ : ∃ x, x = subD h1 h2 a b := ⟨_, rfl⟩
            obtain ⟨vc, hvc⟩ : ∃ x, x = subC h1 h2 a b := ⟨_, rfl⟩
            have SU := fun w => specSubRatio_any a b l1 l2 w
            have SV := fun w => specSubRatio_any h1 h2 a b w
            have FU := sub_val HV.out X1.out
            have FV := sub_val X2.out HV.out
            rw [← hun, ← hud, ← huc] at SU FU
            rw [← hvn, ← hvd, ← hvc] at SV FV
            have SUU := hide SU
            have SVV := hide SV
            have FUU := hide FU
            have FVV := hide FV
            have HQ1 := hide hq1
            have HQ2 := hide hq2
            have HQ0 := hide hq0
            clear SU SV FU FV hun hud huc hvn hvd hvc cl ch hq1 hq2 hq0
            go_wp2_with fail
            refine (HCL.out _).mono ?_
            rintro e w6 ⟨rfl, hb6⟩
            have K5 := hide (K4.out.below hb6)
            have Y2 := hide (V2.out.below hb6)
            have Y3 := hide (V3.out.below hb6)
            have Y4 := hide (V4.out.below hb6)
            have B6 := hide (bstep B5.out hb6)
            clear hb6 k0 k1 k2 k3 k4 k5 k6 k7 k8 k9 k10 k11 k12 k13 k14 k15
            obtain ⟨k0, k1, k2, k3⟩ := Y2.out
            obtain ⟨k4, k5, k6, k7⟩ := Y3.out
            obtain ⟨k12, k13, k14, k15⟩ := K5.out
            go_wp2_with fail
            refine (HCH.out _).mono ?_
            rintro e w7 ⟨rfl, hb7⟩
            have K6 := hide (K5.out.below hb7)
            have Z2 := hide (Y2.out.below hb7)
            have Z3 := hide (Y3.out.below hb7)
            have Z4 := hide (Y4.out.below hb7)
            have B7 := hide (bstep B6.out hb7)
            clear hb7 k0 k1 k2 k3 k4 k5 k6 k7 k12 k13 k14 k15
            obtain ⟨k0, k1, k2, k3⟩ := Z2.out
            obtain ⟨k4, k5, k6, k7⟩ := Z3.out
            obtain ⟨k12, k13, k14, k15⟩ := K6.out
            go_wp2_with fail
            refine (SUU.out _).mono ?_
            rintro e w8 ⟨rfl, hb8⟩
            have K7 := hide ((K6.out.below hb8).alloc (.cells #[.int .i64 un, .int .i64 ud] 27))
            have A2 := hide ((Z2.out.below hb8).alloc (.cells #[.int .i64 un, .int .i64 ud] 27))
            have A3 := hide ((Z3.out.below hb8).alloc (.cells #[.int .i64 un, .int .i64 ud] 27))
            have A4 := hide ((Z4.out.below hb8).alloc (.cells #[.int .i64 un, .int .i64 ud] 27))
            have A5 := hide (cell2_new (w := w8) (u := .int .i64 un) (v := .int .i64 ud) 27)
            have B8 := hide (balloc (bstep B7.out hb8) (.cells #[.int .i64 un, .int .i64 ud] 27))
            have hg8 : g < w8.heap.size := (K6.out.below hb8).lt
            have hq8 : q + 1 < w8.heap.size := (Z3.out.below hb8).lt
            clear k0 k1 k2 k3 k4 k5 k6 k7 k12 k13 k14 k15
            obtain ⟨k4, k5, k6, k7⟩ := Z3.out.below hb8
            obtain ⟨k12, k13, k14, k15⟩ := K6.out.below hb8
            clear hb8
            go_wp2_with fail
            refine (SVV.out _).mono ?_
            rintro e w9 ⟨rfl, hb9⟩
            have C2 := hide ((A2.out.below hb9).alloc (.cells #[.int .i64 vn, .int .i64 vd] 27))
            have C4 := hide ((A4.out.below hb9).alloc (.cells #[.int .i64 vn, .int .i64 vd] 27))
            have C5 := hide ((A5.out.below hb9).alloc (.cells #[.int .i64 vn, .int .i64 vd] 27))
            have C6 := hide (cell2_new (w := w9) (u := .int .i64 vn) (v := .int .i64 vd) 27)
            have B9 := hide (balloc (bstep B8.out hb9) (.cells #[.int .i64 vn, .int .i64 vd] 27))
            clear hb9 k4 k5 k6 k7 k12 k13 k14 k15
            go_wp2_with fail
            obtain ⟨wx, hwx⟩ : ∃ wx, wx = w9.alloc (.cells #[.int .i64 vn, .int .i64 vd] 27) := ⟨_, rfl⟩
            obtain ⟨r, hr⟩ : ∃ r, r = w8.heap.size := ⟨_, rfl⟩
            obtain ⟨t, ht⟩ : ∃ t, t = w9.heap.size := ⟨_, rfl⟩
            rw [← hwx] at C2 C4 C5 C6 B9 ⊢
            rw [← hr] at C5 ⊢
            rw [← ht] at C6 ⊢
            clear hwx hr ht hg8 hq8
            by_cases hu0 : uc = 0
            · by_cases hv0 : vc = 0
              · obtain ⟨u1, u2⟩ := FUU.out hu0
                obtain ⟨v1, v2⟩ := FVV.out hv0
                subst hu0 hv0
                obtain ⟨y1, y2, y3⟩ := gaps_cmp (HQ0.out.1.1) (HQ1.out.1.1) (HQ2.out.1.1) (validR_true u1).1.1 (validR_true v1).1.1 u2 v2
                obtain ⟨r0, r1, r2, r3⟩ := C2.out
                obtain ⟨r4, r5, r6, r7⟩ := C4.out
                obtain ⟨r8, r9, r10, r11⟩ := C5.out
                obtain ⟨r12, r13, r14, r15⟩ := C6.out
                have hto := of_decide_eq_true HT.out
                by_cases hlt : (h1 * b - a * h2) * l2 < (a * l2 - l1 * b) * h2
                · have hcc := cmpR_gt u1 v1 (y2 hlt)
                  clear hto hlt
                  have CC := hide (fun w => by have := specCompareRatio_any un ud vn vd w; rwa [hcc] at this)
                  have kk0 := cell_regrown r0
                  have kk1 := cell_regrown r1
                  have kk4 := cell_regrown r4
                  have kk5 := cell_regrown r5
                  have kk8 := cell_regrown r8
                  have kk9 := cell_regrown r9
                  have kk12 := cell_regrown r12
                  have kk13 := cell_regrown r13
                  clear hcc u1 u2 v1 v2 y1 y2 y3 r0 r1 r2 r3 r4 r5 r6 r7 r8 r9 r10 r11 r12 r13 r14 r15
                  have cP := fun d os => Calls.regrown_of (w := wx) (d := d) (os := os) (CC.out _)
                  refine wp_region_quiet_below (by kernel_rfl) (by kernel_rfl) ?_
                  repeat (go_big_quiet_step (exact cP _ _))
                  refine wpQuiet_nil ?_
                  intro _ hw'
                  obtain ⟨⟨dq, osq⟩, hw''⟩ := hw'
                  subst hw''
                  have h2 := hide (bstep B9.out (below_regrown wx dq osq))
                  clear cP kk0 kk1 kk4 kk5 kk8 kk9 kk12 kk13
                  go_wp2_with fail
                  go_ret
                  exact ⟨rfl, h2.out⟩
                · have hcc := cmpR_eq u1 v1 (y3 (by omega))
                  clear hto hlt
                  have CC := hide (fun w => by have := specCompareRatio_any un ud vn vd w; rwa [hcc] at this)
                  have kk0 := cell_regrown r0
                  have kk1 := cell_regrown r1
                  have kk4 := cell_regrown r4
                  have kk5 := cell_regrown r5
                  have kk8 := cell_regrown r8
                  have kk9 := cell_regrown r9
                  have kk12 := cell_regrown r12
                  have kk13 := cell_regrown r13
                  clear hcc u1 u2 v1 v2 y1 y2 y3 r0 r1 r2 r3 r4 r5 r6 r7 r8 r9 r10 r11 r12 r13 r14 r15
                  have cP := fun d os => Calls.regrown_of (w := wx) (d := d) (os := os) (CC.out _)
                  refine wp_region_quiet_below (by kernel_rfl) (by kernel_rfl) ?_
                  repeat (go_big_quiet_step (exact cP _ _))
                  refine wpQuiet_nil ?_
                  intro _ hw'
                  obtain ⟨⟨dq, osq⟩, hw''⟩ := hw'
                  subst hw''
                  have h2 := hide (bstep B9.out (below_regrown wx dq osq))
                  clear cP kk0 kk1 kk4 kk5 kk8 kk9 kk12 kk13
                  go_wp2_with fail
                  go_ret
                  exact ⟨rfl, h2.out⟩
              · have hu0' : (uc != 0) = false := by simpa using hu0
                have hv0' : (vc != 0) = true := by simpa using hv0
                clear hu0 hv0
                go_quiet (fail)
                go_wp2_with fail
                go_ret
                exact ⟨rfl, bdrewN B9.out _⟩
            · have hu0' : (uc != 0) = true := by simpa using hu0
              clear hu0
              go_quiet (fail)
              go_wp2_with fail
              go_ret
              exact ⟨rfl, bdrewN B9.out _⟩
      · have e1' := e1.symm
        have e2' := e2.symm
        subst e1' e2'
        clear e1 e2
        have HT := hide ht
        clear ht HBW
        rcases HX.out with ⟨hx0, e1, e2, e3, e4⟩ | ⟨hx0, hx1, hx2, hx3, hx4⟩
        · subst e1 e2 e3 e4
          go_wp2_with fail
          go_ret
          exact ⟨rfl, B5.out⟩
        · clear HX
          have hq1 := (validR_true X1.out)
          have hq2 := (validR_true X2.out)
          have hq0 := (validR_true HV.out)
          have cl := cmpR_lt X1.out HV.out hx1
          have ch := cmpR_gt X2.out HV.out hx2
          have HCL := hide (fun w => by have := specCompareRatio_any l1 l2 a b w; rwa [cl] at this)
          have HCH := hide (fun w => by have := specCompareRatio_any h1 h2 a b w; rwa [ch] at this)
          have m1 := mulB h1 l2 hq2.2.1 (by omega)
          have m2 := mulB l1 h2 hq1.2.1 (by omega)
          obtain ⟨un, hun⟩ : ∃ x, x = subN a b l1 l2 := ⟨_, rfl⟩
          obtain ⟨ud, hud⟩ : ∃ x, x = subD a b l1 l2 := ⟨_, rfl⟩
          obtain ⟨uc, huc⟩ : ∃ x, x = subC a b l1 l2 := ⟨_, rfl⟩
          obtain ⟨vn, hvn⟩ : ∃ x, x = subN h1 h2 a b := ⟨_, rfl⟩
          obtain ⟨vd, hvd⟩ : ∃ x, x = subD h1 h2 a b := ⟨_, rfl⟩
          obtain ⟨vc, hvc⟩ : ∃ x, x = subC h1 h2 a b := ⟨_, rfl⟩
          have SU := fun w => specSubRatio_any a b l1 l2 w
          have SV := fun w => specSubRatio_any h1 h2 a b w
          have FU := sub_val HV.out X1.out
          have FV := sub_val X2.out HV.out
          rw [← hun, ← hud, ← huc] at SU FU
          rw [← hvn, ← hvd, ← hvc] at SV FV
          have SUU := hide SU
          have SVV := hide SV
          have FUU := hide FU
          have FVV := hide FV
          have HQ1 := hide hq1
          have HQ2 := hide hq2
          have HQ0 := hide hq0
          clear SU SV FU FV hun hud huc hvn hvd hvc cl ch hq1 hq2 hq0
          go_wp2_with fail
          refine (HCL.out _).mono ?_
          rintro e w6 ⟨rfl, hb6⟩
          have K5 := hide (K4.out.below hb6)
          have Y2 := hide (V2.out.below hb6)
          have Y3 := hide (V3.out.below hb6)
          have Y4 := hide (V4.out.below hb6)
          have B6 := hide (bstep B5.out hb6)
          clear hb6 k0 k1 k2 k3 k4 k5 k6 k7 k8 k9 k10 k11 k12 k13 k14 k15
          obtain ⟨k0, k1, k2, k3⟩ := Y2.out
          obtain ⟨k4, k5, k6, k7⟩ := Y3.out
          obtain ⟨k12, k13, k14, k15⟩ := K5.out
          go_wp2_with fail
          refine (HCH.out _).mono ?_
          rintro e w7 ⟨rfl, hb7⟩
          have K6 := hide (K5.out.below hb7)
          have Z2 := hide (Y2.out.below hb7)
          have Z3 := hide (Y3.out.below hb7)
          have Z4 := hide (Y4.out.below hb7)
          have B7 := hide (bstep B6.out hb7)
          clear hb7 k0 k1 k2 k3 k4 k5 k6 k7 k12 k13 k14 k15
          obtain ⟨k0, k1, k2, k3⟩ := Z2.out
          obtain ⟨k4, k5, k6, k7⟩ := Z3.out
          obtain ⟨k12, k13, k14, k15⟩ := K6.out
          go_wp2_with fail
          refine (SUU.out _).mono ?_
          rintro e w8 ⟨rfl, hb8⟩
          have K7 := hide ((K6.out.below hb8).alloc (.cells #[.int .i64 un, .int .i64 ud] 27))
          have A2 := hide ((Z2.out.below hb8).alloc (.cells #[.int .i64 un, .int .i64 ud] 27))
          have A3 := hide ((Z3.out.below hb8).alloc (.cells #[.int .i64 un, .int .i64 ud] 27))
          have A4 := hide ((Z4.out.below hb8).alloc (.cells #[.int .i64 un, .int .i64 ud] 27))
          have A5 := hide (cell2_new (w := w8) (u := .int .i64 un) (v := .int .i64 ud) 27)
          have B8 := hide (balloc (bstep B7.out hb8) (.cells #[.int .i64 un, .int .i64 ud] 27))
          have hg8 : g < w8.heap.size := (K6.out.below hb8).lt
          have hq8 : q + 1 < w8.heap.size := (Z3.out.below hb8).lt
          clear k0 k1 k2 k3 k4 k5 k6 k7 k12 k13 k14 k15
          obtain ⟨k4, k5, k6, k7⟩ := Z3.out.below hb8
          obtain ⟨k12, k13, k14, k15⟩ := K6.out.below hb8
          clear hb8
          go_wp2_with fail
          refine (SVV.out _).mono ?_
          rintro e w9 ⟨rfl, hb9⟩
          have C2 := hide ((A2.out.below hb9).alloc (.cells #[.int .i64 vn, .int .i64 vd] 27))
          have C4 := hide ((A4.out.below hb9).alloc (.cells #[.int .i64 vn, .int .i64 vd] 27))
          have C5 := hide ((A5.out.below hb9).alloc (.cells #[.int .i64 vn, .int .i64 vd] 27))
          have C6 := hide (cell2_new (w := w9) (u := .int .i64 vn) (v := .int .i64 vd) 27)
          have B9 := hide (balloc (bstep B8.out hb9) (.cells #[.int .i64 vn, .int .i64 vd] 27))
          clear hb9 k4 k5 k6 k7 k12 k13 k14 k15
          go_wp2_with fail
          obtain ⟨wx, hwx⟩ : ∃ wx, wx = w9.alloc (.cells #[.int .i64 vn, .int .i64 vd] 27) := ⟨_, rfl⟩
          obtain ⟨r, hr⟩ : ∃ r, r = w8.heap.size := ⟨_, rfl⟩
          obtain ⟨t, ht⟩ : ∃ t, t = w9.heap.size := ⟨_, rfl⟩
          rw [← hwx] at C2 C4 C5 C6 B9 ⊢
          rw [← hr] at C5 ⊢
          rw [← ht] at C6 ⊢
          clear hwx hr ht hg8 hq8
          by_cases hu0 : uc = 0
          · by_cases hv0 : vc = 0
            · obtain ⟨u1, u2⟩ := FUU.out hu0
              obtain ⟨v1, v2⟩ := FVV.out hv0
              subst hu0 hv0
              obtain ⟨y1, y2, y3⟩ := gaps_cmp (HQ0.out.1.1) (HQ1.out.1.1) (HQ2.out.1.1) (validR_true u1).1.1 (validR_true v1).1.1 u2 v2
              obtain ⟨r0, r1, r2, r3⟩ := C2.out
              obtain ⟨r4, r5, r6, r7⟩ := C4.out
              obtain ⟨r8, r9, r10, r11⟩ := C5.out
              obtain ⟨r12, r13, r14, r15⟩ := C6.out
              have hto : ¬ ((h1 * b - a * h2) * l2 < (a * l2 - l1 * b) * h2) := fun c => by
                have := HT.out
                unfold takeHi at this
                rw [decide_eq_false_iff_not] at this
                exact this (.inl c)
              by_cases hlt : (a * l2 - l1 * b) * h2 < (h1 * b - a * h2) * l2
              · have hcc := cmpR_lt u1 v1 (y1 hlt)
                clear hto hlt
                have CC := hide (fun w => by have := specCompareRatio_any un ud vn vd w; rwa [hcc] at this)
                have kk0 := cell_regrown r0
                have kk1 := cell_regrown r1
                have kk4 := cell_regrown r4
                have kk5 := cell_regrown r5
                have kk8 := cell_regrown r8
                have kk9 := cell_regrown r9
                have kk12 := cell_regrown r12
                have kk13 := cell_regrown r13
                clear hcc u1 u2 v1 v2 y1 y2 y3 r0 r1 r2 r3 r4 r5 r6 r7 r8 r9 r10 r11 r12 r13 r14 r15
                have cP := fun d os => Calls.regrown_of (w := wx) (d := d) (os := os) (CC.out _)
                refine wp_region_quiet_below (by kernel_rfl) (by kernel_rfl) ?_
                repeat (go_big_quiet_step (exact cP _ _))
                refine wpQuiet_nil ?_
                intro _ hw'
                obtain ⟨⟨dq, osq⟩, hw''⟩ := hw'
                subst hw''
                have h2 := hide (bstep B9.out (below_regrown wx dq osq))
                clear cP kk0 kk1 kk4 kk5 kk8 kk9 kk12 kk13
                go_wp2_with fail
                go_ret
                exact ⟨rfl, h2.out⟩
              · have hcc := cmpR_eq u1 v1 (y3 (by omega))
                clear hto hlt
                have CC := hide (fun w => by have := specCompareRatio_any un ud vn vd w; rwa [hcc] at this)
                have kk0 := cell_regrown r0
                have kk1 := cell_regrown r1
                have kk4 := cell_regrown r4
                have kk5 := cell_regrown r5
                have kk8 := cell_regrown r8
                have kk9 := cell_regrown r9
                have kk12 := cell_regrown r12
                have kk13 := cell_regrown r13
                clear hcc u1 u2 v1 v2 y1 y2 y3 r0 r1 r2 r3 r4 r5 r6 r7 r8 r9 r10 r11 r12 r13 r14 r15
                have cP := fun d os => Calls.regrown_of (w := wx) (d := d) (os := os) (CC.out _)
                refine wp_region_quiet_below (by kernel_rfl) (by kernel_rfl) ?_
                repeat (go_big_quiet_step (exact cP _ _))
                refine wpQuiet_nil ?_
                intro _ hw'
                obtain ⟨⟨dq, osq⟩, hw''⟩ := hw'
                subst hw''
                have h2 := hide (bstep B9.out (below_regrown wx dq osq))
                clear cP kk0 kk1 kk4 kk5 kk8 kk9 kk12 kk13
                go_wp2_with fail
                go_ret
                exact ⟨rfl, h2.out⟩
            · have hu0' : (uc != 0) = false := by simpa using hu0
              have hv0' : (vc != 0) = true := by simpa using hv0
              clear hu0 hv0
              go_quiet (fail)
              go_wp2_with fail
              go_ret
              exact ⟨rfl, bdrewN B9.out _⟩
          · have hu0' : (uc != 0) = true := by simpa using hu0
            clear hu0
            go_quiet (fail)
            go_wp2_with fail
            go_ret
            exact ⟨rfl, bdrewN B9.out _⟩
  · have HL := hide hl
    clear hl
    go_enter Try.func9, Try.ntmps9
    go_wp2_with fail
    refine (a2Long_any _ _ _ _ _ _ _ m0 m1).mono ?_
    rintro e w' ⟨rfl, rfl⟩
    rw [HL.out]
    go_wp2_with fail
    go_ret
    exact ⟨rfl, Below.refl _ _⟩
end Go.Proofs.Ytjojeoehdocojaa
