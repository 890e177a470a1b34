/-
  FnMeeting: the drawn train, what the law asks in plain Lean, and the walk of the law.
-/
import Derived.Test.YtmkhkojefjdbbaaSrcA
import Derived.Test.YtmkhkojefjdbbaaPairsA
import Derived.BigQuiet
import Derived.Deep.Cut
namespace Go.Proofs.Ytmkhkojefjdbbaa
open Go.RowKit

theorem dvd_cancelM {p q x : Int} (hg : Int.gcd p q = 1) (h : q ∣ p * x) : q ∣ x := by
  rw [← Int.natAbs_dvd_natAbs] at h ⊢
  rw [Int.natAbs_mul] at h
  rw [Int.gcd_eq_natAbs_gcd_natAbs] at hg
  exact Nat.Coprime.dvd_of_dvd_mul_left (by rw [Nat.Coprime, Nat.gcd_comm]; exact hg) h
/-- After b / gcd turns of the driver both wheels have turned a whole number of times, and not before. -/
theorem meet_law {a b : Int} (ha : 6 ≤ a ∧ a ≤ 240) (hb : 6 ≤ b ∧ b ≤ 240) :
    meet0 a b = b / gcdI a b ∧ meet1 a b = 0 ∧ 1 ≤ meet0 a b ∧ meet0 a b ≤ b ∧ meet0 a b * a % b = 0 ∧ ∀ k, 1 ≤ k → k < meet0 a b → ¬ k * a % b = 0 := by
  have hp : pairOk a b = true := by unfold pairOk both; rw [inR_mk ha, inR_mk hb]; rfl
  have e0 : meet0 a b = b / gcdI a b := by unfold meet0; rw [hp]; rfl
  have e1 : meet1 a b = 0 := by unfold meet1; rw [hp]; rfl
  have hg := gcdI_pos a b (by omega)
  have hga : gcdI a b ∣ a := by unfold gcdI; exact Int.gcd_dvd_left ..
  have hgb : gcdI a b ∣ b := by unfold gcdI; exact Int.gcd_dvd_right ..
  have hco : Int.gcd (a / gcdI a b) (b / gcdI a b) = 1 := by
    unfold gcdI
    exact Int.gcd_ediv_gcd_ediv_gcd (Int.gcd_pos_of_ne_zero_right a (by omega))
  obtain ⟨x, hx⟩ := hga
  obtain ⟨y, hy⟩ := hgb
  obtain ⟨g, hgg⟩ : ∃ g, g = gcdI a b := ⟨_, rfl⟩
  rw [← hgg] at hg hx hy hco e0
  have ex : a / g = x := by rw [hx]; exact Int.mul_ediv_cancel_left x (by omega)
  have ey : b / g = y := by rw [hy]; exact Int.mul_ediv_cancel_left y (by omega)
  rw [ex, ey] at hco
  rw [ey] at e0
  have hy1 : 1 ≤ y := by
    rcases Int.lt_or_le 0 y with s | s
    · omega
    · have := Int.mul_le_mul_of_nonneg_left s (show 0 ≤ g by omega)
      rw [Int.mul_zero] at this
      omega
  have hyb : y ≤ b := by
    have := Int.mul_le_mul_of_nonneg_right hg (show 0 ≤ y by omega)
    rw [Int.one_mul] at this
    omega
  refine ⟨by rw [← hgg, ey]; exact e0, e1, by rw [e0]; exact hy1, by rw [e0]; exact hyb, ?_, ?_⟩
  · rw [e0]
    refine Int.emod_eq_zero_of_dvd ⟨x, ?_⟩
    rw [hx, hy]
    grind
  · intro k hk1 hk2 hk3
    rw [e0] at hk2
    obtain ⟨z, hz⟩ := Int.dvd_of_emod_eq_zero hk3
    have h4 : x * k = y * z := by
      have h5 : g * (x * k) = g * (y * z) := by
        have : g * (x * k) = k * a := by rw [hx]; grind
        rw [this, hz, hy]; grind
      exact Int.eq_of_mul_eq_mul_left (by omega) h5
    have h6 : y ∣ k := dvd_cancelM hco ⟨z, h4⟩
    have := Int.le_of_dvd (by omega) h6
    omega
def TrainOk (ps : List (Int × Int)) : Prop := ps.length ≤ 4 ∧ ∀ j, j < ps.length → (6 ≤ (ps.getD j (0, 0)).1 ∧ (ps.getD j (0, 0)).1 ≤ 240) ∧ (6 ≤ (ps.getD j (0, 0)).2 ∧ (ps.getD j (0, 0)).2 ≤ 240)
theorem trainOk_add {ps : List (Int × Int)} {x y : Int} (hl : ps.length ≤ 3) (h : TrainOk ps) (hx : 6 ≤ x ∧ x ≤ 240) (hy : 6 ≤ y ∧ y ≤ 240) : TrainOk (ps ++ [(x, y)]) := by
  refine ⟨by simp; omega, fun j hj => ?_⟩
  rcases Nat.lt_or_ge j ps.length with s | s
  · have := h.2 j s
    rw [List.getD_eq_getElem?_getD, List.getElem?_append_left s, ← List.getD_eq_getElem?_getD]
    exact this
  · have e : j = ps.length := by simp at hj; omega
    subst e
    simp [List.getD_eq_getElem?_getD]
    omega
theorem gup {w w1 w2 : World} {r row : Option Nat} (h : w.grownBy w1 r) (k : w1.grownBy w2 row) (hr : ∀ j, row = some j → w.heap.size ≤ j) : w.grownBy w2 r :=
  ⟨k.os.trans h.os, k.tape.trans h.tape, k.output.trans h.output, Nat.le_trans h.size k.size, fun i hi hn => (k.block i (Nat.lt_of_lt_of_le hi h.size) (fun e => by have := hr i e.symm; omega)).trans (h.block i hi hn)⟩
theorem src_keep {w0 w w' : World} {g : Nat} {ao : Option Addr} {n cap : Nat} {K0 K : Int} {row : Option Nat} (h0 : SrcS w0 g ao n cap K0) (h : SrcS w g ao n cap K) (k : w.grownBy w' row) (hr : ∀ j, row = some j → w0.heap.size ≤ j) : SrcS w' g ao n cap K := by
  have hg0 := h0.lt
  have hg := h.lt
  have hb := k.block g hg (fun e => by have := hr g e.symm; omega)
  obtain ⟨⟨a, s, h1, h2, c0, c1, c2, f1, f2⟩, h4, h5⟩ := h
  refine ⟨⟨a, s, h1, h2, (World.cell?_of_block (a := ⟨g, 0, none⟩) hb).trans c0, (World.cell?_of_block (a := ⟨g, 1, none⟩) hb).trans c1, (World.cell?_of_block (a := ⟨g, 2, none⟩) hb).trans c2, (World.frozen?_of_block (a := ⟨g, 1, none⟩) hb).trans f1, (World.frozen?_of_block (a := ⟨g, 2, none⟩) hb).trans f2⟩, h4.grown k (fun hp x hx e => ?_), h5⟩
  obtain ⟨b, off, e1, hl, _⟩ := h0.2.1 hp
  rw [hx] at e1
  cases e1
  have := hr b e.symm
  omega
set_option maxHeartbeats 1000000 in
theorem l05Draw_any (g : Nat) (ao : Option Addr) (n cap : Nat) (w : World) (h : SrcS w g ao n cap 0) (hn : n ≤ 1000000000000) :
    Calls Try.prog 53 #[.pointer (some ⟨g, 0, none⟩), .int .i64 4] w fun e w' => ∃ ao' cap' acc, e = .returned (.slice ao' acc.length cap') ∧ TrainOk acc ∧ OwnsP w' w.heap.size (.slice ao' acc.length cap') acc ∧ w.grownBy w' (some g) := by
  have hlt := h.lt
  have H0 := hide h
  have HS := hide (h.alloc (.cells #[] 26))
  have G0 := hide (World.grownBy_alloc w (.cells #[] 26) (some g))
  have O0 := hide (OwnsP.made_ (w := w))
  clear h
  go_enter Try.func53, Try.ntmps53
  go_wp2_with fail
  refine (pick_any g ao n cap 0 5 _ HS.out hn (by omega) (by omega)).mono ?_
  rintro e w1 ⟨u, rfl, ⟨u0, u1⟩, hS1, hg1⟩
  have HS1 := hide hS1
  have G1 := hide (gtr G0.out hg1)
  have O1 := hide (O0.out.same hg1 (.inr (by simp [Value.ownBlock]; omega)))
  clear hS1 hg1
  go_wp2_with fail
  go_loopw [5, 6] (fun s5 s6 wr => ∃ (k : Int) (ao' : Option Addr) (cap' : Nat) (acc : List (Int × Int)), s5 = .slice ao' acc.length cap' ∧ s6 = .int .i64 k ∧ 0 ≤ k ∧ (acc.length : Int) + k ≤ 4 ∧ TrainOk acc ∧ SrcS wr g ao n cap (2 + 4 * (acc.length : Int)) ∧ OwnsP wr w.heap.size (.slice ao' acc.length cap') acc ∧ w.grownBy wr (some g)) (fun _ s6 _ => (intOf s6).toNat)
  case atStart => exact ⟨u, some ⟨w.heap.size, 0, none⟩, 0, [], rfl, rfl, u0, by simp; omega, ⟨by simp, fun j hj => by simp at hj⟩, HS1.out.mono (by simp), O1.out, G1.out⟩
  case round =>
    obtain ⟨k, ao', cap', acc, rfl, rfl, k0, k1, htr, hS, hown, hgr⟩ := hrel
    have HT := hide htr
    have HSR := hide hS
    have HO := hide hown
    have GR := hide hgr
    have hsz := hgr.size
    have hal : acc.length ≤ 4 := htr.1
    clear htr hS hown hgr
    by_cases hk : 0 < k
    · have q1 : IntKind.i64.wrap (k - 1) = k - 1 := IntWalk.i64_in _ (by omega)
      have hal3 : acc.length ≤ 3 := by omega
      go_wp2_with fail
      refine (among_lit g ao n cap (2 + 4 * (acc.length : Int)) [64, 60, 96, 75, 80, 54, 7, 239] 2 wr HSR.out hn (by omega) (by decide)).mono ?_
      rintro e w4 ⟨x, rfl, hx, hS4, hg4⟩
      have hx' : 6 ≤ x ∧ x ≤ 240 := by simp at hx; omega
      have S4 := hide (hS4.alloc (.cells #[.int .i64 x, .int .i64 0] 26))
      have O4 := hide (HO.out.same hg4 (by
        cases hob : (Value.slice ao' acc.length cap').ownBlock with
        | none => exact .inl rfl
        | some j => exact .inr (by have := (HO.out.lt j hob).1; simp; omega)))
      have G4 := hide (gal (gtr GR.out hg4) (.cells #[.int .i64 x, .int .i64 0] 26))
      have C4 := hide (cell2_new (w := w4) (u := .int .i64 x) (v := .int .i64 0) 26)
      have z4 : wr.heap.size ≤ w4.heap.size := hg4.size
      obtain ⟨p, hp⟩ : ∃ p, p = w4.heap.size := ⟨_, rfl⟩
      have O5 := hide (O4.out.below (balloc (Below.refl _ _) (.cells #[.int .i64 x, .int .i64 0] 26)))
      have HPL := hide (fun j (hj : (Value.slice ao' acc.length cap').ownBlock = some j) => show j < p from hp ▸ (O4.out.lt j hj).2)
      rw [← hp] at C4 z4
      obtain ⟨wb, hwb⟩ : ∃ wb, wb = w4.alloc (.cells #[.int .i64 x, .int .i64 0] 26) := ⟨_, rfl⟩
      rw [← hwb] at S4 G4 C4 O5
      have hpg : g < p := by omega
      have hpw : w.heap.size ≤ p := by omega
      have HP := hide hp
      have HWB := hide hwb
      clear hS4 hg4 hx hp hwb O4
      go_wp2_with fail
      have AM := among_lit g ao n cap (2 + 4 * (acc.length : Int) + 2) [8, 10, 12, 7, 6, 40, 96, 240] 2 wb S4.out hn (by omega) (by decide)
      rw [show wb.heap.size = w4.heap.size + 1 from by rw [HWB.out]; simp] at AM
      rw [← HWB.out]
      refine AM.mono ?_
      clear AM
      rintro e w5 ⟨y, rfl, hy, hS5, hg5⟩
      rw [← HP.out]
      have hy' : 6 ≤ y ∧ y ≤ 240 := by simp at hy; omega
      have C5 := hide (C4.out.grown' hg5 (by simp; omega))
      have G5 := hide (gtr G4.out hg5)
      have O6 := hide (O5.out.same hg5 (by
        cases hob : (Value.slice ao' acc.length cap').ownBlock with
        | none => exact .inl rfl
        | some j => exact .inr (by have := (O5.out.lt j hob).1; simp; omega)))
      have gs := gsc w5 p 1 (.int .i64 y)
      have G6 := hide (gup G5.out gs (fun j hj => by simp at hj; omega))
      have S6 := hide (src_keep H0.out hS5 gs (fun j hj => by simp at hj; omega))
      have O7 := hide (O6.out.same gs (by
        cases hob : (Value.slice ao' acc.length cap').ownBlock with
        | none => exact .inl rfl
        | some j => exact .inr (by have := HPL.out j hob; simp; omega)))
      have hs6 : w.heap.size ≤ (w5.setCell ⟨p, 1, none⟩ (.int .i64 y)).heap.size := G6.out.size
      obtain ⟨z0, z1, z2, z3⟩ := C5.out
      have y0 : (w5.setCell ⟨p, 1, none⟩ (.int .i64 y)).cell? ⟨p, 0, none⟩ = some (.int .i64 x) := by
        rw [World.cell?_setCell_other _ _ _ _ (fun e => by cases e)]; exact z0
      have y1 : (w5.setCell ⟨p, 1, none⟩ (.int .i64 y)).cell? ⟨p, 1, none⟩ = some (.int .i64 y) := World.cell?_setCell_same _ _ _ z1
      have hpl := C5.out.lt
      clear hS5 hg5 hy gs
      go_wp2_with (at_builtin; refine wpList_appendP rfl (.tmp 25) (.tmp 27) rfl w.heap.size _ acc rfl O7.out x y 1 (by show Value.slice (some ⟨w5.heap.size, 0, none⟩) 1 1 = _; simp) (by omega) hs6 ?_; intro ao2 cap2 w7 hown7 hg7)
      have G7 := hide (gup G6.out hg7 (fun j hj => (O7.out.lt j hj).1))
      have S7 := hide (src_keep H0.out S6.out hg7 (fun j hj => (O7.out.lt j hj).1))
      go_roundw
      case rel => exact ⟨k - 1, ao2, cap2, acc ++ [(x, y)], by simp, by first | rfl | go_num, by omega, by simp; omega, trainOk_add hal3 HT.out hx' hy', S7.out.mono (by simp; omega), by simpa using hown7, G7.out⟩
      case measure => simp only [intOf]; omega
    · go_wp2_with fail
      go_ret
      exact ⟨ao', cap', acc, rfl, HT.out, HO.out, GR.out⟩
theorem a2Train_any (ao : Option Addr) (n cap : Nat) (w : World) (hb : BytesR w ao n) (hn : n ≤ 1000000000000) :
    Calls Try.prog 29 #[.slice ao n cap] w fun e w' => ∃ ao' cap' acc, e = .returned (.slice ao' acc.length cap') ∧ TrainOk acc ∧ OwnsP w' w.heap.size (.slice ao' acc.length cap') acc ∧ Below w.heap.size w w' := by
  have HB := hide hb
  clear hb
  go_enter Try.func29, Try.ntmps29
  go_wp2_with fail
  refine (l00From_any ao n cap _ HB.out).mono ?_
  rintro e w1 ⟨rfl, hS, hb1⟩
  have HS := hide hS
  have B1 := hide hb1
  obtain ⟨g, hg⟩ : ∃ g, g = w.heap.size := ⟨_, rfl⟩
  have HS' : Hid (SrcS w1 g ao n cap 0) := hide (hg ▸ HS.out)
  rw [← hg]
  have hgl : w.heap.size ≤ g := by omega
  have hz1 := hb1.size
  clear hS hb1 HS hg
  go_wp2_with fail
  refine (l05Draw_any g ao n cap _ HS'.out hn).mono ?_
  rintro e w2 ⟨ao', cap', acc, rfl, ht, ho, hg2⟩
  have HT := hide ht
  have HO := hide (ho.mono_base hz1)
  have B2 := hide (B1.out.grown hg2 B1.out.size (fun j hj => by simp at hj; omega))
  clear ht ho hg2
  go_wp2_with fail
  go_ret
  first | exact ⟨ao', cap', acc, rfl, HT.out, HO.out, B2.out⟩ | exact ⟨⟨ao', cap', acc, rfl, HT.out, HO.out⟩, B2.out⟩
set_option maxHeartbeats 2000000 in
theorem walk_FnMeeting (a0 : Option Addr) (len0 cap0 : Nat) (z0 : List Int) (w : World) (h0 : IsRow .u8 w a0 len0 cap0 z0) :
    Calls Try.prog 10 #[.slice a0 len0 cap0] w fun e w' => e = .returned (.bool true) ∧ Below w.heap.size w w' := by
  obtain ⟨b0, m0⟩ := row_bytes h0
  clear h0
  have H0 := hide b0
  clear b0
  cases hl : longB len0 0
  · have hlen : len0 ≤ 3000 := by
      unfold longB at hl
      simp only [Bool.or_eq_false_iff, decide_eq_false_iff_not] at hl
      omega
    have HL := hide hl
    clear hl
    go_enter Try.func10, Try.ntmps10
    go_wp2_with fail
    refine (a2Long_any _ _ _ _ _ _ _ m0 (Nat.zero_le _)).mono ?_
    rintro e w' ⟨rfl, rfl⟩
    rw [HL.out]
    go_wp2_with fail
    refine (a2Train_any a0 len0 cap0 _ H0.out (by omega)).mono ?_
    rintro e w1 ⟨ao, cap, ps, rfl, ht, ho, hb1⟩
    obtain ⟨m, hm⟩ : ∃ m, m = ps.length := ⟨_, rfl⟩
    have HT := hide ht
    have R1 := hide ho.reads
    have B1 := hide hb1
    have hm4 : m ≤ 4 := by rw [hm]; exact ht.1
    rw [← hm]
    have HM := hide hm
    clear ht ho hb1 hm
    go_wp2_with fail
    go_loopw [4] (fun s4 wr => ∃ (k : Nat), k ≤ m ∧ s4 = .int .i64 (k : Int) ∧ Below w1.heap.size w1 wr) (fun s4 _ => m - (intOf s4).toNat)
    case atStart => exact ⟨0, by omega, rfl, Below.refl _ _⟩
    case round =>
      obtain ⟨k, hk, rfl, hbel⟩ := hrel
      have HB := hide hbel
      clear hbel
      by_cases hlt : k < m
      · obtain ⟨b, off, rfl, l1, hcw⟩ := R1.out (by have := HM.out; omega)
        have hc := hcw k (by have := HM.out; omega)
        have ht := HT.out.2 k (by have := HM.out; omega)
        obtain ⟨q, hq⟩ : ∃ q, q = ps.getD k (0, 0) := ⟨_, rfl⟩
        rw [← hq] at hc ht
        obtain ⟨x, y⟩ := q
        obtain ⟨⟨x1, x2⟩, y1, y2⟩ := ht
        simp only at x1 x2 y1 y2
        obtain ⟨e0, e1, M1, M2, M3, M4⟩ := meet_law ⟨x1, x2⟩ ⟨y1, y2⟩
        have HMT := fun w => implMeetingTurns_any x y w
        rw [e1] at HMT
        obtain ⟨M, hMM⟩ : ∃ M, M = meet0 x y := ⟨_, rfl⟩
        rw [← hMM] at HMT M1 M2 M3 M4
        have HMM := hide HMT
        have H4 := hide M4
        have KC := hide (fun w' (hb : Below w1.heap.size w1 w') => show w'.cell? ⟨b, off + k * 2, none⟩ = some (.int .i64 x) ∧ w'.cell? ⟨b, off + k * 2 + 1, none⟩ = some (.int .i64 y) from ⟨(hb.cell (p := ⟨b, off + k * 2, none⟩) l1).trans hc.1, (hb.cell (p := ⟨b, off + k * 2 + 1, none⟩) l1).trans hc.2⟩)
        obtain ⟨c0, c1⟩ := KC.out _ HB.out
        have i0 : (0 : Int) ≤ (k : Int) := by omega
        have i1 : (k : Int) < (m : Int) := by omega
        have HM3 := hide M3
        clear hcw hc hq e0 e1 HMT M4 M3 hMM
        go_wp2_with fail
        refine (HMM.out _).mono ?_
        rintro e w3 ⟨rfl, hb3⟩
        have HB3 := hide (bstep HB.out hb3)
        obtain ⟨f0, f1⟩ := KC.out _ HB3.out
        have p0 : 0 ≤ M * x ∧ M * x ≤ 240 * 240 := ⟨Int.mul_nonneg (by omega) (by omega), Int.mul_le_mul (by omega) (by omega) (by omega) (by omega)⟩
        obtain ⟨Mx, hMx⟩ : ∃ z, z = M * x := ⟨_, rfl⟩
        have HMx := hide hMx
        rw [← hMx] at p0
        have q1 : IntKind.i64.wrap (M * x) = Mx := (IntWalk.i64_in _ (by rw [← hMx]; omega)).trans hMx.symm
        have q2 : Mx.tmod y = 0 := by rw [Int.tmod_eq_emod_of_nonneg p0.1, hMx]; exact HM3.out
        have q3 : IntKind.i64.wrap (Mx.tmod y) = 0 := by rw [q2]; rfl
        have d1 : decide (M < 1) = false := by simp; omega
        have d2 : decide (y < M) = false := by simp; omega
        have hy0 : ¬ y = 0 := by omega
        clear hb3 c0 c1 hMx
        go_upto_region 8 with fail
        go_quiet (fail)
        go_wp2_with fail
        go_loopw [7] (fun s7 wr' => ∃ (j : Int), 1 ≤ j ∧ j ≤ M ∧ s7 = .int .i64 j ∧ Below w1.heap.size w1 wr') (fun s7 _ => (M - intOf s7).toNat)
        case atStart => exact ⟨1, by omega, by omega, rfl, by first | exact HB3.out | exact HB3.out.drew | exact bdrewN HB3.out _⟩
        case round =>
          obtain ⟨j, j1, j2, rfl, hbel⟩ := hrel
          have HBB := hide hbel
          obtain ⟨c0, c1⟩ := KC.out _ hbel
          clear hbel
          by_cases hj : j < M
          · have p1 : 0 ≤ j * x ∧ j * x ≤ 240 * 240 := ⟨Int.mul_nonneg (by omega) (by omega), Int.mul_le_mul (by omega) (by omega) (by omega) (by omega)⟩
            have hne := H4.out j j1 hj
            obtain ⟨jx, hjx⟩ : ∃ z, z = j * x := ⟨_, rfl⟩
            rw [← hjx] at p1 hne
            have q4 : IntKind.i64.wrap (j * x) = jx := (IntWalk.i64_in _ (by rw [← hjx]; omega)).trans hjx.symm
            have hr0 := Int.emod_nonneg jx hy0
            have hr1 := Int.emod_lt_of_pos jx (show 0 < y by omega)
            obtain ⟨r, hr⟩ : ∃ r, r = jx % y := ⟨_, rfl⟩
            rw [← hr] at hr0 hr1 hne
            have q5 : jx.tmod y = r := (Int.tmod_eq_emod_of_nonneg p1.1).trans hr.symm
            have q6 : IntKind.i64.wrap (jx.tmod y) = r := by rw [q5]; exact IntWalk.i64_in _ (by omega)
            have d3 : (r == 0) = false := by simpa using hne
            have q7 : IntKind.i64.wrap (j + 1) = j + 1 := IntWalk.i64_in _ (by omega)
            clear hjx hr
            go_upto_region 13 with fail
            go_quiet (fail)
            go_wp2_with fail
            go_roundw
            case rel => exact ⟨j + 1, by omega, by omega, by first | rfl | go_num, by first | exact HBB.out | exact HBB.out.drew | exact bdrewN HBB.out _⟩
            case measure => simp only [intOf]; omega
          · go_wp2_with fail
            go_roundw
            case rel => exact ⟨k + 1, hlt, by first | rfl | go_num, HBB.out⟩
            case measure => simp only [intOf]; omega
      · go_wp2_with fail
        go_ret
        exact ⟨rfl, bstep B1.out HB.out⟩
  · have HL := hide hl
    clear hl
    go_enter Try.func10, Try.ntmps10
    go_wp2_with fail
    refine (a2Long_any _ _ _ _ _ _ _ m0 (Nat.zero_le _)).mono ?_
    rintro e w' ⟨rfl, rfl⟩
    rw [HL.out]
    go_wp2_with fail
    go_ret
    exact ⟨rfl, Below.refl _ _⟩
end Go.Proofs.Ytmkhkojefjdbbaa
