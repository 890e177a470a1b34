/-
  RatioOfTerms: the implementation's contract, and the walk of the law.
-/
import Derived.Test.YtjojeoehdocojaaRTW
namespace Go.Proofs.Ytjojeoehdocojaa
open Go.RowKit

/-- Three cells are as they were, and below w0's size nothing has turned. -/
def HeldD (p1 p2 p3 : Addr) (a b c : Value) (w0 w' : World) : Prop := w'.cell? p1 = some a ∧ w'.cell? p2 = some b ∧ w'.cell? p3 = some c ∧ Below w0.heap.size w0 w'
section
variable {p1 p2 p3 : Addr} {a b c : Value} {w0 w1 w2 : World}
theorem heldD_step (h : HeldD p1 p2 p3 a b c w0 w1) (hb : Below w1.heap.size w1 w2) : HeldD p1 p2 p3 a b c w0 w2 := by
  obtain ⟨h1, h2, h3, h5⟩ := h
  exact ⟨(hb.cell (World.block_lt_of_cell? w1 _ h1)).trans h1, (hb.cell (World.block_lt_of_cell? w1 _ h2)).trans h2, (hb.cell (World.block_lt_of_cell? w1 _ h3)).trans h3, bstep h5 hb⟩
theorem heldD_alloc (h : HeldD p1 p2 p3 a b c w0 w1) (o : Obj) : HeldD p1 p2 p3 a b c w0 (w1.alloc o) := heldD_step h (balloc (Below.refl _ _) _)
theorem heldD_set {b1 b2 b3 o1 o2 o3 g : Nat} (h : HeldD ⟨b1, o1, none⟩ ⟨b2, o2, none⟩ ⟨b3, o3, none⟩ a b c w0 w1) (l1 : b1 < w0.heap.size) (l2 : b2 < w0.heap.size) (l3 : b3 < w0.heap.size) (hg : w0.heap.size ≤ g) (u v : Value) :
    HeldD ⟨b1, o1, none⟩ ⟨b2, o2, none⟩ ⟨b3, o3, none⟩ a b c w0 ((w1.setCell ⟨g, 0, none⟩ u).setCell ⟨g, 1, none⟩ v) := by
  obtain ⟨h1, h2, h3, h5⟩ := h
  have n1 : b1 ≠ g := by omega
  have n2 : b2 ≠ g := by omega
  have n3 : b3 ≠ g := by omega
  refine ⟨?_, ?_, ?_, bset (bset h5 hg _) hg _⟩
  · rw [World.cell?_setCell_other _ _ _ _ (fun e => by cases e; exact n1 rfl), World.cell?_setCell_other _ _ _ _ (fun e => by cases e; exact n1 rfl)]; exact h1
  · rw [World.cell?_setCell_other _ _ _ _ (fun e => by cases e; exact n2 rfl), World.cell?_setCell_other _ _ _ _ (fun e => by cases e; exact n2 rfl)]; exact h2
  · rw [World.cell?_setCell_other _ _ _ _ (fun e => by cases e; exact n3 rfl), World.cell?_setCell_other _ _ _ _ (fun e => by cases e; exact n3 rfl)]; exact h3
end
set_option maxHeartbeats 2000000 in
theorem implRatioOfTerms_any (ao : Option Addr) (L : List Int) (cap : Nat) (w : World) (h : ReadsI w ao L) (hn : L.length ≤ 1000000000) (hcap : L.length ≤ cap ∧ cap ≤ maxLen) (hbd : ∀ j, j < L.length → -9223372036854775808 ≤ L.getD j 0 ∧ L.getD j 0 ≤ 9223372036854775807) :
    Calls Try.prog 20 #[.slice ao L.length cap] w fun e w' => e = .returned (.tuple #[.agg #[.int .i64 (rtN L), .int .i64 (rtD L)], .int .i64 (rtC L)]) ∧ Below w.heap.size w w' := by
  unfold maxLen at hcap
  obtain ⟨N, hN⟩ : ∃ n, n = L.length := ⟨_, rfl⟩
  have HD := hide hbd
  have C0 := hide (cell2_new (w := w) (u := .int .i64 0) (v := .int .i64 0) 27)
  have B0 := hide (balloc (Below.refl w.heap.size w) (.cells #[.int .i64 0, .int .i64 0] 27))
  by_cases h0 : N = 0
  · have e : L = [] := List.eq_nil_of_length_eq_zero (by omega)
    subst e
    obtain ⟨e1, e2, e3⟩ := rt_f tailOk_nil
    rw [e1, e2, e3]
    obtain ⟨z0, z1, z2, z3⟩ := C0.out
    have hl0 := C0.out.lt
    clear e1 e2 e3 h hbd hN h0
    go_enter Try.func20, Try.ntmps20
    go_wp2_with fail
    refine bodyPost_ret (v := .tuple #[.agg #[.int .i64 0, .int .i64 0], .int .i64 1]) (by simp [results, Try.results20, go_sem, z0, z1, z2, z3, hl0]) rfl ⟨rfl, ?_⟩
    repeat (first | exact B0.out | refine balloc ?_ _ | refine bset ?_ (Nat.le_refl _) _)
  · obtain ⟨b1, off1, rfl, hlb, hc1⟩ := h (by omega)
    have HCC := hide hc1
    have HN := hide hN
    have hnz : ((N : Int) == 0) = false := by simp; omega
    obtain ⟨RN, hRN⟩ : ∃ x, x = rtN L := ⟨_, rfl⟩
    obtain ⟨RD, hRD⟩ : ∃ x, x = rtD L := ⟨_, rfl⟩
    obtain ⟨RC, hRC⟩ : ∃ x, x = rtC L := ⟨_, rfl⟩
    rw [← hN] at hn hcap ⊢
    rw [← hRN, ← hRD, ← hRC]
    have HRN := hide hRN
    have HRD := hide hRD
    have HRC := hide hRC
    have s1 : 1 ≤ N := by omega
    have s2 : (1 : Int) ≤ (N : Int) := by omega
    clear hN hc1 h hbd hRN hRD hRC h0
    obtain ⟨pc, rfl⟩ : ∃ pc : Nat × Nat, cap = pc.1 := ⟨(cap, 0), rfl⟩
    go_enter Try.func20, Try.ntmps20
    go_upto_region 3 with fail
    go_cut [0, 16, 17, 18] (fun s0 s16 s17 s18 wx => s0 = .slice (some ⟨b1, off1, none⟩) N pc.1 ∧ ∃ A c, s16 = .slice (some A) (N - 1) c ∧ (1 < N → A = ⟨b1, off1 + 1, none⟩) ∧ s17 = .int .i64 ((N - 1 : Nat) : Int) ∧ s18 = .int .i64 0 ∧ wx = w.alloc (.cells #[.int .i64 0, .int .i64 0] 27))
    case first =>
      go_wp2_with fail
      all_goals go_meet
      · exact ⟨by simp only [*], _, _, rfl, fun hh => absurd hh (by omega), rfl, rfl, rfl⟩
      · exact ⟨rfl, _, _, rfl, fun hh => rfl, rfl, rfl, rfl⟩
    case rest =>
      obtain ⟨rfl, A, c, rfl, hA, rfl, rfl, rfl⟩ := hcut
      have HA := hide hA
      clear hA
      go_wp2_with fail
      go_loopw [18] (fun iv wr => ∃ k : Nat, k ≤ N - 1 ∧ (∀ j, 1 ≤ j → j < k + 1 → 1 ≤ L.getD j 0) ∧ iv = .int .i64 k ∧ Cell2 wr w.heap.size (.int .i64 0) (.int .i64 0) ∧ Below w.heap.size w wr) (fun iv _ => N - (intOf iv).toNat)
      case atStart => exact ⟨0, by omega, by omega, rfl, C0.out, B0.out⟩
      case round =>
        obtain ⟨k, hk2, hall, rfl, k0, hbel⟩ := hrel
        have HAL := hide hall
        have HB := hide hbel
        have K0 := hide k0
        have hl0 := k0.lt
        clear hall
        by_cases hlt : k < N - 1
        · have hA := HA.out (by omega)
          subst hA
          have qh := HCC.out (k + 1) (by have := HN.out; omega)
          rw [show off1 + (k + 1) = off1 + 1 + k by omega] at qh
          have qk := (hbel.cell (p := ⟨b1, off1 + 1 + k, none⟩) hlb).trans qh
          clear qh
          obtain ⟨t, ht⟩ : ∃ t, t = L.getD (k + 1) 0 := ⟨_, rfl⟩
          rw [← ht] at qk
          have HTT := hide ht
          obtain ⟨z0, z1, z2, z3⟩ := k0
          clear ht hbel
          by_cases ht1 : t ≤ 0
          · have HTO := hide (tailOk_bad (L := L) (j := k + 1) (by omega) (by have := HN.out; omega) (by rw [← HTT.out]; omega))
            have E1 : RN = 0 := HRN.out.trans (rt_f HTO.out).1
            have E2 : RD = 0 := HRD.out.trans (rt_f HTO.out).2.1
            have E3 : RC = 1 := HRC.out.trans (rt_f HTO.out).2.2
            subst E1 E2 E3
            go_wp2_with fail
            refine bodyPost_ret (v := .tuple #[.agg #[.int .i64 0, .int .i64 0], .int .i64 1]) (by simp [results, Try.results20, go_sem, z0, z1, z2, z3, hl0]) rfl ⟨rfl, ?_⟩
            repeat (first | exact HB.out | refine balloc ?_ _ | refine bset ?_ (Nat.le_refl _) _)
          · go_wp2_with fail
            go_roundw
            case rel =>
              refine ⟨k + 1, by omega, fun j h1 h2 => ?_, by go_num, K0.out, HB.out⟩
              rcases Nat.lt_succ_iff_lt_or_eq.1 h2 with h3 | rfl
              · exact HAL.out j h1 h3
              · rw [← HTT.out]; omega
            case measure => simp [intOf]; omega
        · have HTO := hide (tailOk_mk (L := L) (by have := HN.out; omega) (fun j h1 h2 => HAL.out j h1 (by have := HN.out; omega)))
          have E1 := hide (HRN.out.trans (rt_t HTO.out).1)
          have E2 := hide (HRD.out.trans (rt_t HTO.out).2.1)
          have E3 := hide (HRC.out.trans (rt_t HTO.out).2.2)
          clear hbel k0
          go_wp2_with fail
          go_loopw [28] (fun iv wr => ∃ k : Nat, k ≤ N ∧ (∀ j, j < k → inR (L.getD j 0) (-1000000000) 1000000000 = true) ∧ iv = .int .i64 k ∧ Cell2 wr w.heap.size (.int .i64 0) (.int .i64 0) ∧ Below w.heap.size w wr) (fun iv _ => N - (intOf iv).toNat)
          case atStart => exact ⟨0, by omega, by omega, rfl, K0.out, HB.out⟩
          case round =>
            obtain ⟨k', hk2', hall', rfl, k0, hbel⟩ := hrel
            have HAL' := hide hall'
            have HB' := hide hbel
            have K0' := hide k0
            have hl0 := k0.lt
            clear hall'
            by_cases hlt' : k' < N
            · have qk := (hbel.cell (p := ⟨b1, off1 + k', none⟩) hlb).trans (HCC.out k' (by have := HN.out; omega))
              obtain ⟨t, ht⟩ : ∃ t, t = L.getD k' 0 := ⟨_, rfl⟩
              rw [← ht] at qk
              have HTT := hide ht
              obtain ⟨z0, z1, z2, z3⟩ := k0
              clear ht hbel
              cases hin : inR t (-1000000000) 1000000000
              · have HRR := hide (rtR_out (allIn_bad (L := L) (j := k') (by have := HN.out; omega) (by rw [← HTT.out]; exact hin)))
                have F1 : RN = 0 := E1.out.trans (by rw [HRR.out])
                have F2 : RD = 0 := E2.out.trans (by rw [HRR.out])
                have F3 : RC = 2 := E3.out.trans (by rw [HRR.out]; rfl)
                subst F1 F2 F3
                go_wp2_with fail
                refine (within_any t (-1000000000) 1000000000 _).mono ?_
                rintro e w' ⟨rfl, rfl⟩
                rw [hin]
                go_wp2_with fail
                refine bodyPost_ret (v := .tuple #[.agg #[.int .i64 0, .int .i64 0], .int .i64 2]) (by simp [results, Try.results20, go_sem, z0, z1, z2, z3, hl0]) rfl ⟨rfl, ?_⟩
                repeat (first | exact HB'.out | refine balloc ?_ _ | refine bset ?_ (Nat.le_refl _) _)
              · go_wp2_with fail
                refine (within_any t (-1000000000) 1000000000 _).mono ?_
                rintro e w' ⟨rfl, rfl⟩
                rw [hin]
                go_wp2_with fail
                go_roundw
                case rel =>
                  refine ⟨k' + 1, by omega, fun j h1 => ?_, by go_num, K0'.out, HB'.out⟩
                  rcases Nat.lt_succ_iff_lt_or_eq.1 h1 with h3 | rfl
                  · exact HAL'.out j h3
                  · rw [← HTT.out]; exact hin
                case measure => simp [intOf]; omega
            · have HIN := hide (fun j (hj : j < N) => HAL'.out j (by omega))
              have q0 := (hbel.cell (p := ⟨b1, off1 + (N - 1), none⟩) hlb).trans (HCC.out (N - 1) (by have := HN.out; omega))
              obtain ⟨x, hx⟩ : ∃ x, x = L.getD (N - 1) 0 := ⟨_, rfl⟩
              rw [← hx] at q0
              have HX := hide hx
              have hxin := hide (HAL'.out (N - 1) (by omega))
              have i0 : (0 : Int) ≤ (N : Int) - 1 := by omega
              have i1 : (N : Int) - 1 < (N : Int) := by omega
              have i2 : ((N : Int) - 1).toNat = N - 1 := by omega
              obtain ⟨wq, hwq⟩ : ∃ wq : World, wq = wr := ⟨_, rfl⟩
              subst hwq
              have D0 := hide (K0'.out.alloc (.cells #[.int .i64 x, .int .i64 1] 27))
              have D1 := hide (cell2_new (w := wq) (u := .int .i64 x) (v := .int .i64 1) 27)
              have DB := hide (balloc HB'.out (.cells #[.int .i64 x, .int .i64 1] 27))
              clear hx k0 hbel
              go_wp2_with fail
              go_loopw [9] (fun iv wr => ∃ (k : Nat) (n d i : Int), k ≤ N - 1 ∧ i = (k : Int) - 1 ∧ iv = .int .i64 i ∧ validR n d = true ∧ (1 ≤ k → 1 ≤ n) ∧ rtGo L k n d = rtR L ∧
                  Cell2 wr w.heap.size (.int .i64 0) (.int .i64 0) ∧ Cell2 wr wq.heap.size (.int .i64 n) (.int .i64 d) ∧ Below w.heap.size w wr) (fun iv _ => (intOf iv + 1).toNat)
              case atStart =>
                refine ⟨N - 1, x, 1, (N : Int) - 2, by omega, by omega, by first | rfl | (congr 1; omega), by have h := hxin.out; rw [← HX.out] at h; exact valid_int (inR_true h), fun hk => ?_, ?_, D0.out, D1.out, DB.out⟩
                · rw [HX.out]; exact (tailOk_true HTO.out).2 (N - 1) (by omega) (by have := HN.out; omega)
                · have h := hxin.out
                  unfold rtR
                  rw [← HN.out, h, HX.out]; rfl
              case round =>
                obtain ⟨m0, n, d, i, hk, hi, rfl, hvr, hnn, heq, k0, k1, hbel⟩ := hrel
                have HB2 := hide hbel
                have L0 := hide k0
                have L1 := hide k1
                have hl0 := k0.lt
                have hl1 := k1.lt
                have HEQ := hide heq
                have HVR := hide hvr
                obtain ⟨vn, vd⟩ : (-1000000000 ≤ n ∧ n ≤ 1000000000) ∧ (1 ≤ d ∧ d ≤ 1000000000) := ⟨(validR_true hvr).2.1, (validR_true hvr).1⟩
                cases m0 with
                | zero =>
                  have hi' : i = -1 := by omega
                  subst hi'
                  clear hi
                  have HRR := hide (show rtR L = (n, d, true) from heq.symm)
                  have F1 : RN = n := E1.out.trans (by rw [HRR.out])
                  have F2 : RD = d := E2.out.trans (by rw [HRR.out])
                  have F3 : RC = 0 := E3.out.trans (by rw [HRR.out]; rfl)
                  subst F1 F2 F3
                  obtain ⟨f0, f1, f2, f3⟩ := k1
                  obtain ⟨z0, z1, z2, z3⟩ := k0
                  obtain ⟨y0, y1, y2, y3⟩ := L0.out.set (.int .i64 RN) (.int .i64 RD)
                  clear hvr heq hbel hnn
                  go_wp2_with fail
                  refine bodyPost_ret (v := .tuple #[.agg #[.int .i64 RN, .int .i64 RD], .int .i64 0]) (by simp [results, Try.results20, go_sem, z0, z1, z2, z3, y0, y1, hl0]) rfl ⟨rfl, ?_⟩
                  exact bset (bset HB2.out (Nat.le_refl _) _) (Nat.le_refl _) _
                | succ m =>
                  have hi' : i = (m : Int) := by omega
                  subst hi'
                  clear hi
                  have hn1 : 1 ≤ n := hnn (by omega)
                  have hlm : m < N := by omega
                  have qm := (hbel.cell (p := ⟨b1, off1 + m, none⟩) hlb).trans (HCC.out m (by have := HN.out; omega))
                  have hin := HIN.out m hlm
                  obtain ⟨t, ht⟩ : ∃ t, t = L.getD m 0 := ⟨_, rfl⟩
                  rw [← ht] at qm hin
                  have hti := inR_true hin
                  have HINN := hide hin
                  have HTT := hide ht
                  have hgo : rtGo L (m + 1) n d = if both (inR t (-1000000000) 1000000000) (validR (t * n + d) n) then rtGo L m (t * n + d) n else (0, 0, false) := by rw [ht]; rfl
                  have HGO := hide hgo
                  have j0 : (0 : Int) ≤ (m : Int) := by omega
                  have j1 : (m : Int) < (N : Int) := by omega
                  have mb := mulB t n hti vn
                  have wa := IntWalk.i64_in (t * n) (by omega)
                  have wb := IntWalk.i64_in (t * n + d) (by omega)
                  obtain ⟨f0, f1, f2, f3⟩ := k1
                  clear hvr heq hbel hnn hgo ht k0 hin
                  go_upto_region 19 with fail
                  go_cut [10] from 47 to 68 (fun s10 wx => Left2 wr (t * n + d) n s10 wx)
                  case first =>
                    have HF : HeldD ⟨b1, off1 + m, none⟩ ⟨wq.heap.size, 0, none⟩ ⟨wq.heap.size, 1, none⟩ (.int .i64 t) (.int .i64 n) (.int .i64 d) wr wr := ⟨qm, f0, f1, Below.refl _ _⟩
                    go_region_held3 (fun w' => w'.cell? ⟨b1, off1 + m, none⟩ = some (.int .i64 t) ∧ w'.cell? ⟨wq.heap.size, 0, none⟩ = some (.int .i64 n) ∧ w'.cell? ⟨wq.heap.size, 1, none⟩ = some (.int .i64 d) ∧ Below wr.heap.size wr w')
                      (first | exact ⟨qm, f0, f1, (Below.refl _ _).drew⟩ | exact ⟨(heldD_alloc HF _).1, (heldD_alloc HF _).2.1, (heldD_alloc HF _).2.2.1, ((heldD_alloc HF _).2.2.2).drew⟩)
                      (fail)
                    all_goals (go_wp2_with fail; go_meet; exact ⟨wr.heap.size, rfl, by simp [go_sem], by simp [go_sem], (balloc (Below.refl _ _) _).drew⟩)
                  case rest =>
                    obtain ⟨g, rfl, e0, e1, hbc⟩ := hcut
                    have hgl := World.block_lt_of_cell? _ _ e0
                    have M0 := hide (L0.out.below hbc)
                    have M1 := hide (L1.out.below hbc)
                    have HBC := hide (bstep HB2.out hbc)
                    clear hbc qm f0 f1 f2 f3
                    go_wp2_with fail
                    refine (implValidRatio_any (t * n + d) n _).mono ?_
                    rintro e w2 ⟨rfl, hb2⟩
                    have e0' := (hb2.cell (p := ⟨g, 0, none⟩) hgl).trans e0
                    have e1' := (hb2.cell (p := ⟨g, 1, none⟩) hgl).trans e1
                    have N0 := hide (M0.out.below hb2)
                    have N1 := hide (M1.out.below hb2)
                    have HBD := hide (bstep HBC.out hb2)
                    obtain ⟨z0, z1, z2, z3⟩ := N0.out
                    obtain ⟨f0, f1, f2, f3⟩ := N1.out
                    have hl0 := N0.out.lt
                    clear hb2 e0 e1
                    cases hvv : validR (t * n + d) n
                    · have HRR := hide (show rtR L = (0, 0, false) by rw [← HEQ.out, HGO.out, both_f2 hvv]; rfl)
                      have F1 : RN = 0 := E1.out.trans (by rw [HRR.out])
                      have F2 : RD = 0 := E2.out.trans (by rw [HRR.out])
                      have F3 : RC = 2 := E3.out.trans (by rw [HRR.out]; rfl)
                      subst F1 F2 F3
                      go_wp2_with fail
                      refine bodyPost_ret (v := .tuple #[.agg #[.int .i64 0, .int .i64 0], .int .i64 2]) (by simp [results, Try.results20, go_sem, z0, z1, z2, z3, hl0]) rfl ⟨rfl, ?_⟩
                      repeat (first | exact HBD.out | refine balloc ?_ _ | refine bset ?_ (Nat.le_refl _) _)
                    · go_wp2_with fail
                      go_roundw
                      case rel =>
                        refine ⟨m, t * n + d, n, (m : Int) - 1, by omega, rfl, rfl, hvv, fun hm => ?_, by rw [← HEQ.out, HGO.out, both_tt HINN.out hvv]; rfl, N0.out.other (by omega) _ _, N1.out.set _ _, bset (bset HBD.out (by simp; omega) _) (by simp; omega) _⟩
                        exact rt_next (by rw [HTT.out]; exact (tailOk_true HTO.out).2 m hm (by have := HN.out; omega)) hn1 (by omega)
                      case measure => simp [intOf]
end Go.Proofs.Ytjojeoehdocojaa
