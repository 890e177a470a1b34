/-
  The ratio of terms: contracts of both functions, and the walk of RatioOfTerms's law.
-/
import Derived.Test.YtjojeoehdocojaaRT
namespace Go.Proofs.Ytjojeoehdocojaa
open Go.RowKit

theorem rt_next {t n d : Int} (h1 : 1 ≤ t) (h2 : 1 ≤ n) (h3 : 1 ≤ d) : 1 ≤ t * n + d := by
  have := Int.mul_nonneg (show 0 ≤ t by omega) (show 0 ≤ n by omega)
  omega
set_option maxHeartbeats 2000000 in
theorem l03Ratio_any (ao : Option Addr) (L : List Int) (cap : Nat) (w : World) (h : ReadsI w ao L) (hv : tailOk L = true) (hn : L.length ≤ 1000000000) (hbd : ∀ j, j < L.length → -9223372036854775808 ≤ L.getD j 0 ∧ L.getD j 0 ≤ 9223372036854775807) :
    Calls Try.prog 46 #[.slice ao L.length cap] w fun e w' => e = .returned (.tuple #[.agg #[.int .i64 (rtR L).1, .int .i64 (rtR L).2.1], .bool (rtR L).2.2]) ∧ Below w.heap.size w w' := by
  obtain ⟨h0, htail⟩ := tailOk_true hv
  have HT := hide htail
  obtain ⟨b1, off1, rfl, hlb, hc1⟩ := h h0
  have HC := hide hc1
  have HD := hide hbd
  obtain ⟨N, hN⟩ : ∃ n, n = L.length := ⟨_, rfl⟩
  obtain ⟨R, hR⟩ : ∃ R, R = rtR L := ⟨_, rfl⟩
  have HR := hide hR
  have q0 := hc1 (L.length - 1) (by omega)
  have hb0 := hbd (L.length - 1) (by omega)
  rw [← hN] at hn h0 q0 hb0 ⊢
  rw [← hR]
  obtain ⟨x, hx⟩ : ∃ x, x = L.getD (N - 1) 0 := ⟨_, rfl⟩
  rw [← hx] at q0 hb0
  have HN := hide hN
  have HX := hide hx
  clear hN hx hR hc1 h hbd htail hv
  have i0 : (0 : Int) ≤ (N : Int) - 1 := by omega
  have i1 : (N : Int) - 1 < (N : Int) := by omega
  have i2 : ((N : Int) - 1).toNat = N - 1 := by omega
  obtain ⟨mw1, mw2⟩ := mk_whole x
  have c0 := cell2_new (w := w) (u := .int .i64 0) (v := .int .i64 0) 27
  have B0 := hide (balloc (Below.refl w.heap.size w) (.cells #[.int .i64 0, .int .i64 0] 27))
  have C0 := hide c0
  clear c0
  go_enter Try.func46, Try.ntmps46
  go_wp2_with fail
  refine (l02Make_any x 1 _ hb0 (by omega) (by omega)).mono ?_
  rintro e w1 ⟨rfl, hb1⟩
  have hlt1 : w.heap.size < w1.heap.size := (C0.out.below hb1).lt
  have D0 := hide ((C0.out.below hb1).alloc (.cells #[.int .i64 (mkN x 1), .int .i64 (mkD x 1)] 27))
  have D1 := hide (cell2_new (w := w1) (u := .int .i64 (mkN x 1)) (v := .int .i64 (mkD x 1)) 27)
  have E1 := hide (balloc (bstep B0.out hb1) (.cells #[.int .i64 (mkN x 1), .int .i64 (mkD x 1)] 27))
  have MW := hide (And.intro mw1 mw2)
  clear hb1 mw1 mw2
  go_wp2_with fail
  go_loopw [5, 6] (fun okv iv wr => ∃ (k : Nat) (n d i : Int) (ok : Bool), k ≤ N - 1 ∧ i = (k : Int) - 1 ∧ iv = .int .i64 i ∧ okv = .bool ok ∧
      ((ok = true ∧ validR n d = true ∧ (1 ≤ k → 1 ≤ n) ∧ rtGo L k n d = R) ∨ (ok = false ∧ n = 0 ∧ d = 0 ∧ R = (0, 0, false))) ∧
      Cell2 wr w.heap.size (.int .i64 0) (.int .i64 0) ∧ Cell2 wr w1.heap.size (.int .i64 n) (.int .i64 d) ∧ Below w.heap.size w wr) (fun _ iv _ => (intOf iv + 1).toNat)
  case atStart =>
    refine ⟨N - 1, mkN x 1, mkD x 1, (N : Int) - 2, mkOk x 1, by omega, by omega, by first | rfl | (congr 1; omega), rfl, ?_, D0.out, D1.out, E1.out⟩
    have hd : R = if inR x (-1000000000) 1000000000 then rtGo L (N - 1) x 1 else (0, 0, false) := by rw [HR.out, HX.out, HN.out]; rfl
    cases hx : inR x (-1000000000) 1000000000
    · have hm : mkOk x 1 = false := by rw [MW.out.1, hx]
      refine .inr ⟨hm, ?_, ?_, by rw [hd, hx]; rfl⟩
      · unfold mkN; rw [hm]; rfl
      · unfold mkD; rw [hm]; rfl
    · obtain ⟨e1, e2⟩ := MW.out.2 hx
      refine .inl ⟨by rw [MW.out.1, hx], by rw [e1, e2]; exact valid_int (inR_true hx), fun hk => ?_, by rw [hd, hx, e1, e2]; rfl⟩
      rw [e1, HX.out]
      exact HT.out (N - 1) (by omega) (by have := HN.out; omega)
  case round =>
    obtain ⟨k, n, d, i, ok, hk, hi, rfl, rfl, hst, k0, k1, hbel⟩ := hrel
    have HB := hide hbel
    have K0 := hide k0
    have K1 := hide k1
    have hl0 := k0.lt
    have hl1 := k1.lt
    rcases hst with ⟨rfl, hvr, hnn, heq⟩ | ⟨rfl, rfl, rfl, hR0⟩
    · have HVR := hide hvr
      have HEQ := hide heq
      obtain ⟨vn, vd⟩ : (-1000000000 ≤ n ∧ n ≤ 1000000000) ∧ (1 ≤ d ∧ d ≤ 1000000000) := ⟨(validR_true hvr).2.1, (validR_true hvr).1⟩
      have hgc := hide (validR_true hvr).2.2
      cases k with
      | zero =>
        have hi' : i = -1 := by omega
        subst hi'
        clear hi
        have HE : Hid (R = (n, d, true)) := hide heq.symm
        obtain ⟨f0, f1, f2, f3⟩ := k1
        obtain ⟨z0, z1, z2, z3⟩ := k0
        obtain ⟨y0, y1, y2, y3⟩ := K0.out.set (.int .i64 n) (.int .i64 d)
        clear hvr heq hbel hnn
        go_wp2_with fail
        rw [HE.out]
        refine bodyPost_ret (v := .tuple #[.agg #[.int .i64 n, .int .i64 d], .bool true]) (by simp [results, Try.results46, go_sem, z0, z1, z2, z3, y0, y1, hl0]) rfl ⟨rfl, ?_⟩
        exact bset (bset HB.out (Nat.le_refl _) _) (Nat.le_refl _) _
      | succ m =>
        have hi' : i = (m : Int) := by omega
        subst hi'
        clear hi
        have hn1 : 1 ≤ n := hnn (by omega)
        have hlm : m < N := by omega
        have qm := (hbel.cell (p := ⟨b1, off1 + m, none⟩) hlb).trans (HC.out m (by have := HN.out; omega))
        have hbm := HD.out m (by have := HN.out; omega)
        obtain ⟨t, ht⟩ : ∃ t, t = L.getD m 0 := ⟨_, rfl⟩
        rw [← ht] at qm hbm
        have HTT := hide ht
        have MM := hide (mk_whole t)
        have hgo : rtGo L (m + 1) n d = if both (inR t (-1000000000) 1000000000) (validR (t * n + d) n) then rtGo L m (t * n + d) n else (0, 0, false) := by rw [ht]; rfl
        have HGO := hide hgo
        have j0 : (0 : Int) ≤ (m : Int) := by omega
        have j1 : (m : Int) < (N : Int) := by omega
        obtain ⟨f0, f1, f2, f3⟩ := k1
        clear hvr heq hbel hnn hgo ht k0
        go_wp2_with fail
        refine (l02Make_any t 1 _ hbm (by omega) (by omega)).mono ?_
        rintro e w2 ⟨rfl, hb2⟩
        have F0 := hide (K0.out.below hb2)
        have F1 := hide (K1.out.below hb2)
        have HB2 := hide (bstep HB.out hb2)
        clear hb2 f0 f1 f2 f3
        obtain ⟨f0, f1, f2, f3⟩ := F1.out
        obtain ⟨z0, z1, z2, z3⟩ := F0.out
        have hl2 := F1.out.lt
        have hl3 := F0.out.lt
        rw [MM.out.1]
        cases hin : inR t (-1000000000) 1000000000
        · have HE : Hid (R = (0, 0, false)) := hide (by rw [← HEQ.out, HGO.out, both_f1 hin]; rfl)
          go_wp2_with fail
          rw [HE.out]
          refine bodyPost_ret (v := .tuple #[.agg #[.int .i64 0, .int .i64 0], .bool false]) (by simp [results, Try.results46, go_sem, z0, z1, z2, z3, hl3]) rfl ⟨rfl, ?_⟩
          repeat (first | exact HB2.out | refine balloc ?_ _ | refine bset ?_ (Nat.le_refl _) _)
        · have hti := inR_true hin
          rw [(MM.out.2 hin).1, (MM.out.2 hin).2]
          have hne : (n == 0) = false := by simp; omega
          have HMS := hide (mk_step t n d (by omega) hgc.out)
          have HAD := fun w => l02Add_any t 1 d n w hti (by omega) (by omega) (by omega)
          rw [Int.mul_one, Int.one_mul, HMS.out.1] at HAD
          have HA2 := hide HAD
          clear HAD
          go_wp2_with fail
          refine (HA2.out _).mono ?_
          rintro e w3 ⟨rfl, hb3⟩
          have G0 := hide (((F0.out.alloc _).alloc _).below hb3)
          have G1 := hide (((F1.out.alloc _).alloc _).below hb3)
          have HB3 := hide (bstep (balloc (balloc HB2.out _) _) hb3)
          clear hb3 f0 f1 f2 f3 z0 z1 z2 z3
          obtain ⟨f0, f1, f2, f3⟩ := G1.out
          have hl4 := G1.out.lt
          go_wp2_with fail
          go_roundw
          case rel =>
            refine ⟨m, mkN (t * n + d) n, mkD (t * n + d) n, (m : Int) - 1, validR (t * n + d) n, by omega, rfl, rfl, rfl, ?_, G0.out.other (Nat.ne_of_lt hlt1) _ _, G1.out.set _ _, bset (bset HB3.out (Nat.le_of_lt hlt1) _) (Nat.le_of_lt hlt1) _⟩
            cases hvv : validR (t * n + d) n
            · have hm : mkOk (t * n + d) n = false := by rw [HMS.out.1, hvv]
              refine .inr ⟨rfl, ?_, ?_, by rw [← HEQ.out, HGO.out, both_f2 hvv]; rfl⟩
              · unfold mkN; rw [hm]; rfl
              · unfold mkD; rw [hm]; rfl
            · obtain ⟨e1, e2⟩ := HMS.out.2 hvv
              refine .inl ⟨rfl, by rw [e1, e2]; exact hvv, fun hm => ?_, by rw [← HEQ.out, HGO.out, both_tt hin hvv, e1, e2]; rfl⟩
              rw [e1]
              exact rt_next (by rw [HTT.out]; exact HT.out m hm (by have := HN.out; omega)) hn1 (by omega)
          case measure => simp [intOf]
    · have HE := hide hR0
      obtain ⟨f0, f1, f2, f3⟩ := k1
      obtain ⟨z0, z1, z2, z3⟩ := k0
      obtain ⟨y0, y1, y2, y3⟩ := K0.out.set (.int .i64 0) (.int .i64 0)
      clear hbel hR0
      by_cases hi0 : 0 ≤ i
      · go_wp2_with fail
        rw [HE.out]
        refine bodyPost_ret (v := .tuple #[.agg #[.int .i64 0, .int .i64 0], .bool false]) (by simp [results, Try.results46, go_sem, z0, z1, z2, z3, y0, y1, hl0]) rfl ⟨rfl, ?_⟩
        exact bset (bset HB.out (Nat.le_refl _) _) (Nat.le_refl _) _
      · go_wp2_with fail
        rw [HE.out]
        refine bodyPost_ret (v := .tuple #[.agg #[.int .i64 0, .int .i64 0], .bool false]) (by simp [results, Try.results46, go_sem, z0, z1, z2, z3, y0, y1, hl0]) rfl ⟨rfl, ?_⟩
        exact bset (bset HB.out (Nat.le_refl _) _) (Nat.le_refl _) _
def rtN (L : List Int) : Int := if tailOk L then (rtR L).1 else 0
def rtD (L : List Int) : Int := if tailOk L then (rtR L).2.1 else 0
def rtC (L : List Int) : Int := if tailOk L then codeOf (rtR L).2.2 else 1
theorem rt_f {L : List Int} (h : tailOk L = false) : rtN L = 0 ∧ rtD L = 0 ∧ rtC L = 1 := by unfold rtN rtD rtC; rw [h]; exact ⟨rfl, rfl, rfl⟩
theorem rt_t {L : List Int} (h : tailOk L = true) : rtN L = (rtR L).1 ∧ rtD L = (rtR L).2.1 ∧ rtC L = codeOf (rtR L).2.2 := by unfold rtN rtD rtC; rw [h]; exact ⟨rfl, rfl, rfl⟩
theorem rt_part (L : List Int) : partOf (rtR L).2.2 (rtR L).1 = (rtR L).1 ∧ partOf (rtR L).2.2 (rtR L).2.1 = (rtR L).2.1 := by
  cases h : (rtR L).2.2
  · obtain ⟨h1, h2⟩ := rtR_false h
    rw [h1, h2]; exact ⟨rfl, rfl⟩
  · exact ⟨rfl, rfl⟩
set_option maxHeartbeats 1000000 in
theorem specRatioOfTerms_any (ao : Option Addr) (L : List Int) (cap : Nat) (w : World) (h : ReadsI w ao L) (hn : L.length ≤ 1000000000) (hbd : ∀ j, j < L.length → -9223372036854775808 ≤ L.getD j 0 ∧ L.getD j 0 ≤ 9223372036854775807) :
    Calls Try.prog 18 #[.slice ao L.length cap] w fun e w' => e = .returned (.tuple #[.agg #[.int .i64 (rtN L), .int .i64 (rtD L)], .int .i64 (rtC L)]) ∧ Below w.heap.size w w' := by
  obtain ⟨N, hN⟩ : ∃ n, n = L.length := ⟨_, rfl⟩
  have HH := hide h
  have HD := hide hbd
  have C0 := hide (cell2_new (w := w) (u := .int .i64 0) (v := .int .i64 0) 27)
  have B0 := hide (balloc (Below.refl w.heap.size w) (.cells #[.int .i64 0, .int .i64 0] 27))
  by_cases h0 : N = 0
  · have e : L = [] := List.eq_nil_of_length_eq_zero (by omega)
    subst e
    obtain ⟨e1, e2, e3⟩ := rt_f tailOk_nil
    rw [e1, e2, e3]
    obtain ⟨z0, z1, z2, z3⟩ := C0.out
    have hl0 := C0.out.lt
    clear e1 e2 e3 h hbd hN h0
    go_enter Try.func18, Try.ntmps18
    go_wp2_with fail
    refine bodyPost_ret (v := .tuple #[.agg #[.int .i64 0, .int .i64 0], .int .i64 1]) (by simp [results, Try.results18, go_sem, z0, z1, z2, z3, hl0]) rfl ⟨rfl, ?_⟩
    repeat (first | exact B0.out | refine balloc ?_ _ | refine bset ?_ (Nat.le_refl _) _)
  · have HC : Calls Try.prog 18 #[.slice ao L.length cap] w fun e w' => e = .returned (.tuple #[.agg #[.int .i64 (rtN L), .int .i64 (rtD L)], .int .i64 (rtC L)]) ∧ Below w.heap.size w w' := by
      obtain ⟨b1, off1, rfl, hlb, hc1⟩ := h (by omega)
      have HCC := hide hc1
      have HN := hide hN
      have hnz : ((N : Int) == 0) = false := by simp; omega
      have hL : ∀ w, ReadsI w (some ⟨b1, off1, none⟩) L → tailOk L = true → Calls Try.prog 46 #[.slice (some ⟨b1, off1, none⟩) L.length cap] w fun e w' => e = .returned (.tuple #[.agg #[.int .i64 (rtR L).1, .int .i64 (rtR L).2.1], .bool (rtR L).2.2]) ∧ Below w.heap.size w w' :=
        fun w hr ht => l03Ratio_any _ L cap w hr ht hn hbd
      rw [← hN] at hn hL ⊢
      have HLL := hide hL
      clear hN hc1 h hbd hL
      go_enter Try.func18, Try.ntmps18
      go_wp2_with fail
      go_loopw [4] (fun iv wr => ∃ k : Nat, 1 ≤ k ∧ k ≤ N ∧ (∀ j, 1 ≤ j → j < k → 1 ≤ L.getD j 0) ∧ iv = .int .i64 k ∧ Cell2 wr w.heap.size (.int .i64 0) (.int .i64 0) ∧ Below w.heap.size w wr) (fun iv _ => N - (intOf iv).toNat)
      case atStart => exact ⟨1, by omega, by omega, by omega, rfl, C0.out, B0.out⟩
      case round =>
        obtain ⟨k, hk1, hk2, hall, rfl, k0, hbel⟩ := hrel
        have HAL := hide hall
        have HB := hide hbel
        have K0 := hide k0
        have hl0 := k0.lt
        obtain ⟨z0, z1, z2, z3⟩ := k0
        clear hall
        by_cases hlt : k < N
        · have qk := (hbel.cell (p := ⟨b1, off1 + k, none⟩) hlb).trans (HCC.out k (by have := HN.out; omega))
          obtain ⟨t, ht⟩ : ∃ t, t = L.getD k 0 := ⟨_, rfl⟩
          rw [← ht] at qk
          have HTT := hide ht
          clear ht hbel
          by_cases ht1 : t < 1
          · have HTO := hide (tailOk_bad (L := L) (j := k) hk1 (by have := HN.out; omega) (by rw [← HTT.out]; exact ht1))
            go_wp2_with fail
            rw [(rt_f HTO.out).1, (rt_f HTO.out).2.1, (rt_f HTO.out).2.2]
            refine bodyPost_ret (v := .tuple #[.agg #[.int .i64 0, .int .i64 0], .int .i64 1]) (by simp [results, Try.results18, go_sem, z0, z1, z2, z3, hl0]) rfl ⟨rfl, ?_⟩
            repeat (first | exact HB.out | refine balloc ?_ _ | refine bset ?_ (Nat.le_refl _) _)
          · go_wp2_with fail
            go_roundw
            case rel =>
              refine ⟨k + 1, by omega, by omega, fun j h1 h2 => ?_, by go_num, K0.out, HB.out⟩
              rcases Nat.lt_succ_iff_lt_or_eq.1 h2 with h3 | rfl
              · exact HAL.out j h1 h3
              · rw [← HTT.out]; omega
            case measure => simp [intOf]; omega
        · have HTO := hide (tailOk_mk (L := L) (by have := HN.out; omega) (fun j h1 h2 => HAL.out j h1 (by have := HN.out; omega)))
          have HP := hide (rt_part L)
          clear hbel z0 z1 z2 z3
          go_wp2_with fail
          refine (HLL.out _ (HH.out.below HB.out) HTO.out).mono ?_
          rintro e w2 ⟨rfl, hb2⟩
          have HB2 := hide (bstep HB.out hb2)
          have C2 := hide (K0.out.below hb2)
          obtain ⟨R, hR⟩ : ∃ R, R = rtR L := ⟨_, rfl⟩
          rw [← hR] at HP ⊢
          have HQ := hide hR
          clear hb2 hR
          obtain ⟨r1, r2, r3⟩ := R
          simp only at HP ⊢
          go_wp2_with fail
          refine (l02Code_any r1 r2 r3 _).mono ?_
          rintro e w3 ⟨rfl, hb3⟩
          rw [HP.out.1, HP.out.2]
          obtain ⟨z0, z1, z2, z3⟩ := C2.out.below hb3
          obtain ⟨y0, y1, y2, y3⟩ := (C2.out.below hb3).set (.int .i64 r1) (.int .i64 r2)
          have hz0 := (C2.out.below hb3).lt
          go_wp2_with fail
          refine bodyPost_ret (v := .tuple #[.agg #[.int .i64 r1, .int .i64 r2], .int .i64 (codeOf r3)]) (by simp [results, Try.results18, go_sem, z0, z1, z2, z3, y0, y1, hz0]) rfl ⟨by rw [(rt_t HTO.out).1, (rt_t HTO.out).2.1, (rt_t HTO.out).2.2, ← HQ.out], ?_⟩
          exact bset (bset (bstep HB2.out hb3) (Nat.le_refl _) _) (Nat.le_refl _) _
    exact HC
end Go.Proofs.Ytjojeoehdocojaa
