/-
  Neighbouring ratios: contracts of NeighboursOf, the program's and the reference's.
-/
import Derived.Test.YtjojeoehdocojaaNearB
namespace Go.Proofs.Ytjojeoehdocojaa
open Go.RowKit

theorem nb_false {n d most : Int} (h : validR n d = false) : NbRes n d most 0 0 0 0 1 := .inl ⟨h, rfl, rfl, rfl, rfl, rfl⟩
theorem nb_range {n d most : Int} (h : validR n d = true) (h2 : inR most 1 1000000000 = false) : NbRes n d most 0 0 0 0 2 := .inr (.inl ⟨h, h2, rfl, rfl, rfl, rfl, rfl⟩)
theorem nb_self {n d most : Int} (h : validR n d = true) (h2 : inR most 1 1000000000 = true) (h3 : d ≤ most) : NbRes n d most n d n d 0 := .inr (.inr (.inl ⟨h, h2, h3, rfl, rfl, rfl, rfl, rfl⟩))
theorem nb_near_t {n d most a b c e : Int} (h : validR n d = true) (h2 : inR most 1 1000000000 = true) (h3 : most < d) (hn : Near (n % d) d most a b c e) (hb : both (validR (n / d * b + a) b) (validR (n / d * e + c) e) = true) : NbRes n d most (n / d * b + a) b (n / d * e + c) e 0 :=
  .inr (.inr (.inr ⟨h, h2, h3, a, b, c, e, hn, .inl ⟨hb, rfl, rfl, rfl, rfl, rfl⟩⟩))
theorem nb_near_f {n d most a b c e : Int} (h : validR n d = true) (h2 : inR most 1 1000000000 = true) (h3 : most < d) (hn : Near (n % d) d most a b c e) (hb : both (validR (n / d * b + a) b) (validR (n / d * e + c) e) = false) : NbRes n d most 0 0 0 0 2 :=
  .inr (.inr (.inr ⟨h, h2, h3, a, b, c, e, hn, .inr ⟨hb, rfl, rfl, rfl, rfl, rfl⟩⟩))
theorem nb_mk {n d most a b c e : Int} (h : validR n d = true) (h2 : inR most 1 1000000000 = true) (hn : NearR (n % d) d most a b c e) :
    (both (mkOk (n / d * b + a) b) (mkOk (n / d * e + c) e) = true → NbRes n d most (mkN (n / d * b + a) b) (mkD (n / d * b + a) b) (mkN (n / d * e + c) e) (mkD (n / d * e + c) e) 0) ∧
    (both (mkOk (n / d * b + a) b) (mkOk (n / d * e + c) e) = false → NbRes n d most 0 0 0 0 2) := by
  obtain ⟨v1, v2⟩ := validR_bd' h
  have hm := inR_true h2
  have hp0 := Int.emod_nonneg n (by omega : d ≠ 0)
  have hp1 := Int.emod_lt_of_pos n (show 0 < d by omega)
  obtain ⟨g1, g2⟩ := nearR_gcd (valid_gcd h) hn
  obtain ⟨_, _, e3, e4⟩ := nearR_bd ⟨hp0, hp1⟩ hm.2 hn
  obtain ⟨m1, m2⟩ := mk_step (n / d) b a e3 g1
  obtain ⟨m3, m4⟩ := mk_step (n / d) e c e4 g2
  rw [m1, m3]
  rcases hn with ⟨hq, ha, hb, hc, he⟩ | ⟨hq, hn⟩
  · have hs : n / d * d + n % d = n := by have := sub_mul_mod n d; omega
    rw [ha, hb, hc, he]
    rw [ha, hb] at m2
    rw [hs] at m2 ⊢
    rw [(m2 h).1, (m2 h).2]
    exact ⟨fun _ => nb_self h h2 hq, fun c => by rw [h] at c; simp [both] at c⟩
  · refine ⟨fun hb => ?_, fun hb => nb_near_f h h2 hq hn hb⟩
    have h4 : validR (n / d * b + a) b = true ∧ validR (n / d * e + c) e = true := by
      unfold both at hb; simpa using hb
    rw [(m2 h4.1).1, (m2 h4.1).2, (m4 h4.2).1, (m4 h4.2).2]
    exact nb_near_t h h2 hq hn hb
theorem two_cells {w : World} (a b c d : Value) (t u : TypeId) : Cell2 ((w.alloc (.cells #[a, b] t)).alloc (.cells #[c, d] u)) w.heap.size a b ∧ Cell2 ((w.alloc (.cells #[a, b] t)).alloc (.cells #[c, d] u)) (w.heap.size + 1) c d := by
  refine ⟨⟨?_, ?_, ?_, ?_⟩, ⟨?_, ?_, ?_, ?_⟩⟩ <;> simp [go_sem, World.cell?_alloc_past]
def NPost (n d most : Int) (w : World) (e : Ending) (w' : World) : Prop := (∃ r1 r2 r3 r4 c : Int, NbRes n d most r1 r2 r3 r4 c ∧ e = .returned (.tuple #[.agg #[.int .i64 r1, .int .i64 r2], .agg #[.int .i64 r3, .int .i64 r4], .int .i64 c])) ∧ Below w.heap.size w w'
set_option maxHeartbeats 1000000 in
theorem specNeighboursOf_any (n d most : Int) (w : World) : Calls Try.prog 30 #[.agg #[.int .i64 n, .int .i64 d], .int .i64 most] w (NPost n d most w) := by
  have HR0 := hide (res2_cells (w := w) (.cells #[.int .i64 n, .int .i64 d] 27) (.int .i64 0) (.int .i64 0) (.int .i64 0) (.int .i64 0) 27 27)
  have HR1 := hide (((cell2_new (w := w) (u := .int .i64 n) (v := .int .i64 d) 27).alloc (.cells #[.int .i64 0, .int .i64 0] 27)).alloc (.cells #[.int .i64 0, .int .i64 0] 27))
  have B0 := hide (balloc (balloc (balloc (Below.refl w.heap.size w) (.cells #[.int .i64 n, .int .i64 d] 27)) (.cells #[.int .i64 0, .int .i64 0] 27)) (.cells #[.int .i64 0, .int .i64 0] 27))
  have B1 : w.heap.size ≤ w.heap.size + 1 ∧ w.heap.size ≤ w.heap.size + 1 + 1 := by omega
  have HB1 := hide B1
  clear B1
  cases hv : validR n d
  · have HV := hide hv
    go_enter Try.func30, Try.ntmps30
    go_wp2_with fail
    refine (l02Ok_any n d _).mono ?_
    rintro e w1 ⟨rfl, hb1⟩
    rw [HV.out]
    have B2 := hide (bstep B0.out hb1)
    obtain ⟨k0, k1, k2, k3⟩ := HR0.out.1.below hb1
    obtain ⟨k4, k5, k6, k7⟩ := HR0.out.2.below hb1
    clear hb1
    go_wp2_with fail
    refine bodyPost_ret (v := .tuple #[.agg #[.int .i64 0, .int .i64 0], .agg #[.int .i64 0, .int .i64 0], .int .i64 1]) (by simp [results, Try.results30, go_sem, k0, k1, k4, k5]) rfl ⟨⟨0, 0, 0, 0, 1, nb_false HV.out, rfl⟩, ?_⟩
    exact bset (bset (bset (bset B2.out HB1.out.1 _) HB1.out.1 _) HB1.out.2 _) HB1.out.2 _
  · cases hr : inR most 1 1000000000
    · have HV := hide hv
      go_enter Try.func30, Try.ntmps30
      go_wp2_with fail
      refine (l02Ok_any n d _).mono ?_
      rintro e w1 ⟨rfl, hb1⟩
      rw [HV.out]
      have B2 := hide (bstep B0.out hb1)
      obtain ⟨k0, k1, k2, k3⟩ := HR0.out.1.below hb1
      obtain ⟨k4, k5, k6, k7⟩ := HR0.out.2.below hb1
      clear hb1
      go_wp2_with (go_at_call 51; refine (l00In_any _ _ _ _).mono ?_; rintro e w' ⟨rfl, rfl⟩)
      refine bodyPost_ret (v := .tuple #[.agg #[.int .i64 0, .int .i64 0], .agg #[.int .i64 0, .int .i64 0], .int .i64 2]) (by simp [results, Try.results30, go_sem, k0, k1, k4, k5]) rfl ⟨⟨0, 0, 0, 0, 2, nb_range HV.out hr, rfl⟩, ?_⟩
      exact bset (bset (bset (bset B2.out HB1.out.1 _) HB1.out.1 _) HB1.out.2 _) HB1.out.2 _
    · have HV := hide hv
      have hm := inR_true hr
      obtain ⟨v1, v2⟩ := validR_bd' hv
      go_enter Try.func30, Try.ntmps30
      go_wp2_with fail
      refine (l02Ok_any n d _).mono ?_
      rintro e w1 ⟨rfl, hb1⟩
      rw [HV.out]
      have B2 := hide (bstep B0.out hb1)
      have R0 := hide (HR0.out.1.below hb1)
      have R1 := hide (HR0.out.2.below hb1)
      obtain ⟨k0, k1, k2, k3⟩ := HR1.out.below hb1
      clear hb1
      go_wp2_with (go_at_call 51; refine (l00In_any _ _ _ _).mono ?_; rintro e w' ⟨rfl, rfl⟩)
      clear k0 k1 k2 k3
      refine (l03Neighbours_any n d most _ HV.out hm).mono ?_
      rintro e w2 ⟨⟨a, b, c, f, hnr, rfl⟩, hb2⟩
      obtain ⟨t1, t2⟩ := nb_mk HV.out hr hnr
      obtain ⟨X, hX⟩ : ∃ x, x = both (mkOk (n / d * b + a) b) (mkOk (n / d * f + c) f) := ⟨_, rfl⟩
      obtain ⟨N1, hN1⟩ : ∃ x, x = mkN (n / d * b + a) b := ⟨_, rfl⟩
      obtain ⟨D1, hD1⟩ : ∃ x, x = mkD (n / d * b + a) b := ⟨_, rfl⟩
      obtain ⟨N2, hN2⟩ : ∃ x, x = mkN (n / d * f + c) f := ⟨_, rfl⟩
      obtain ⟨D2, hD2⟩ : ∃ x, x = mkD (n / d * f + c) f := ⟨_, rfl⟩
      rw [← hX, ← hN1, ← hD1, ← hN2, ← hD2] at t1
      rw [← hX] at t2
      rw [← hX, ← hN1, ← hD1, ← hN2, ← hD2]
      have T1 := hide t1
      have T2 := hide t2
      have hlt : w.heap.size + 1 + 1 < w2.heap.size := (R1.out.below hb2).lt
      have hlt1 : w.heap.size + 1 < w2.heap.size := by omega
      have hlt2 : w.heap.size < w2.heap.size := by omega
      have B2b := hide (bstep B2.out hb2)
      have S0 := hide (R0.out.below hb2)
      have S1 := hide (R1.out.below hb2)
      have TC := hide (two_cells (w := w2) (.int .i64 N1) (.int .i64 D1) (.int .i64 N2) (.int .i64 D2) 27 27)
      have U0 := hide ((S0.out.alloc (.cells #[.int .i64 N1, .int .i64 D1] 27)).alloc (.cells #[.int .i64 N2, .int .i64 D2] 27))
      have U1 := hide ((S1.out.alloc (.cells #[.int .i64 N1, .int .i64 D1] 27)).alloc (.cells #[.int .i64 N2, .int .i64 D2] 27))
      have B3 := hide (balloc (balloc (bstep B2.out hb2) (.cells #[.int .i64 N1, .int .i64 D1] 27)) (.cells #[.int .i64 N2, .int .i64 D2] 27))
      clear t1 t2 hX hN1 hD1 hN2 hD2 hb2 hnr
      cases X
      · obtain ⟨k0, k1, k2, k3⟩ := S0.out
        obtain ⟨k4, k5, k6, k7⟩ := S1.out
        go_wp2_with fail
        refine bodyPost_ret (v := .tuple #[.agg #[.int .i64 0, .int .i64 0], .agg #[.int .i64 0, .int .i64 0], .int .i64 2]) (by simp [results, Try.results30, go_sem, k0, k1, k4, k5, hlt, hlt1, hlt2]) rfl ⟨⟨0, 0, 0, 0, 2, T2.out (by first | rfl | trivial), rfl⟩, ?_⟩
        exact balloc (balloc (bset (bset (bset (bset B2b.out HB1.out.1 _) HB1.out.1 _) HB1.out.2 _) HB1.out.2 _) _) _
      · go_wp2_with fail
        obtain ⟨wz, hwz⟩ : ∃ wz, wz = (w2.alloc (.cells #[.int .i64 N1, .int .i64 D1] 27)).alloc (.cells #[.int .i64 N2, .int .i64 D2] 27) := ⟨_, rfl⟩
        rw [← hwz] at TC U0 U1 B3 ⊢
        clear hwz
        obtain ⟨k0, k1, k2, k3⟩ := TC.out.1
        obtain ⟨k4, k5, k6, k7⟩ := TC.out.2
        obtain ⟨k8, k9, k10, k11⟩ := U0.out
        obtain ⟨k12, k13, k14, k15⟩ := U1.out
        have ne1 : ¬ w2.heap.size = w.heap.size + 1 := by omega
        have ne2 : ¬ w2.heap.size = w.heap.size + 1 + 1 := by omega
        go_region
        all_goals
          go_wp2_with fail
          refine bodyPost_ret (v := .tuple #[.agg #[.int .i64 N1, .int .i64 D1], .agg #[.int .i64 N2, .int .i64 D2], .int .i64 0]) (by simp [results, Try.results30, go_sem, k0, k1, k4, k5, k8, k9, k12, k13]) rfl ⟨⟨N1, D1, N2, D2, 0, T1.out (by first | rfl | trivial), rfl⟩, ?_⟩
          exact (bset (bset (bset (bset B3.out HB1.out.1 _) HB1.out.1 _) HB1.out.2 _) HB1.out.2 _).drew
set_option maxHeartbeats 1000000 in
theorem implNeighboursOf_any (n d most : Int) (w : World) : Calls Try.prog 31 #[.agg #[.int .i64 n, .int .i64 d], .int .i64 most] w (NPost n d most w) := by
  have HR0 := hide (res2_cells (w := w) (.cells #[.int .i64 n, .int .i64 d] 27) (.int .i64 0) (.int .i64 0) (.int .i64 0) (.int .i64 0) 27 27)
  have HR1 := hide (((cell2_new (w := w) (u := .int .i64 n) (v := .int .i64 d) 27).alloc (.cells #[.int .i64 0, .int .i64 0] 27)).alloc (.cells #[.int .i64 0, .int .i64 0] 27))
  have B0 := hide (balloc (balloc (balloc (Below.refl w.heap.size w) (.cells #[.int .i64 n, .int .i64 d] 27)) (.cells #[.int .i64 0, .int .i64 0] 27)) (.cells #[.int .i64 0, .int .i64 0] 27))
  have B1 : w.heap.size ≤ w.heap.size + 1 ∧ w.heap.size ≤ w.heap.size + 1 + 1 := by omega
  have HB1 := hide B1
  clear B1
  cases hv : validR n d
  · have HV := hide hv
    go_enter Try.func31, Try.ntmps31
    go_wp2_with fail
    refine (implValidRatio_any n d _).mono ?_
    rintro e w1 ⟨rfl, hb1⟩
    rw [HV.out]
    have B2 := hide (bstep B0.out hb1)
    obtain ⟨k0, k1, k2, k3⟩ := HR0.out.1.below hb1
    obtain ⟨k4, k5, k6, k7⟩ := HR0.out.2.below hb1
    clear hb1
    go_wp2_with fail
    refine bodyPost_ret (v := .tuple #[.agg #[.int .i64 0, .int .i64 0], .agg #[.int .i64 0, .int .i64 0], .int .i64 1]) (by simp [results, Try.results31, go_sem, k0, k1, k4, k5]) rfl ⟨⟨0, 0, 0, 0, 1, nb_false HV.out, rfl⟩, ?_⟩
    exact bset (bset (bset (bset B2.out HB1.out.1 _) HB1.out.1 _) HB1.out.2 _) HB1.out.2 _
  · cases hr : inR most 1 1000000000
    · have HV := hide hv
      go_enter Try.func31, Try.ntmps31
      go_wp2_with fail
      refine (implValidRatio_any n d _).mono ?_
      rintro e w1 ⟨rfl, hb1⟩
      rw [HV.out]
      have B2 := hide (bstep B0.out hb1)
      obtain ⟨k0, k1, k2, k3⟩ := HR0.out.1.below hb1
      obtain ⟨k4, k5, k6, k7⟩ := HR0.out.2.below hb1
      clear hb1
      go_wp2_with (go_at_call 47; refine (within_any _ _ _ _).mono ?_; rintro e w' ⟨rfl, rfl⟩)
      refine bodyPost_ret (v := .tuple #[.agg #[.int .i64 0, .int .i64 0], .agg #[.int .i64 0, .int .i64 0], .int .i64 2]) (by simp [results, Try.results31, go_sem, k0, k1, k4, k5]) rfl ⟨⟨0, 0, 0, 0, 2, nb_range HV.out hr, rfl⟩, ?_⟩
      exact bset (bset (bset (bset B2.out HB1.out.1 _) HB1.out.1 _) HB1.out.2 _) HB1.out.2 _
    · have HV := hide hv
      have hm := inR_true hr
      obtain ⟨v1, v2⟩ := validR_bd' hv
      have HG := hide (valid_gcd hv)
      by_cases hdm : d ≤ most
      · go_enter Try.func31, Try.ntmps31
        go_wp2_with fail
        refine (implValidRatio_any n d _).mono ?_
        rintro e w1 ⟨rfl, hb1⟩
        rw [HV.out]
        have B2 := hide (bstep B0.out hb1)
        obtain ⟨k0, k1, k2, k3⟩ := HR0.out.1.below hb1
        obtain ⟨k4, k5, k6, k7⟩ := HR0.out.2.below hb1
        obtain ⟨k8, k9, k10, k11⟩ := HR1.out.below hb1
        clear hb1
        go_wp2_with (go_at_call 47; refine (within_any _ _ _ _).mono ?_; rintro e w' ⟨rfl, rfl⟩)
        go_region
        all_goals
          go_wp2_with fail
          refine bodyPost_ret (v := .tuple #[.agg #[.int .i64 n, .int .i64 d], .agg #[.int .i64 n, .int .i64 d], .int .i64 0]) (by simp [results, Try.results31, go_sem, k0, k1, k4, k5, k8, k9]) rfl ⟨⟨n, d, n, d, 0, nb_self HV.out hr hdm, rfl⟩, ?_⟩
          exact (bset (bset (bset (bset B2.out HB1.out.1 _) HB1.out.1 _) HB1.out.2 _) HB1.out.2 _).drew
      · go_enter Try.func31, Try.ntmps31
        go_wp2_with fail
        refine (implValidRatio_any n d _).mono ?_
        rintro e w1 ⟨rfl, hb1⟩
        rw [HV.out]
        have B2 := hide (bstep B0.out hb1)
        have R0 := hide (HR0.out.1.below hb1)
        have R1 := hide (HR0.out.2.below hb1)
        obtain ⟨k8, k9, k10, k11⟩ := HR1.out.below hb1
        clear hb1
        go_wp2_with (go_at_call 47; refine (within_any _ _ _ _).mono ?_; rintro e w' ⟨rfl, rfl⟩)
        clear k8 k9 k10 k11
        refine (neighbours_any n d most _ v1 v2 ⟨hm.1, by omega⟩ HG.out).mono ?_
        rintro e w2 ⟨⟨a, b, c, f, rfl, hnr⟩, hb2⟩
        have hnr2 := nb_near_t (e := f) (c := c) HV.out hr (by omega) hnr
        have hnr3 := nb_near_f (e := f) (c := c) HV.out hr (by omega) hnr
        obtain ⟨L1, hL1⟩ : ∃ x, x = n / d * b + a := ⟨_, rfl⟩
        obtain ⟨L2, hL2⟩ : ∃ x, x = n / d * f + c := ⟨_, rfl⟩
        rw [← hL1, ← hL2] at hnr2 hnr3 ⊢
        have T1 := hide hnr2
        have T2 := hide hnr3
        have hlt : w.heap.size + 1 + 1 < w2.heap.size := (R1.out.below hb2).lt
        have hlt1 : w.heap.size + 1 < w2.heap.size := by omega
        have hlt2 : w.heap.size < w2.heap.size := by omega
        have B3 := hide (balloc (balloc (bstep B2.out hb2) (.cells #[.int .i64 L1, .int .i64 b] 27)) (.cells #[.int .i64 L2, .int .i64 f] 27))
        have TC := hide (two_cells (w := w2) (.int .i64 L1) (.int .i64 b) (.int .i64 L2) (.int .i64 f) 27 27)
        have U0 := hide (((R0.out.below hb2).alloc (.cells #[.int .i64 L1, .int .i64 b] 27)).alloc (.cells #[.int .i64 L2, .int .i64 f] 27))
        have U1 := hide (((R1.out.below hb2).alloc (.cells #[.int .i64 L1, .int .i64 b] 27)).alloc (.cells #[.int .i64 L2, .int .i64 f] 27))
        clear hL1 hL2 hb2 hnr hnr2 hnr3
        cases x1 : validR L1 b
        · have HX := hide x1
          go_wp2_with fail
          refine (implValidRatio_any L1 b _).mono ?_
          rintro e w3 ⟨rfl, hb3⟩
          rw [HX.out]
          have B4 := hide (bstep B3.out hb3)
          obtain ⟨k0, k1, k2, k3⟩ := U0.out.below hb3
          obtain ⟨k4, k5, k6, k7⟩ := U1.out.below hb3
          clear hb3
          go_wp2_with fail
          refine bodyPost_ret (v := .tuple #[.agg #[.int .i64 0, .int .i64 0], .agg #[.int .i64 0, .int .i64 0], .int .i64 2]) (by simp [results, Try.results31, go_sem, k0, k1, k4, k5]) rfl ⟨⟨0, 0, 0, 0, 2, T2.out (both_f1 HX.out), rfl⟩, ?_⟩
          exact bset (bset (bset (bset B4.out HB1.out.1 _) HB1.out.1 _) HB1.out.2 _) HB1.out.2 _
        · cases x2 : validR L2 f
          · have HX := hide x1
            have HX2 := hide x2
            go_wp2_with fail
            refine (implValidRatio_any L1 b _).mono ?_
            rintro e w3 ⟨rfl, hb3⟩
            rw [HX.out]
            have B4 := hide (bstep B3.out hb3)
            have V0 := hide (U0.out.below hb3)
            have V1 := hide (U1.out.below hb3)
            obtain ⟨k8, k9, k10, k11⟩ := TC.out.2.below hb3
            clear hb3
            go_wp2_with fail
            refine (implValidRatio_any L2 f _).mono ?_
            rintro e w4 ⟨rfl, hb4⟩
            rw [HX2.out]
            have B5 := hide (bstep B4.out hb4)
            obtain ⟨k0, k1, k2, k3⟩ := V0.out.below hb4
            obtain ⟨k4, k5, k6, k7⟩ := V1.out.below hb4
            clear hb4 k8 k9 k10 k11
            go_wp2_with fail
            refine bodyPost_ret (v := .tuple #[.agg #[.int .i64 0, .int .i64 0], .agg #[.int .i64 0, .int .i64 0], .int .i64 2]) (by simp [results, Try.results31, go_sem, k0, k1, k4, k5]) rfl ⟨⟨0, 0, 0, 0, 2, T2.out (both_f2 HX2.out), rfl⟩, ?_⟩
            exact bset (bset (bset (bset B5.out HB1.out.1 _) HB1.out.1 _) HB1.out.2 _) HB1.out.2 _
          · have HX := hide x1
            have HX2 := hide x2
            go_wp2_with fail
            refine (implValidRatio_any L1 b _).mono ?_
            rintro e w3 ⟨rfl, hb3⟩
            rw [HX.out]
            have B4 := hide (bstep B3.out hb3)
            have V0 := hide (U0.out.below hb3)
            have V1 := hide (U1.out.below hb3)
            have V2 := hide (TC.out.1.below hb3)
            have V3 := hide (TC.out.2.below hb3)
            obtain ⟨k8, k9, k10, k11⟩ := TC.out.2.below hb3
            clear hb3
            go_wp2_with fail
            refine (implValidRatio_any L2 f _).mono ?_
            rintro e w4 ⟨rfl, hb4⟩
            rw [HX2.out]
            have B5 := hide (bstep B4.out hb4)
            obtain ⟨k0, k1, k2, k3⟩ := V0.out.below hb4
            obtain ⟨k4, k5, k6, k7⟩ := V1.out.below hb4
            clear k8 k9 k10 k11
            obtain ⟨k8, k9, k10, k11⟩ := V2.out.below hb4
            obtain ⟨k12, k13, k14, k15⟩ := V3.out.below hb4
            have ne1 : ¬ w2.heap.size = w.heap.size + 1 := by omega
            have ne2 : ¬ w2.heap.size = w.heap.size + 1 + 1 := by omega
            have ne3 : ¬ w2.heap.size + 1 = w.heap.size + 1 := by omega
            have ne4 : ¬ w2.heap.size + 1 = w.heap.size + 1 + 1 := by omega
            clear hb4
            go_wp2_with fail
            go_region
            all_goals
              go_wp2_with fail
              refine bodyPost_ret (v := .tuple #[.agg #[.int .i64 L1, .int .i64 b], .agg #[.int .i64 L2, .int .i64 f], .int .i64 0]) (by simp [results, Try.results31, go_sem, k0, k1, k4, k5, k8, k9, k12, k13]) rfl ⟨⟨L1, b, L2, f, 0, T1.out (both_tt HX.out HX2.out), rfl⟩, ?_⟩
              exact (bset (bset (bset (bset B5.out HB1.out.1 _) HB1.out.1 _) HB1.out.2 _) HB1.out.2 _).drew
end Go.Proofs.Ytjojeoehdocojaa
