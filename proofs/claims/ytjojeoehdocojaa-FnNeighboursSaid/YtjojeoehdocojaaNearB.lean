/-
  Neighbouring ratios: contracts of NeighboursOf, the program's and the reference's.
-/
import Derived.Test.YtjojeoehdocojaaNearI
import Derived.Test.YtjojeoehdocojaaRT
namespace Go.Proofs.Ytjojeoehdocojaa
open Go.RowKit

/-- What NeighboursOf returns. -/
def NbRes (n d most r1 r2 r3 r4 code : Int) : Prop :=
  (validR n d = false ∧ r1 = 0 ∧ r2 = 0 ∧ r3 = 0 ∧ r4 = 0 ∧ code = 1) ∨
  (validR n d = true ∧ inR most 1 1000000000 = false ∧ r1 = 0 ∧ r2 = 0 ∧ r3 = 0 ∧ r4 = 0 ∧ code = 2) ∨
  (validR n d = true ∧ inR most 1 1000000000 = true ∧ d ≤ most ∧ r1 = n ∧ r2 = d ∧ r3 = n ∧ r4 = d ∧ code = 0) ∨
  (validR n d = true ∧ inR most 1 1000000000 = true ∧ most < d ∧ ∃ a b c e : Int, Near (n % d) d most a b c e ∧
    ((both (validR (n / d * b + a) b) (validR (n / d * e + c) e) = true ∧ r1 = n / d * b + a ∧ r2 = b ∧ r3 = n / d * e + c ∧ r4 = e ∧ code = 0) ∨
     (both (validR (n / d * b + a) b) (validR (n / d * e + c) e) = false ∧ r1 = 0 ∧ r2 = 0 ∧ r3 = 0 ∧ r4 = 0 ∧ code = 2)))
theorem nbRes_unique {n d most r1 r2 r3 r4 code s1 s2 s3 s4 code' : Int} (h : NbRes n d most r1 r2 r3 r4 code) (h' : NbRes n d most s1 s2 s3 s4 code') : r1 = s1 ∧ r2 = s2 ∧ r3 = s3 ∧ r4 = s4 ∧ code = code' := by
  rcases h with ⟨h0, h⟩ | ⟨h0, h1, h⟩ | ⟨h0, h1, h2, h⟩ | ⟨h0, h1, h2, a, b, c, e, hn, h⟩ <;>
  rcases h' with ⟨k0, k⟩ | ⟨k0, k1, k⟩ | ⟨k0, k1, k2, k⟩ | ⟨k0, k1, k2, a', b', c', e', kn, k⟩ <;>
  first
    | (rw [h0] at k0; contradiction)
    | (rw [h1] at k1; contradiction)
    | (exfalso; omega)
    | (obtain ⟨rfl, rfl, rfl, rfl, rfl⟩ := h; obtain ⟨rfl, rfl, rfl, rfl, rfl⟩ := k; exact ⟨rfl, rfl, rfl, rfl, rfl⟩)
    | skip
  obtain ⟨rfl, rfl, rfl, rfl⟩ := near_unique (by have := (validR_true h0).1; omega) hn kn
  rcases h with ⟨g, h⟩ | ⟨g, h⟩ <;> rcases k with ⟨g', k⟩ | ⟨g', k⟩ <;>
  first
    | (rw [g] at g'; contradiction)
    | (obtain ⟨rfl, rfl, rfl, rfl, rfl⟩ := h; obtain ⟨rfl, rfl, rfl, rfl, rfl⟩ := k; exact ⟨rfl, rfl, rfl, rfl, rfl⟩)
theorem lay_gcd {most a b c e : Int} (h : Lay most a b c e) : gcdI b a = 1 ∧ gcdI e c = 1 := by
  obtain ⟨_, _, h3, h4, h5⟩ := h
  have key : ∀ x y u v : Int, x * u + y * v = 1 → gcdI x y = 1 := fun x y u v h => by
    have d1 : (Int.gcd x y : Int) ∣ x := Int.gcd_dvd_left ..
    have d2 : (Int.gcd x y : Int) ∣ y := Int.gcd_dvd_right ..
    have d3 : (Int.gcd x y : Int) ∣ 1 := by
      rw [← h]
      exact Int.dvd_add (Int.dvd_trans d1 (Int.dvd_mul_right _ _)) (Int.dvd_trans d2 (Int.dvd_mul_right _ _))
    have := Int.le_of_dvd (by omega) d3
    have g0 : Int.gcd x y ≠ 0 := fun e => by
      rw [e] at d3
      obtain ⟨k, hk⟩ := d3
      simp at hk
    unfold gcdI; omega
  exact ⟨key b a c (-e) (by grind), key e c (-a) b (by grind)⟩
theorem nearR_gcd {p q most a b c e : Int} (hg : Int.gcd p q = 1) (h : NearR p q most a b c e) : gcdI b a = 1 ∧ gcdI e c = 1 := by
  rcases h with ⟨_, ha, hb, hc, he⟩ | ⟨_, h, _⟩
  · have : gcdI q p = 1 := by unfold gcdI; rw [Int.gcd_comm]; omega
    rw [ha, hb, hc, he]
    exact ⟨this, this⟩
  · exact lay_gcd h
theorem nearR_bd {p q most a b c e : Int} (hp : 0 ≤ p ∧ p < q) (hm : most ≤ 1000000000) (h : NearR p q most a b c e) : (0 ≤ a ∧ a ≤ b) ∧ (0 ≤ c ∧ c ≤ e) ∧ (1 ≤ b ∧ b ≤ 1000000000) ∧ (1 ≤ e ∧ e ≤ 1000000000) := by
  rcases h with ⟨_, rfl, rfl, rfl, rfl⟩ | ⟨_, ⟨h1, h2, h3, h4, _⟩, _⟩
  · exact ⟨by omega, by omega, by omega, by omega⟩
  · exact ⟨h1, h2, by omega, by omega⟩
theorem valid_gcd {n d : Int} (h : validR n d = true) : Int.gcd (n % d) d = 1 := by
  obtain ⟨h1, _, h3⟩ := validR_true h
  have e := gcd_next (n / d) d (n % d)
  rw [show n / d * d + n % d = n by have := sub_mul_mod n d; omega, h3] at e
  unfold gcdI at e
  rw [Int.gcd_comm]; omega
theorem res2_cells {w : World} (o : Obj) (a b c d : Value) (t u : TypeId) : Cell2 (((w.alloc o).alloc (.cells #[a, b] t)).alloc (.cells #[c, d] u)) (w.heap.size + 1) a b ∧ Cell2 (((w.alloc o).alloc (.cells #[a, b] t)).alloc (.cells #[c, d] u)) (w.heap.size + 1 + 1) c d := by
  refine ⟨⟨?_, ?_, ?_, ?_⟩, ⟨?_, ?_, ?_, ?_⟩⟩ <;> simp [go_sem, World.cell?_alloc_past]
def NsPost (n d most : Int) (w : World) (e : Ending) (w' : World) : Prop := (∃ a b c f : Int, NearR (n % d) d most a b c f ∧ e = .returned (.tuple #[.agg #[.int .i64 (mkN (n / d * b + a) b), .int .i64 (mkD (n / d * b + a) b)], .agg #[.int .i64 (mkN (n / d * f + c) f), .int .i64 (mkD (n / d * f + c) f)],
  .bool (both (mkOk (n / d * b + a) b) (mkOk (n / d * f + c) f))])) ∧ Below w.heap.size w w'
set_option maxHeartbeats 1000000 in
theorem l03Neighbours_any (n d most : Int) (w : World) (h : validR n d = true) (hm : 1 ≤ most ∧ most ≤ 1000000000) :
    Calls Try.prog 52 #[.agg #[.int .i64 n, .int .i64 d], .int .i64 most] w (NsPost n d most w) := by
  obtain ⟨v1, v2⟩ := validR_bd' h
  have HG := hide (valid_gcd h)
  have hp0 := Int.emod_nonneg n (by omega : d ≠ 0)
  have hp1 := Int.emod_lt_of_pos n (show 0 < d by omega)
  obtain ⟨q1, q2⟩ := mul_div_bd n d v1 v2
  have hsm := sub_mul_mod n d
  have HN := hide (fun w => l03Near_any (n % d) d most w ⟨hp0, hp1⟩ v2.2 hm HG.out)
  have HR0 := hide (res2_cells (w := w) (.cells #[.int .i64 n, .int .i64 d] 27) (.int .i64 0) (.int .i64 0) (.int .i64 0) (.int .i64 0) 27 27)
  have hsm' := hide hsm
  clear h hsm
  go_enter Try.func52, Try.ntmps52
  go_wp2_with (go_at_call 61; refine (l02Down_any n d _ (by omega) (by omega)).mono ?_; rintro e w' ⟨rfl, rfl⟩)
  rw [hsm'.out]
  refine (HN.out _).mono ?_
  rintro e w1 ⟨⟨a, b, c, f, rfl, hnr⟩, nn, hw1⟩
  obtain ⟨g1, g2, g3, g4⟩ := nearR_bd ⟨hp0, hp1⟩ hm.2 hnr
  have z1 := prodZ (n / d) b q2 (by omega)
  have z2 := prodZ (n / d) f q2 (by omega)
  have HNR := hide hnr
  have B0 := hide (balloc (balloc (balloc (Below.refl w.heap.size w) (.cells #[.int .i64 n, .int .i64 d] 27)) (.cells #[.int .i64 0, .int .i64 0] 27)) (.cells #[.int .i64 0, .int .i64 0] 27))
  have B1 := hide (hw1 ▸ bdrewN B0.out nn : Below w.heap.size w w1)
  have A1 := hide (hw1 ▸ HR0.out.1.drewN nn)
  have A2 := hide (hw1 ▸ HR0.out.2.drewN nn)
  clear hnr hw1
  obtain ⟨N1, hN1⟩ : ∃ x, x = mkN (n / d * b + a) b := ⟨_, rfl⟩
  obtain ⟨D1, hD1⟩ : ∃ x, x = mkD (n / d * b + a) b := ⟨_, rfl⟩
  obtain ⟨X1, hX1⟩ : ∃ x, x = mkOk (n / d * b + a) b := ⟨_, rfl⟩
  obtain ⟨N2, hN2⟩ : ∃ x, x = mkN (n / d * f + c) f := ⟨_, rfl⟩
  obtain ⟨D2, hD2⟩ : ∃ x, x = mkD (n / d * f + c) f := ⟨_, rfl⟩
  obtain ⟨X2, hX2⟩ : ∃ x, x = mkOk (n / d * f + c) f := ⟨_, rfl⟩
  have M1 := fun w => l02Make_any (n / d * b + a) b w (by omega) (by omega) (by omega)
  have M2 := fun w => l02Make_any (n / d * f + c) f w (by omega) (by omega) (by omega)
  rw [← hN1, ← hD1, ← hX1] at M1
  rw [← hN2, ← hD2, ← hX2] at M2
  have HM1 := hide M1
  have HM2 := hide M2
  have HE := hide (And.intro hN1 (And.intro hD1 (And.intro hX1 (And.intro hN2 (And.intro hD2 hX2)))))
  clear M1 M2 hN1 hD1 hX1 hN2 hD2 hX2
  go_wp2_with fail
  refine (HM1.out _).mono ?_
  rintro e w2 ⟨rfl, hb2⟩
  have C1 := hide (cell2_new (w := w2) (u := .int .i64 N1) (v := .int .i64 D1) 27)
  have A3 := hide ((A1.out.below hb2).alloc (.cells #[.int .i64 N1, .int .i64 D1] 27))
  have A4 := hide ((A2.out.below hb2).alloc (.cells #[.int .i64 N1, .int .i64 D1] 27))
  have B2 := hide (balloc (bstep B1.out hb2) (.cells #[.int .i64 N1, .int .i64 D1] 27))
  have hz1 : w.heap.size + 1 + 1 < w2.heap.size := (A2.out.below hb2).lt
  clear hb2
  go_wp2_with fail
  refine (HM2.out _).mono ?_
  rintro e w3 ⟨rfl, hb3⟩
  have C2 := hide ((C1.out.below hb3).alloc (.cells #[.int .i64 N2, .int .i64 D2] 27))
  have C3 := hide (cell2_new (w := w3) (u := .int .i64 N2) (v := .int .i64 D2) 27)
  have A5 := hide ((A3.out.below hb3).alloc (.cells #[.int .i64 N2, .int .i64 D2] 27))
  have A6 := hide ((A4.out.below hb3).alloc (.cells #[.int .i64 N2, .int .i64 D2] 27))
  have B3 := hide (balloc (bstep B2.out hb3) (.cells #[.int .i64 N2, .int .i64 D2] 27))
  have hz2 : w2.heap.size < w3.heap.size := (C1.out.below hb3).lt
  clear hb3
  go_wp2_with fail
  obtain ⟨wz, hwz⟩ : ∃ wz, wz = w3.alloc (.cells #[.int .i64 N2, .int .i64 D2] 27) := ⟨_, rfl⟩
  rw [← hwz] at C2 C3 A5 A6 B3 ⊢
  clear hwz
  obtain ⟨k0, k1, k2, k3⟩ := C2.out
  obtain ⟨k4, k5, k6, k7⟩ := C3.out
  obtain ⟨k8, k9, k10, k11⟩ := A5.out
  obtain ⟨k12, k13, k14, k15⟩ := A6.out
  cases X1
  · go_region
    all_goals
      go_wp2
      refine bodyPost_ret (v := .tuple #[.agg #[.int .i64 N1, .int .i64 D1], .agg #[.int .i64 N2, .int .i64 D2], .bool false]) (by simp [results, Try.results52, go_sem, k0, k1, k4, k5, k8, k9, k12, k13]) rfl ⟨⟨a, b, c, f, HNR.out, ?_⟩, ?_⟩
      · obtain ⟨h1, h2, h3, h4, h5, h6⟩ := HE.out
        rw [← h1, ← h2, ← h3, ← h4, ← h5, ← h6]; rfl
      · have b1 : w.heap.size ≤ w.heap.size + 1 := by omega
        have b2 : w.heap.size ≤ w.heap.size + 1 + 1 := by omega
        exact (bset (bset (bset (bset B3.out b1 _) b1 _) b2 _) b2 _).drew
  · cases X2
    · go_region
      all_goals
        go_wp2
        refine bodyPost_ret (v := .tuple #[.agg #[.int .i64 N1, .int .i64 D1], .agg #[.int .i64 N2, .int .i64 D2], .bool false]) (by simp [results, Try.results52, go_sem, k0, k1, k4, k5, k8, k9, k12, k13]) rfl ⟨⟨a, b, c, f, HNR.out, ?_⟩, ?_⟩
        · obtain ⟨h1, h2, h3, h4, h5, h6⟩ := HE.out
          rw [← h1, ← h2, ← h3, ← h4, ← h5, ← h6]; rfl
        · have b1 : w.heap.size ≤ w.heap.size + 1 := by omega
          have b2 : w.heap.size ≤ w.heap.size + 1 + 1 := by omega
          exact (bset (bset (bset (bset B3.out b1 _) b1 _) b2 _) b2 _).drew
    · go_region
      all_goals
        go_wp2
        refine bodyPost_ret (v := .tuple #[.agg #[.int .i64 N1, .int .i64 D1], .agg #[.int .i64 N2, .int .i64 D2], .bool true]) (by simp [results, Try.results52, go_sem, k0, k1, k4, k5, k8, k9, k12, k13]) rfl ⟨⟨a, b, c, f, HNR.out, ?_⟩, ?_⟩
        · obtain ⟨h1, h2, h3, h4, h5, h6⟩ := HE.out
          rw [← h1, ← h2, ← h3, ← h4, ← h5, ← h6]; rfl
        · have b1 : w.heap.size ≤ w.heap.size + 1 := by omega
          have b2 : w.heap.size ≤ w.heap.size + 1 + 1 := by omega
          exact (bset (bset (bset (bset B3.out b1 _) b1 _) b2 _) b2 _).drew
end Go.Proofs.Ytjojeoehdocojaa
