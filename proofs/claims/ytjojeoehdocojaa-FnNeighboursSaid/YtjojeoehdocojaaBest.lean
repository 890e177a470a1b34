/-
  The nearest ratio: contracts of BestWithin, the program's and the reference's.
-/
import Derived.Test.YtjojeoehdocojaaNearC
import Derived.Laws.BitsLemmas
namespace Go.Proofs.Ytjojeoehdocojaa
open Go.RowKit

theorem and31 (n : Int) (h : 0 ≤ n ∧ n < 2147483648) : bits .and .i64 n 2147483647 = n := by
  have hm : (BitVec.ofInt 64 2147483647).toNat = 2 ^ 31 - 1 := by decide
  have key : (BitVec.ofInt 64 n &&& BitVec.ofInt 64 2147483647).toNat = (n % ((2 ^ 64 : Nat) : Int)).toNat % 2 ^ 31 := by
    rw [BitVec.toNat_and, BitVec.toNat_ofInt, hm, Nat.and_two_pow_sub_one_eq_mod]
  show IntKind.i64.wrap ((BitVec.ofInt 64 n &&& BitVec.ofInt 64 2147483647).toNat : Nat) = n
  rw [key, IntKind.wrap_i64]
  omega
theorem or0 (n : Int) (h : 0 ≤ n ∧ n < 2147483648) : bits .or .i64 0 n = n := by
  show IntKind.i64.wrap ((BitVec.ofInt 64 0 ||| BitVec.ofInt 64 n).toNat : Nat) = n
  have e : BitVec.ofInt 64 0 = 0#64 := by decide
  rw [e, BitVec.zero_or, BitVec.toNat_ofInt, IntKind.wrap_i64]
  omega
theorem l03Wide_any (a b : Int) (w : World) (ha : 0 ≤ a ∧ a ≤ 1000000000) (hb : 0 ≤ b ∧ b ≤ 1000000000) (hab : 0 ≤ a * b ∧ a * b ≤ 1000000000) :
    Calls Try.prog 70 #[.int .i64 a, .int .i64 b] w fun e w' => e = .returned (.tuple #[.int .i64 0, .int .i64 (a * b)]) ∧ w = w' := by
  have h1 := and31 a (by omega)
  have h2 := and31 b (by omega)
  have h3 := and31 (a * b) (by omega)
  have h4 : a / 2147483648 = 0 := by omega
  have h5 : b / 2147483648 = 0 := by omega
  have h6 : a * b / 2147483648 = 0 := by omega
  have h7 := and31 0 (by omega)
  have h8 := or0 (a * b) (by omega)
  go_enter Try.func70, Try.ntmps70
  go_wp2
  go_ret2
  exact ⟨rfl, rfl⟩
/-- Whether the upper one of two is taken. -/
def takeHi (n d l1 l2 h1 h2 : Int) : Bool := decide ((h1 * d - n * h2) * l2 < (n * l2 - l1 * d) * h2 ∨ ((h1 * d - n * h2) * l2 = (n * l2 - l1 * d) * h2 ∧ h2 < l2))
theorem hi_lt {n d l1 l2 h1 h2 : Int} (h : (h1 * d - n * h2) * l2 < (n * l2 - l1 * d) * h2) : takeHi n d l1 l2 h1 h2 = true := decide_eq_true (.inl h)
theorem hi_eq {n d l1 l2 h1 h2 : Int} (h : ((n * l2 - l1 * d) * h2 == (h1 * d - n * h2) * l2) = true) : takeHi n d l1 l2 h1 h2 = decide (h2 < l2) := by
  have h' := beq_iff_eq.1 h
  unfold takeHi
  rw [h']
  simp
theorem hi_gt {n d l1 l2 h1 h2 : Int} (h0 : (n * l2 - l1 * d) * h2 ≤ (h1 * d - n * h2) * l2) (h : ((n * l2 - l1 * d) * h2 == (h1 * d - n * h2) * l2) = false) : takeHi n d l1 l2 h1 h2 = false := by
  have h' : (n * l2 - l1 * d) * h2 ≠ (h1 * d - n * h2) * l2 := fun e => by rw [e] at h; simp at h
  refine decide_eq_false ?_
  rintro (c | ⟨c, _⟩) <;> omega
/-- The numbers that are compared stay small. -/
def Cmp2 (n d l1 l2 h1 h2 : Int) : Prop := (-1000000000 ≤ n ∧ n ≤ 1000000000) ∧ (1 ≤ d ∧ d ≤ 1000000000) ∧ (-1000000000 ≤ l1 ∧ l1 ≤ 1000000000) ∧ (1 ≤ l2 ∧ l2 ≤ 1000000000) ∧ (-1000000000 ≤ h1 ∧ h1 ≤ 1000000000) ∧ (1 ≤ h2 ∧ h2 ≤ 1000000000) ∧
  (0 ≤ n * l2 - l1 * d ∧ n * l2 - l1 * d ≤ 1000000000) ∧ (0 ≤ h1 * d - n * h2 ∧ h1 * d - n * h2 ≤ 1000000000) ∧ (0 ≤ (n * l2 - l1 * d) * h2 ∧ (n * l2 - l1 * d) * h2 ≤ 1000000000) ∧ (0 ≤ (h1 * d - n * h2) * l2 ∧ (h1 * d - n * h2) * l2 ≤ 1000000000)
theorem nb_cmp {n d most l1 l2 h1 h2 : Int} (h : NbRes n d most l1 l2 h1 h2 0) : Cmp2 n d l1 l2 h1 h2 := by
  rcases h with ⟨_, _, _, _, _, h⟩ | ⟨_, _, _, _, _, _, h⟩ | ⟨hv, _, _, e1, e2, e3, e4, _⟩ | ⟨hv, hm, _, a, b, c, e, hn, h⟩
  · omega
  · omega
  · obtain ⟨v1, v2⟩ := validR_bd' hv
    rw [e1, e2, e3, e4]
    unfold Cmp2
    rw [show n * d - n * d = 0 by omega, Int.zero_mul]
    omega
  · rcases h with ⟨hb, e1, e2, e3, e4, _⟩ | ⟨_, _, _, _, _, h⟩
    · obtain ⟨v1, v2⟩ := validR_bd' hv
      unfold both at hb
      simp only [Bool.and_eq_true] at hb
      obtain ⟨w1, w2⟩ := validR_bd' hb.1
      obtain ⟨w3, w4⟩ := validR_bd' hb.2
      obtain ⟨hl, g1, g2, g3⟩ := hn
      have hs := sum_gaps (p := n % d) (q := d) hl.2.2.2.2
      have hsm := sub_mul_mod n d
      have u1 : n * b - (n / d * b + a) * d = n % d * b - a * d := by rw [← hsm]; grind
      have u2 : (n / d * e + c) * d - n * e = c * d - n % d * e := by rw [← hsm]; grind
      rw [e1, e2, e3, e4]
      unfold Cmp2
      rw [u1, u2]
      have k1 : (n % d * b - a * d) * 1 ≤ (n % d * b - a * d) * e := Int.mul_le_mul_of_nonneg_left w4.1 (by omega)
      have k2 : (c * d - n % d * e) * 1 ≤ (c * d - n % d * e) * b := Int.mul_le_mul_of_nonneg_left w2.1 (by omega)
      have k3 := Int.mul_comm e (n % d * b - a * d)
      have k4 := Int.mul_comm b (c * d - n % d * e)
      exact ⟨v1, v2, w1, w2, w3, w4, by omega, by omega, by omega, by omega⟩
    · omega
theorem l03Closer_any (n d l1 l2 h1 h2 : Int) (w : World) (h : Cmp2 n d l1 l2 h1 h2) :
    Calls Try.prog 54 #[.agg #[.int .i64 n, .int .i64 d], .agg #[.int .i64 l1, .int .i64 l2], .agg #[.int .i64 h1, .int .i64 h2]] w fun e w' => e = .returned (.bool (takeHi n d l1 l2 h1 h2)) ∧ Below w.heap.size w w' := by
  obtain ⟨c1, c2, c3, c4, c5, c6, c7, c8, c9, c10⟩ := h
  have m1 := mulB n l2 c1 (by omega)
  have m2 := mulB l1 d c3 (by omega)
  have m3 := mulB h1 d c5 (by omega)
  have m4 := mulB n h2 c1 (by omega)
  have HX := hide (fun w => l03Wide_any (n * l2 - l1 * d) h2 w c7 (by omega) c9)
  have HY := hide (fun w => l03Wide_any (h1 * d - n * h2) l2 w c8 (by omega) c10)
  go_enter Try.func54, Try.ntmps54
  go_wp2_with fail
  refine (HX.out _).mono ?_
  rintro e w' ⟨rfl, rfl⟩
  go_wp2_with fail
  refine (HY.out _).mono ?_
  rintro e w' ⟨rfl, rfl⟩
  go_wp2_with fail
  · go_ret
    exact ⟨ret_bool (hi_lt ‹_›).symm, balloc (balloc (balloc (Below.refl _ _) _) _) _⟩
  · go_ret
    exact ⟨ret_bool (hi_eq ‹_›).symm, balloc (balloc (balloc (Below.refl _ _) _) _) _⟩
  · go_ret
    exact ⟨ret_bool (hi_gt ‹_› ‹_›).symm, balloc (balloc (balloc (Below.refl _ _) _) _) _⟩
/-- What BestWithin returns. -/
def BwRes (n d most r1 r2 code : Int) : Prop := ∃ l1 l2 h1 h2 c : Int, NbRes n d most l1 l2 h1 h2 c ∧ code = c ∧ ((c ≠ 0 ∧ r1 = 0 ∧ r2 = 0) ∨ (c = 0 ∧ takeHi n d l1 l2 h1 h2 = true ∧ r1 = h1 ∧ r2 = h2) ∨ (c = 0 ∧ takeHi n d l1 l2 h1 h2 = false ∧ r1 = l1 ∧ r2 = l2))
theorem bwRes_unique {n d most r1 r2 code s1 s2 code' : Int} (h : BwRes n d most r1 r2 code) (h' : BwRes n d most s1 s2 code') : r1 = s1 ∧ r2 = s2 ∧ code = code' := by
  obtain ⟨l1, l2, h1, h2, c, g, rfl, h⟩ := h
  obtain ⟨l1', l2', h1', h2', c', g', rfl, h'⟩ := h'
  obtain ⟨rfl, rfl, rfl, rfl, rfl⟩ := nbRes_unique g g'
  rcases h with ⟨a, e1, e2⟩ | ⟨a, b, e1, e2⟩ | ⟨a, b, e1, e2⟩ <;> rcases h' with ⟨a', f1, f2⟩ | ⟨a', b', f1, f2⟩ | ⟨a', b', f1, f2⟩ <;>
  first
    | (exact absurd a' a)
    | (exact absurd a a')
    | (rw [b] at b'; contradiction)
    | (exact ⟨e1.trans f1.symm, e2.trans f2.symm, rfl⟩)
def BwPost (n d most : Int) (w : World) (e : Ending) (w' : World) : Prop := (∃ r1 r2 c : Int, BwRes n d most r1 r2 c ∧ e = .returned (.tuple #[.agg #[.int .i64 r1, .int .i64 r2], .int .i64 c])) ∧ Below w.heap.size w w'
theorem res1_cells {w : World} (o : Obj) (a b : Value) (t : TypeId) : Cell2 ((w.alloc o).alloc (.cells #[a, b] t)) (w.heap.size + 1) a b := by
  refine ⟨?_, ?_, ?_, ?_⟩ <;> simp [go_sem, World.cell?_alloc_past]
set_option maxHeartbeats 1000000 in
theorem specBestWithin_any (n d most : Int) (w : World) : Calls Try.prog 32 #[.agg #[.int .i64 n, .int .i64 d], .int .i64 most] w (BwPost n d most w) := by
  have HR0 := hide (res1_cells (w := w) (.cells #[.int .i64 n, .int .i64 d] 27) (.int .i64 0) (.int .i64 0) 27)
  have HR1 := hide ((cell2_new (w := w) (u := .int .i64 n) (v := .int .i64 d) 27).alloc (.cells #[.int .i64 0, .int .i64 0] 27))
  have B0 := hide (balloc (balloc (Below.refl w.heap.size w) (.cells #[.int .i64 n, .int .i64 d] 27)) (.cells #[.int .i64 0, .int .i64 0] 27))
  have HB1 := hide (show w.heap.size ≤ w.heap.size + 1 by omega)
  go_enter Try.func32, Try.ntmps32
  go_wp2_with fail
  refine (specNeighboursOf_any n d most _).mono ?_
  rintro e w1 ⟨⟨l1, l2, h1, h2, c, hnb, rfl⟩, hb1⟩
  have HNB := hide hnb
  have hlt : w.heap.size + 1 < w1.heap.size := (HR0.out.below hb1).lt
  have hlt2 : w.heap.size < w1.heap.size := by omega
  have B1 := hide (bstep B0.out hb1)
  have R0 := hide (HR0.out.below hb1)
  have R1 := hide (HR1.out.below hb1)
  have TC := hide (two_cells (w := w1) (.int .i64 l1) (.int .i64 l2) (.int .i64 h1) (.int .i64 h2) 27 27)
  have B2 := hide (balloc (balloc B1.out (.cells #[.int .i64 l1, .int .i64 l2] 27)) (.cells #[.int .i64 h1, .int .i64 h2] 27))
  have U0 := hide ((R0.out.alloc (.cells #[.int .i64 l1, .int .i64 l2] 27)).alloc (.cells #[.int .i64 h1, .int .i64 h2] 27))
  have U1 := hide ((R1.out.alloc (.cells #[.int .i64 l1, .int .i64 l2] 27)).alloc (.cells #[.int .i64 h1, .int .i64 h2] 27))
  clear hnb hb1
  by_cases hc : c = 0
  · subst hc
    have hcmp := hide (nb_cmp HNB.out)
    obtain ⟨k0, k1, k2, k3⟩ := R1.out
    cases ht : takeHi n d l1 l2 h1 h2
    · have HT := hide ht
      go_wp2_with fail
      refine (l03Closer_any n d l1 l2 h1 h2 _ hcmp.out).mono ?_
      rintro e w2 ⟨rfl, hb2⟩
      rw [HT.out]
      have B3 := hide (bstep B2.out hb2)
      obtain ⟨k4, k5, k6, k7⟩ := TC.out.1.below hb2
      obtain ⟨k8, k9, k10, k11⟩ := U0.out.below hb2
      clear hb2
      go_wp2_with fail
      refine bodyPost_ret (v := .tuple #[.agg #[.int .i64 l1, .int .i64 l2], .int .i64 0]) (by simp [results, Try.results32, go_sem, k8, k9]) rfl ⟨⟨l1, l2, 0, ⟨l1, l2, h1, h2, 0, HNB.out, rfl, .inr (.inr ⟨rfl, HT.out, rfl, rfl⟩)⟩, rfl⟩, ?_⟩
      exact bset (bset B3.out HB1.out _) HB1.out _
    · have HT := hide ht
      go_wp2_with fail
      refine (l03Closer_any n d l1 l2 h1 h2 _ hcmp.out).mono ?_
      rintro e w2 ⟨rfl, hb2⟩
      rw [HT.out]
      have B3 := hide (bstep B2.out hb2)
      obtain ⟨k4, k5, k6, k7⟩ := TC.out.2.below hb2
      obtain ⟨k8, k9, k10, k11⟩ := U0.out.below hb2
      clear hb2
      go_wp2_with fail
      refine bodyPost_ret (v := .tuple #[.agg #[.int .i64 h1, .int .i64 h2], .int .i64 0]) (by simp [results, Try.results32, go_sem, k8, k9]) rfl ⟨⟨h1, h2, 0, ⟨l1, l2, h1, h2, 0, HNB.out, rfl, .inr (.inl ⟨rfl, HT.out, rfl, rfl⟩)⟩, rfl⟩, ?_⟩
      exact bset (bset B3.out HB1.out _) HB1.out _
  · have hc' : (c != 0) = true := by simpa using hc
    obtain ⟨k0, k1, k2, k3⟩ := R0.out
    have HC := hide hc
    clear hc
    go_wp2_with fail
    refine bodyPost_ret (v := .tuple #[.agg #[.int .i64 0, .int .i64 0], .int .i64 c]) (by simp [results, Try.results32, go_sem, k0, k1, hlt, hlt2]) rfl ⟨⟨0, 0, c, ⟨l1, l2, h1, h2, c, HNB.out, rfl, .inl ⟨HC.out, rfl, rfl⟩⟩, rfl⟩, ?_⟩
    exact balloc (balloc (bset (bset B1.out HB1.out _) HB1.out _) _) _
set_option maxHeartbeats 1000000 in
theorem implBestWithin_any (n d most : Int) (w : World) : Calls Try.prog 33 #[.agg #[.int .i64 n, .int .i64 d], .int .i64 most] w (BwPost n d most w) := by
  have HR0 := hide (res1_cells (w := w) (.cells #[.int .i64 n, .int .i64 d] 27) (.int .i64 0) (.int .i64 0) 27)
  have HR1 := hide ((cell2_new (w := w) (u := .int .i64 n) (v := .int .i64 d) 27).alloc (.cells #[.int .i64 0, .int .i64 0] 27))
  have B0 := hide (balloc (balloc (Below.refl w.heap.size w) (.cells #[.int .i64 n, .int .i64 d] 27)) (.cells #[.int .i64 0, .int .i64 0] 27))
  have HB1 := hide (show w.heap.size ≤ w.heap.size + 1 by omega)
  go_enter Try.func33, Try.ntmps33
  go_wp2_with fail
  refine (implNeighboursOf_any n d most _).mono ?_
  rintro e w1 ⟨⟨l1, l2, h1, h2, c, hnb, rfl⟩, hb1⟩
  have HNB := hide hnb
  have hlt : w.heap.size + 1 < w1.heap.size := (HR0.out.below hb1).lt
  have hlt2 : w.heap.size < w1.heap.size := by omega
  have B1 := hide (bstep B0.out hb1)
  have R0 := hide (HR0.out.below hb1)
  have R1 := hide (HR1.out.below hb1)
  have TC := hide (two_cells (w := w1) (.int .i64 l1) (.int .i64 l2) (.int .i64 h1) (.int .i64 h2) 27 27)
  have B2 := hide (balloc (balloc B1.out (.cells #[.int .i64 l1, .int .i64 l2] 27)) (.cells #[.int .i64 h1, .int .i64 h2] 27))
  have U0 := hide ((R0.out.alloc (.cells #[.int .i64 l1, .int .i64 l2] 27)).alloc (.cells #[.int .i64 h1, .int .i64 h2] 27))
  have U1 := hide ((R1.out.alloc (.cells #[.int .i64 l1, .int .i64 l2] 27)).alloc (.cells #[.int .i64 h1, .int .i64 h2] 27))
  clear hnb hb1
  by_cases hc : c = 0
  · subst hc
    obtain ⟨c1, c2, c3, c4, c5, c6, c7, c8, c9, c10⟩ := nb_cmp HNB.out
    have m1 := mulB n l2 c1 (by omega)
    have m2 := mulB l1 d c3 (by omega)
    have m3 := mulB h1 d c5 (by omega)
    have m4 := mulB n h2 c1 (by omega)
    obtain ⟨k0, k1, k2, k3⟩ := R1.out
    obtain ⟨k4, k5, k6, k7⟩ := R0.out
    have fin : ∀ r1 r2 : Int, ((takeHi n d l1 l2 h1 h2 = true ∧ r1 = h1 ∧ r2 = h2) ∨ (takeHi n d l1 l2 h1 h2 = false ∧ r1 = l1 ∧ r2 = l2)) → BwRes n d most r1 r2 0 := fun r1 r2 h =>
      ⟨l1, l2, h1, h2, 0, HNB.out, rfl, by rcases h with h | h; exact .inr (.inl ⟨rfl, h⟩); exact .inr (.inr ⟨rfl, h⟩)⟩
    have FIN := hide fin
    clear fin
    go_wp2_with fail
    · refine bodyPost_ret (v := .tuple #[.agg #[.int .i64 l1, .int .i64 l2], .int .i64 0]) (by simp [results, Try.results33, go_sem, k4, k5, hlt, hlt2]) rfl ⟨⟨l1, l2, 0, FIN.out l1 l2 (.inr ⟨by unfold takeHi; exact decide_eq_false (by omega), rfl, rfl⟩), rfl⟩, ?_⟩
      exact balloc (balloc (bset (bset B1.out HB1.out _) HB1.out _) _) _
    · refine bodyPost_ret (v := .tuple #[.agg #[.int .i64 h1, .int .i64 h2], .int .i64 0]) (by simp [results, Try.results33, go_sem, k4, k5, hlt, hlt2]) rfl ⟨⟨h1, h2, 0, FIN.out h1 h2 (.inl ⟨by unfold takeHi; exact decide_eq_true (by omega), rfl, rfl⟩), rfl⟩, ?_⟩
      exact balloc (balloc (bset (bset B1.out HB1.out _) HB1.out _) _) _
    · refine bodyPost_ret (v := .tuple #[.agg #[.int .i64 h1, .int .i64 h2], .int .i64 0]) (by simp [results, Try.results33, go_sem, k4, k5, hlt, hlt2]) rfl ⟨⟨h1, h2, 0, FIN.out h1 h2 (.inl ⟨by unfold takeHi; exact decide_eq_true (by omega), rfl, rfl⟩), rfl⟩, ?_⟩
      exact balloc (balloc (bset (bset B1.out HB1.out _) HB1.out _) _) _
    · refine bodyPost_ret (v := .tuple #[.agg #[.int .i64 l1, .int .i64 l2], .int .i64 0]) (by simp [results, Try.results33, go_sem, k4, k5, hlt, hlt2]) rfl ⟨⟨l1, l2, 0, FIN.out l1 l2 (.inr ⟨by unfold takeHi; exact decide_eq_false (by omega), rfl, rfl⟩), rfl⟩, ?_⟩
      exact balloc (balloc (bset (bset B1.out HB1.out _) HB1.out _) _) _
  · have hc' : (c != 0) = true := by simpa using hc
    obtain ⟨k0, k1, k2, k3⟩ := R0.out
    have HC := hide hc
    clear hc
    go_wp2_with fail
    refine bodyPost_ret (v := .tuple #[.agg #[.int .i64 0, .int .i64 0], .int .i64 c]) (by simp [results, Try.results33, go_sem, k0, k1, hlt, hlt2]) rfl ⟨⟨0, 0, c, ⟨l1, l2, h1, h2, c, HNB.out, rfl, .inl ⟨HC.out, rfl, rfl⟩⟩, rfl⟩, ?_⟩
    exact balloc (balloc (bset (bset B1.out HB1.out _) HB1.out _) _) _
end Go.Proofs.Ytjojeoehdocojaa
