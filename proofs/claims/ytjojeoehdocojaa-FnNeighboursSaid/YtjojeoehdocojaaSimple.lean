/-
  Plain laws of the simplest ratio between two. No program in sight.
-/
import Derived.Test.YtjojeoehdocojaaRT
namespace Go.Proofs.Ytjojeoehdocojaa
open Go.RowKit

/-- x/y is at least a1/a2 and at most b1/b2. -/
def Btw (a1 a2 b1 b2 x y : Int) : Prop := a1 * y ≤ x * a2 ∧ x * b2 ≤ b1 * y
/-- m/n is the simplest ratio between two positive ones. -/
def Simp (a1 a2 b1 b2 m n : Int) : Prop := 1 ≤ n ∧ Btw a1 a2 b1 b2 m n ∧ ∀ x y, 1 ≤ y → Btw a1 a2 b1 b2 x y → n ≤ y ∧ m ≤ x
/-- m/n is the simplest ratio between two. -/
def SimpZ (a1 a2 b1 b2 m n : Int) : Prop := 1 ≤ n ∧ Btw a1 a2 b1 b2 m n ∧ (∀ x y, 1 ≤ y → Btw a1 a2 b1 b2 x y → n ≤ y) ∧ (n = 1 → ∀ x, Btw a1 a2 b1 b2 x 1 → absI m ≤ absI x)

theorem le_of_mul {x y c : Int} (hc : 1 ≤ c) (h : x * c ≤ y * c) : x ≤ y := Int.le_of_mul_le_mul_right h (by omega)
theorem lt_of_mul {x y c : Int} (hc : 1 ≤ c) (h : x * c < y * c) : x < y := Int.lt_of_mul_lt_mul_right h (by omega)
theorem pos_of_mul {x c : Int} (hc : 1 ≤ c) (h : 1 ≤ x * c) : 1 ≤ x := by
  have : 0 * c < x * c := by omega
  have := lt_of_mul hc this
  omega
theorem le_self_mul {x c : Int} (hc : 1 ≤ c) (h : 0 ≤ x) : x ≤ x * c := by
  have : x * 1 ≤ x * c := Int.mul_le_mul_of_nonneg_left hc h
  omega
/-- No integer between, so nothing with denominator 1. -/
theorem no_int {a1 a2 b1 b2 n : Int} (ha : 1 ≤ a2) (hb : 1 ≤ b2) (h1 : n * a2 < a1) (h2 : b1 < (n + 1) * b2) (x : Int) : ¬ Btw a1 a2 b1 b2 x 1 := by
  rintro ⟨g1, g2⟩
  have k1 : n < x := lt_of_mul ha (by omega)
  have k2 : x < n + 1 := lt_of_mul hb (by omega)
  omega
theorem simp_step_core {a1 a2 b1 b2 n m' n' : Int} (ha : 1 ≤ a2) (hb : 1 ≤ b2) (h1 : n * a2 < a1) (h3 : n * b2 < b1)
    (h : Simp b2 (b1 - n * b2) a2 (a1 - n * a2) m' n') : 1 ≤ m' ∧ Btw a1 a2 b1 b2 (n * m' + n') m' ∧ ∀ x y, 1 ≤ y → Btw a1 a2 b1 b2 x y → m' ≤ y ∧ n' ≤ x - n * y := by
  obtain ⟨hn, ⟨g1, g2⟩, hmin⟩ := h
  refine ⟨?_, ⟨by grind, by grind⟩, fun x y hy hxy => ?_⟩
  · have : 1 ≤ b2 * n' := Int.mul_pos (by omega) (by omega)
    exact pos_of_mul (c := b1 - n * b2) (by omega) (by omega)
  · obtain ⟨k1, k2⟩ := hxy
    have e1 : y * (a1 - n * a2) ≤ a2 * (x - n * y) := by grind
    have e2 : b2 * (x - n * y) ≤ y * (b1 - n * b2) := by grind
    have hp : 1 ≤ x - n * y := by
      have : 1 ≤ y * (a1 - n * a2) := Int.mul_pos (by omega) (by omega)
      exact pos_of_mul (c := a2) ha (by rw [Int.mul_comm]; omega)
    have := hmin y (x - n * y) hp ⟨e2, e1⟩
    exact ⟨this.2, this.1⟩
theorem simp_step {a1 a2 b1 b2 n m' n' : Int} (ha : 1 ≤ a2) (hb : 1 ≤ b2) (hn : 0 ≤ n) (h1 : n * a2 < a1) (h3 : n * b2 < b1)
    (h : Simp b2 (b1 - n * b2) a2 (a1 - n * a2) m' n') : Simp a1 a2 b1 b2 (n * m' + n') m' := by
  obtain ⟨k1, k2, k3⟩ := simp_step_core ha hb h1 h3 h
  refine ⟨k1, k2, fun x y hy hxy => ?_⟩
  obtain ⟨e1, e2⟩ := k3 x y hy hxy
  have : n * m' ≤ n * y := Int.mul_le_mul_of_nonneg_left e1 hn
  exact ⟨e1, by omega⟩
theorem simpZ_step {a1 a2 b1 b2 n m' n' : Int} (ha : 1 ≤ a2) (hb : 1 ≤ b2) (h1 : n * a2 < a1) (h3 : n * b2 < b1) (h2 : b1 < (n + 1) * b2)
    (h : Simp b2 (b1 - n * b2) a2 (a1 - n * a2) m' n') : SimpZ a1 a2 b1 b2 (n * m' + n') m' := by
  obtain ⟨k1, k2, k3⟩ := simp_step_core ha hb h1 h3 h
  exact ⟨k1, k2, fun x y hy hxy => (k3 x y hy hxy).1, fun _ x hx => absurd hx (no_int ha hb h1 h2 x)⟩
theorem simp_exact {a1 a2 b1 b2 n : Int} (ha : 1 ≤ a2) (hp : 1 ≤ a1) (hab : a1 * b2 ≤ b1 * a2) (h : n * a2 = a1) : Simp a1 a2 b1 b2 n 1 := by
  have hn : 1 ≤ n := pos_of_mul ha (by omega)
  have e0 : n * b2 * a2 = a1 * b2 := by rw [← h]; grind
  refine ⟨by omega, ⟨by omega, le_of_mul ha (by rw [Int.mul_one]; omega)⟩, fun x y hy hxy => ⟨hy, ?_⟩⟩
  have h1 : n * y ≤ x := le_of_mul ha (by have := hxy.1; grind)
  have h2 := le_self_mul hy (show 0 ≤ n by omega)
  omega
theorem simp_next {a1 a2 b1 b2 n : Int} (ha : 1 ≤ a2) (hn : 0 ≤ n) (h1 : n * a2 < a1) (h2 : a1 ≤ (n + 1) * a2) (h3 : (n + 1) * b2 ≤ b1) : Simp a1 a2 b1 b2 (n + 1) 1 := by
  refine ⟨by omega, ⟨by omega, by omega⟩, fun x y hy hxy => ⟨hy, ?_⟩⟩
  have h4 : n * y < x := lt_of_mul ha (by
    have g1 : n * a2 * y < a1 * y := Int.mul_lt_mul_of_pos_right h1 (by omega)
    have := hxy.1
    grind)
  have h5 := le_self_mul hy hn
  omega
theorem simp_toZ {a1 a2 b1 b2 m n : Int} (ha : 1 ≤ a2) (hp : 1 ≤ a1) (h : Simp a1 a2 b1 b2 m n) : SimpZ a1 a2 b1 b2 m n := by
  obtain ⟨h1, h2, h3⟩ := h
  refine ⟨h1, h2, fun x y hy hxy => (h3 x y hy hxy).1, fun _ x hx => ?_⟩
  have k1 := (h3 x 1 (by omega) hx).2
  have k2 : 1 ≤ m := pos_of_mul ha (by
    have := h2.1
    have : 1 ≤ a1 * n := Int.mul_pos (by omega) (by omega)
    omega)
  unfold absI; omega
theorem simp_neg {a1 a2 b1 b2 m n : Int} (hb : 1 ≤ b2) (hp : b1 < 0) (h : Simp (-b1) b2 (-a1) a2 m n) : SimpZ a1 a2 b1 b2 (-m) n := by
  obtain ⟨h1, ⟨h2, h2'⟩, h3⟩ := h
  have hneg : ∀ x y, Btw a1 a2 b1 b2 x y → Btw (-b1) b2 (-a1) a2 (-x) y := fun x y h => ⟨by have := h.2; grind, by have := h.1; grind⟩
  refine ⟨h1, ⟨by grind, by grind⟩, fun x y hy hxy => (h3 (-x) y hy (hneg x y hxy)).1, fun _ x hx => ?_⟩
  have k1 := (h3 (-x) 1 (by omega) (hneg x 1 hx)).2
  have k2 : 1 ≤ m := pos_of_mul hb (by
    have : 1 ≤ -b1 * n := Int.mul_pos (by omega) (by omega)
    omega)
  unfold absI; omega
theorem simpZ_zero {a1 a2 b1 b2 : Int} (h1 : a1 ≤ 0) (h2 : 0 ≤ b1) : SimpZ a1 a2 b1 b2 0 1 :=
  ⟨by omega, ⟨by omega, by omega⟩, fun _ _ hy _ => hy, fun _ x _ => by unfold absI; omega⟩
/-- The reference's integer between. -/
theorem simpZ_whole {a1 a2 b1 b2 lo hi : Int} (ha : 1 ≤ a2) (hb : 1 ≤ b2) (h1 : (lo - 1) * a2 < a1) (h2 : a1 ≤ lo * a2) (h3 : hi * b2 ≤ b1) (h4 : b1 < (hi + 1) * b2) (h : lo ≤ hi) :
    SimpZ a1 a2 b1 b2 (max lo (min hi 0)) 1 := by
  have key : ∀ x, lo ≤ x → x ≤ hi → Btw a1 a2 b1 b2 x 1 := fun x g1 g2 => by
    have e1 : lo * a2 ≤ x * a2 := Int.mul_le_mul_of_nonneg_right g1 (by omega)
    have e2 : x * b2 ≤ hi * b2 := Int.mul_le_mul_of_nonneg_right g2 (by omega)
    exact ⟨by omega, by omega⟩
  have conv : ∀ x, Btw a1 a2 b1 b2 x 1 → lo ≤ x ∧ x ≤ hi := fun x hx => by
    obtain ⟨g1, g2⟩ := hx
    have k1 : lo - 1 < x := lt_of_mul ha (by omega)
    have k2 : x < hi + 1 := lt_of_mul hb (by omega)
    omega
  exact ⟨by omega, key _ (by omega) (by omega), fun _ _ hy _ => hy, fun _ x hx => by
    have := conv x hx
    unfold absI; omega⟩
theorem simp_whole {a1 a2 b1 b2 lo hi : Int} (ha : 1 ≤ a2) (hb : 1 ≤ b2) (hp : 1 ≤ a1) (h1 : (lo - 1) * a2 < a1) (h2 : a1 ≤ lo * a2) (h3 : hi * b2 ≤ b1) (h : lo ≤ hi) :
    Simp a1 a2 b1 b2 (max lo (min hi 0)) 1 := by
  have hlo : 1 ≤ lo := pos_of_mul ha (by omega)
  have e : max lo (min hi 0) = lo := by omega
  have := simp_next (b2 := b2) (n := lo - 1) ha (by omega) h1 (by rw [show lo - 1 + 1 = lo by omega]; exact h2) (b1 := b1) (by
    rw [show lo - 1 + 1 = lo by omega]
    have : lo * b2 ≤ hi * b2 := Int.mul_le_mul_of_nonneg_right h (by omega)
    omega)
  rw [e]
  rwa [show lo - 1 + 1 = lo by omega] at this
theorem simpZ_unique {a1 a2 b1 b2 m n m' n' : Int} (ha : 1 ≤ a2) (hb : 1 ≤ b2) (h : SimpZ a1 a2 b1 b2 m n) (h' : SimpZ a1 a2 b1 b2 m' n') : m = m' ∧ n = n' := by
  obtain ⟨h1, h2, h3, h4⟩ := h
  obtain ⟨h1', h2', h3', h4'⟩ := h'
  have hn : n = n' := Int.le_antisymm (h3 m' n' h1' h2') (h3' m n h1 h2)
  subst hn
  refine ⟨?_, rfl⟩
  by_cases e : n = 1
  · subst e
    have k1 := h4 rfl m' h2'
    have k2 := h4' rfl m h2
    by_cases hz : m = m'
    · exact hz
    · exfalso
      have hm : m' = -m := by unfold absI at k1 k2; omega
      subst hm
      have b0 : Btw a1 a2 b1 b2 0 1 := by
        obtain ⟨g1, g2⟩ := h2
        obtain ⟨g3, g4⟩ := h2'
        have p1 : -m * a2 = -(m * a2) := by grind
        have p2 : -m * b2 = -(m * b2) := by grind
        rw [p1] at g3
        rw [p2] at g4
        generalize m * a2 = u at *
        generalize m * b2 = v at *
        exact ⟨by omega, by omega⟩
      have := h4 rfl 0 b0
      unfold absI at this; omega
  · have gap : ∀ u v : Int, u < v → Btw a1 a2 b1 b2 u n → Btw a1 a2 b1 b2 v n → False := fun u v huv hu hv => by
      obtain ⟨q, r, hq, hr0, hr1⟩ : ∃ q r : Int, u = q * n + r ∧ 0 ≤ r ∧ r < n := ⟨u / n, u % n, by have := Int.mul_ediv_add_emod u n; grind, Int.emod_nonneg _ (by omega), Int.emod_lt_of_pos _ (by omega)⟩
      -- (u - q) / (n - 1) is between u/n and (u + 1)/n
      have lo1 : u * (n - 1) ≤ (u - q) * n := by subst hq; grind
      have hi1 : (u - q) * n ≤ v * (n - 1) := by
        have : (u + 1) * (n - 1) ≤ v * (n - 1) := Int.mul_le_mul_of_nonneg_right (by omega) (by omega)
        have : (u - q) * n ≤ (u + 1) * (n - 1) := by subst hq; grind
        omega
      have b : Btw a1 a2 b1 b2 (u - q) (n - 1) := by
        constructor
        · refine le_of_mul h1 ?_
          have e1 : a1 * n * (n - 1) ≤ u * a2 * (n - 1) := Int.mul_le_mul_of_nonneg_right hu.1 (by omega)
          have e2 : u * (n - 1) * a2 ≤ (u - q) * n * a2 := Int.mul_le_mul_of_nonneg_right lo1 (by omega)
          grind
        · refine le_of_mul h1 ?_
          have e1 : v * b2 * (n - 1) ≤ b1 * n * (n - 1) := Int.mul_le_mul_of_nonneg_right hv.2 (by omega)
          have e2 : (u - q) * n * b2 ≤ v * (n - 1) * b2 := Int.mul_le_mul_of_nonneg_right hi1 (by omega)
          grind
      have := h3 (u - q) (n - 1) (by omega) b
      omega
    rcases Int.lt_trichotomy m m' with s | s | s
    · exact (gap _ _ s h2 h2').elim
    · exact s
    · exact (gap _ _ s h2' h2).elim

/-- The terms L give the simplest ratio. -/
def FinP (a1 a2 b1 b2 : Int) (L : List Int) : Prop := L ≠ [] ∧ ∃ m n, rtR L = (m, n, true) ∧ validR m n = true ∧ Simp a1 a2 b1 b2 m n
def FinZ (a1 a2 b1 b2 : Int) (L : List Int) : Prop := ∃ m n, rtR L = (m, n, true) ∧ validR m n = true ∧ SimpZ a1 a2 b1 b2 m n
theorem rtGo_cons (t : Int) (L : List Int) (k : Nat) (n d m e : Int) (h : rtGo L k n d = (m, e, true)) :
    rtGo (t :: L) (k + 1) n d = if both (inR t (-1000000000) 1000000000) (validR (t * m + e) m) then (t * m + e, m, true) else (0, 0, false) := by
  induction k generalizing n d with
  | zero =>
    simp only [rtGo, Prod.mk.injEq, and_true] at h
    obtain ⟨rfl, rfl⟩ := h
    simp only [rtGo, List.getD_cons_zero]
  | succ k ih =>
    rw [rtGo] at h
    split at h
    · rename_i hc
      rw [rtGo, List.getD_cons_succ, if_pos hc]
      exact ih _ _ h
    · simp at h
theorem rtR_cons (t : Int) (L : List Int) (m e : Int) (hL : L ≠ []) (h : rtR L = (m, e, true)) (hv : both (inR t (-1000000000) 1000000000) (validR (t * m + e) m) = true) : rtR (t :: L) = (t * m + e, m, true) := by
  obtain ⟨k, hk⟩ : ∃ k, L.length = k + 1 := ⟨L.length - 1, by have := List.length_pos_iff.2 hL; omega⟩
  unfold rtR at h ⊢
  rw [hk] at h
  simp only [List.length_cons, hk, Nat.add_sub_cancel] at h ⊢
  rw [List.getD_cons_succ]
  split at h
  · rename_i hc
    rw [if_pos hc, rtGo_cons t L k _ _ m e h, if_pos hv]
  · simp at h
theorem rtR_one (t : Int) (h : inR t (-1000000000) 1000000000 = true) : rtR [t] = (t, 1, true) := by
  simp [rtR, rtGo, h]
/-- What is simplest is not greater than the borders. -/
theorem simpZ_bd {a1 a2 b1 b2 m n : Int} (ha : 1 ≤ a2 ∧ a2 ≤ 1000000000) (hb : 1 ≤ b2 ∧ b2 ≤ 1000000000) (h1 : -1000000000 ≤ a1 ∧ a1 ≤ 1000000000) (h2 : -1000000000 ≤ b1 ∧ b1 ≤ 1000000000) (hab : a1 * b2 ≤ b1 * a2)
    (h : SimpZ a1 a2 b1 b2 m n) : n ≤ 1000000000 ∧ -1000000000 ≤ m ∧ m ≤ 1000000000 := by
  obtain ⟨g1, ⟨g2, g3⟩, g4, _⟩ := h
  have e1 : n ≤ a2 := g4 a1 a2 ha.1 ⟨by omega, hab⟩
  have e2 : n ≤ b2 := g4 b1 b2 hb.1 ⟨by omega, by omega⟩
  refine ⟨by omega, ?_, ?_⟩
  · refine le_of_mul ha.1 ?_
    have : -1000000000 * a2 ≤ a1 * n := by
      rcases Int.le_total 0 a1 with s | s
      · have := Int.mul_nonneg s (show 0 ≤ n by omega); omega
      · have k1 : a1 * a2 ≤ a1 * n := Int.mul_le_mul_of_nonpos_left s e1
        have k2 : -1000000000 * a2 ≤ a1 * a2 := Int.mul_le_mul_of_nonneg_right h1.1 (by omega)
        omega
    omega
  · refine le_of_mul hb.1 ?_
    have : b1 * n ≤ 1000000000 * b2 := by
      rcases Int.le_total 0 b1 with s | s
      · have k1 : b1 * n ≤ b1 * b2 := Int.mul_le_mul_of_nonneg_left e2 s
        have k2 : b1 * b2 ≤ 1000000000 * b2 := Int.mul_le_mul_of_nonneg_right h2.2 (by omega)
        omega
      · have := Int.mul_nonneg (show 0 ≤ -b1 by omega) (show 0 ≤ n by omega)
        have e : -b1 * n = -(b1 * n) := Int.neg_mul _ _
        omega
    omega
theorem finP_toZ {a1 a2 b1 b2 : Int} {L : List Int} (ha : 1 ≤ a2) (hp : 1 ≤ a1) (h : FinP a1 a2 b1 b2 L) : FinZ a1 a2 b1 b2 L := by
  obtain ⟨_, m, n, h1, h2, h3⟩ := h
  exact ⟨m, n, h1, h2, simp_toZ ha hp h3⟩
/-- Borders that may be asked for. -/
def Brd (a1 a2 b1 b2 : Int) : Prop := (1 ≤ a2 ∧ a2 ≤ 1000000000) ∧ (1 ≤ b2 ∧ b2 ≤ 1000000000) ∧ (-1000000000 ≤ a1 ∧ a1 ≤ 1000000000) ∧ (-1000000000 ≤ b1 ∧ b1 ≤ 1000000000) ∧ a1 * b2 ≤ b1 * a2
theorem cons_ok {a1 a2 b1 b2 n m' n' : Int} (hb : Brd a1 a2 b1 b2) (hn : -1000000000 ≤ n ∧ n ≤ 1000000000) (hv : validR m' n' = true) (hz : SimpZ a1 a2 b1 b2 (n * m' + n') m') :
    both (inR n (-1000000000) 1000000000) (validR (n * m' + n') m') = true ∧ validR (n * m' + n') m' = true := by
  obtain ⟨h1, h2, h3, h4, h5⟩ := hb
  have k := simpZ_bd h1 h2 h3 h4 h5 hz
  have hv2 : validR (n * m' + n') m' = true := validR_mk ⟨hz.1, k.1⟩ k.2 ((gcd_next n m' n').trans (validR_true hv).2.2)
  exact ⟨both_tt (inR_mk hn) hv2, hv2⟩
theorem finZ_cons {a1 a2 b1 b2 n : Int} {L : List Int} (hb : Brd a1 a2 b1 b2) (hn : -1000000000 ≤ n ∧ n ≤ 1000000000) (h1 : n * a2 < a1) (h3 : n * b2 < b1) (h2 : b1 < (n + 1) * b2)
    (h : FinP b2 (b1 - n * b2) a2 (a1 - n * a2) L) : FinZ a1 a2 b1 b2 (n :: L) := by
  obtain ⟨hL, m', n', e1, e2, e3⟩ := h
  have hz := simpZ_step hb.1.1 hb.2.1.1 h1 h3 h2 e3
  obtain ⟨c1, c2⟩ := cons_ok hb hn e2 hz
  exact ⟨_, _, rtR_cons n L m' n' hL e1 c1, c2, hz⟩
theorem finP_cons {a1 a2 b1 b2 n : Int} {L : List Int} (hb : Brd a1 a2 b1 b2) (hn : 0 ≤ n ∧ n ≤ 1000000000) (h1 : n * a2 < a1) (h3 : n * b2 < b1) (h2 : b1 < (n + 1) * b2)
    (h : FinP b2 (b1 - n * b2) a2 (a1 - n * a2) L) : FinP a1 a2 b1 b2 (n :: L) := by
  obtain ⟨hL, m', n', e1, e2, e3⟩ := h
  have hz := simpZ_step hb.1.1 hb.2.1.1 h1 h3 h2 e3
  obtain ⟨c1, c2⟩ := cons_ok hb (by omega) e2 hz
  exact ⟨by simp, _, _, rtR_cons n L m' n' hL e1 c1, c2, simp_step hb.1.1 hb.2.1.1 hn.1 h1 h3 e3⟩
theorem finZ_one {a1 a2 b1 b2 z : Int} (hb : Brd a1 a2 b1 b2) (h : SimpZ a1 a2 b1 b2 z 1) : FinZ a1 a2 b1 b2 [z] := by
  obtain ⟨h1, h2, h3, h4, h5⟩ := hb
  have k := simpZ_bd h1 h2 h3 h4 h5 h
  exact ⟨z, 1, rtR_one z (inR_mk k.2), valid_int k.2, h⟩
theorem finP_one {a1 a2 b1 b2 z : Int} (hb : Brd a1 a2 b1 b2) (hp : 1 ≤ a1) (h : Simp a1 a2 b1 b2 z 1) : FinP a1 a2 b1 b2 [z] := by
  obtain ⟨h1, h2, h3, h4, h5⟩ := hb
  have k := simpZ_bd h1 h2 h3 h4 h5 (simp_toZ h1.1 hp h)
  exact ⟨by simp, z, 1, rtR_one z (inR_mk k.2), valid_int k.2, h⟩
/-- The next borders. -/
theorem brd_next {a1 a2 b1 b2 n : Int} (hb : Brd a1 a2 b1 b2) (h1 : n * a2 < a1) (h2 : a1 < (n + 1) * a2) (h3 : n * b2 < b1) (h4 : b1 < (n + 1) * b2) : Brd b2 (b1 - n * b2) a2 (a1 - n * a2) ∧ b1 - n * b2 < b2 ∧ a1 - n * a2 < a2 := by
  obtain ⟨g1, g2, g3, g4, g5⟩ := hb
  have e1 : (n + 1) * a2 = n * a2 + a2 := by grind
  have e2 : (n + 1) * b2 = n * b2 + b2 := by grind
  refine ⟨⟨by omega, by omega, by omega, by omega, ?_⟩, by omega, by omega⟩
  grind
/-- Where the reference's loop stands: the terms so far, and the borders that are left. -/
def SInv (a1 a2 b1 b2 : Int) (ts : List Int) (p1 p2 q1 q2 : Int) : Prop :=
  Brd p1 p2 q1 q2 ∧ (ts.length : Int) * 2 + p2 + q2 ≤ 2000000000 ∧ (∀ t ∈ ts, -1000000000 ≤ t ∧ t ≤ 1000000000) ∧
  ((ts = [] ∧ p1 = a1 ∧ p2 = a2 ∧ q1 = b1 ∧ q2 = b2) ∨ (ts ≠ [] ∧ p2 < p1 ∧ (∀ t ∈ ts.drop 1, 1 ≤ t) ∧ ∀ L, FinP p1 p2 q1 q2 L → FinZ a1 a2 b1 b2 (ts ++ L)))
theorem sinv_start {a1 a2 b1 b2 : Int} (h : Brd a1 a2 b1 b2) : SInv a1 a2 b1 b2 [] a1 a2 b1 b2 :=
  ⟨h, by obtain ⟨h1, h2, _⟩ := h; simp; omega, by simp, .inl ⟨rfl, rfl, rfl, rfl, rfl⟩⟩
/-- The ceiling of a1/a2 and the floor of b1/b2. -/
theorem ceil_bd (a1 a2 : Int) (h : 1 ≤ a2) : (-(-a1 / a2) - 1) * a2 < a1 ∧ a1 ≤ -(-a1 / a2) * a2 := by
  have h1 := Int.ediv_mul_le (-a1) (show a2 ≠ 0 by omega)
  have h2 := Int.lt_ediv_add_one_mul_self (-a1) (show 0 < a2 by omega)
  have e1 : (-(-a1 / a2) - 1) * a2 = -((-a1 / a2 + 1) * a2) := by grind
  have e2 : -(-a1 / a2) * a2 = -(-a1 / a2 * a2) := by grind
  omega
theorem floor_bd (b1 b2 : Int) (h : 1 ≤ b2) : b1 / b2 * b2 ≤ b1 ∧ b1 < (b1 / b2 + 1) * b2 :=
  ⟨Int.ediv_mul_le b1 (by omega), Int.lt_ediv_add_one_mul_self b1 (by omega)⟩
theorem whole_none {a1 a2 b1 b2 : Int} (hb : Brd a1 a2 b1 b2) (h : b1 / b2 < -(-a1 / a2)) :
    a1 / a2 * a2 < a1 ∧ a1 < (a1 / a2 + 1) * a2 ∧ a1 / a2 * b2 < b1 ∧ b1 < (a1 / a2 + 1) * b2 := by
  obtain ⟨g1, g2, _, _, g5⟩ := hb
  obtain ⟨c1, c2⟩ := ceil_bd a1 a2 g1.1
  obtain ⟨f1, f2⟩ := floor_bd b1 b2 g2.1
  obtain ⟨k1, k2⟩ := floor_bd a1 a2 g1.1
  generalize a1 / a2 = n at *
  generalize b1 / b2 = hi at *
  generalize -(-a1 / a2) = lo at *
  have h3 : lo - 1 < n + 1 := lt_of_mul g1.1 (by omega)
  have key : n * b2 * a2 ≤ b1 * a2 := by
    have : n * a2 * b2 ≤ a1 * b2 := Int.mul_le_mul_of_nonneg_right k1 (by omega)
    have e : n * b2 * a2 = n * a2 * b2 := by grind
    omega
  have k3 : n * b2 ≤ b1 := le_of_mul g1.1 key
  have h4 : n < hi + 1 := lt_of_mul g2.1 (by omega)
  have h5 : n * a2 < a1 := by
    rcases Int.lt_or_le (n * a2) a1 with s | s
    · exact s
    · have : lo - 1 < n := lt_of_mul g1.1 (by omega)
      omega
  have key2 : n * b2 * a2 < b1 * a2 := by
    have : n * a2 * b2 < a1 * b2 := Int.mul_lt_mul_of_pos_right h5 (by omega)
    have e : n * b2 * a2 = n * a2 * b2 := by grind
    omega
  refine ⟨h5, k2, lt_of_mul g1.1 key2, ?_⟩
  rcases Int.lt_or_le b1 ((n + 1) * b2) with s | s
  · exact s
  · have : n + 1 < hi + 1 := lt_of_mul g2.1 (by omega)
    omega
theorem floor_in {p1 p2 : Int} (h1 : 1 ≤ p2) (h2 : -1000000000 ≤ p1 ∧ p1 ≤ 1000000000) : -1000000000 ≤ p1 / p2 ∧ p1 / p2 ≤ 1000000000 := by
  obtain ⟨k1, k2⟩ := floor_bd p1 p2 h1
  constructor
  · have : -1000000000 * p2 < (p1 / p2 + 1) * p2 := by
      have : -1000000000 * p2 ≤ -1000000000 * 1 := Int.mul_le_mul_of_nonpos_left (by omega) h1
      omega
    have := lt_of_mul h1 this
    omega
  · rcases Int.lt_or_le 1000000000 (p1 / p2) with s | s
    · have : 1000000001 * p2 ≤ p1 / p2 * p2 := Int.mul_le_mul_of_nonneg_right (by omega) (by omega)
      omega
    · exact s
theorem sinv_step {a1 a2 b1 b2 p1 p2 q1 q2 : Int} {ts : List Int} (h : SInv a1 a2 b1 b2 ts p1 p2 q1 q2) (hno : q1 / q2 < -(-p1 / p2)) :
    SInv a1 a2 b1 b2 (ts ++ [p1 / p2]) q2 (q1 - p1 / p2 * q2) p2 (p1 - p1 / p2 * p2) := by
  obtain ⟨hb, hlen, hin, h⟩ := h
  obtain ⟨e1, e2, e3, e4⟩ := whole_none hb hno
  have hn := floor_in hb.1.1 hb.2.2.1
  obtain ⟨hb', l1, l2⟩ := brd_next hb e1 e2 e3 e4
  refine ⟨hb', by simp; omega, fun t ht => ?_, .inr ⟨by simp, by omega, ?_⟩⟩
  · rcases List.mem_append.1 ht with ht | ht
    · exact hin t ht
    · simp at ht; rw [ht]; exact hn
  · rcases h with ⟨rfl, rfl, rfl, rfl, rfl⟩ | ⟨hne, hlt, htl, hgo⟩
    · refine ⟨by simp, fun L hL => ?_⟩
      exact finZ_cons hb hn e1 e3 e4 hL
    · have hn1 : 1 ≤ p1 / p2 := by
        have : 1 < p1 / p2 + 1 := lt_of_mul hb.1.1 (by omega)
        omega
      refine ⟨fun t ht => ?_, fun L hL => ?_⟩
      · rw [List.drop_append_of_le_length (by have := List.length_pos_iff.2 hne; omega)] at ht
        rcases List.mem_append.1 ht with ht | ht
        · exact htl t ht
        · simp at ht; omega
      · have := hgo (p1 / p2 :: L) (finP_cons hb (by omega) e1 e3 e4 hL)
        simpa using this
theorem sinv_end {a1 a2 b1 b2 p1 p2 q1 q2 : Int} {ts : List Int} (h : SInv a1 a2 b1 b2 ts p1 p2 q1 q2) (hyes : -(-p1 / p2) ≤ q1 / q2) :
    FinZ a1 a2 b1 b2 (ts ++ [max (-(-p1 / p2)) (min (q1 / q2) 0)]) ∧ tailOk (ts ++ [max (-(-p1 / p2)) (min (q1 / q2) 0)]) = true ∧
    (∀ t ∈ ts ++ [max (-(-p1 / p2)) (min (q1 / q2) 0)], -1000000000 ≤ t ∧ t ≤ 1000000000) := by
  obtain ⟨hb, hlen, hin, h⟩ := h
  obtain ⟨c1, c2⟩ := ceil_bd p1 p2 hb.1.1
  obtain ⟨f1, f2⟩ := floor_bd q1 q2 hb.2.1.1
  have fi := floor_in hb.2.1.1 hb.2.2.2.1
  have fa := floor_in (p1 := -p1) hb.1.1 (by obtain ⟨_, _, g, _⟩ := hb; omega)
  have hz := simpZ_whole hb.1.1 hb.2.1.1 c1 c2 f1 f2 hyes
  have hzb : -1000000000 ≤ max (-(-p1 / p2)) (min (q1 / q2) 0) ∧ max (-(-p1 / p2)) (min (q1 / q2) 0) ≤ 1000000000 := by omega
  refine ⟨?_, ?_, fun t ht => ?_⟩
  · rcases h with ⟨rfl, rfl, rfl, rfl, rfl⟩ | ⟨hne, hlt, htl, hgo⟩
    · exact finZ_one hb hz
    · exact hgo _ (finP_one hb (by have := hb.1.1; omega) (simp_whole hb.1.1 hb.2.1.1 (by have := hb.1.1; omega) c1 c2 f1 hyes))
  · refine tailOk_mk (by simp) fun j h1 h2 => ?_
    rcases h with ⟨rfl, _⟩ | ⟨hne, hlt, htl, hgo⟩
    · simp at h2; omega
    · by_cases hj : j < ts.length
      · rw [List.getD_eq_getElem?_getD, List.getElem?_append_left hj, List.getElem?_eq_getElem hj]
        have := htl ts[j] (by
          rw [List.mem_iff_getElem]
          refine ⟨j - 1, by rw [List.length_drop]; omega, ?_⟩
          rw [List.getElem_drop]
          congr 1
          omega)
        simpa using this
      · have hj2 : j = ts.length := by simp at h2; omega
        subst hj2
        have hlo : 1 ≤ -(-p1 / p2) := pos_of_mul hb.1.1 (by have := hb.1.1; omega)
        simp
        omega
  · rcases List.mem_append.1 ht with ht | ht
    · exact hin t ht
    · simp only [List.mem_singleton] at ht; rw [ht]; exact hzb
end Go.Proofs.Ytjojeoehdocojaa
