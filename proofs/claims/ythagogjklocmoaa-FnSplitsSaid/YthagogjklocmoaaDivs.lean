/-
  Plain laws of prime factors and divisors. No program in sight.
-/
import Derived.Test.YthagogjklocmoaaPrimes
namespace Go.Proofs.Ythagogjklocmoaa
open Go.RowKit

theorem dvd_cancelD {p q x : Int} (hg : Int.gcd p q = 1) (h : q ∣ p * x) : q ∣ x := by
  rw [← Int.natAbs_dvd_natAbs] at h ⊢
  rw [Int.natAbs_mul] at h
  rw [Int.gcd_eq_natAbs_gcd_natAbs] at hg
  exact Nat.Coprime.dvd_of_dvd_mul_left (by rw [Nat.Coprime, Nat.gcd_comm]; exact hg) h
/-- A prime. -/
def Prm (q : Int) : Prop := 2 ≤ q ∧ ∀ d, 2 ≤ d → d < q → ¬ d ∣ q
def prodI : List Int → Int
  | [] => 1
  | x :: xs => x * prodI xs
theorem prodI_append (xs ys : List Int) : prodI (xs ++ ys) = prodI xs * prodI ys := by
  induction xs with
  | nil => simp [prodI]
  | cons x xs ih => simp only [List.cons_append, prodI, ih, Int.mul_assoc]
/-- Nothing from 2 to below p divides n. -/
def Rough (p n : Int) : Prop := ∀ d, 2 ≤ d → d < p → ¬ d ∣ n
theorem strip_all (p n : Int) : (∀ x ∈ (strip p n).1, x = p ∧ p ∣ n) ∧ prodI (strip p n).1 * (strip p n).2 = n ∧ (strip p n).2 ∣ n ∧ (2 ≤ p → 1 ≤ n → ¬ p ∣ (strip p n).2) := by
  induction n using strip.induct (p := p) with
  | case1 n h ih =>
    obtain ⟨i1, i2, i3, i4⟩ := ih
    obtain ⟨h1, h2, h3⟩ := div_pos_of_dvd p n h.1 h.2.1 h.2.2
    rw [strip, dif_pos h]
    have hdvd : p ∣ n := Int.dvd_of_emod_eq_zero h.2.2
    refine ⟨fun x hx => ?_, ?_, ?_, fun _ _ => i4 h.1 h1⟩
    · rcases List.mem_cons.1 hx with rfl | hx
      · exact ⟨rfl, hdvd⟩
      · exact ⟨(i1 x hx).1, hdvd⟩
    · simp only [prodI]
      rw [Int.mul_assoc, i2, Int.mul_comm]; exact h3
    · exact Int.dvd_trans i3 ⟨p, h3.symm⟩
  | case2 n h =>
    rw [strip, dif_neg h]
    refine ⟨by simp, by simp [prodI], Int.dvd_refl _, fun h1 h2 hd => h ⟨h1, h2, Int.emod_eq_zero_of_dvd hd⟩⟩
theorem prm_of_rough {p n : Int} (hp : 2 ≤ p) (hr : Rough p n) (hd : p ∣ n) : Prm p := ⟨hp, fun d h1 h2 h3 => hr d h1 h2 (Int.dvd_trans h3 hd)⟩
theorem prm_of_square {p n : Int} (hp : 2 ≤ p) (hn : 1 < n) (hr : Rough p n) (h : ¬ p * p ≤ n) : Prm n := by
  refine ⟨by omega, fun d h1 h2 ⟨e, he⟩ => ?_⟩
  have he1 : 2 ≤ e := by
    rcases Int.lt_or_le e 2 with s | s
    · have : d * e ≤ d * 1 := Int.mul_le_mul_of_nonneg_left (by omega) (by omega)
      omega
    · exact s
  have hd : p ≤ d := by
    rcases Int.lt_or_le d p with s | s
    · exact absurd ⟨e, he⟩ (hr d h1 s)
    · exact s
  have hep : p ≤ e := by
    rcases Int.lt_or_le e p with s | s
    · exact absurd ⟨d, by rw [he, Int.mul_comm]⟩ (hr e he1 s)
    · exact s
  have : p * p ≤ d * e := Int.mul_le_mul hd hep (by omega) (by omega)
  omega
theorem fac_all (p n : Int) (hp : 2 ≤ p) (hn : 1 ≤ n) (hr : Rough p n) : prodI (fac p n) = n ∧ (∀ x ∈ fac p n, p ≤ x ∧ Prm x) ∧ (fac p n).Pairwise (· ≤ ·) := by
  induction p, n using fac.induct with
  | case1 p n h ih =>
    obtain ⟨s1, s2, s3, s4⟩ := strip_all p n
    have sb := strip_bd p n hn
    have hr' : Rough (p + 1) (strip p n).2 := fun d h1 h2 h3 => by
      by_cases e : d = p
      · subst e; exact s4 hp hn h3
      · exact hr d h1 (by omega) (Int.dvd_trans h3 s3)
    obtain ⟨i1, i2, i3⟩ := ih (by omega) sb.1 hr'
    rw [fac_go p n hp h.2]
    refine ⟨by rw [prodI_append, i1]; exact s2, fun x hx => ?_, ?_⟩
    · rcases List.mem_append.1 hx with hx | hx
      · obtain ⟨rfl, hd⟩ := s1 x hx
        exact ⟨by omega, prm_of_rough hp hr hd⟩
      · have := i2 x hx
        exact ⟨by omega, this.2⟩
    · rw [List.pairwise_append]
      refine ⟨?_, i3, fun x hx y hy => ?_⟩
      · have h2 : ∀ x ∈ (strip p n).1, x = p := fun x hx => (s1 x hx).1
        have h3 : (strip p n).1 = List.replicate (strip p n).1.length p := List.eq_replicate_iff.2 ⟨rfl, h2⟩
        rw [h3]
        exact List.pairwise_replicate.2 (Or.inr (Int.le_refl _))
      · have := (s1 x hx).1
        have := (i2 y hy).1
        omega
  | case2 p n h h1 =>
    have h' : ¬ p * p ≤ n := fun c => h ⟨hp, c⟩
    rw [fac_end p n h', if_pos h1]
    refine ⟨by simp [prodI], fun x hx => ?_, List.pairwise_singleton _ _⟩
    simp only [List.mem_singleton] at hx
    subst hx
    refine ⟨?_, prm_of_square hp h1 hr h'⟩
    rcases Int.lt_or_le x p with s | s
    · exact absurd (Int.dvd_refl x) (hr x (by omega) s)
    · exact s
  | case3 p n h h1 =>
    have h' : ¬ p * p ≤ n := fun c => h ⟨hp, c⟩
    rw [fac_end p n h', if_neg h1]
    exact ⟨by simp [prodI]; omega, by simp, List.Pairwise.nil⟩
theorem rough_two (n : Int) : Rough 2 n := fun d h1 h2 => by omega
/-- A prime is its only prime factor. -/
theorem dvd_of_mem_prodI {x : Int} {xs : List Int} (h : x ∈ xs) : x ∣ prodI xs := by
  induction xs with
  | nil => simp at h
  | cons y ys ih =>
    simp only [prodI]
    rcases List.mem_cons.1 h with rfl | h
    · exact Int.dvd_mul_right _ _
    · exact Int.dvd_trans (ih h) (Int.dvd_mul_left _ _)
theorem prodI_pos {xs : List Int} (h : ∀ x ∈ xs, 1 ≤ x) : 1 ≤ prodI xs := by
  induction xs with
  | nil => simp [prodI]
  | cons y ys ih =>
    simp only [prodI]
    exact Int.mul_pos (by have := h y (by simp); omega) (by have := ih fun x hx => h x (by simp [hx]); omega)
theorem fac_prm {q : Int} (h : Prm q) : fac 2 q = [q] := by
  obtain ⟨h1, h2⟩ := h
  obtain ⟨f1, f2, f3⟩ := fac_all 2 q (by omega) (by omega) (rough_two q)
  cases hf : fac 2 q with
  | nil => rw [hf] at f1; simp [prodI] at f1; omega
  | cons x xs =>
    rw [hf] at f1 f2
    have hx := (f2 x (by simp)).1
    have hd : x ∣ q := by rw [← f1]; exact dvd_of_mem_prodI (by simp)
    have hxq : x = q := by
      have := Int.le_of_dvd (by omega) hd
      rcases Int.lt_or_le x q with s | s
      · exact absurd hd (h2 x hx s)
      · omega
    subst hxq
    cases xs with
    | nil => rfl
    | cons y ys =>
      exfalso
      simp only [prodI] at f1
      have hy := (f2 y (by simp)).1
      have hp : 1 ≤ prodI ys := prodI_pos fun z hz => by have := (f2 z (by simp [hz])).1; omega
      have e1 : 2 * 1 ≤ y * prodI ys := Int.mul_le_mul hy hp (by omega) (by omega)
      have e2 : x * 2 ≤ x * (y * prodI ys) := Int.mul_le_mul_of_nonneg_left (by omega) (by omega)
      omega
theorem prm_iff {n : Int} (hn : 1 ≤ n) : (fac 2 n).length = 1 ↔ Prm n := by
  constructor
  · intro h
    obtain ⟨f1, f2, f3⟩ := fac_all 2 n (by omega) hn (rough_two n)
    obtain ⟨x, hx⟩ := List.length_eq_one_iff.1 h
    rw [hx] at f1 f2
    simp only [prodI, Int.mul_one] at f1
    subst f1
    exact (f2 x (by simp)).2
  · intro h; rw [fac_prm h]; rfl
/-- One prime more: what was made last is multiplied once more, or all of it. -/
def divStep (s : List Int × Int × Nat) (p : Int) : List Int × Int × Nat :=
  let made := (s.1.drop (if p = s.2.1 then s.1.length - s.2.2 else 0)).map (· * p)
  (s.1 ++ made, p, made.length)
/-- The list holds the divisors of m = m0 * last; those behind are the ones that do not divide m0. -/
def DivInv (s : List Int × Int × Nat) (m m0 : Int) : Prop :=
  1 ≤ m ∧ (∀ x, x ∈ s.1 ↔ 1 ≤ x ∧ x ∣ m) ∧ s.1.Nodup ∧ s.2.2 ≤ s.1.length ∧ (2 ≤ s.2.1 → m0 * s.2.1 = m ∧ ∀ x, x ∈ s.1.drop (s.1.length - s.2.2) ↔ 1 ≤ x ∧ x ∣ m ∧ ¬ x ∣ m0)
theorem prm_coprime {p y : Int} (hp : Prm p) (h : ¬ p ∣ y) : Int.gcd p y = 1 := by
  obtain ⟨h1, h2⟩ := hp
  have g1 : (Int.gcd p y : Int) ∣ p := Int.gcd_dvd_left ..
  have g2 : (Int.gcd p y : Int) ∣ y := Int.gcd_dvd_right ..
  have g0 : 0 < Int.gcd p y := Int.gcd_pos_of_ne_zero_left y (by omega)
  rcases Nat.lt_or_ge (Int.gcd p y) 2 with s | s
  · omega
  · exfalso
    have hle := Int.le_of_dvd (by omega) g1
    rcases Int.lt_or_le (Int.gcd p y : Int) p with t | t
    · exact h2 _ (by omega) t g1
    · have e : (Int.gcd p y : Int) = p := by omega
      rw [e] at g2; exact h g2
theorem dvd_new {p y m : Int} (hp : Prm p) (h1 : y ∣ m * p) (h2 : ¬ y ∣ m) : ∃ x, y = x * p ∧ x ∣ m := by
  have hd : p ∣ y := by
    rcases Classical.em (p ∣ y) with h | h
    · exact h
    · exfalso
      have hg := prm_coprime hp h
      exact h2 (dvd_cancelD (p := p) (q := y) hg (by rw [Int.mul_comm]; exact h1))
  obtain ⟨x, hx⟩ := hd
  refine ⟨x, by rw [hx, Int.mul_comm], ?_⟩
  obtain ⟨k, hk⟩ := h1
  refine ⟨k, ?_⟩
  have : m * p = x * k * p := by rw [hk, hx]; grind
  exact Int.eq_of_mul_eq_mul_right (by have := hp.1; omega) this
theorem mul_dvd_cancel {x m p : Int} (hp : 2 ≤ p) (h : x * p ∣ m * p) : x ∣ m := by
  obtain ⟨k, hk⟩ := h
  refine ⟨k, Int.eq_of_mul_eq_mul_right (show p ≠ 0 by omega) (by rw [hk]; grind)⟩
theorem div_step {s : List Int × Int × Nat} {m m0 p : Int} (h : DivInv s m m0) (hp : Prm p) (hn : p = s.2.1 ∨ ¬ p ∣ m) : DivInv (divStep s p) (m * p) m := by
  obtain ⟨h1, h2, h3, h4, h5⟩ := h
  have hp2 := hp.1
  obtain ⟨old, hold⟩ : ∃ old, old = s.1.drop (if p = s.2.1 then s.1.length - s.2.2 else 0) := ⟨_, rfl⟩
  have ho1 : ∀ x ∈ old, x ∈ s.1 := fun x hx => by rw [hold] at hx; exact List.mem_of_mem_drop hx
  have hond : old.Nodup := by rw [hold]; exact h3.sublist (List.drop_sublist _ _)
  have ho2 : ∀ x, x ∈ old ↔ 1 ≤ x ∧ x ∣ m ∧ ¬ x * p ∣ m := fun x => by
    by_cases e : p = s.2.1
    · obtain ⟨k1, k2⟩ := h5 (by omega)
      rw [hold, if_pos e, k2 x]
      rw [← e] at k1
      rw [← k1]
      constructor
      · rintro ⟨a, b, c⟩; exact ⟨a, b, fun d => c (mul_dvd_cancel hp2 d)⟩
      · rintro ⟨a, b, c⟩; exact ⟨a, b, fun d => c (Int.mul_dvd_mul_right p d)⟩
    · rw [hold, if_neg e, List.drop_zero, h2 x]
      rcases hn with hn | hn
      · exact absurd hn e
      · constructor
        · rintro ⟨a, b⟩; exact ⟨a, b, fun d => hn (Int.dvd_trans (Int.dvd_mul_left _ _) d)⟩
        · rintro ⟨a, b, _⟩; exact ⟨a, b⟩
  have hmade : ∀ y, y ∈ old.map (· * p) ↔ 1 ≤ y ∧ y ∣ m * p ∧ ¬ y ∣ m := fun y => by
    rw [List.mem_map]
    constructor
    · rintro ⟨x, hx, rfl⟩
      obtain ⟨a, b, c⟩ := (ho2 x).1 hx
      exact ⟨by have := Int.mul_pos (show 0 < x by omega) (show 0 < p by omega); omega, Int.mul_dvd_mul_right p b, c⟩
    · rintro ⟨a, b, c⟩
      obtain ⟨x, rfl, hx⟩ := dvd_new hp b c
      refine ⟨x, (ho2 x).2 ⟨?_, hx, c⟩, rfl⟩
      have : 0 * p < x * p := by omega
      have := Int.lt_of_mul_lt_mul_right this (by omega)
      omega
  have hmnd : (old.map (· * p)).Nodup := by
    unfold List.Nodup
    rw [List.pairwise_map]
    exact List.Pairwise.imp (fun hne e => hne (Int.eq_of_mul_eq_mul_right (show p ≠ 0 by omega) e)) hond
  have e0 : divStep s p = (s.1 ++ old.map (· * p), p, (old.map (· * p)).length) := by rw [hold]; rfl
  rw [e0]
  refine ⟨?_, fun x => ?_, ?_, ?_, fun _ => ⟨rfl, fun x => ?_⟩⟩
  · have := Int.mul_pos (show 0 < m by omega) (show 0 < p by omega); omega
  · simp only [List.mem_append, hmade x, h2 x]
    constructor
    · rintro (⟨a, b⟩ | ⟨a, b, _⟩)
      · exact ⟨a, Int.dvd_trans b (Int.dvd_mul_right _ _)⟩
      · exact ⟨a, b⟩
    · rintro ⟨a, b⟩
      rcases Classical.em (x ∣ m) with c | c
      · exact .inl ⟨a, c⟩
      · exact .inr ⟨a, b, c⟩
  · unfold List.Nodup
    rw [List.pairwise_append]
    refine ⟨h3, hmnd, fun x hx y hy e => ?_⟩
    subst e
    exact ((hmade x).1 hy).2.2 ((h2 x).1 hx).2
  · simp
  · simp only [List.length_append, Nat.add_sub_cancel, List.drop_left]
    exact hmade x
theorem div_go {ps : List Int} : ∀ {s : List Int × Int × Nat} {m m0 : Int}, DivInv s m m0 → (∀ q ∈ ps, Prm q) → ps.Pairwise (· ≤ ·) → (∀ q ∈ ps, q = s.2.1 ∨ ¬ q ∣ m) → (∀ q ∈ ps, s.2.1 ≤ q) → ∃ m0', DivInv (ps.foldl divStep s) (m * prodI ps) m0' := by
  induction ps with
  | nil => intro s m m0 h _ _ _ _; exact ⟨m0, by simpa [prodI] using h⟩
  | cons p ps ih =>
    intro s m m0 h h1 h2 h3 h7
    have hp := h1 p (by simp)
    have h4 := div_step h hp (h3 p (by simp))
    have h5 := List.pairwise_cons.1 h2
    obtain ⟨m0', h6⟩ := ih h4 (fun q hq => h1 q (by simp [hq])) h5.2 (fun q hq => by
      by_cases e : q = p
      · exact .inl e
      · refine .inr fun hd => ?_
        have hq' := h1 q (by simp [hq])
        have hle := h5.1 q hq
        have hpq : Int.gcd q p = 1 := prm_coprime hq' (fun d => by
          have := Int.le_of_dvd (by have := hp.1; omega) d
          omega)
        have hqm : q ∣ m := dvd_cancelD (p := p) (q := q) (by rw [Int.gcd_comm]; exact hpq) (by rw [Int.mul_comm]; exact hd)
        rcases h3 q (by simp [hq]) with e2 | e2
        · have := h7 p (by simp)
          omega
        · exact e2 hqm) (fun q hq => h5.1 q hq)
    refine ⟨m0', ?_⟩
    simp only [List.foldl_cons, prodI]
    rw [← Int.mul_assoc]
    exact h6
/-- What the program lays before it sorts. -/
def divRaw (n : Int) : List Int := ((fac 2 n).foldl divStep ([1], 0, 0)).1
theorem divRaw_spec {n : Int} (hn : 1 ≤ n) : (∀ x, x ∈ divRaw n ↔ 1 ≤ x ∧ x ∣ n) ∧ (divRaw n).Nodup := by
  obtain ⟨f1, f2, f3⟩ := fac_all 2 n (by omega) hn (rough_two n)
  have h0 : DivInv ([1], 0, 0) 1 0 := by
    refine ⟨by omega, fun x => ?_, by simp, by simp, fun h => by simp at h⟩
    simp only [List.mem_singleton]
    constructor
    · rintro rfl; exact ⟨by omega, Int.dvd_refl _⟩
    · rintro ⟨a, b⟩
      have := Int.le_of_dvd (by omega) b
      omega
  obtain ⟨m0, h⟩ := div_go (ps := fac 2 n) h0 (fun q hq => (f2 q hq).2) f3 (fun q hq => .inr fun d => by
    have := (f2 q hq).1
    have := Int.le_of_dvd (by omega) d
    omega) (fun q hq => by have := (f2 q hq).1; simp; omega)
  rw [Int.one_mul, f1] at h
  exact ⟨h.2.1, h.2.2.1⟩

/-- The reference's lists: the divisors from 1 to k, and what they leave of n. -/
def lowD (n : Int) (k : Nat) : List Int := ((List.range k).map fun i => ((i + 1 : Nat) : Int)).filter fun d => decide (n % d = 0)
def highD (n : Int) (k : Nat) : List Int := ((lowD n k).filter fun d => decide (d * d < n)).map fun d => n / d
theorem lowD_succ (n : Int) (k : Nat) : lowD n (k + 1) = lowD n k ++ (if n % ((k + 1 : Nat) : Int) = 0 then [((k + 1 : Nat) : Int)] else []) := by
  unfold lowD
  rw [List.range_succ, List.map_append, List.filter_append]
  congr 1
  by_cases h : n % ((k + 1 : Nat) : Int) = 0
  · rw [if_pos h]; simp only [List.map_cons, List.map_nil, List.filter_cons, List.filter_nil, h, decide_true, if_true]
  · rw [if_neg h]; simp only [List.map_cons, List.map_nil, List.filter_cons, List.filter_nil, h, decide_false, Bool.false_eq_true, if_false]
theorem lowD_yes {n : Int} {k : Nat} (h : n % ((k + 1 : Nat) : Int) = 0) : lowD n (k + 1) = lowD n k ++ [((k + 1 : Nat) : Int)] := by rw [lowD_succ, if_pos h]
theorem lowD_no {n : Int} {k : Nat} (h : ¬ n % ((k + 1 : Nat) : Int) = 0) : lowD n (k + 1) = lowD n k := by rw [lowD_succ, if_neg h, List.append_nil]
theorem highD_no {n : Int} {k : Nat} (h : ¬ n % ((k + 1 : Nat) : Int) = 0) : highD n (k + 1) = highD n k := by unfold highD; rw [lowD_no h]
theorem highD_yes {n : Int} {k : Nat} (h : n % ((k + 1 : Nat) : Int) = 0) (h2 : ((k + 1 : Nat) : Int) * ((k + 1 : Nat) : Int) < n) : highD n (k + 1) = highD n k ++ [n / ((k + 1 : Nat) : Int)] := by
  unfold highD; rw [lowD_yes h, List.filter_append, List.map_append]
  congr 1
  simp only [List.filter_cons, h2, decide_true, if_true, List.filter_nil, List.map_cons, List.map_nil]
theorem highD_mid {n : Int} {k : Nat} (h : n % ((k + 1 : Nat) : Int) = 0) (h2 : ¬ ((k + 1 : Nat) : Int) * ((k + 1 : Nat) : Int) < n) : highD n (k + 1) = highD n k := by
  unfold highD; rw [lowD_yes h, List.filter_append, List.map_append]
  simp only [List.filter_cons, h2, decide_false, List.filter_nil, List.map_nil, List.append_nil]
  simp
theorem mem_lowD {n : Int} {k : Nat} {x : Int} : x ∈ lowD n k ↔ (1 ≤ x ∧ x ≤ k) ∧ x ∣ n := by
  unfold lowD
  simp only [List.mem_filter, List.mem_map, List.mem_range, decide_eq_true_eq]
  constructor
  · rintro ⟨⟨i, hi, rfl⟩, h⟩
    exact ⟨by omega, Int.dvd_of_emod_eq_zero h⟩
  · rintro ⟨⟨h1, h2⟩, h3⟩
    exact ⟨⟨(x - 1).toNat, by omega, by omega⟩, Int.emod_eq_zero_of_dvd h3⟩
theorem lowD_sorted (n : Int) (k : Nat) : (lowD n k).Pairwise (· < ·) := by
  unfold lowD
  apply List.Pairwise.filter
  rw [List.pairwise_map]
  exact List.Pairwise.imp (fun h => by omega) List.pairwise_lt_range
/-- All divisors, in ascending order. -/
def divAll (n : Int) (k : Nat) : List Int := lowD n k ++ (highD n k).reverse
theorem divAll_spec {n : Int} {k : Nat} (hn : 1 ≤ n) (h1 : (k : Int) * k ≤ n) (h2 : n < ((k + 1 : Nat) : Int) * ((k + 1 : Nat) : Int)) : (∀ x, x ∈ divAll n k ↔ 1 ≤ x ∧ x ∣ n) ∧ (divAll n k).Pairwise (· < ·) := by
  have hhi : ∀ y, y ∈ highD n k ↔ (k : Int) < y ∧ y ∣ n := fun y => by
    unfold highD
    simp only [List.mem_map, List.mem_filter, mem_lowD, decide_eq_true_eq]
    constructor
    · rintro ⟨d, ⟨⟨⟨a, b⟩, c⟩, e⟩, rfl⟩
      have hm : n / d * d = n := Int.ediv_mul_cancel c
      have hdv : n / d ∣ n := ⟨d, hm.symm⟩
      refine ⟨?_, hdv⟩
      rcases Int.lt_or_le (k : Int) (n / d) with s | s
      · exact s
      · exfalso
        have g1 : d < n / d := by
          rcases Int.lt_or_le d (n / d) with t | t
          · exact t
          · have : n / d * d ≤ d * d := Int.mul_le_mul_of_nonneg_right t (by omega)
            omega
        have g2 : n / d * d < (k : Int) * k := by
          have t1 : n / d * d ≤ k * d := Int.mul_le_mul_of_nonneg_right s (by omega)
          have t2 : (k : Int) * d < k * k := Int.mul_lt_mul_of_pos_left (by omega) (by omega)
          omega
        omega
    · rintro ⟨a, c⟩
      have hm : n / y * y = n := Int.ediv_mul_cancel c
      have hq : 1 ≤ n / y := by
        rcases Int.lt_or_le 0 (n / y) with s | s
        · omega
        · have : n / y * y ≤ 0 * y := Int.mul_le_mul_of_nonneg_right s (by omega)
          omega
      have hk : n / y ≤ k := by
        rcases Int.lt_or_le (k : Int) (n / y) with s | s
        · exfalso
          have : ((k + 1 : Nat) : Int) * ((k + 1 : Nat) : Int) ≤ n / y * y := Int.mul_le_mul (by omega) (by omega) (by omega) (by omega)
          omega
        · exact s
      refine ⟨n / y, ⟨⟨⟨hq, hk⟩, ⟨y, hm.symm⟩⟩, ?_⟩, ?_⟩
      · have : n / y * (n / y) < n / y * y := Int.mul_lt_mul_of_pos_left (by omega) (by omega)
        omega
      · have : n / (n / y) = y := Int.ediv_eq_of_eq_mul_right (by omega) hm.symm
        exact this
  have hsort : (highD n k).Pairwise (fun a b => b < a) := by
    unfold highD
    rw [List.pairwise_map]
    have hp : ((lowD n k).filter fun d => decide (d * d < n)).Pairwise (· < ·) := (lowD_sorted n k).filter _
    refine List.Pairwise.imp_of_mem (fun {a b} ha hb hab => ?_) hp
    have ha' := mem_lowD.1 (List.mem_filter.1 ha).1
    have hb' := mem_lowD.1 (List.mem_filter.1 hb).1
    have e1 : n / a * a = n := Int.ediv_mul_cancel ha'.2
    have e2 : n / b * b = n := Int.ediv_mul_cancel hb'.2
    rcases Int.lt_or_le (n / b) (n / a) with s | s
    · exact s
    · exfalso
      have hqa : 1 ≤ n / a := by
        rcases Int.lt_or_le 0 (n / a) with s | s
        · omega
        · have : n / a * a ≤ 0 * a := Int.mul_le_mul_of_nonneg_right s (by omega)
          omega
      have t1 : n / a * a < n / a * b := Int.mul_lt_mul_of_pos_left hab (by omega)
      have t2 : n / a * b ≤ n / b * b := Int.mul_le_mul_of_nonneg_right s (by omega)
      omega
  refine ⟨fun x => ?_, ?_⟩
  · unfold divAll
    simp only [List.mem_append, List.mem_reverse, hhi x, mem_lowD]
    constructor
    · rintro (⟨⟨a, b⟩, c⟩ | ⟨a, b⟩)
      · exact ⟨a, c⟩
      · exact ⟨by omega, b⟩
    · rintro ⟨a, b⟩
      rcases Int.lt_or_le (k : Int) x with s | s
      · exact .inr ⟨s, b⟩
      · exact .inl ⟨⟨a, s⟩, b⟩
  · unfold divAll
    rw [List.pairwise_append]
    refine ⟨lowD_sorted n k, List.pairwise_reverse.2 hsort, fun x hx y hy => ?_⟩
    have g1 := (mem_lowD.1 hx).1.2
    have g2 := ((hhi y).1 (List.mem_reverse.1 hy)).1
    omega
/-- Two ascending lists with the same members are equal. -/
theorem sorted_eq : ∀ {xs ys : List Int}, xs.Pairwise (· < ·) → ys.Pairwise (· < ·) → (∀ x, x ∈ xs ↔ x ∈ ys) → xs = ys
  | [], [], _, _, _ => rfl
  | [], y :: ys, _, _, h => by have := (h y).2 (by simp); simp at this
  | x :: xs, [], _, _, h => by have := (h x).1 (by simp); simp at this
  | x :: xs, y :: ys, h1, h2, h => by
    have a1 := List.pairwise_cons.1 h1
    have a2 := List.pairwise_cons.1 h2
    have e : x = y := by
      have k1 := (h x).1 (by simp)
      have k2 := (h y).2 (by simp)
      rcases List.mem_cons.1 k1 with e | m1
      · exact e
      · rcases List.mem_cons.1 k2 with e | m2
        · exact e.symm
        · have := a1.1 y m2
          have := a2.1 x m1
          omega
    subst e
    have : xs = ys := sorted_eq a1.2 a2.2 fun z => by
      constructor
      · intro hz
        have := a1.1 z hz
        rcases List.mem_cons.1 ((h z).1 (by simp [hz])) with e | m
        · omega
        · exact m
      · intro hz
        have := a2.1 z hz
        rcases List.mem_cons.1 ((h z).2 (by simp [hz])) with e | m
        · omega
        · exact m
    rw [this]
/-- Where the raw list is brought into ascending order, it is the reference's. -/
theorem div_same {n : Int} {k : Nat} {xs : List Int} (hn : 1 ≤ n) (h1 : (k : Int) * k ≤ n) (h2 : n < ((k + 1 : Nat) : Int) * ((k + 1 : Nat) : Int)) (hp : xs.Perm (divRaw n)) (hs : xs.Pairwise (· ≤ ·)) : xs = divAll n k := by
  obtain ⟨r1, r2⟩ := divRaw_spec hn
  obtain ⟨d1, d2⟩ := divAll_spec hn h1 h2
  have hnd : xs.Nodup := hp.nodup_iff.2 r2
  refine sorted_eq ?_ d2 fun x => by rw [hp.mem_iff, r1, d1]
  have := hs.and hnd
  exact this.imp fun ⟨a, b⟩ => by omega
end Go.Proofs.Ythagogjklocmoaa
