/-
  The law of prime factors and divisors: what it asks, in plain Lean.
-/
import Derived.Test.YtnfllflifmijeaaDivQ
namespace Go.Proofs.Ytnfllflifmijeaa
open Go.RowKit

theorem fac_elem {n : Int} (h1 : 1 ≤ n) (h2 : n ≤ 1000000000) {i : Nat} (hi : i < (fac 2 n).length) : 2 ≤ (fac 2 n).getD i 0 ∧ (fac 2 n).getD i 0 ≤ n ∧ isPrimeB ((fac 2 n).getD i 0) = true := by
  obtain ⟨hp, hm, _⟩ := fac_all 2 n (by decide) h1 (rough_two n)
  have e : (fac 2 n).getD i 0 = (fac 2 n)[i] := by rw [List.getD_eq_getElem?_getD, List.getElem?_eq_getElem hi]; rfl
  have hmem : (fac 2 n).getD i 0 ∈ fac 2 n := by rw [e]; exact List.getElem_mem hi
  obtain ⟨q, hq⟩ : ∃ q, q = (fac 2 n).getD i 0 := ⟨_, rfl⟩
  rw [← hq] at hmem ⊢
  obtain ⟨g1, g2⟩ := hm q hmem
  have hd := dvd_of_mem_prodI hmem
  rw [hp] at hd
  have hle : q ≤ n := Int.le_of_dvd (by omega) hd
  refine ⟨g1, hle, ?_⟩
  unfold isPrimeB both
  have hl := (prm_iff (n := q) (by omega)).mpr g2
  rw [inR_mk (show 2 ≤ q ∧ q ≤ 1000000000 by omega), hl]
  rfl
theorem fac_prefix {n : Int} (h1 : 1 ≤ n) (i : Nat) : 1 ≤ prodI ((fac 2 n).take i) ∧ prodI ((fac 2 n).take i) ≤ n := by
  obtain ⟨hp, hm, _⟩ := fac_all 2 n (by decide) h1 (rough_two n)
  have a1 : 1 ≤ prodI ((fac 2 n).take i) := prodI_pos fun x hx => by have := (hm x (List.mem_of_mem_take hx)).1; omega
  have a2 : 1 ≤ prodI ((fac 2 n).drop i) := prodI_pos fun x hx => by have := (hm x (List.mem_of_mem_drop hx)).1; omega
  have e : prodI ((fac 2 n).take i) * prodI ((fac 2 n).drop i) = n := by rw [← prodI_append, List.take_append_drop, hp]
  refine ⟨a1, ?_⟩
  have := Int.mul_le_mul_of_nonneg_left a2 (show 0 ≤ prodI ((fac 2 n).take i) by omega)
  rw [e] at this
  omega
theorem fac_step {n : Int} {i : Nat} (hi : i < (fac 2 n).length) : prodI ((fac 2 n).take (i + 1)) = prodI ((fac 2 n).take i) * (fac 2 n).getD i 0 := by
  rw [List.take_succ_eq_append_getElem hi, prodI_append]
  have e : (fac 2 n).getD i 0 = (fac 2 n)[i] := by rw [List.getD_eq_getElem?_getD, List.getElem?_eq_getElem hi]; rfl
  rw [e]
  simp [prodI]
theorem fac_rise {n : Int} (h1 : 1 ≤ n) {i : Nat} (hi : i + 1 < (fac 2 n).length) : (fac 2 n).getD i 0 ≤ (fac 2 n).getD (i + 1) 0 := by
  obtain ⟨_, _, hs⟩ := fac_all 2 n (by decide) h1 (rough_two n)
  have := List.pairwise_iff_getElem.mp hs i (i + 1) (by omega) hi (by omega)
  rw [List.getD_eq_getElem?_getD, List.getElem?_eq_getElem (by omega), List.getD_eq_getElem?_getD, List.getElem?_eq_getElem hi]
  exact this
theorem fac_whole {n : Int} (h1 : 1 ≤ n) : prodI ((fac 2 n).take (fac 2 n).length) = n := by
  rw [List.take_length]; exact (fac_all 2 n (by decide) h1 (rough_two n)).1
theorem isPrime_len {n : Int} (h1 : 1 ≤ n) (h2 : n ≤ 1000000000) : isPrimeB n = ((((fac 2 n).length : Int)) == 1) := by
  unfold isPrimeB both
  by_cases e : n = 1
  · subst e; rw [fac_one]; rfl
  · rw [inR_mk (show 2 ≤ n ∧ n ≤ 1000000000 by omega)]; rfl
theorem divL_spec {n : Int} {L : List Int} (h1 : 1 ≤ n) (h : DivL n L) : (∀ x, x ∈ L ↔ 1 ≤ x ∧ x ∣ n) ∧ L.Pairwise (· < ·) := by
  obtain ⟨k, a, b, rfl⟩ := h
  exact divAll_spec h1 a b
theorem div_back {n d : Int} (h1 : 1 ≤ n) (hd : 1 ≤ d) (h : d ∣ n) : 1 ≤ n / d ∧ n / d ∣ n ∧ d * (n / d) = n ∧ n / (n / d) = d := by
  obtain ⟨k, rfl⟩ := h
  have hk : 1 ≤ k := by
    rcases Int.lt_or_le 0 k with s | s
    · omega
    · have := Int.mul_le_mul_of_nonneg_left s (show 0 ≤ d by omega)
      rw [Int.mul_zero] at this
      omega
  rw [Int.mul_ediv_cancel_left k (by omega)]
  exact ⟨hk, Int.dvd_mul_left d k, rfl, Int.mul_ediv_cancel d (by omega)⟩
theorem div_anti {n d e : Int} (h1 : 1 ≤ n) (hd : 1 ≤ d) (hde : d < e) (h2 : e ∣ n) (h3 : d ∣ n) : n / e < n / d := by
  obtain ⟨_, _, a3, _⟩ := div_back h1 hd h3
  obtain ⟨b1, _, b3, _⟩ := div_back h1 (show 1 ≤ e by omega) h2
  rcases Int.lt_or_le (n / e) (n / d) with s | s
  · exact s
  · exfalso
    have q1 := Int.mul_le_mul_of_nonneg_left s (show 0 ≤ d by omega)
    have q2 := Int.mul_lt_mul_of_pos_right hde (show 0 < n / e by omega)
    omega
theorem divL_mirror {n : Int} {L : List Int} (h1 : 1 ≤ n) (h : DivL n L) : (L.map (n / ·)).reverse = L := by
  obtain ⟨hm, hs⟩ := divL_spec h1 h
  refine sorted_eq ?_ hs fun y => ?_
  · rw [List.pairwise_reverse, List.pairwise_map]
    refine (List.Pairwise.and_mem.mp hs).imp ?_
    intro a b hab
    obtain ⟨ma, mb, hlt⟩ := hab
    have qa := (hm a).mp ma
    have qb := (hm b).mp mb
    exact div_anti h1 qa.1 hlt qb.2 qa.2
  · rw [List.mem_reverse, List.mem_map]
    constructor
    · rintro ⟨d, hd, rfl⟩
      have q := (hm d).mp hd
      have := div_back h1 q.1 q.2
      exact (hm _).mpr ⟨this.1, this.2.1⟩
    · intro hy
      have q := (hm y).mp hy
      have b := div_back h1 q.1 q.2
      exact ⟨n / y, (hm _).mpr ⟨b.1, b.2.1⟩, b.2.2.2⟩
theorem divL_elem {n : Int} {L : List Int} (h1 : 1 ≤ n) (h : DivL n L) {i : Nat} (hi : i < L.length) : 1 ≤ L.getD i 0 ∧ L.getD i 0 ≤ n ∧ L.getD i 0 * L.getD (L.length - 1 - i) 0 = n := by
  obtain ⟨hm, hs⟩ := divL_spec h1 h
  have e1 : L.getD i 0 = L[i] := by rw [List.getD_eq_getElem?_getD, List.getElem?_eq_getElem hi]; rfl
  have q := (hm L[i]).mp (List.getElem_mem hi)
  have hj : L.length - 1 - i < L.length := by omega
  have e2 : L.getD (L.length - 1 - i) 0 = n / L[i] := by
    have hmi := divL_mirror h1 h
    have e3 : L[L.length - 1 - i] = ((L.map (n / ·)).reverse)[L.length - 1 - i]'(by simpa using hj) := by simp only [hmi]
    rw [List.getD_eq_getElem?_getD, List.getElem?_eq_getElem hj, Option.getD_some, e3, List.getElem_reverse, List.getElem_map]
    congr 2
    simp only [List.length_map]
    omega
  rw [e1, e2]
  exact ⟨q.1, Int.le_of_dvd (by omega) q.2, (div_back h1 q.1 q.2).2.2.1⟩
theorem divL_rise {n : Int} {L : List Int} (h1 : 1 ≤ n) (h : DivL n L) {i : Nat} (hi : i + 1 < L.length) : L.getD i 0 < L.getD (i + 1) 0 := by
  obtain ⟨_, hs⟩ := divL_spec h1 h
  have := List.pairwise_iff_getElem.mp hs i (i + 1) (by omega) hi (by omega)
  rw [List.getD_eq_getElem?_getD, List.getElem?_eq_getElem (by omega), List.getD_eq_getElem?_getD, List.getElem?_eq_getElem hi]
  exact this
theorem divL_pos {n : Int} {L : List Int} (h1 : 1 ≤ n) (h : DivL n L) : 1 ≤ L.length := by
  obtain ⟨hm, _⟩ := divL_spec h1 h
  have : (1 : Int) ∈ L := (hm 1).mpr ⟨by decide, Int.one_dvd n⟩
  have := List.length_pos_of_mem this
  omega
end Go.Proofs.Ytnfllflifmijeaa
