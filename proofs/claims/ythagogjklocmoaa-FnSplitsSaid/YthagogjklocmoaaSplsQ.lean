/-
  Splits: what the laws ask, in plain Lean.
-/
import Derived.Test.YthagogjklocmoaaSplsS
import Derived.Test.YthagogjklocmoaaSplsN
import Derived.Test.YthagogjklocmoaaRowsM
namespace Go.Proofs.Ythagogjklocmoaa
open Go.RowKit

def RowOk (c : Nat) (n low high : Int) (r : List Int) : Prop := r.length = c ∧ prodI r = n ∧ (∀ x ∈ r, low ≤ x ∧ x ≤ high) ∧ r.Pairwise (· ≤ ·)
theorem allS_row {D : List Int} {high : Int} (hD : ∀ d ∈ D, 1 ≤ d) : ∀ (c : Nat) (n low : Int), 1 ≤ n → ∀ r ∈ allS D high c n low, RowOk c n low high r
  | 0, n, low, _, r, hr => by cases hr
  | 1, n, low, _, r, hr => by
    rw [allS_one] at hr
    by_cases h : low ≤ n ∧ n ≤ high
    · rw [if_pos h, List.mem_singleton] at hr
      subst hr
      exact ⟨rfl, by simp [prodI], fun x hx => by rw [List.mem_singleton.1 hx]; exact h, by simp⟩
    · rw [if_neg h] at hr
      cases hr
  | c + 2, n, low, hn, r, hr => by
    rw [allS_two, List.mem_flatMap] at hr
    obtain ⟨d, hd, hr⟩ := hr
    unfold oneS at hr
    by_cases h : low ≤ d ∧ d ≤ high ∧ n % d = 0
    · rw [if_pos h, List.mem_map] at hr
      obtain ⟨r', hr', rfl⟩ := hr
      have hd1 := hD d hd
      have hdv : d ∣ n := Int.dvd_of_emod_eq_zero h.2.2
      have p1 := Int.ediv_pos_of_pos_of_dvd (by omega : 0 < n) (by omega) hdv
      obtain ⟨e1, e2, e3, e4⟩ := allS_row hD (c + 1) (n / d) d (by omega) r' hr'
      refine ⟨by rw [List.length_cons, e1], ?_, fun x hx => ?_, ?_⟩
      · show d * prodI r' = n
        rw [e2, Int.mul_ediv_cancel' hdv]
      · rcases List.mem_cons.1 hx with rfl | hx
        · exact ⟨h.1, h.2.1⟩
        · have := e3 x hx
          omega
      · rw [List.pairwise_cons]
        exact ⟨fun x hx => (e3 x hx).1, e4⟩
    · rw [if_neg h] at hr
      cases hr
theorem spl_row {T : Nat} {n low high : Int} {c : Nat} (hn : 1 ≤ n) : ∀ r ∈ spl T n low high c, RowOk c n low high r := fun r hr =>
  allS_row (fun d hd => (((divsL_all hn).1 d).1 hd).1) c n low hn r (List.mem_of_mem_take hr)
theorem soL_row {n low high count : Int} : ∀ r ∈ soL n low high count, RowOk count.toNat n low high r ∧ okS n low high count = true := fun r hr => by
  cases h : okS n low high count
  · rw [(soL_no h).1] at hr
    cases hr
  · have hn := (okS_true h).1
    by_cases h2 : (spl 61 n low high count.toNat).length ≤ 60
    · rw [(soL_yes h h2).1] at hr
      exact ⟨spl_row hn.1 r hr, rfl⟩
    · rw [(soL_full h h2).1] at hr
      cases hr
theorem soL_len (n low high count : Int) : (soL n low high count).length ≤ 60 := by
  cases h : okS n low high count
  · rw [(soL_no h).1]
    simp
  · by_cases h2 : (spl 61 n low high count.toNat).length ≤ 60
    · rw [(soL_yes h h2).1]
      exact h2
    · rw [(soL_full h h2).1]
      simp
theorem tot_le {rows : List (List Int)} (h : ∀ r ∈ rows, r.length ≤ 4) : tot rows ≤ 4 * rows.length := by
  induction rows with
  | nil => simp [tot]
  | cons r rs ih =>
    have h1 := ih fun x hx => h x (by simp [hx])
    have h2 := h r (by simp)
    have e : tot (r :: rs) = r.length + tot rs := by simp [tot]
    rw [e, List.length_cons]
    omega
theorem soL_tot (n low high count : Int) : tot (soL n low high count) ≤ 240 := by
  have h1 := tot_le (rows := soL n low high count) fun r hr => by
    obtain ⟨⟨e, _⟩, h⟩ := soL_row r hr
    have := (okR_true (okS_true h).2).2.2
    omega
  have h2 := soL_len n low high count
  omega
theorem row_pre {r : List Int} (h : ∀ x ∈ r, 1 ≤ x) (i : Nat) : 1 ≤ prodI (r.take i) ∧ prodI (r.take i) ≤ prodI r := by
  have a1 : 1 ≤ prodI (r.take i) := prodI_pos fun x hx => h x (List.mem_of_mem_take hx)
  have a2 : 1 ≤ prodI (r.drop i) := prodI_pos fun x hx => h x (List.mem_of_mem_drop hx)
  have e : prodI (r.take i) * prodI (r.drop i) = prodI r := by rw [← prodI_append, List.take_append_drop]
  have := Int.mul_le_mul_of_nonneg_left a2 (show 0 ≤ prodI (r.take i) by omega)
  rw [e] at this
  exact ⟨a1, by omega⟩
theorem row_step {r : List Int} {i : Nat} (hi : i < r.length) : prodI (r.take (i + 1)) = prodI (r.take i) * r.getD i 0 := by
  rw [List.take_succ_eq_append_getElem hi, prodI_append]
  have e : r.getD i 0 = r[i] := by rw [List.getD_eq_getElem?_getD, List.getElem?_eq_getElem hi]; rfl
  rw [e]
  simp [prodI]
theorem row_at {c : Nat} {n low high : Int} {r : List Int} (h : RowOk c n low high r) {i : Nat} (hi : i < r.length) : low ≤ r.getD i 0 ∧ r.getD i 0 ≤ high := by
  have e : r.getD i 0 = r[i] := by rw [List.getD_eq_getElem?_getD, List.getElem?_eq_getElem hi]; rfl
  rw [e]
  exact h.2.2.1 _ (List.getElem_mem hi)
theorem row_rise {c : Nat} {n low high : Int} {r : List Int} (h : RowOk c n low high r) {i : Nat} (hi : i + 1 < r.length) : r.getD i 0 ≤ r.getD (i + 1) 0 := by
  have := List.pairwise_iff_getElem.mp h.2.2.2 i (i + 1) (by omega) hi (by omega)
  rw [List.getD_eq_getElem?_getD, List.getElem?_eq_getElem (by omega), List.getD_eq_getElem?_getD, List.getElem?_eq_getElem hi]
  exact this
theorem near_self {f : Int → Bool} {n : Int} (h : f n = true) (r : Nat) : nearS f n (r + 1) 0 = (n, 0) := by
  show (if f (n - 0) then (n - 0, 0) else _) = _
  rw [Int.sub_zero, h]
  rfl
theorem near_other {f : Int → Bool} {n : Int} (h : f n = false) : ∀ (r : Nat) (far : Int), ((nearS f n r far).2 = 0 ∧ f (nearS f n r far).1 = true ∧ (nearS f n r far).1 ≠ n) ∨ (nearS f n r far).2 = 3
  | 0, _ => .inr rfl
  | r + 1, far => by
    unfold nearS
    cases h1 : f (n - far)
    · cases h2 : f (n + far)
      · simp only [Bool.false_eq_true, if_false]
        exact near_other h r (far + 1)
      · simp only [Bool.false_eq_true, if_false, if_true]
        exact .inl ⟨trivial, h2, fun e => by rw [e, h] at h2; cases h2⟩
    · simp only [if_true]
      exact .inl ⟨trivial, h1, fun e => by rw [e, h] at h1; cases h1⟩
theorem spl_some (n low high : Int) (c : Nat) : 0 < (spl 61 n low high c).length ↔ 0 < (spl 1 n low high c).length := by
  unfold spl
  rw [List.length_take, List.length_take]
  omega
theorem has_so {n low high count : Int} (h : hasS n low high count = true) (hr : okR low high count = true) : soC n low high count = 5 ∨ (soC n low high count = 0 ∧ 0 < (soL n low high count).length) := by
  unfold hasS at h
  rw [Bool.and_eq_true] at h
  have ho : okS n low high count = true := by unfold okS; rw [h.1, hr]; rfl
  by_cases h2 : (spl 61 n low high count.toNat).length ≤ 60
  · obtain ⟨e1, e2⟩ := soL_yes ho h2
    rw [e1, e2]
    exact .inr ⟨rfl, (spl_some _ _ _ _).2 (of_decide_eq_true h.2)⟩
  · exact .inl (soL_full ho h2).2
theorem so_has {n low high count : Int} (ho : okS n low high count = true) (h0 : soC n low high count = 0) : hasS n low high count = decide (0 < (soL n low high count).length) := by
  by_cases h2 : (spl 61 n low high count.toNat).length ≤ 60
  · rw [(soL_yes ho h2).1]
    unfold hasS
    rw [inR_mk (okS_true ho).1]
    simp only [Bool.true_and, decide_eq_decide]
    exact (spl_some _ _ _ _).symm
  · rw [(soL_full ho h2).2] at h0
    cases h0
theorem soC_ok {n low high count : Int} (ho : okS n low high count = true) : soC n low high count = 5 ∨ soC n low high count = 0 := by
  by_cases h2 : (spl 61 n low high count.toNat).length ≤ 60
  · exact .inr (soL_yes ho h2).2
  · exact .inl (soL_full ho h2).2
/-- What the nearest split says beside the list of splits. -/
theorem near_law {n low high count : Int} (ho : okS n low high count = true) (h0 : soC n low high count = 0) :
    (0 < (soL n low high count).length ∧ nsV n low high count = (n, 0)) ∨
    ((soL n low high count).length = 0 ∧ ((nsV n low high count).2 = 3 ∨ ((nsV n low high count).2 = 0 ∧ (nsV n low high count).1 ≠ n ∧
      (soC (nsV n low high count).1 low high count = 5 ∨ (soC (nsV n low high count).1 low high count = 0 ∧ 0 < (soL (nsV n low high count).1 low high count).length))))) := by
  have e : nsV n low high count = nearS (fun m => hasS m low high count) n 201 0 := by unfold nsV; rw [ho]; rfl
  rcases Nat.eq_zero_or_pos (soL n low high count).length with hl | hl
  · refine .inr ⟨hl, ?_⟩
    have hf : hasS n low high count = false := by rw [so_has ho h0, hl]; rfl
    rw [e]
    rcases near_other (f := fun m => hasS m low high count) hf 201 0 with ⟨a, b, c⟩ | h
    · exact .inr ⟨a, c, has_so b (okS_true ho).2⟩
    · exact .inl h
  · refine .inl ⟨hl, ?_⟩
    rw [e]
    exact near_self (f := fun m => hasS m low high count) (by show hasS n low high count = true; rw [so_has ho h0]; exact decide_eq_true hl) 200
end Go.Proofs.Ythagogjklocmoaa
