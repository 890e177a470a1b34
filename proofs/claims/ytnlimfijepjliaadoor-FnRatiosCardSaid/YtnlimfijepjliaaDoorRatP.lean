/-
  Reading ratios: what both programs compute, in plain Lean.
-/
import Derived.Test.YtnlimfijepjliaaDoorRatT
import Derived.Test.YtnlimfijepjliaaDoorRdV
import Derived.Test.YtnlimfijepjliaaDoorSplitP
import Derived.Lib.IndexMore
namespace Go.Proofs.YtnlimfijepjliaaDoor
open Go.RowKit

theorem bdata_append' (a b : ByteArray) : (a ++ b).data.toList = a.data.toList ++ b.data.toList := by
  rw [ByteArray.data_append, Array.toList_append]
theorem decDigits_dig : ∀ (n u : Nat), u < n → ∀ b ∈ Lib.decDigits u, 48 ≤ b.toNat ∧ b.toNat ≤ 57
  | 0, u, h => by omega
  | n + 1, u, h => by
    rw [Lib.decDigits]
    by_cases h1 : u < 10
    · rw [dif_pos h1]
      intro b hb
      rw [List.mem_singleton] at hb
      subst hb
      rw [UInt8.toNat_ofNat']
      omega
    · rw [dif_neg h1]
      intro b hb
      rcases List.mem_append.1 hb with hb | hb
      · exact decDigits_dig n (u / 10) (by omega) b hb
      · rw [List.mem_singleton] at hb
        subst hb
        rw [UInt8.toNat_ofNat']
        omega
theorem itoa_dig (n : Int) (b : UInt8) (h : b ∈ Lib.itoa n) : b.toNat = 45 ∨ (48 ≤ b.toNat ∧ b.toNat ≤ 57) := by
  unfold Lib.itoa at h
  by_cases hn : n < 0
  · rw [if_pos hn] at h
    rcases List.mem_cons.1 h with rfl | h
    · left; rfl
    · exact .inr (decDigits_dig _ _ (Nat.lt_succ_self _) b h)
  · rw [if_neg hn] at h
    exact .inr (decDigits_dig _ _ (Nat.lt_succ_self _) b h)
theorem itoa_slash (n : Int) : ∀ x ∈ Lib.itoa n, x ≠ 47 := by
  intro x hx e
  subst e
  rcases itoa_dig n 47 hx with h | h
  · exact absurd h (by decide)
  · exact absurd h.1 (by decide)
theorem numS_itoa {l : List UInt8} {n : Int} (h : numS l = some n) : Lib.itoa n = l := by
  unfold numS at h
  by_cases hb : (Lib.trimPrefix l [45]).length < 1 ∨ 18 < (Lib.trimPrefix l [45]).length
  · rw [if_pos hb] at h; cases h
  · rw [if_neg hb] at h
    cases hd : Lib.decFrom 0 (Lib.trimPrefix l [45]) with
    | none => rw [hd] at h; cases h
    | some u =>
      rw [hd] at h
      simp only at h
      obtain ⟨v, hv⟩ : ∃ v : Int, v = (if (Lib.trimPrefix l [45]).length < l.length then -(u : Int) else (u : Int)) := ⟨_, rfl⟩
      rw [← hv] at h
      by_cases he : Lib.itoa v = l
      · rw [if_pos he] at h; cases h; exact he
      · rw [if_neg he] at h; cases h
theorem rdB_itoa {l : List UInt8} (h : rdB l = true) : Lib.itoa (rdN l) = l := by
  unfold rdB at h
  unfold rdN
  cases e : numS l with
  | none => rw [e] at h; cases h
  | some n => exact numS_itoa e
theorem rdB_zero {l : List UInt8} (h : rdB l = false) : rdN l = 0 := by
  unfold rdB at h
  unfold rdN
  cases e : numS l with
  | none => rfl
  | some n => rw [e] at h; cases h
theorem splitBy_ne (b : UInt8) (l : List UInt8) : splitBy b l ≠ [] := by
  cases l with
  | nil => simp [splitBy]
  | cons c l =>
    rw [splitBy]
    split
    · simp
    · cases splitBy b l <;> simp [consHead]
theorem index_at (b : UInt8) : ∀ (l : List UInt8) (i : Nat), Lib.index l [b] = i → l = l.take i ++ b :: l.drop (i + 1)
  | [], i, h => by
    have : Lib.index ([] : List UInt8) [b] = -1 := rfl
    rw [this] at h
    omega
  | c :: l, i, h => by
    by_cases hc : c = b
    · subst hc
      have : Lib.index (c :: l) [c] = 0 := by simp [Lib.index, List.isPrefixOf]
      have hi : i = 0 := by omega
      subst hi
      rfl
    · have hne : ¬ b = c := fun e => hc e.symm
      have e1 : Lib.index (c :: l) [b] = if Lib.index l [b] == -1 then -1 else Lib.index l [b] + 1 := by
        rw [Lib.index, if_neg (by simp [List.isPrefixOf, hne])]
      rcases splitBy_index b l with ⟨h1, _⟩ | ⟨j, h1, _, _⟩
      · rw [e1, h1] at h
        have : (-1 : Int) = (i : Int) := h
        omega
      · rw [e1, h1, if_neg (fun e => by have := beq_iff_eq.1 e; omega)] at h
        have hi : i = j + 1 := by omega
        subst hi
        rw [List.take_succ_cons, List.drop_succ_cons, List.cons_append]
        rw [← index_at b l j h1]
def rrV (o : Option (Int × Int)) : Value := match o with
  | some (n, d) => .tuple #[.agg #[.int .i64 n, .int .i64 d], .bool true]
  | none => .tuple #[.agg #[.int .i64 0, .int .i64 0], .bool false]
/-- What the reference computes. -/
def rrS (l : List UInt8) : Option (Int × Int) := match splitBy 47 l with
  | [x] => if rdB x = true ∧ validR (rdN x) 1 = true then some (rdN x, 1) else none
  | [x, y] => if rdB x = true ∧ (rdB y = true ∧ 1 < rdN y) ∧ validR (rdN x) (rdN y) = true then some (rdN x, rdN y) else none
  | _ => none
theorem itoaB_list (n : Int) : (itoaB n).data.toList = Lib.itoa n := rfl
theorem itoa_ne (n : Int) : Lib.itoa n ≠ [] := by
  obtain ⟨b, r, e, _⟩ := itoa_head n
  rw [e]
  simp
theorem rr_one {l : List UInt8} (h : Lib.index l [47] = -1) : rrS l = if rdB l = true ∧ (ratV (rdN l) 1).data.toList = l then some (rdN l, 1) else none := by
  have hs : splitBy 47 l = [l] := by
    rcases splitBy_index 47 l with ⟨_, h2⟩ | ⟨j, h1, _, _⟩
    · exact h2
    · omega
  unfold rrS
  rw [hs]
  simp only
  by_cases hb : rdB l = true
  · have hi := rdB_itoa hb
    cases hv : validR (rdN l) 1
    · have e : ratV (rdN l) 1 = ⟨#[]⟩ := by unfold ratV; rw [hv]; rfl
      rw [if_neg (by simp), if_neg]
      rw [e]
      rintro ⟨_, h2⟩
      exact itoa_ne (rdN l) (by rw [hi, ← h2])
    · have e : ratV (rdN l) 1 = itoaB (rdN l) := by unfold ratV; rw [hv]; exact ratS_one rfl
      rw [if_pos ⟨hb, rfl⟩, if_pos ⟨hb, by rw [e, itoaB_list, hi]⟩]
  · rw [if_neg (fun h => hb h.1), if_neg (fun h => hb h.1)]
theorem rr_two {l : List UInt8} {i : Nat} (h : Lib.index l [47] = i) :
    rrS l = if rdB (l.take i) = true ∧ rdB (l.drop (i + 1)) = true ∧ (ratV (rdN (l.take i)) (rdN (l.drop (i + 1)))).data.toList = l then some (rdN (l.take i), rdN (l.drop (i + 1))) else none := by
  have hs : splitBy 47 l = l.take i :: splitBy 47 (l.drop (i + 1)) := by
    rcases splitBy_index 47 l with ⟨h1, _⟩ | ⟨j, h1, _, h3⟩
    · omega
    · have e : j = i := by omega
      subst e
      exact h3
  have hl := index_at 47 l i h
  obtain ⟨x, hx⟩ : ∃ x, x = l.take i := ⟨_, rfl⟩
  obtain ⟨y, hy⟩ : ∃ y, y = l.drop (i + 1) := ⟨_, rfl⟩
  rw [← hx, ← hy] at hs hl ⊢
  unfold rrS
  rw [hs]
  by_cases hb : rdB y = true
  · have hi := rdB_itoa hb
    have hy1 : splitBy 47 y = [y] := splitBy_none (by rw [← hi]; exact itoa_slash _)
    rw [hy1]
    simp only
    by_cases ha : rdB x = true
    · have hxi := rdB_itoa ha
      cases hv : validR (rdN x) (rdN y)
      · have e : ratV (rdN x) (rdN y) = ⟨#[]⟩ := by unfold ratV; rw [hv]; rfl
        rw [if_neg (by simp), if_neg]
        rw [e]
        rintro ⟨_, _, h2⟩
        rw [hl] at h2
        have := congrArg List.length h2
        simp at this
      · have hvb := (validR_true hv).1
        by_cases h1 : rdN y = 1
        · rw [if_neg (by omega), if_neg]
          rintro ⟨_, _, h2⟩
          have e : ratV (rdN x) (rdN y) = itoaB (rdN x) := by unfold ratV; rw [hv]; exact ratS_one h1
          rw [e, itoaB_list] at h2
          exact itoa_slash (rdN x) 47 (by rw [h2, hl]; simp) rfl
        · have e : ratV (rdN x) (rdN y) = itoaB (rdN x) ++ ⟨#[47]⟩ ++ itoaB (rdN y) := by unfold ratV; rw [hv]; exact ratS_two h1
          have h2 : (ratV (rdN x) (rdN y)).data.toList = l := by
            rw [e, bdata_append', bdata_append', itoaB_list, itoaB_list, hxi, hi]
            rw [hl]
            simp
          rw [if_pos ⟨ha, ⟨hb, by omega⟩, rfl⟩, if_pos ⟨ha, hb, h2⟩]
    · rw [if_neg (fun h => ha h.1), if_neg (fun h => ha h.1)]
  · rw [if_neg (fun h => hb h.2.1)]
    cases hy2 : splitBy 47 y with
    | nil => exact absurd hy2 (splitBy_ne _ _)
    | cons z t =>
      cases t with
      | nil =>
        have hz : z = y := by
          rcases splitBy_index 47 y with ⟨_, h2⟩ | ⟨j, _, _, h3⟩
          · rw [h2] at hy2
            simp at hy2
            exact hy2.symm
          · rw [h3] at hy2
            simp at hy2
            exact absurd hy2.2 (splitBy_ne _ _)
        subst hz
        simp only
        rw [if_neg (fun h => hb h.2.1.1)]
      | cons u v => rfl
end Go.Proofs.YtnlimfijepjliaaDoor
