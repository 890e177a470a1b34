/-
  The text of a valid ratio is read back: in plain Lean.
-/
import Derived.Test.YtnlimfijepjliaaDoorRatP
namespace Go.Proofs.YtnlimfijepjliaaDoor
open Go.RowKit

theorem decFrom_snoc : ∀ (l : List UInt8) (acc : Nat) (b : UInt8), Lib.decFrom acc (l ++ [b]) = (Lib.decFrom acc l).bind fun m => (Lib.digitVal b).map fun d => m * 10 + d
  | [], acc, b => by
    rw [List.nil_append, Lib.decFrom, Lib.decFrom]
    cases Lib.digitVal b <;> rfl
  | c :: l, acc, b => by
    rw [List.cons_append, Lib.decFrom, Lib.decFrom]
    cases Lib.digitVal c with
    | none => rfl
    | some d => exact decFrom_snoc l _ b
theorem digitVal_of (u : Nat) (h : u < 10) : Lib.digitVal (UInt8.ofNat (48 + u)) = some u := by
  have e : (UInt8.ofNat (48 + u)).toNat = 48 + u := by rw [UInt8.toNat_ofNat']; omega
  unfold Lib.digitVal
  rw [e, if_pos (by omega)]
  congr 1
  omega
theorem dec_back : ∀ (n u : Nat), u < n → Lib.decFrom 0 (Lib.decDigits u) = some u
  | 0, u, h => by omega
  | n + 1, u, h => by
    rw [Lib.decDigits]
    by_cases h1 : u < 10
    · rw [dif_pos h1, Lib.decFrom, digitVal_of u h1]
      show Lib.decFrom (0 * 10 + u) [] = some u
      rw [Lib.decFrom]
      congr 1
      omega
    · rw [dif_neg h1, decFrom_snoc, dec_back n (u / 10) (by omega), digitVal_of _ (Nat.mod_lt _ (by decide))]
      show some (u / 10 * 10 + u % 10) = some u
      congr 1
      omega
theorem dec_len : ∀ (k u : Nat), u < 10 ^ (k + 1) → (Lib.decDigits u).length ≤ k + 1
  | 0, u, h => by
    rw [Lib.decDigits, dif_pos (by simpa using h)]
    simp
  | k + 1, u, h => by
    rw [Lib.decDigits]
    by_cases h1 : u < 10
    · rw [dif_pos h1]; simp
    · rw [dif_neg h1, List.length_append]
      have h2 : u / 10 < 10 ^ (k + 1) := by
        rw [Nat.pow_succ] at h
        omega
      have := dec_len k (u / 10) h2
      simp
      omega
theorem numS_back {a : Int} (ha : -1000000000 ≤ a ∧ a ≤ 1000000000) : numS (Lib.itoa a) = some a := by
  have hp : (10 : Nat) ^ (17 + 1) = 1000000000000000000 := by decide
  unfold Lib.itoa
  by_cases hn : a < 0
  · rw [if_pos hn]
    obtain ⟨b, r, e, hb⟩ := digit_head (a.natAbs + 1) a.natAbs (by omega)
    have hl := dec_len 17 a.natAbs (by rw [hp]; omega)
    have hd := dec_back (a.natAbs + 1) a.natAbs (by omega)
    have hl1 : 1 ≤ (Lib.decDigits a.natAbs).length := by rw [e]; simp
    unfold numS
    rw [trimMinus, if_pos rfl, if_neg (by omega), hd]
    have hlt : (Lib.decDigits a.natAbs).length < (45 :: Lib.decDigits a.natAbs).length := by simp
    simp only [if_pos hlt]
    have hv : -((a.natAbs : Nat) : Int) = a := by omega
    rw [hv, if_pos]
    unfold Lib.itoa
    rw [if_pos hn]
  · rw [if_neg hn]
    obtain ⟨b, r, e, hb⟩ := digit_head (a.toNat + 1) a.toNat (by omega)
    have hl := dec_len 17 a.toNat (by rw [hp]; omega)
    have hd := dec_back (a.toNat + 1) a.toNat (by omega)
    have hit : Lib.itoa a = Lib.decDigits a.toNat := by unfold Lib.itoa; rw [if_neg hn]
    rw [← hit] at e hl hd ⊢
    have hl1 : 1 ≤ (Lib.itoa a).length := by rw [e]; simp
    have htr : Lib.trimPrefix (Lib.itoa a) [45] = Lib.itoa a := by
      rw [e, trimMinus, if_neg]
      intro h
      rw [h] at hb
      exact absurd hb (by decide)
    unfold numS
    rw [htr, if_neg (by omega), hd]
    simp only [if_neg (show ¬ (Lib.itoa a).length < (Lib.itoa a).length by omega)]
    have hv : ((a.toNat : Nat) : Int) = a := by omega
    rw [hv, if_pos rfl]
theorem rd_back {a : Int} (ha : -1000000000 ≤ a ∧ a ≤ 1000000000) : rdB (Lib.itoa a) = true ∧ rdN (Lib.itoa a) = a := by
  unfold rdB rdN
  rw [numS_back ha]
  exact ⟨rfl, rfl⟩
theorem rr_back {a b : Int} (hv : validR a b = true) : rrS (ratV a b).data.toList = some (a, b) := by
  obtain ⟨hb, ha, _⟩ := validR_true hv
  obtain ⟨e1, e2⟩ := rd_back ha
  obtain ⟨e3, e4⟩ := rd_back (a := b) (by omega)
  by_cases h1 : b = 1
  · have e : ratV a b = itoaB a := by unfold ratV; rw [hv]; exact ratS_one h1
    have hs : splitBy 47 (Lib.itoa a) = [Lib.itoa a] := splitBy_none (itoa_slash a)
    rw [e, itoaB_list]
    unfold rrS
    rw [hs]
    simp only
    rw [e1, e2, if_pos ⟨rfl, by rw [← h1]; exact hv⟩, h1]
  · have e : ratV a b = itoaB a ++ ⟨#[47]⟩ ++ itoaB b := by unfold ratV; rw [hv]; exact ratS_two h1
    have hs : splitBy 47 (Lib.itoa a ++ 47 :: Lib.itoa b) = [Lib.itoa a, Lib.itoa b] := by
      rw [splitBy_cons (itoa_slash a), splitBy_none (itoa_slash b)]
    have hl : (ratV a b).data.toList = Lib.itoa a ++ 47 :: Lib.itoa b := by
      rw [e, bdata_append', bdata_append', itoaB_list, itoaB_list]
      simp
    rw [hl]
    unfold rrS
    rw [hs]
    simp only
    rw [e1, e2, e3, e4, if_pos ⟨rfl, ⟨rfl, by omega⟩, hv⟩]
theorem ratV_size {a b : Int} (hv : validR a b = true) : (ratV a b).size ≤ 100 := by
  obtain ⟨hb, ha, _⟩ := validR_true hv
  have h1 := itoaB_size a (by omega) (by omega)
  have h2 := itoaB_size b (by omega) (by omega)
  have e : ratV a b = ratS a b := by unfold ratV; rw [hv]; rfl
  rw [e]
  by_cases hb1 : b = 1
  · rw [ratS_one hb1]; omega
  · rw [ratS_two hb1, ByteArray.size_append, ByteArray.size_append]
    have : (⟨#[47]⟩ : ByteArray).size = 1 := rfl
    omega
end Go.Proofs.YtnlimfijepjliaaDoor
