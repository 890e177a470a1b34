/-
  Reading decimals: what both programs compute, in plain Lean. No program in sight.
-/
import Derived.Lib.AtoiTie
import Derived.Lib.ParseIntBTie
import Derived.Lib.ItoaNum
import Derived.Lib.Strings
import Derived.Test.YtnlimfijepjliaaDoorPlain
namespace Go.Proofs.YtnlimfijepjliaaDoor
open Go.RowKit

/-- What the program computes: the number that the text stands for. -/
def numL (l : List UInt8) : Option Int :=
  if (Lib.trimPrefix l [45]).length < 1 ∨ 18 < (Lib.trimPrefix l [45]).length then none
  else match Lib.parseIntB 64 l with
    | .ok v => if Lib.itoa v = l then some v else none
    | _ => none
/-- What the reference computes. -/
def numS (l : List UInt8) : Option Int :=
  if (Lib.trimPrefix l [45]).length < 1 ∨ 18 < (Lib.trimPrefix l [45]).length then none
  else match Lib.decFrom 0 (Lib.trimPrefix l [45]) with
    | some u => if Lib.itoa (if (Lib.trimPrefix l [45]).length < l.length then -(u : Int) else (u : Int)) = l then some (if (Lib.trimPrefix l [45]).length < l.length then -(u : Int) else (u : Int)) else none
    | none => none
theorem digit_head : ∀ (n u : Nat), u < n → ∃ b r, Lib.decDigits u = b :: r ∧ 48 ≤ b.toNat
  | 0, u, h => by omega
  | n + 1, u, h => by
    rw [Lib.decDigits]
    by_cases h1 : u < 10
    · rw [dif_pos h1]
      refine ⟨_, _, rfl, ?_⟩
      rw [UInt8.toNat_ofNat']
      omega
    · rw [dif_neg h1]
      obtain ⟨b, r, e, hb⟩ := digit_head n (u / 10) (by omega)
      rw [e]
      exact ⟨b, r ++ [UInt8.ofNat (48 + u % 10)], rfl, hb⟩
theorem itoa_head (n : Int) : ∃ b r, Lib.itoa n = b :: r ∧ b.toNat ≠ 43 := by
  unfold Lib.itoa
  by_cases h : n < 0
  · rw [if_pos h]; exact ⟨45, _, rfl, by decide⟩
  · rw [if_neg h]
    obtain ⟨b, r, e, hb⟩ := digit_head (n.toNat + 1) n.toNat (by omega)
    exact ⟨b, r, e, by omega⟩
theorem trimMinus (c : UInt8) (r : List UInt8) : Lib.trimPrefix (c :: r) [45] = if c = 45 then r else c :: r := by
  unfold Lib.trimPrefix Lib.hasPrefix
  by_cases h : c = 45
  · subst h; simp [List.isPrefixOf]
  · have : ¬ (45 : UInt8) = c := fun e => h e.symm
    simp [List.isPrefixOf, h, this]
theorem u8_eq {c : UInt8} {n : Nat} (h : c.toNat = n) (hn : n < 256) : c = UInt8.ofNat n := by
  apply UInt8.toNat_inj.mp
  rw [UInt8.toNat_ofNat', h]
  omega
theorem numL_numS (l : List UInt8) : numL l = numS l := by
  unfold numL numS
  by_cases hb : (Lib.trimPrefix l [45]).length < 1 ∨ 18 < (Lib.trimPrefix l [45]).length
  · rw [if_pos hb, if_pos hb]
  · rw [if_neg hb, if_neg hb]
    rw [Lib.parseIntB_64]
    cases l with
    | nil => simp [Lib.trimPrefix, Lib.hasPrefix] at hb
    | cons c r =>
      rw [trimMinus] at hb ⊢
      by_cases hc : c = 45
      · subst hc
        simp only [if_true] at hb ⊢
        have hd : Lib.decNat r = Lib.decFrom 0 r := by
          unfold Lib.decNat
          cases r with
          | nil => simp at hb
          | cons x y => rfl
        have hlen : r.length < (45 :: r).length := by simp
        simp only [if_pos hlen]
        unfold Lib.atoiAll
        simp only [show (45 : UInt8).toNat = 45 from rfl, or_true, if_true]
        rw [Lib.parseMag_short r (by omega), hd]
        cases hu : Lib.decFrom 0 r with
        | none => rfl
        | some u =>
          have hsm := Lib.decNat_small (m := u) (l := r) (by omega) (by rw [hd]; exact hu)
          simp only [Lib.NumEnd.ofOption]
          rw [if_neg (by simp), if_neg (by omega)]
      · rw [if_neg hc] at hb ⊢
        simp only [if_neg (show ¬ (c :: r).length < (c :: r).length by omega)]
        have hc2 : c.toNat ≠ 45 := fun e => hc (u8_eq e (by decide))
        by_cases hp : c.toNat = 43
        · have hz : Lib.decFrom 0 (c :: r) = none := by
            unfold Lib.decFrom Lib.digitVal
            rw [if_neg (by omega)]
          rw [hz]
          rcases Lib.atoiAll (c :: r) with v | _ | _
          · show (if Lib.itoa v = c :: r then some v else none) = none
            rw [if_neg]
            intro e
            obtain ⟨b, q, e2, hb2⟩ := itoa_head v
            rw [e2] at e
            cases e
            exact hb2 hp
          · rfl
          · rfl
        · have hd : Lib.decNat (c :: r) = Lib.decFrom 0 (c :: r) := rfl
          unfold Lib.atoiAll
          simp only [hc2, hp, or_self, if_false]
          rw [Lib.parseMag_short (c :: r) (by omega), hd]
          cases hu : Lib.decFrom 0 (c :: r) with
          | none => rfl
          | some u =>
            have hsm := Lib.decNat_small (m := u) (l := c :: r) (by omega) (by rw [hd]; exact hu)
            simp only [Lib.NumEnd.ofOption]
            rw [if_neg (by omega), if_neg (by simp)]
end Go.Proofs.YtnlimfijepjliaaDoor
