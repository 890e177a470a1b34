/-
  The path to a ratio leads back to it, and its exchange to the inverse: in plain Lean.
-/
import Derived.Test.YtnlimfijepjliaaDoorPathP
import Derived.Test.YtnlimfijepjliaaDoorRop
namespace Go.Proofs.YtnlimfijepjliaaDoor
open Go.RowKit

def lt2 (e : Bool) : UInt8 := if e = true then 82 else 76
/-- The path of terms, the first to the right or to the left. -/
def pz : Bool → List Int → List UInt8
  | _, [] => []
  | e, t :: r => List.replicate t.toNat (lt2 e) ++ pz (!e) r
theorem pz_snoc : ∀ (l : List Int) (e : Bool) (t : Int), pz e (l ++ [t]) = pz e l ++ List.replicate t.toNat (if l.length % 2 = 0 then lt2 e else lt2 (!e))
  | [], e, t => by simp [pz]
  | x :: l, e, t => by
    rw [List.cons_append, pz, pz_snoc l (!e) t, pz, List.append_assoc, List.length_cons]
    congr 2
    by_cases h : l.length % 2 = 0
    · rw [if_pos h, if_neg (by omega)]
    · rw [if_neg h, if_pos (by omega), Bool.not_not]
theorem pathL_pz (ts : List Int) : ∀ i, i ≤ ts.length → pathL ts i = pz true (ts.take i)
  | 0, _ => by simp [pathL, pz]
  | i + 1, h => by
    have e : ts.getD i 0 = ts[i] := by rw [List.getD_eq_getElem?_getD, List.getElem?_eq_getElem (by omega)]; rfl
    rw [pathL, pathL_pz ts i (by omega), List.take_succ_eq_append_getElem (by omega), pz_snoc, List.length_take, e, show min i ts.length = i by omega]
    congr 2
theorem pathT_pz (ts : List Int) : pathT ts = pz true ts := by
  unfold pathT
  rw [pathL_pz ts _ (Nat.le_refl _), List.take_length]
/-- The last term made less. -/
def td : List Int → List Int
  | [] => []
  | [t] => [t - 1]
  | t :: u :: r => t :: td (u :: r)
theorem tdec_td : ∀ (l : List Int), tdec l = td l
  | [] => rfl
  | [t] => rfl
  | t :: u :: r => by
    have ih := tdec_td (u :: r)
    rw [td, ← ih]
    unfold tdec
    simp
theorem td_cons {t : Int} {l : List Int} (h : l ≠ []) : td (t :: l) = t :: td l := by
  cases l with
  | nil => exact absurd rfl h
  | cons u r => rfl
theorem path_ru : ∀ (f : Nat) (n d : Int), d.toNat ≤ f → 1 ≤ n → 1 ≤ d → gcdI n d = 1 → ∀ A B C D : Int,
    ru (pz true (td (cf n d))) A B C D = (C * n + A * d, D * n + B * d) ∧ ru (pz false (td (cf n d))) A B C D = (A * n + C * d, B * n + D * d)
  | 0, n, d, h, _, hd, _, A, B, C, D => by omega
  | f + 1, n, d, h, hn, hd, hg, A, B, C, D => by
    have q1 : 0 ≤ n / d := Int.ediv_nonneg (by omega) (by omega)
    have m1 : 0 ≤ n % d := Int.emod_nonneg _ (by omega)
    have m2 : n % d < d := Int.emod_lt_of_pos _ (by omega)
    have hdm := Int.mul_ediv_add_emod n d
    rw [cf_pos (by omega)]
    by_cases hz : n % d = 0
    · have hd1 : d = 1 := by
        have hdv : d ∣ n := Int.dvd_of_emod_eq_zero hz
        have h2 : gcdI n d = d := by
          unfold gcdI
          rw [Int.gcd_eq_natAbs_gcd_natAbs, Nat.gcd_eq_right (Int.natAbs_dvd_natAbs.2 hdv)]
          omega
        omega
      subst hd1
      rw [Int.ediv_one] at q1 ⊢
      rw [hz, cf_zero]
      have hc : ((n - 1).toNat : Int) = n - 1 := by omega
      have e1 := ru_R (n - 1).toNat [] A B C D
      have e2 := ru_L (n - 1).toNat [] A B C D
      rw [List.append_nil, hc] at e1 e2
      have x1 : (n - 1) * C = C * n - C := by rw [Int.sub_mul, Int.one_mul, Int.mul_comm]
      have x2 : (n - 1) * D = D * n - D := by rw [Int.sub_mul, Int.one_mul, Int.mul_comm]
      have x3 : (n - 1) * A = A * n - A := by rw [Int.sub_mul, Int.one_mul, Int.mul_comm]
      have x4 : (n - 1) * B = B * n - B := by rw [Int.sub_mul, Int.one_mul, Int.mul_comm]
      constructor
      · show ru (List.replicate (n - 1).toNat 82 ++ []) A B C D = _
        rw [List.append_nil, e1]
        show (A + (n - 1) * C + C, B + (n - 1) * D + D) = _
        rw [x1, x2, Int.mul_one, Int.mul_one]
        congr 1 <;> omega
      · show ru (List.replicate (n - 1).toNat 76 ++ []) A B C D = _
        rw [List.append_nil, e2]
        show (A + (C + (n - 1) * A), B + (D + (n - 1) * B)) = _
        rw [x3, x4, Int.mul_one, Int.mul_one]
        congr 1 <;> omega
    · have hne : cf d (n % d) ≠ [] := by rw [cf_pos (by omega)]; simp
      have hg2 : gcdI d (n % d) = 1 := by
        rw [gcdI_emod n d (by omega)]
        exact hg
      have ih := path_ru f d (n % d) (by omega) hd (by omega) hg2
      rw [td_cons hne]
      obtain ⟨q, hq⟩ : ∃ q, q = n / d := ⟨_, rfl⟩
      obtain ⟨r, hr⟩ : ∃ r, r = n % d := ⟨_, rfl⟩
      rw [← hq, ← hr] at hdm
      rw [← hr] at ih
      rw [← hq] at q1
      rw [← hq, ← hr]
      have hc : (q.toNat : Int) = q := by omega
      have e1 := ru_R q.toNat (pz false (td (cf d r))) A B C D
      have e2 := ru_L q.toNat (pz true (td (cf d r))) A B C D
      rw [hc] at e1 e2
      have x1 : C * n = q * C * d + C * r := by rw [← hdm, Int.mul_add, Int.mul_comm d q, ← Int.mul_assoc, Int.mul_comm C q]
      have x2 : D * n = q * D * d + D * r := by rw [← hdm, Int.mul_add, Int.mul_comm d q, ← Int.mul_assoc, Int.mul_comm D q]
      have x3 : A * n = q * A * d + A * r := by rw [← hdm, Int.mul_add, Int.mul_comm d q, ← Int.mul_assoc, Int.mul_comm A q]
      have x4 : B * n = q * B * d + B * r := by rw [← hdm, Int.mul_add, Int.mul_comm d q, ← Int.mul_assoc, Int.mul_comm B q]
      constructor
      · show ru (List.replicate q.toNat 82 ++ pz false (td (cf d r))) A B C D = _
        rw [e1, (ih _ _ _ _).2, x1, x2, Int.add_mul, Int.add_mul]
        congr 1 <;> omega
      · show ru (List.replicate q.toNat 76 ++ pz true (td (cf d r))) A B C D = _
        rw [e2, (ih _ _ _ _).1, x3, x4, Int.add_mul, Int.add_mul]
        congr 1 <;> omega
theorem pathL_lr (ts : List Int) : ∀ i, ∀ x ∈ pathL ts i, x = 76 ∨ x = 82
  | 0, x, h => by simp [pathL] at h
  | i + 1, x, h => by
    rw [pathL] at h
    rcases List.mem_append.1 h with h | h
    · exact pathL_lr ts i x h
    · have := List.eq_of_mem_replicate h
      rw [this, ltr]
      split
      · exact .inr rfl
      · exact .inl rfl
theorem lrOk_of {l : List UInt8} (h : ∀ x ∈ l, x = 76 ∨ x = 82) : lrOk l = true := by
  unfold lrOk
  rw [List.all_eq_true]
  intro x hx
  rcases h x hx with rfl | rfl <;> rfl
theorem flip_lr (l : List UInt8) : ∀ x ∈ flipL l, x = 76 ∨ x = 82 := by
  intro x hx
  unfold flipL at hx
  obtain ⟨y, _, rfl⟩ := List.mem_map.1 hx
  split
  · exact .inr rfl
  · exact .inl rfl
/-- The path back. -/
theorem back {a b : Int} (hv : validR a b = true) (ha : 0 < a) (hl : (pathT (tdec (cf a b))).length ≤ 200) :
    ropV (pathT (tdec (cf a b))) = .tuple #[.agg #[.int .i64 a, .int .i64 b], .int .i64 0] ∧ ropV (flipL (pathT (tdec (cf a b)))) = .tuple #[.agg #[.int .i64 b, .int .i64 a], .int .i64 0] := by
  obtain ⟨hb, haa, hg⟩ := validR_true hv
  have h1 : ru (pathT (tdec (cf a b))) 0 1 1 0 = (a, b) := by
    rw [pathT_pz, tdec_td, (path_ru b.toNat a b (Nat.le_refl _) (by omega) (by omega) hg 0 1 1 0).1]
    congr 1 <;> omega
  have hlr := pathL_lr (tdec (cf a b)) (tdec (cf a b)).length
  have h2 : ru (flipL (pathT (tdec (cf a b)))) 0 1 1 0 = (b, a) := by
    have h3 := ru_flip (pathT (tdec (cf a b))) 0 1 1 0 hlr
    rw [h1] at h3
    exact h3
  have hl2 : (flipL (pathT (tdec (cf a b)))).length = (pathT (tdec (cf a b))).length := by unfold flipL; simp
  constructor
  · refine ropV_some (by omega) (lrOk_of hlr) ?_
    rw [rp_ru _ _ _ _ _ (by omega) (by omega) (by omega) (by omega) (by rw [h1]; exact haa.2) (by rw [h1]; exact hb.2), h1]
  · refine ropV_some (by omega) (lrOk_of (flip_lr _)) ?_
    rw [rp_ru _ _ _ _ _ (by omega) (by omega) (by omega) (by omega) (by rw [h2]; exact hb.2) (by rw [h2]; exact haa.2), h2]
end Go.Proofs.YtnlimfijepjliaaDoor
