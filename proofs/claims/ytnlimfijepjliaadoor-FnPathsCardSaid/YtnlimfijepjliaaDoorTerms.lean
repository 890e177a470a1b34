/-
  The terms of a ratio: contracts of both functions and the walk of TermsOf's law.
-/
import Derived.Test.YtnlimfijepjliaaDoorMem
import Derived.Test.YtnlimfijepjliaaDoorRound
import Derived.Test.YtnlimfijepjliaaDoorCell
namespace Go.Proofs.YtnlimfijepjliaaDoor
open Go.RowKit

/-- The terms of the continued fraction of n/d. -/
def cf (n d : Int) : List Int :=
  if _h : 0 < d then (n / d) :: cf d (n % d) else []
  termination_by d.toNat
  decreasing_by
    have h1 := Int.emod_lt_of_pos n _h
    have h2 := Int.emod_nonneg n (by omega : d ≠ 0)
    omega
theorem cf_pos {n d : Int} (h : 0 < d) : cf n d = (n / d) :: cf d (n % d) := by rw [cf, dif_pos h]
theorem cf_zero (n : Int) : cf n 0 = [] := by rw [cf, dif_neg (by omega)]
theorem cf_len (n d : Int) : (cf n d).length ≤ d.toNat := by
  induction n, d using cf.induct with
  | case1 n d h ih =>
    rw [cf_pos h]
    have h1 := Int.emod_lt_of_pos n h
    have h2 := Int.emod_nonneg n (by omega : d ≠ 0)
    simp only [List.length_cons]
    omega
  | case2 n d h => rw [cf, dif_neg h]; simp
theorem sub_mul_mod (n d : Int) : n - n / d * d = n % d := by have := Int.mul_ediv_add_emod n d; rw [Int.mul_comm] at this; omega
theorem mul_div_bd (n d : Int) (hn : -1000000000 ≤ n ∧ n ≤ 1000000000) (hd : 1 ≤ d ∧ d ≤ 1000000000) : (-2000000000 ≤ n / d * d ∧ n / d * d ≤ 2000000000) ∧ (-1000000000 ≤ n / d ∧ n / d ≤ 1000000000) := by
  have h0 := sub_mul_mod n d
  have h1 := Int.emod_lt_of_pos n (show 0 < d by omega)
  have h2 := Int.emod_nonneg n (by omega : d ≠ 0)
  have h3 := ediv_bd n d 1000000000 hd.1 hn (by omega)
  omega
theorem validR_bd' {n d : Int} (h : validR n d = true) : (-1000000000 ≤ n ∧ n ≤ 1000000000) ∧ (1 ≤ d ∧ d ≤ 1000000000) := ⟨(validR_true h).2.1, (validR_true h).1⟩
theorem OwnsI.mono_base {w : World} {B B' : Nat} {v : Value} {xs : List Int} (h : OwnsI w B v xs) (hb : B' ≤ B) : OwnsI w B' v xs := by
  refine ⟨h.1, ?_⟩
  rcases h.2 with h2 | ⟨g, cap, cur, h1, h2, h3⟩
  · exact .inl h2
  · exact .inr ⟨g, cap, cur, h1, Nat.le_trans hb h2, h3⟩
theorem ret_slice2 {ao : Option Addr} {n m c : Nat} (h : n = m) : Ending.returned (.slice ao n c) = .returned (.slice ao m c) := by rw [h]
set_option maxHeartbeats 1000000 in
theorem termsOf_any (a b : Int) (w : World) (ha : -1000000000 ≤ a ∧ a ≤ 1000000000) (hb : 1 ≤ b ∧ b ≤ 1000000000) :
    Calls Tryd.prog 75 #[.agg #[.int .i64 a, .int .i64 b]] w fun e w' => ∃ ao cap, e = .returned (.slice ao (cf a b).length cap) ∧ OwnsI w' w.heap.size (.slice ao (cf a b).length cap) (cf a b) ∧ Below w.heap.size w w' := by
  have hlen := cf_len a b
  obtain ⟨k0, k1, k2, k3⟩ := cell2_new (w := w) (u := .int .i64 a) (v := .int .i64 b) 27
  go_enter Tryd.func75, Tryd.ntmps75
  go_wp2
  go_quiet (fail)
  go_wp2
  clear k0 k1 k2 k3
  go_loopw [3, 4, 5, 6] (fun sv nv dv _tv wr => ∃ (n d : Int) (acc : List Int) (ao : Option Addr) (cap : Nat), (-1000000000 ≤ n ∧ n ≤ 1000000000) ∧ (0 ≤ d ∧ d ≤ 1000000000) ∧ acc ++ cf n d = cf a b ∧
      nv = .int .i64 n ∧ dv = .int .i64 d ∧ sv = .slice ao acc.length cap ∧ OwnsI wr w.heap.size (.slice ao acc.length cap) acc ∧ Below w.heap.size w wr) (fun _ _ dv _ _ => (intOf dv).toNat)
  case atStart => exact ⟨a, b, [], none, 0, ha, by omega, rfl, rfl, rfl, rfl, OwnsI.none_, bdrewN (balloc (Below.refl _ _) _) _⟩
  case round =>
    obtain ⟨n, d, acc, ao, cap, hn, hd, heq, rfl, rfl, rfl, hown, hbel⟩ := hrel
    have HEQ := hide heq
    have HB := hide hbel
    have HO := hide hown
    have hsz := hbel.size
    have hal : acc.length ≤ 1000000000 := by
      have : acc.length + (cf n d).length = (cf a b).length := by rw [← heq]; simp
      omega
    clear heq hbel hown
    by_cases h0 : d = 0
    · subst h0
      go_wp2
      go_ret
      have e : acc = cf a b := by rw [← HEQ.out, cf_zero, List.append_nil]
      have ho := HO.out
      rw [e] at ho
      exact ⟨ao, cap, ret_slice2 (by rw [e]), ho, HB.out⟩
    · have hz : (d != 0) = true := by simpa using h0
      have hc := hide (cf_pos (n := n) (d := d) (by omega))
      obtain ⟨m1, m2⟩ := mul_div_bd n d hn (by omega)
      have hm := hide (sub_mul_mod n d)
      have e1 := Int.emod_lt_of_pos n (show 0 < d by omega)
      have e2 := Int.emod_nonneg n (by omega : d ≠ 0)
      go_wp2_with (first | (go_at_call 105; refine (floorDiv_any n d _ (by omega) (by omega)).mono ?_; rintro e w' ⟨rfl, rfl⟩) | (at_builtin; refine wpList_appendI rfl _ _ rfl w.heap.size _ acc rfl HO.out (n / d) _ rfl (by omega) hsz ?_; intro ao2 cap2 w2 hown2 hg2))
      go_roundw
      case rel =>
        rw [hm.out]
        refine ⟨d, n % d, acc ++ [n / d], ao2, cap2, by omega, by omega, by rw [← HEQ.out, hc.out]; simp, rfl, rfl, by simp, by simpa using hown2, HB.out.grown hg2 hsz (fun k hk => (HO.out.lt k hk).1)⟩
      case measure => have := hm.out; simp [intOf]; omega
def termsL (a b : Int) : List Int := if validR a b then cf a b else []
def termsC (a b : Int) : Int := if validR a b then 0 else 1
theorem termsL_len (a b : Int) : (termsL a b).length ≤ 1000000000000 := by
  unfold termsL
  cases h : validR a b
  · simp
  · have h1 := (validR_true h).1
    have h2 := cf_len a b
    simp only [if_true]
    omega
end Go.Proofs.YtnlimfijepjliaaDoor
