/-
  NearestSplit of both sides: contracts, and the walk of its law.
-/
import Derived.Test.YthagogjklocmoaaSplsR
namespace Go.Proofs.Ythagogjklocmoaa
open Go.RowKit

/-- The nearest number that has a split, from a distance on. -/
def nearS (f : Int → Bool) (n : Int) : Nat → Int → Int × Int
  | 0, _ => (0, 3)
  | r + 1, far => if f (n - far) then (n - far, 0) else if f (n + far) then (n + far, 0) else nearS f n r (far + 1)
def nsV (n low high count : Int) : Int × Int := if okS n low high count then nearS (fun m => hasS m low high count) n 201 0 else (0, 2)
set_option maxHeartbeats 2000000 in
theorem specNearestSplit_any (n low high count : Int) (w : World) : Calls Try.prog 11 #[.int .i64 n, .int .i64 low, .int .i64 high, .int .i64 count] w fun e w' => e = .returned (.tuple #[.int .i64 (nsV n low high count).1, .int .i64 (nsV n low high count).2]) ∧ Below w.heap.size w w' := by
  cases h1 : inR n 1 1000000000
  · have e : nsV n low high count = (0, 2) := by unfold nsV okS; rw [h1]; rfl
    rw [e]
    have H1 := hide h1
    clear h1 e
    go_enter Try.func11, Try.ntmps11
    go_wp2_with fail
    refine (l04Ask_any _ _).mono ?_
    rintro e w' ⟨rfl, rfl⟩
    rw [H1.out]
    go_wp2_with fail
    go_ret2
    exact ⟨rfl, Below.refl _ _⟩
  · cases h2 : okR low high count
    · have e : nsV n low high count = (0, 2) := by unfold nsV okS; rw [h1, h2]; rfl
      rw [e]
      have H1 := hide h1
      have H2 := hide h2
      clear h1 h2 e
      go_enter Try.func11, Try.ntmps11
      go_wp2_with fail
      refine (l04Ask_any _ _).mono ?_
      rintro e w' ⟨rfl, rfl⟩
      rw [H1.out]
      go_wp2_with fail
      refine (l04Range_any _ _ _ _).mono ?_
      rintro e w' ⟨rfl, rfl⟩
      rw [H2.out]
      go_wp2_with fail
      go_ret2
      exact ⟨rfl, Below.refl _ _⟩
    · have hn := inR_true h1
      have e : nsV n low high count = nearS (fun m => hasS m low high count) n 201 0 := by unfold nsV okS; rw [h1, h2]; rfl
      rw [e]
      have HC := hide (fun m W => l04Has_any m low high count W h2)
      obtain ⟨f, hf⟩ : ∃ f : Int → Bool, f = fun m => hasS m low high count := ⟨_, rfl⟩
      have hf' : ∀ m, hasS m low high count = f m := fun m => by rw [hf]
      simp only [hf'] at HC ⊢
      have H1 := hide h1
      have H2 := hide h2
      clear h1 h2 e hf hf'
      go_enter Try.func11, Try.ntmps11
      go_wp2_with fail
      refine (l04Ask_any _ _).mono ?_
      rintro e w' ⟨rfl, rfl⟩
      rw [H1.out]
      go_wp2_with fail
      refine (l04Range_any _ _ _ _).mono ?_
      rintro e w' ⟨rfl, rfl⟩
      rw [H2.out]
      go_wp2_with fail
      go_loopw [10] (fun s10 wr => ∃ k : Nat, k ≤ 201 ∧ s10 = .int .i64 (k : Int) ∧ nearS f n 201 0 = nearS f n (201 - k) (k : Int) ∧ Below w.heap.size w wr) (fun s10 _ => 201 - (intOf s10).toNat)
      case atStart => exact ⟨0, by omega, rfl, rfl, Below.refl _ _⟩
      case round =>
        obtain ⟨k, hk, rfl, hnear, hbel⟩ := hrel
        have HN := hide hnear
        have HB := hide hbel
        clear hnear hbel
        by_cases hlt : k ≤ 200
        · have wa : IntKind.i64.wrap (n - (k : Int)) = n - k := IntWalk.i64_in _ (by omega)
          have wb : IntKind.i64.wrap (n + (k : Int)) = n + k := IntWalk.i64_in _ (by omega)
          have HS := hide (show nearS f n (201 - k) (k : Int) = if f (n - k) then (n - k, 0) else if f (n + k) then (n + k, 0) else nearS f n (201 - (k + 1)) ((k + 1 : Nat) : Int) by
            rw [show 201 - k = (201 - (k + 1)) + 1 by omega]
            rfl)
          cases f1 : f (n - k)
          · have HF1 := hide f1
            clear f1
            go_wp2_with fail
            refine (HC.out _ _).mono ?_
            rintro e w1 ⟨rfl, hb1⟩
            have HB1 := hide (bstep HB.out hb1)
            rw [HF1.out]
            clear hb1
            go_wp2_with fail
            cases f2 : f (n + k)
            · have HF2 := hide f2
              clear f2
              refine (HC.out _ _).mono ?_
              rintro e w2 ⟨rfl, hb2⟩
              have HB2 := hide (bstep HB1.out hb2)
              rw [HF2.out]
              clear hb2
              go_wp2_with fail
              go_roundw
              case rel => exact ⟨k + 1, by omega, by go_num, by rw [HN.out, HS.out, HF1.out, HF2.out]; rfl, HB2.out⟩
              case measure => simp only [intOf]; omega
            · have HF2 := hide f2
              clear f2
              refine (HC.out _ _).mono ?_
              rintro e w2 ⟨rfl, hb2⟩
              have HB2 := hide (bstep HB1.out hb2)
              rw [HF2.out]
              clear hb2
              go_wp2_with fail
              go_ret2
              rw [HN.out, HS.out, HF1.out, HF2.out]
              exact ⟨rfl, HB2.out⟩
          · have HF1 := hide f1
            clear f1
            go_wp2_with fail
            refine (HC.out _ _).mono ?_
            rintro e w1 ⟨rfl, hb1⟩
            have HB1 := hide (bstep HB.out hb1)
            rw [HF1.out]
            clear hb1
            go_wp2_with fail
            go_ret2
            rw [HN.out, HS.out, HF1.out]
            exact ⟨rfl, HB1.out⟩
        · have HR := hide (show nearS f n 201 0 = (0, 3) by rw [HN.out, show 201 - k = 0 by omega]; rfl)
          go_wp2_with fail
          go_ret2
          rw [HR.out]
          exact ⟨rfl, HB.out⟩
end Go.Proofs.Ythagogjklocmoaa
