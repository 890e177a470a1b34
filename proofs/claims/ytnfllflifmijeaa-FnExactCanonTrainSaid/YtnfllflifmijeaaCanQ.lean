/-
  CanonTrain: the walk of its law.
-/
import Derived.Test.YtnfllflifmijeaaCanW
namespace Go.Proofs.Ytnfllflifmijeaa
open Go.RowKit

theorem own_neP_r {w1 w2 : World} {base : Nat} {v0 v1 : Value} {xs ys : List (Int × Int)} (o1 : OwnsP w1 base v0 xs) (o2 : OwnsP w2 w1.heap.size v1 ys) : v1.ownBlock = none ∨ v1.ownBlock ≠ v0.ownBlock := by
  cases h : v1.ownBlock with
  | none => exact .inl rfl
  | some k =>
    refine .inr fun e => ?_
    have h1 := o1.lt k e.symm
    have h2 := o2.lt k h
    omega

set_option maxHeartbeats 1000000 in
theorem walk_FnExactCanonTrain (a : Option Addr) (len cap : Nat) (ps : List (Int × Int)) (w : World) (h : IsPairs w a len cap ps) :
    Calls Try.prog 7 #[.slice a len cap] w fun e w' => e = .returned (.bool true) ∧ Below w.heap.size w w' := by
  obtain ⟨rfl, hm, hr⟩ := h
  by_cases hl : ps.length ≤ 1048576
  · have hs : szP ps.length 1048576 = 1048576 - (ps.length : Int) := by unfold szP; rw [if_pos (by omega)]
    have hlen : (canL ps).length ≤ 1048576 := canL_len ps
    obtain ⟨L, hL⟩ : ∃ L, L = canL ps := ⟨_, rfl⟩
    have H1 := specCanonTrain_any
    have H2 := implCanonTrain_any
    have S1 : ∀ ao c w, ReadsP w ao ps → Calls Try.prog 28 #[.slice ao ps.length c] w fun e w' => ∃ ao' cap', e = .returned (.tuple #[.slice ao' L.length cap', .int .i64 (trainC ps)]) ∧ OwnsP w' w.heap.size (.slice ao' L.length cap') L ∧ Below w.heap.size w w' := fun ao c w h => by rw [hL]; exact H1 ao ps c w h hl
    have S2 : ∀ ao c w, ReadsP w ao ps → Calls Try.prog 29 #[.slice ao ps.length c] w fun e w' => ∃ ao' cap', e = .returned (.tuple #[.slice ao' L.length cap', .int .i64 (trainC ps)]) ∧ OwnsP w' w.heap.size (.slice ao' L.length cap') L ∧ Below w.heap.size w w' := fun ao c w h => by rw [hL]; exact H2 ao ps c w h hl
    rw [← hL] at hlen
    have C1 := hide S1
    have C2 := hide S2
    have HR := hide hr
    obtain ⟨cc, hcc⟩ : ∃ c, c = trainC ps := ⟨_, rfl⟩
    have hcn : (cc != cc) = false := by simp
    rw [← hcc] at C1 C2
    clear hr H1 H2 S1 S2 hL hcc
    go_enter Try.func7, Try.ntmps7
    go_wp2_with fail
    refine (szPairS_any a ps.length cap 1048576 _ hm (by omega)).mono ?_
    rintro e w0 ⟨rfl, rfl⟩
    go_wp2_with fail
    refine (toPairS_any a ps cap _ HR.out hl).mono ?_
    rintro e w1 ⟨g1, rfl, o1, b1⟩
    go_wp2_with fail
    refine (C1.out _ _ _ o1.reads).mono ?_
    rintro e w2 ⟨x1, d1, rfl, s1, b2⟩
    have B2 := hide (bstep b1 b2)
    clear b1 b2 o1
    go_wp2_with fail
    refine (toPairS_any a ps cap _ (HR.out.below B2.out) hl).mono ?_
    rintro e w3 ⟨g3, rfl, o3, b3⟩
    have B3 := hide (bstep B2.out b3)
    have s13 := s1.below b3
    clear b3
    go_wp2_with fail
    refine (C2.out _ _ _ o3.reads).mono ?_
    rintro e w4 ⟨x2, d2, rfl, t1, b4⟩
    have B4 := hide (bstep B3.out b4)
    have s14 := s13.below b4
    have o34 := o3.below b4
    clear b4
    go_wp2_with fail
    refine (eqPairS_any _ _ L L _ _ _ t1.reads s14.reads hlen hlen).mono ?_
    rintro e w5 ⟨rfl, b5⟩
    rw [show decide (L = L) = true from decide_eq_true rfl]
    have B5 := hide (bstep B4.out b5)
    have s15 := s14.below b5
    have o35 := o34.below b5
    have t15 := t1.below b5
    clear b5
    go_wp2_with fail
    refine (toPairS_any a ps cap _ (HR.out.below B5.out) hl).mono ?_
    rintro e w6 ⟨g6, rfl, o6, b6⟩
    have B6 := hide (bstep B5.out b6)
    have s16 := s15.below b6
    have o36 := o35.below b6
    have t16 := t15.below b6
    clear b6
    go_wp2_with fail
    refine (eqPairS_any _ _ ps ps _ _ _ o36.reads o6.reads hl hl).mono ?_
    rintro e w7 ⟨rfl, b7⟩
    rw [show decide (ps = ps) = true from decide_eq_true rfl]
    have B7 := hide (bstep B6.out b7)
    have s17 := s16.below b7
    have o37 := o36.below b7
    have t17 := t16.below b7
    clear b7
    go_wp2_with fail
    refine (markPairS_any _ ps 1 _ _ o37 (by omega) (by omega)).mono ?_
    rintro e w8 ⟨rfl, o38, g8⟩
    have s18 := s17.same g8 (own_neP s1 o37)
    have t18 := t17.same g8 (own_neP_r o3 t17)
    have B8 := hide (below_markP B7.out g8 o37 B2.out.size)
    go_wp2_with fail
    refine (eqPairS_any _ _ L L _ _ _ t18.reads s18.reads hlen hlen).mono ?_
    rintro e w9 ⟨rfl, b9⟩
    rw [show decide (L = L) = true from decide_eq_true rfl]
    have B9 := hide (bstep B8.out b9)
    have s19 := s18.below b9
    have t19 := t18.below b9
    clear b9
    go_wp2_with fail
    refine (markPairS_any _ L 1 _ _ t19 (by omega) (by omega)).mono ?_
    rintro e w10 ⟨rfl, t20, g10⟩
    have s20 := s19.same g10 (own_neP s13 t19)
    have B10 := hide (below_markP B9.out g10 t19 B3.out.size)
    go_wp2_with fail
    refine (heldPairS_any _ 1 _ _ _ t20 (by omega) (by omega)).mono ?_
    rintro e w11 ⟨rfl, b11⟩
    have B11 := hide (bstep B10.out b11)
    have s21 := s20.below b11
    have t21 := t20.below b11
    clear b11
    go_wp2_with fail
    refine (toPairS_any a ps cap _ (HR.out.below B11.out) hl).mono ?_
    rintro e w12 ⟨g12, rfl, o12, b12⟩
    have B12 := hide (bstep B11.out b12)
    have s22 := s21.below b12
    have t22 := t21.below b12
    clear b12
    go_wp2_with fail
    refine (C2.out _ _ _ o12.reads).mono ?_
    rintro e w13 ⟨x3, d3, rfl, u1, b13⟩
    have B13 := hide (bstep B12.out b13)
    have s23 := s22.below b13
    have t23 := t22.below b13
    clear b13
    go_wp2_with fail
    refine (eqPairS_any _ _ L L _ _ _ u1.reads s23.reads hlen hlen).mono ?_
    rintro e w14 ⟨rfl, b14⟩
    rw [show decide (L = L) = true from decide_eq_true rfl]
    have B14 := hide (bstep B13.out b14)
    have t24 := t23.below b14
    clear b14
    go_wp2_with fail
    refine (heldPairS_any _ 1 _ _ _ t24 (by omega) (by omega)).mono ?_
    rintro e w15 ⟨rfl, b15⟩
    go_wp2_with fail
    go_ret
    exact ⟨rfl, bstep B14.out b15⟩
  · have hs : szP ps.length 1048576 = -1 := by unfold szP; rw [if_neg (by omega)]
    go_enter Try.func7, Try.ntmps7
    go_wp2_with fail
    refine (szPairS_any a ps.length cap 1048576 _ hm (by omega)).mono ?_
    rintro e w0 ⟨rfl, rfl⟩
    go_wp2_with fail
    go_ret
    exact ⟨rfl, Below.refl _ _⟩
end Go.Proofs.Ytnfllflifmijeaa
