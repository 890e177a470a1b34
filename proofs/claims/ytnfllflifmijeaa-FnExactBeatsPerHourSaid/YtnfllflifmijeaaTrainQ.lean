/-
  TrainRatio: contracts and the walk of its law.
-/
import Derived.Test.YtnfllflifmijeaaTrainR
namespace Go.Proofs.Ytnfllflifmijeaa
open Go.RowKit

def trN (ps : List (Int × Int)) : Int := if validT ps then (trGo ps 1 1).1 else 0
def trD (ps : List (Int × Int)) : Int := if validT ps then (trGo ps 1 1).2.1 else 0
def trC (ps : List (Int × Int)) : Int := if validT ps then codeT (trGo ps 1 1).2.2 else 1
theorem tr_f {ps : List (Int × Int)} (h : validT ps = false) : trN ps = 0 ∧ trD ps = 0 ∧ trC ps = 1 := by unfold trN trD trC; rw [h]; exact ⟨rfl, rfl, rfl⟩
theorem tr_t {ps : List (Int × Int)} (h : validT ps = true) : trN ps = (trGo ps 1 1).1 ∧ trD ps = (trGo ps 1 1).2.1 ∧ trC ps = codeT (trGo ps 1 1).2.2 := by unfold trN trD trC; rw [h]; exact ⟨rfl, rfl, rfl⟩
theorem trGo_false (ps : List (Int × Int)) (n d : Int) (h : (trGo ps n d).2.2 = false) : (trGo ps n d).1 = 0 ∧ (trGo ps n d).2.1 = 0 := by
  induction ps generalizing n d with
  | nil => exact absurd h (by simp [trGo])
  | cons p ps ih =>
    unfold trGo at h ⊢
    cases hok : mkOk (n * mkN (-p.1) p.2) (d * mkD (-p.1) p.2)
    · rw [if_neg (by simp)]; exact ⟨rfl, rfl⟩
    · rw [hok] at h
      rw [if_pos rfl] at h ⊢
      exact ih _ _ h
theorem tr_part (ps : List (Int × Int)) : partOf (trGo ps 1 1).2.2 (trGo ps 1 1).1 = (trGo ps 1 1).1 ∧ partOf (trGo ps 1 1).2.2 (trGo ps 1 1).2.1 = (trGo ps 1 1).2.1 := by
  cases h : (trGo ps 1 1).2.2
  · obtain ⟨h1, h2⟩ := trGo_false ps 1 1 h
    rw [h1, h2]; exact ⟨rfl, rfl⟩
  · exact ⟨rfl, rfl⟩
theorem codeT_of (ok : Bool) : codeOf ok = codeT ok := rfl
theorem specTrainRatio_any (ao : Option Addr) (ps : List (Int × Int)) (cap : Nat) (w : World) (h : ReadsP w ao ps) (hn : ps.length ≤ 1048576) :
    Calls Try.prog 23 #[.slice ao ps.length cap] w fun e w' => e = .returned (.tuple #[.agg #[.int .i64 (trN ps), .int .i64 (trD ps)], .int .i64 (trC ps)]) ∧ Below w.heap.size w w' := by
  have C0 := cell2_new (w := w) (u := .int .i64 0) (v := .int .i64 0) 34
  have H := hide (l05Ok_any ao ps cap (w.alloc (.cells #[.int .i64 0, .int .i64 0] 34)) (h.below (balloc (Below.refl _ _) _)) hn)
  have HC := hide C0
  have HR := hide h
  clear h C0
  cases hv : validT ps
  · have HV := hide hv
    obtain ⟨e1, e2, e3⟩ := tr_f hv
    rw [e1, e2, e3]
    clear e1 e2 e3
    go_enter Try.func23, Try.ntmps23
    go_wp2_with fail
    refine H.out.mono ?_
    rintro e w1 ⟨rfl, hb1⟩
    rw [HV.out]
    obtain ⟨z0, z1, z2, z3⟩ := HC.out.below hb1
    have hz0 := (HC.out.below hb1).lt
    go_wp2_with fail
    refine bodyPost_ret (v := .tuple #[.agg #[.int .i64 0, .int .i64 0], .int .i64 1]) (by simp [results, Try.results23, go_sem, z0, z1, z2, z3, hz0]) rfl ⟨rfl, ?_⟩
    repeat (first | exact Below.refl _ _ | refine bstep ?_ hb1 | refine balloc ?_ _ | refine bset ?_ (Nat.le_refl _) _)
  · have HV := hide hv
    obtain ⟨e1, e2, e3⟩ := tr_t hv
    have HP := hide (tr_part ps)
    rw [e1, e2, e3, ← codeT_of]
    clear e1 e2 e3
    go_enter Try.func23, Try.ntmps23
    go_wp2_with fail
    refine H.out.mono ?_
    rintro e w1 ⟨rfl, hb1⟩
    rw [HV.out]
    have B1 := hide (bstep (balloc (Below.refl w.heap.size w) _) hb1)
    have C1 := hide (HC.out.below hb1)
    clear hb1
    go_wp2_with fail
    refine (l05Ratio_any ao ps cap _ (HR.out.below B1.out) HV.out).mono ?_
    rintro e w2 ⟨rfl, hb2⟩
    have B2 := hide (bstep B1.out hb2)
    have C2 := hide (C1.out.below hb2)
    clear hb2
    obtain ⟨R, hR⟩ : ∃ R, R = trGo ps 1 1 := ⟨_, rfl⟩
    rw [← hR] at HP ⊢
    have HQ := hide hR
    clear hR
    obtain ⟨r1, r2, r3⟩ := R
    simp only at HP ⊢
    go_wp2_with fail
    refine (l02Code_any r1 r2 r3 _).mono ?_
    rintro e w3 ⟨rfl, hb3⟩
    rw [HP.out.1, HP.out.2]
    obtain ⟨z0, z1, z2, z3⟩ := C2.out.below hb3
    obtain ⟨y0, y1, y2, y3⟩ := (C2.out.below hb3).set (.int .i64 r1) (.int .i64 r2)
    have hz0 := (C2.out.below hb3).lt
    go_wp2_with fail
    refine bodyPost_ret (v := .tuple #[.agg #[.int .i64 r1, .int .i64 r2], .int .i64 (codeOf r3)]) (by simp [results, Try.results23, go_sem, z0, z1, z2, z3, y0, y1, hz0]) rfl ⟨by rw [← HQ.out], ?_⟩
    exact bset (bset (bstep B2.out hb3) (Nat.le_refl _) _) (Nat.le_refl _) _
theorem implTrainRatio_any (ao : Option Addr) (ps : List (Int × Int)) (cap : Nat) (w : World) (h : ReadsP w ao ps) (hn : ps.length ≤ 1048576) :
    Calls Try.prog 24 #[.slice ao ps.length cap] w fun e w' => e = .returned (.tuple #[.agg #[.int .i64 (trN ps), .int .i64 (trD ps)], .int .i64 (trC ps)]) ∧ Below w.heap.size w w' := by
  have C0 := cell2_new (w := w) (u := .int .i64 0) (v := .int .i64 0) 34
  have H := hide (implValidTrain_any ao ps cap (w.alloc (.cells #[.int .i64 0, .int .i64 0] 34)) (h.below (balloc (Below.refl _ _) _)) hn)
  have HC := hide C0
  have HR := hide h
  clear h C0
  cases hv : validT ps
  · have HV := hide hv
    obtain ⟨e1, e2, e3⟩ := tr_f hv
    rw [e1, e2, e3]
    clear e1 e2 e3
    go_enter Try.func24, Try.ntmps24
    go_wp2_with fail
    refine H.out.mono ?_
    rintro e w1 ⟨rfl, hb1⟩
    rw [HV.out]
    obtain ⟨z0, z1, z2, z3⟩ := HC.out.below hb1
    have hz0 := (HC.out.below hb1).lt
    go_wp2_with fail
    refine bodyPost_ret (v := .tuple #[.agg #[.int .i64 0, .int .i64 0], .int .i64 1]) (by simp [results, Try.results24, go_sem, z0, z1, z2, z3, hz0]) rfl ⟨rfl, ?_⟩
    repeat (first | exact Below.refl _ _ | refine bstep ?_ hb1 | refine balloc ?_ _ | refine bset ?_ (Nat.le_refl _) _)
  · have HV := hide hv
    obtain ⟨e1, e2, e3⟩ := tr_t hv
    rw [e1, e2, e3]
    clear e1 e2 e3
    go_enter Try.func24, Try.ntmps24
    go_wp2_with fail
    refine H.out.mono ?_
    rintro e w1 ⟨rfl, hb1⟩
    rw [HV.out]
    have B1 := hide (bstep (balloc (Below.refl w.heap.size w) _) hb1)
    have C1 := hide (HC.out.below hb1)
    clear hb1
    go_wp2_with fail
    refine (trainRatio_any ao ps cap _ (HR.out.below B1.out) HV.out).mono ?_
    rintro e w2 ⟨rfl, hb2⟩
    obtain ⟨R, hR⟩ : ∃ R, R = trGo ps 1 1 := ⟨_, rfl⟩
    rw [← hR]
    have HQ := hide hR
    clear hR
    obtain ⟨r1, r2, r3⟩ := R
    simp only
    obtain ⟨z0, z1, z2, z3⟩ := C1.out.below hb2
    obtain ⟨y0, y1, y2, y3⟩ := (C1.out.below hb2).set (.int .i64 r1) (.int .i64 r2)
    have hz0 := (C1.out.below hb2).lt
    go_wp2_with fail
    refine bodyPost_ret (v := .tuple #[.agg #[.int .i64 r1, .int .i64 r2], .int .i64 (codeT r3)]) (by simp [results, Try.results24, go_sem, z0, z1, z2, z3, y0, y1, hz0]) rfl ⟨by rw [← HQ.out], ?_⟩
    exact bset (bset (bstep B1.out hb2) (Nat.le_refl _) _) (Nat.le_refl _) _
theorem walk_FnExactTrainRatio (a : Option Addr) (len cap : Nat) (ps : List (Int × Int)) (w : World) (h : IsPairs w a len cap ps) :
    Calls Try.prog 5 #[.slice a len cap] w fun e w' => e = .returned (.bool true) ∧ Below w.heap.size w w' := by
  obtain ⟨rfl, hm, hr⟩ := h
  by_cases hl : ps.length ≤ 1048576
  · have hs : szP ps.length 1048576 = 1048576 - (ps.length : Int) := by unfold szP; rw [if_pos (by omega)]
    have hdd := hide (decide_eq_true (rfl : ps = ps))
    have HR := hide hr
    clear hr
    have hc : (trC ps != trC ps) = false := by simp
    have hq := hide (eqR_refl (trN ps) (trD ps))
    go_enter Try.func5, Try.ntmps5
    go_wp2_with fail
    refine (szPairS_any a ps.length cap 1048576 _ hm (by omega)).mono ?_
    rintro e w0 ⟨rfl, rfl⟩
    go_wp2_with fail
    refine (toPairS_any a ps cap _ HR.out hl).mono ?_
    rintro e w1 ⟨g1, rfl, o1, b1⟩
    go_wp2_with fail
    refine (specTrainRatio_any _ ps _ _ o1.reads hl).mono ?_
    rintro e w2 ⟨rfl, b2⟩
    have B2 := hide (balloc (bstep b1 b2) (.cells #[.int .i64 (trN ps), .int .i64 (trD ps)] 34))
    have C2 := hide (cell2_new (w := w2) (u := .int .i64 (trN ps)) (v := .int .i64 (trD ps)) 34)
    clear b1 b2 o1
    go_wp2_with fail
    refine (toPairS_any a ps cap _ (HR.out.below B2.out) hl).mono ?_
    rintro e w3 ⟨g3, rfl, o3, b3⟩
    have B3 := hide (bstep B2.out b3)
    have C3 := hide (C2.out.below b3)
    clear b3
    go_wp2_with fail
    refine (implTrainRatio_any _ ps _ _ o3.reads hl).mono ?_
    rintro e w4 ⟨rfl, b4⟩
    have B4 := hide (balloc (bstep B3.out b4) (.cells #[.int .i64 (trN ps), .int .i64 (trD ps)] 34))
    have O4 := hide ((o3.below b4).below (balloc (Below.refl _ _) (.cells #[.int .i64 (trN ps), .int .i64 (trD ps)] 34)))
    obtain ⟨z0, z1, z2, z3⟩ := C3.out.below b4
    have hz := (C3.out.below b4).lt
    clear b4 o3
    go_wp2_with fail
    refine (eqRatio_any _ _ _ _ _).mono ?_
    rintro e w5 ⟨rfl, b5⟩
    rw [hq.out]
    have B5 := hide (bstep B4.out b5)
    have O5 := hide (O4.out.below b5)
    clear b5
    go_wp2_with fail
    refine (toPairS_any a ps cap _ (HR.out.below B5.out) hl).mono ?_
    rintro e w6 ⟨g6, rfl, o6, b6⟩
    have B6 := hide (bstep B5.out b6)
    have O6 := hide (O5.out.below b6)
    clear b6
    go_wp2_with fail
    refine (eqPairS_any _ _ ps ps _ _ _ O6.out.reads o6.reads hl hl).mono ?_
    rintro e w7 ⟨rfl, b7⟩
    have hd := hdd.out
    go_wp2_with fail
    go_ret
    exact ⟨rfl, bstep B6.out b7⟩
  · have hs : szP ps.length 1048576 = -1 := by unfold szP; rw [if_neg (by omega)]
    go_enter Try.func5, Try.ntmps5
    go_wp2_with fail
    refine (szPairS_any a ps.length cap 1048576 _ hm (by omega)).mono ?_
    rintro e w0 ⟨rfl, rfl⟩
    go_wp2_with fail
    go_ret
    exact ⟨rfl, Below.refl _ _⟩
end Go.Proofs.Ytnfllflifmijeaa
