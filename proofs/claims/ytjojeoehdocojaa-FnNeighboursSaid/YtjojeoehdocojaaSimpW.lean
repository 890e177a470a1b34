/-
  The simplest ratio between two: contracts of the reference's loop and the program's recursion.
-/
import Derived.Test.YtjojeoehdocojaaSimple
import Derived.Test.YtjojeoehdocojaaTerms
import Derived.Test.YtjojeoehdocojaaRTW
import Derived.Test.YtjojeoehdocojaaNearB
import Derived.Test.YtjojeoehdocojaaConv
import Derived.Test.YtjojeoehdocojaaCmp
namespace Go.Proofs.Ytjojeoehdocojaa
open Go.RowKit

theorem l00Max_any (a b : Int) (w : World) : Calls Try.prog 75 #[.int .i64 a, .int .i64 b] w fun e w' => e = .returned (.int .i64 (max a b)) ∧ w = w' := by
  by_cases h : b < a
  · go_enter Try.func75, Try.ntmps75
    go_wp2
    go_ret
    exact ⟨ret_int (by omega), rfl⟩
  · go_enter Try.func75, Try.ntmps75
    go_wp2
    go_ret
    exact ⟨ret_int (by omega), rfl⟩
theorem l00MinZ_any (a b : Int) (w : World) : Calls Try.prog 74 #[.int .i64 a, .int .i64 b] w fun e w' => e = .returned (.int .i64 (min a b)) ∧ w = w' := by
  by_cases h : a < b
  · go_enter Try.func74, Try.ntmps74
    go_wp2
    go_ret
    exact ⟨ret_int (by omega), rfl⟩
  · go_enter Try.func74, Try.ntmps74
    go_wp2
    go_ret
    exact ⟨ret_int (by omega), rfl⟩
def wholeOk (a1 a2 b1 b2 : Int) : Bool := decide (-(-a1 / a2) ≤ b1 / b2)
def wholeZ (a1 a2 b1 b2 : Int) : Int := if wholeOk a1 a2 b1 b2 then max (-(-a1 / a2)) (min (b1 / b2) 0) else 0
theorem l03Whole_any (a1 a2 b1 b2 : Int) (w : World) (h : Brd a1 a2 b1 b2) :
    Calls Try.prog 71 #[.agg #[.int .i64 a1, .int .i64 a2], .agg #[.int .i64 b1, .int .i64 b2]] w fun e w' => e = .returned (.tuple #[.int .i64 (wholeZ a1 a2 b1 b2), .bool (wholeOk a1 a2 b1 b2)]) ∧ Below w.heap.size w w' := by
  obtain ⟨h1, h2, h3, h4, _⟩ := h
  have fi := floor_in h2.1 h4
  have fa := floor_in (p1 := -a1) h1.1 (by omega)
  have HM := hide (l00MinZ_any (b1 / b2) 0)
  have HX := hide (l00Max_any (-(-a1 / a2)) (min (b1 / b2) 0))
  have HA := hide (fun w => l02Down_any (-a1) a2 w (by omega) (by omega))
  have HB := hide (fun w => l02Down_any b1 b2 w (by omega) (by omega))
  by_cases hc : -(-a1 / a2) ≤ b1 / b2
  · have ho : wholeOk a1 a2 b1 b2 = true := decide_eq_true hc
    have hz : wholeZ a1 a2 b1 b2 = max (-(-a1 / a2)) (min (b1 / b2) 0) := by unfold wholeZ; rw [ho]; rfl
    rw [ho, hz]
    clear ho hz
    go_enter Try.func71, Try.ntmps71
    go_wp2_with fail
    refine (HA.out _).mono ?_
    rintro e w' ⟨rfl, rfl⟩
    go_wp2_with fail
    refine (HB.out _).mono ?_
    rintro e w' ⟨rfl, rfl⟩
    go_wp2_with fail
    refine (HM.out _).mono ?_
    rintro e w' ⟨rfl, rfl⟩
    go_wp2_with fail
    refine (HX.out _).mono ?_
    rintro e w' ⟨rfl, rfl⟩
    go_wp2_with fail
    go_ret2
    exact ⟨rfl, balloc (balloc (Below.refl _ _) _) _⟩
  · have ho : wholeOk a1 a2 b1 b2 = false := decide_eq_false hc
    have hz : wholeZ a1 a2 b1 b2 = 0 := by unfold wholeZ; rw [ho]; rfl
    rw [ho, hz]
    clear ho hz
    go_enter Try.func71, Try.ntmps71
    go_wp2_with fail
    refine (HA.out _).mono ?_
    rintro e w' ⟨rfl, rfl⟩
    go_wp2_with fail
    refine (HB.out _).mono ?_
    rintro e w' ⟨rfl, rfl⟩
    go_wp2_with fail
    go_ret2
    exact ⟨rfl, balloc (balloc (Below.refl _ _) _) _⟩
theorem gset (w : World) (g i : Nat) (u : Value) : w.grownBy (w.setCell ⟨g, i, none⟩ u) (some g) :=
  ⟨rfl, rfl, rfl, by simp, fun k _ hk => heap_setCell_other w ⟨g, i, none⟩ k u (fun e => hk (by rw [e]))⟩
theorem OwnsI.far {w : World} {base g i : Nat} {v u : Value} {xs : List Int} (h : OwnsI w base v xs) (hg : g < base) : OwnsI (w.setCell ⟨g, i, none⟩ u) base v xs :=
  h.same (gset w g i u) (by
    cases hb : v.ownBlock with
    | none => exact .inl rfl
    | some k => exact .inr fun e => by have := (h.lt k hb).1; cases e; omega)
def SimPost (a1 a2 b1 b2 : Int) (w : World) (e : Ending) (w' : World) : Prop := (∃ m n : Int, SimpZ a1 a2 b1 b2 m n ∧ validR m n = true ∧ e = .returned (.agg #[.int .i64 m, .int .i64 n])) ∧ Below w.heap.size w w'
set_option maxHeartbeats 2000000 in
theorem l03Simplest_any (a1 a2 b1 b2 : Int) (w : World) (h : Brd a1 a2 b1 b2) :
    Calls Try.prog 57 #[.agg #[.int .i64 a1, .int .i64 a2], .agg #[.int .i64 b1, .int .i64 b2]] w (SimPost a1 a2 b1 b2 w) := by
  have HS := hide (sinv_start h)
  clear h
  have K0 := hide ((((cell2_new (w := w) (u := .int .i64 a1) (v := .int .i64 a2) 27).alloc (.cells #[.int .i64 b1, .int .i64 b2] 27)).alloc (.cells #[.int .i64 0, .int .i64 0] 27)).alloc (.cells #[] 2))
  have K1 := hide (((res2_cells (w := w) (.cells #[.int .i64 a1, .int .i64 a2] 27) (.int .i64 b1) (.int .i64 b2) (.int .i64 0) (.int .i64 0) 27 27).1).alloc (.cells #[] 2))
  have K2 := hide (((res2_cells (w := w) (.cells #[.int .i64 a1, .int .i64 a2] 27) (.int .i64 b1) (.int .i64 b2) (.int .i64 0) (.int .i64 0) 27 27).2).alloc (.cells #[] 2))
  have B0 := hide (balloc (balloc (balloc (Below.refl w.heap.size w) (.cells #[.int .i64 a1, .int .i64 a2] 27)) (.cells #[.int .i64 b1, .int .i64 b2] 27)) (.cells #[.int .i64 0, .int .i64 0] 27))
  have O0 := hide (OwnsI.made_ (w := (((w.alloc (.cells #[.int .i64 a1, .int .i64 a2] 27)).alloc (.cells #[.int .i64 b1, .int .i64 b2] 27)).alloc (.cells #[.int .i64 0, .int .i64 0] 27))))
  go_enter Try.func57, Try.ntmps57
  go_wp2_with fail
  go_loopw [5, 6, 7, 8] (fun s5 _ _ _ wr => ∃ (ts : List Int) (ao : Option Addr) (cap : Nat) (p1 p2 q1 q2 : Int), s5 = .slice ao ts.length cap ∧ OwnsI wr (w.heap.size + 1 + 1 + 1) (.slice ao ts.length cap) ts ∧
      Cell2 wr w.heap.size (.int .i64 p1) (.int .i64 p2) ∧ Cell2 wr (w.heap.size + 1) (.int .i64 q1) (.int .i64 q2) ∧ Cell2 wr (w.heap.size + 1 + 1) (.int .i64 0) (.int .i64 0) ∧ SInv a1 a2 b1 b2 ts p1 p2 q1 q2 ∧ Below w.heap.size w wr)
      (fun _ _ _ _ wr => (cellI wr ⟨w.heap.size, 1, none⟩ + cellI wr ⟨w.heap.size + 1, 1, none⟩).toNat)
  case atStart =>
    refine ⟨[], some ⟨w.heap.size + 1 + 1 + 1, 0, none⟩, 0, a1, a2, b1, b2, rfl, ?_, K0.out, K1.out, K2.out, HS.out, balloc B0.out _⟩
    have h := O0.out
    simpa using h
  case round =>
    obtain ⟨ts, ao, cap, p1, p2, q1, q2, rfl, hown, c0, c1, c2, hinv, hbel⟩ := hrel
    have HO := hide hown
    have C0 := hide c0
    have C1 := hide c1
    have C2 := hide c2
    have HI := hide hinv
    have HB := hide hbel
    have hbrd := hinv.1
    have HBR := hide hbrd
    have hsz : w.heap.size + 1 + 1 < wr.heap.size := c2.lt
    have hln : ts.length ≤ 1000000000 := by
      have := hinv.2.1
      obtain ⟨g1, g2, _⟩ := hbrd
      omega
    obtain ⟨k0, k1, k2, k3⟩ := c0
    obtain ⟨k4, k5, k6, k7⟩ := c1
    have HW := hide (fun w => l03Whole_any p1 p2 q1 q2 w hbrd)
    clear hown c2 hinv hbel hbrd
    cases ho : wholeOk p1 p2 q1 q2
    · have HNO := hide (of_decide_eq_false ho)
      rw [ho] at HW
      have HWW := hide ho
      clear ho
      obtain ⟨x1, x2, x3, x4⟩ := whole_none HBR.out (by have := HNO.out; omega)
      have hin := floor_in HBR.out.1.1 HBR.out.2.2.1
      obtain ⟨y1, y2, y3, y4, _⟩ := HBR.out
      have HST := hide (sinv_step HI.out (by have := HNO.out; omega))
      have HD := fun w => l02Down_any p1 p2 w (by omega) (by omega)
      obtain ⟨n, hnn⟩ : ∃ n, n = p1 / p2 := ⟨_, rfl⟩
      rw [← hnn] at x1 x2 x3 x4 hin HST HD
      have e1 : (n + 1) * p2 = n * p2 + p2 := by rw [Int.add_mul, Int.one_mul]
      have e2 : (n + 1) * q2 = n * q2 + q2 := by rw [Int.add_mul, Int.one_mul]
      rw [e1] at x2
      rw [e2] at x4
      have HDD := hide HD
      clear hnn e1 e2 HD
      go_wp2_with fail
      refine (HW.out _).mono ?_
      rintro e w1 ⟨rfl, hb1⟩
      have O1 := hide (HO.out.below hb1)
      have D0 := hide (C0.out.below hb1)
      have D1 := hide (C1.out.below hb1)
      have D2 := hide (C2.out.below hb1)
      have B1 := hide (bstep HB.out hb1)
      have hsz1 : w.heap.size + 1 + 1 + 1 ≤ w1.heap.size := by have := hb1.size; omega
      clear hb1 k0 k1 k2 k3 k4 k5 k6 k7
      obtain ⟨k0, k1, k2, k3⟩ := D0.out
      go_wp2_with fail
      refine (HDD.out _).mono ?_
      rintro e w' ⟨rfl, rfl⟩
      go_wp2_with (at_builtin; refine wpList_appendI rfl _ _ rfl (w.heap.size + 1 + 1 + 1) _ ts rfl O1.out n _ rfl (by omega) hsz1 ?_; intro ao2 cap2 w2 hown2 hg2; clear k0 k1 k2 k3; obtain ⟨k0, k1, k2, k3⟩ := D0.out.grown hg2 (fun k hk => by have := O1.out.lt k hk; omega); obtain ⟨k4, k5, k6, k7⟩ := D1.out.grown hg2 (fun k hk => by have := O1.out.lt k hk; omega); have hlt : w.heap.size + 1 + 1 < w2.heap.size := (D2.out.grown hg2 (fun k hk => by have := O1.out.lt k hk; omega)).lt; have hlt1 : w.heap.size + 1 < w2.heap.size := (by omega); have hlt2 : w.heap.size < w2.heap.size := (by omega))
      go_roundw
      case rel =>
        refine ⟨ts ++ [n], ao2, cap2, q2, q1 - n * q2, p2, p1 - n * p2, by simp, ?_, ?_, ?_, ?_, HST.out, ?_⟩
        · have h := ((((hown2.far (i := 0) (u := .int .i64 q2) (show w.heap.size < w.heap.size + 1 + 1 + 1 by omega)).far (i := 1) (u := .int .i64 (q1 - n * q2)) (show w.heap.size < w.heap.size + 1 + 1 + 1 by omega)).far (i := 0) (u := .int .i64 p2) (show w.heap.size + 1 < w.heap.size + 1 + 1 + 1 by omega)).far (i := 1) (u := .int .i64 (p1 - n * p2)) (show w.heap.size + 1 < w.heap.size + 1 + 1 + 1 by omega)).below (balloc (Below.refl _ _) (.cells #[.int .i64 p2, .int .i64 (p1 - n * p2)] 27))
          simpa using h
        · exact (((D0.out.grown hg2 (fun k hk => by have := O1.out.lt k hk; omega)).set _ _).other (by omega) _ _).alloc _
        · exact (((D1.out.grown hg2 (fun k hk => by have := O1.out.lt k hk; omega)).other (by omega) _ _).set _ _).alloc _
        · exact (((D2.out.grown hg2 (fun k hk => by have := O1.out.lt k hk; omega)).other (by omega) _ _).other (by omega) _ _).alloc _
        · exact balloc (bset (bset (bset (bset (B1.out.grown hg2 (by omega) (fun k hk => by have := (O1.out.lt k hk).1; omega)) (Nat.le_refl _) _) (Nat.le_refl _) _) (Nat.le_succ _) _) (Nat.le_succ _) _) _
      case measure =>
        rw [cellI_of ((((D0.out.grown hg2 (fun k hk => by have := O1.out.lt k hk; omega)).set _ _).other (by omega) _ _).alloc _).2.1,
          cellI_of ((((D1.out.grown hg2 (fun k hk => by have := O1.out.lt k hk; omega)).other (by omega) _ _).set _ _).alloc _).2.1, cellI_of C0.out.2.1, cellI_of C1.out.2.1]
        omega
    · have HYES := hide (sinv_end HI.out (of_decide_eq_true ho))
      have hz : wholeZ p1 p2 q1 q2 = max (-(-p1 / p2)) (min (q1 / q2) 0) := by unfold wholeZ; rw [ho]; rfl
      rw [ho, hz] at HW
      obtain ⟨z, hzz⟩ : ∃ z, z = max (-(-p1 / p2)) (min (q1 / q2) 0) := ⟨_, rfl⟩
      rw [← hzz] at HW HYES
      have HWH := hide HW
      clear ho hz hzz HW
      go_wp2_with fail
      refine (HWH.out.out _).mono ?_
      rintro e w1 ⟨rfl, hb1⟩
      have O1 := hide (HO.out.below hb1)
      have D2 := hide (C2.out.below hb1)
      have B1 := hide (bstep HB.out hb1)
      have hsz1 : w.heap.size + 1 + 1 + 1 ≤ w1.heap.size := by have := hb1.size; omega
      clear hb1 k0 k1 k2 k3 k4 k5 k6 k7
      go_wp2_with (at_builtin; refine wpList_appendI rfl _ _ rfl (w.heap.size + 1 + 1 + 1) _ ts rfl O1.out z _ rfl (by omega) hsz1 ?_; intro ao2 cap2 w2 hown2 hg2)
      obtain ⟨hfin, htail, hinb⟩ := HYES.out
      obtain ⟨m, n, hr1, hr2, hr3⟩ := hfin
      have HR1 := hide hr1
      have hlen : (ts ++ [z]).length = ts.length + 1 := by simp
      have HC := fun w' (hr : ReadsI w' ao2 (ts ++ [z])) => l03Ratio_any ao2 (ts ++ [z]) cap2 w' hr htail (by rw [hlen]; have := HI.out.2.1; obtain ⟨g1, g2, _⟩ := HBR.out; omega) (fun j hj => by have := hinb _ (getD_mem (ts ++ [z]) j hj); omega)
      rw [hlen, hr1] at HC
      have HCC := hide HC
      have D3 := hide (D2.out.grown hg2 (fun k hk => by have := O1.out.lt k hk; omega))
      have B2 := hide (B1.out.grown hg2 (by omega) (fun k hk => by have := (O1.out.lt k hk).1; omega))
      have R2 := hide hown2.reads
      have HV := hide hr2
      have HZ := hide hr3
      clear hg2 hown2 hr1 hr2 hr3 htail hinb HC hlen
      go_wp2_with fail
      refine (HCC.out _ R2.out).mono ?_
      rintro e w3 ⟨rfl, hb3⟩
      have hlt : w.heap.size + 1 + 1 < w3.heap.size := (D3.out.below hb3).lt
      have hlt1 : w.heap.size + 1 < w3.heap.size := by omega
      have B3 := hide (bstep B2.out hb3)
      obtain ⟨k0, k1, k2, k3⟩ := D3.out.below hb3
      clear hb3
      go_wp2_with fail
      refine bodyPost_ret (v := .agg #[.int .i64 m, .int .i64 n]) (by simp [results, Try.results57, go_sem, k0, k1, hlt, hlt1]) rfl ⟨⟨m, n, HZ.out, HV.out, rfl⟩, ?_⟩
      exact balloc (bset (bset B3.out (by have := hlt1; show w.heap.size ≤ w.heap.size + 1 + 1; omega) _) (by show w.heap.size ≤ w.heap.size + 1 + 1; omega) _) _
end Go.Proofs.Ytjojeoehdocojaa
