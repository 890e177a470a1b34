/-
  ReadRatio: the reference's walk.
-/
import Derived.Test.YtnlimfijepjliaaDoorRatP
import Derived.Test.YtnlimfijepjliaaDoorSpl
import Derived.Test.YtnlimfijepjliaaDoorRdD
import Derived.Test.YtnlimfijepjliaaDoorCell
namespace Go.Proofs.YtnlimfijepjliaaDoor
open Go.RowKit

theorem splitBy_len (b : UInt8) : ∀ (l : List UInt8) (x : List UInt8), x ∈ splitBy b l → x.length ≤ l.length
  | [], x, h => by simp [splitBy] at h; simp [h]
  | c :: l, x, h => by
    rw [splitBy] at h
    by_cases hc : c = b
    · rw [if_pos hc] at h
      rcases List.mem_cons.1 h with rfl | h
      · simp
      · have := splitBy_len b l x h
        rw [List.length_cons]; omega
    · rw [if_neg hc] at h
      cases hs : splitBy b l with
      | nil => exact absurd hs (splitBy_ne b l)
      | cons y t =>
        rw [hs, consHead] at h
        rcases List.mem_cons.1 h with rfl | h
        · have := splitBy_len b l y (by rw [hs]; simp)
          rw [List.length_cons, List.length_cons]; omega
        · have := splitBy_len b l x (by rw [hs]; simp [h])
          rw [List.length_cons]; omega
theorem toBA_size (x : List UInt8) : (toBA x).size = x.length := rfl
theorem cell2_set1 {w : World} {g : Nat} {u v v' : Value} (h : Cell2 w g u v) : Cell2 (w.setCell ⟨g, 1, none⟩ v') g u v' := by
  obtain ⟨k0, k1, k2, k3⟩ := h
  refine ⟨?_, World.cell?_setCell_same _ _ _ k1, ?_, ?_⟩
  · rw [World.cell?_setCell_other _ _ _ _ (fun e => by cases e)]
    exact k0
  · simpa [go_sem] using k2
  · simpa [go_sem] using k3
theorem cell2_set1_other {w : World} {g g' : Nat} {u v v' : Value} (h : Cell2 w g u v) (hne : ¬ g = g') : Cell2 (w.setCell ⟨g', 1, none⟩ v') g u v := by
  obtain ⟨k0, k1, k2, k3⟩ := h
  refine ⟨?_, ?_, ?_, ?_⟩
  · rw [World.cell?_setCell_other _ _ _ _ (fun e => by cases e)]; exact k0
  · rw [World.cell?_setCell_other _ _ _ _ (fun e => by cases e; exact hne rfl)]; exact k1
  · simpa [go_sem] using k2
  · simpa [go_sem] using k3
set_option maxHeartbeats 4000000 in
theorem l02Read_any (s : ByteArray) (w : World) (hs : s.size ≤ 4294967280) :
    Calls Tryd.prog 68 #[.string s] w fun e w' => e = .returned (rrV (rrS s.data.toList)) ∧ Below w.heap.size w w' := by
  have B0 := hide (balloc (Below.refl w.heap.size w) (.cells #[.int .i64 0, .int .i64 0] 27))
  have K0 := hide (cell2_new (w := w) (u := .int .i64 0) (v := .int .i64 0) 27)
  have hle := splitBy_len 47 s.data.toList
  rw [len_of] at hle
  cases hsp : splitBy 47 s.data.toList with
  | nil => exact absurd hsp (splitBy_ne 47 _)
  | cons x r =>
    have N1 := hide (fun w => l01Number_any (toBA x) w (by rw [toBA_size]; have := hle x (by rw [hsp]; simp); omega))
    rw [toBA_list] at N1
    unfold rdV at N1
    obtain ⟨n, hn⟩ : ∃ n, n = rdN x := ⟨_, rfl⟩
    obtain ⟨o, ho⟩ : ∃ o, o = rdB x := ⟨_, rfl⟩
    rw [← hn, ← ho] at N1
    cases r with
    | nil =>
      have hws : splS 47 s = [toBA x] := by unfold splS; rw [hsp]; rfl
      have CS := hide (fun w => show Calls Tryd.prog 52 #[.string s, .int .u8 47] w fun e w' => ∃ ao cap, e = .returned (.slice ao 1 cap) ∧ OwnsS w' w.heap.size (.slice ao 1 cap) ([toBA x]) ∧ Below w.heap.size w w' from by
        have h := l01Split_any s 47 w hs
        rw [hws] at h
        exact h)
      have hr : rrS s.data.toList = if o = true ∧ validR n 1 = true then some (n, 1) else none := by unfold rrS; rw [hsp, ho, hn]
      rw [hr]
      obtain ⟨X, hX⟩ : ∃ X, X = toBA x := ⟨_, rfl⟩
      rw [← hX] at N1 CS
      have CV := hide (fun w => l02Ok_any n 1 w)
      obtain ⟨R, hR⟩ : ∃ R : Value, R = rrV (if o = true ∧ validR n 1 = true then some (n, 1) else none) := ⟨_, rfl⟩
      rw [← hR]
      have HR := hide hR
      clear hn ho hX hws hr hsp hle hR
      go_enter Tryd.func68, Tryd.ntmps68
      go_wp2_with fail
      refine (CS.out _).mono ?_
      rintro e w1 ⟨ao, cap, rfl, hown, hb1⟩
      have B1 := hide (bstep B0.out hb1)
      have K1 := hide (K0.out.below hb1)
      rcases hown.form with ⟨_, h0⟩ | ⟨g, cap', e, hg1, hg2, _, _⟩
      · simp at h0
      simp only [Value.slice.injEq] at e
      obtain ⟨rfl, e2, rfl⟩ := e
      clear e2
      have c0 : w1.cell? ⟨g, 0, none⟩ = some (.string X) := hown.at_ 0 (by simp)
      clear hown hb1
      go_wp2_with fail
      refine (N1.out _).mono ?_
      rintro e w2 ⟨rfl, hb2⟩
      have B2 := hide (bstep B1.out hb2)
      have K2 := hide (K1.out.below hb2)
      obtain ⟨k0, k1, k2, k3⟩ := K2.out
      have hl : w.heap.size < w2.heap.size := K2.out.lt
      have hl' : w.heap.size ≤ w2.heap.size := by omega
      have hne : ¬ w2.heap.size = w.heap.size := by omega
      clear hb2 c0
      cases o
      · have e : R = rrV none := by rw [HR.out, if_neg (by simp)]
        have HE := hide e
        clear e
        go_wp2_with fail
        refine bodyPost_ret (v := .tuple #[.agg #[.int .i64 0, .int .i64 0], .bool false]) (by simp [results, Tryd.results68, go_sem, k0, k1, hl, hl', hne]) rfl ⟨by rw [HE.out]; rfl, ?_⟩
        repeat (first | exact B2.out | refine balloc ?_ _ | refine bset ?_ (by first | (simp; done) | (simp; omega)) _)
      · cases hv : validR n 1
        · have e : R = rrV none := by rw [HR.out, hv, if_neg (by simp)]
          have HE0 := hide e
          rw [hv] at CV
          have BA := hide (balloc B2.out (.cells #[.int .i64 n, .int .i64 1] 27))
          have KA := hide (K2.out.alloc (.cells #[.int .i64 n, .int .i64 1] 27))
          have KR := hide (cell2_new (w := w2) (u := .int .i64 n) (v := .int .i64 1) 27)
          clear e hv k0 k1 k2 k3
          go_wp2_with fail
          refine (CV.out _).mono ?_
          rintro e w3 ⟨rfl, hb3⟩
          have B3 := hide (bstep BA.out hb3)
          obtain ⟨k0, k1, k2, k3⟩ := KA.out.below hb3
          obtain ⟨r0, r1, r2, r3⟩ := KR.out.below hb3
          have e := HE0.out
          clear hb3
          have HE := hide e
          clear e
          go_wp2_with fail
          refine bodyPost_ret (v := .tuple #[.agg #[.int .i64 0, .int .i64 0], .bool false]) (by simp [results, Tryd.results68, go_sem, k0, k1, hl, hl', hne]) rfl ⟨by rw [HE.out]; rfl, ?_⟩
          repeat (first | exact B3.out | refine balloc ?_ _ | refine bset ?_ (by first | (simp; done) | (simp; omega)) _)
        · have e : R = rrV (some (n, 1)) := by rw [HR.out, hv, if_pos ⟨rfl, rfl⟩]
          have HE0 := hide e
          rw [hv] at CV
          have BA := hide (balloc B2.out (.cells #[.int .i64 n, .int .i64 1] 27))
          have KA := hide (K2.out.alloc (.cells #[.int .i64 n, .int .i64 1] 27))
          have KR := hide (cell2_new (w := w2) (u := .int .i64 n) (v := .int .i64 1) 27)
          clear e hv k0 k1 k2 k3
          go_wp2_with fail
          refine (CV.out _).mono ?_
          rintro e w3 ⟨rfl, hb3⟩
          have B3 := hide (bstep BA.out hb3)
          obtain ⟨k0, k1, k2, k3⟩ := KA.out.below hb3
          obtain ⟨r0, r1, r2, r3⟩ := KR.out.below hb3
          have e := HE0.out
          clear hb3
          have HE := hide e
          clear e
          go_wp2_with fail
          refine bodyPost_ret (v := .tuple #[.agg #[.int .i64 n, .int .i64 1], .bool true]) (by simp [results, Tryd.results68, go_sem, k0, k1, hl, hl', hne]) rfl ⟨by rw [HE.out]; rfl, ?_⟩
          repeat (first | exact B3.out | refine balloc ?_ _ | refine bset ?_ (by first | (simp; done) | (simp; omega)) _)
    | cons y t =>
      have N2 := hide (fun w => l01Number_any (toBA y) w (by rw [toBA_size]; have := hle y (by rw [hsp]; simp); omega))
      rw [toBA_list] at N2
      unfold rdV at N2
      obtain ⟨d, hd⟩ : ∃ d, d = rdN y := ⟨_, rfl⟩
      obtain ⟨q, hq⟩ : ∃ q, q = rdB y := ⟨_, rfl⟩
      rw [← hd, ← hq] at N2
      cases t with
      | nil =>
        have hws : splS 47 s = [toBA x, toBA y] := by unfold splS; rw [hsp]; rfl
        have CS := hide (fun w => show Calls Tryd.prog 52 #[.string s, .int .u8 47] w fun e w' => ∃ ao cap, e = .returned (.slice ao 2 cap) ∧ OwnsS w' w.heap.size (.slice ao 2 cap) ([toBA x, toBA y]) ∧ Below w.heap.size w w' from by
          have h := l01Split_any s 47 w hs
          rw [hws] at h
          exact h)
        have hr : rrS s.data.toList = if o = true ∧ (q = true ∧ 1 < d) ∧ validR n d = true then some (n, d) else none := by unfold rrS; rw [hsp, ho, hn, hq, hd]
        rw [hr]
        obtain ⟨X, hX⟩ : ∃ X, X = toBA x := ⟨_, rfl⟩
        obtain ⟨Y, hY⟩ : ∃ Y, Y = toBA y := ⟨_, rfl⟩
        rw [← hX] at N1 CS
        rw [← hY] at N2 CS
        have CV := hide (fun w => l02Ok_any n d w)
        obtain ⟨R, hR⟩ : ∃ R : Value, R = rrV (if o = true ∧ (q = true ∧ 1 < d) ∧ validR n d = true then some (n, d) else none) := ⟨_, rfl⟩
        rw [← hR]
        have HR := hide hR
        clear hn ho hq hd hX hY hws hr hsp hle hR
        go_enter Tryd.func68, Tryd.ntmps68
        go_wp2_with fail
        refine (CS.out _).mono ?_
        rintro e w1 ⟨ao, cap, rfl, hown, hb1⟩
        have B1 := hide (bstep B0.out hb1)
        have K1 := hide (K0.out.below hb1)
        rcases hown.form with ⟨_, h0⟩ | ⟨g, cap', e, hg1, hg2, _, _⟩
        · simp at h0
        simp only [Value.slice.injEq] at e
        obtain ⟨rfl, e2, rfl⟩ := e
        clear e2
        have c0 : w1.cell? ⟨g, 0, none⟩ = some (.string X) := hown.at_ 0 (by simp)
        have c1 : w1.cell? ⟨g, 1, none⟩ = some (.string Y) := hown.at_ 1 (by simp)
        clear hown hb1
        go_wp2_with fail
        refine (N1.out _).mono ?_
        rintro e w2 ⟨rfl, hb2⟩
        have B2 := hide (bstep B1.out hb2)
        have K2 := hide (K1.out.below hb2)
        have hl : w.heap.size < w2.heap.size := K2.out.lt
        have hl' : w.heap.size ≤ w2.heap.size := by omega
        have hne : ¬ w2.heap.size = w.heap.size := by omega
        have hne' : ¬ w.heap.size = w2.heap.size := by omega
        have BA := hide (balloc B2.out (.cells #[.int .i64 n, .int .i64 1] 27))
        have KA := hide (K2.out.alloc (.cells #[.int .i64 n, .int .i64 1] 27))
        have KR := hide (cell2_new (w := w2) (u := .int .i64 n) (v := .int .i64 1) 27)
        have c1' := (hb2.cell (p := ⟨g, 1, none⟩) hg2).trans c1
        have hg3 : g < w2.heap.size := Nat.lt_of_lt_of_le hg2 hb2.size
        have c1'' := ((balloc (Below.refl w2.heap.size w2) (.cells #[.int .i64 n, .int .i64 1] 27)).cell (p := ⟨g, 1, none⟩) hg3).trans c1'
        clear hb2 c0 c1 c1'
        go_wp2_with fail
        refine (N2.out _).mono ?_
        rintro e w3 ⟨rfl, hb3⟩
        have B3 := hide (bstep BA.out hb3)
        have K3 := hide (KA.out.below hb3)
        have KR3 := hide (KR.out.below hb3)
        obtain ⟨k0, k1, k2, k3⟩ := K3.out
        obtain ⟨r0, r1, r2, r3⟩ := KR3.out
        clear hb3 c1''
        cases o
        · have e : R = rrV none := by rw [HR.out, if_neg (by simp)]
          cases q
          · have HE := hide e
            clear e
            go_wp2_with fail
            refine bodyPost_ret (v := .tuple #[.agg #[.int .i64 0, .int .i64 0], .bool false]) (by simp [results, Tryd.results68, go_sem, k0, k1, hl, hl', hne, hne']) rfl ⟨by rw [HE.out]; rfl, ?_⟩
            repeat (first | exact B3.out | refine balloc ?_ _ | refine bset ?_ (by first | (simp; done) | (simp; omega)) _)
          · have HE := hide e
            clear e
            go_wp2_with fail
            refine bodyPost_ret (v := .tuple #[.agg #[.int .i64 0, .int .i64 0], .bool false]) (by simp [results, Tryd.results68, go_sem, k0, k1, hl, hl', hne, hne']) rfl ⟨by rw [HE.out]; rfl, ?_⟩
            repeat (first | exact B3.out | refine balloc ?_ _ | refine bset ?_ (by first | (simp; done) | (simp; omega)) _)
        · cases q
          · have e : R = rrV none := by rw [HR.out, if_neg (by simp)]
            have HE := hide e
            clear e
            go_wp2_with fail
            refine bodyPost_ret (v := .tuple #[.agg #[.int .i64 0, .int .i64 0], .bool false]) (by simp [results, Tryd.results68, go_sem, k0, k1, hl, hl', hne, hne']) rfl ⟨by rw [HE.out]; rfl, ?_⟩
            repeat (first | exact B3.out | refine balloc ?_ _ | refine bset ?_ (by first | (simp; done) | (simp; omega)) _)
          · by_cases h1 : 1 < d
            · have KS : Cell2 (w3.setCell ⟨w2.heap.size, 1, none⟩ (.int .i64 d)) w.heap.size (.int .i64 0) (.int .i64 0) := cell2_set1_other K3.out hne'
              have KRS : Cell2 (w3.setCell ⟨w2.heap.size, 1, none⟩ (.int .i64 d)) w2.heap.size (.int .i64 n) (.int .i64 d) := cell2_set1 KR3.out
              have BS := hide (bset B3.out (p := ⟨w2.heap.size, 1, none⟩) hl' (.int .i64 d))
              have HKS := hide KS
              have HKRS := hide KRS
              clear KS KRS
              cases hv : validR n d
              · have e : R = rrV none := by rw [HR.out, hv, if_neg (by simp)]
                have HE0 := hide e
                rw [hv] at CV
                clear e hv k0 k1 k2 k3
                go_wp2_with fail
                refine (CV.out _).mono ?_
                rintro e w4 ⟨rfl, hb4⟩
                have B4 := hide (bstep BS.out hb4)
                obtain ⟨k0, k1, k2, k3⟩ := HKS.out.below hb4
                obtain ⟨j0, j1, j2, j3⟩ := HKRS.out.below hb4
                have e := HE0.out
                clear hb4 r0 r1 r2 r3
                have HE := hide e
                clear e
                go_wp2_with fail
                refine bodyPost_ret (v := .tuple #[.agg #[.int .i64 0, .int .i64 0], .bool false]) (by simp [results, Tryd.results68, go_sem, k0, k1, hl, hl', hne]) rfl ⟨by rw [HE.out]; rfl, ?_⟩
                repeat (first | exact B4.out | refine balloc ?_ _ | refine bset ?_ (by first | (simp; done) | (simp; omega)) _)
              · have e : R = rrV (some (n, d)) := by rw [HR.out, hv, if_pos ⟨rfl, ⟨rfl, h1⟩, rfl⟩]
                have HE0 := hide e
                rw [hv] at CV
                clear e hv k0 k1 k2 k3
                go_wp2_with fail
                refine (CV.out _).mono ?_
                rintro e w4 ⟨rfl, hb4⟩
                have B4 := hide (bstep BS.out hb4)
                obtain ⟨k0, k1, k2, k3⟩ := HKS.out.below hb4
                obtain ⟨j0, j1, j2, j3⟩ := HKRS.out.below hb4
                have e := HE0.out
                clear hb4 r0 r1 r2 r3
                have HE := hide e
                clear e
                go_wp2_with fail
                refine bodyPost_ret (v := .tuple #[.agg #[.int .i64 n, .int .i64 d], .bool true]) (by simp [results, Tryd.results68, go_sem, k0, k1, hl, hl', hne]) rfl ⟨by rw [HE.out]; rfl, ?_⟩
                repeat (first | exact B4.out | refine balloc ?_ _ | refine bset ?_ (by first | (simp; done) | (simp; omega)) _)
            · have e : R = rrV none := by rw [HR.out, if_neg (fun h => h1 h.2.1.2)]
              have d1 : decide (1 < d) = false := decide_eq_false h1
              have HE := hide e
              clear e
              go_wp2_with fail
              refine bodyPost_ret (v := .tuple #[.agg #[.int .i64 0, .int .i64 0], .bool false]) (by simp [results, Tryd.results68, go_sem, k0, k1, hl, hl', hne, hne']) rfl ⟨by rw [HE.out]; rfl, ?_⟩
              repeat (first | exact B3.out | refine balloc ?_ _ | refine bset ?_ (by first | (simp; done) | (simp; omega)) _)
      | cons z u =>
        have hws : splS 47 s = toBA x :: toBA y :: toBA z :: u.map toBA := by unfold splS; rw [hsp]; rfl
        have CS := hide (fun w => show Calls Tryd.prog 52 #[.string s, .int .u8 47] w fun e w' => ∃ ao cap, e = .returned (.slice ao (u.length + 3) cap) ∧ OwnsS w' w.heap.size (.slice ao (u.length + 3) cap) (toBA x :: toBA y :: toBA z :: u.map toBA) ∧ Below w.heap.size w w' from by
          have h := l01Split_any s 47 w hs
          rw [hws] at h
          simpa using h)
        have hr : rrS s.data.toList = none := by unfold rrS; rw [hsp]
        rw [hr]
        obtain ⟨X, hX⟩ : ∃ X, X = toBA x := ⟨_, rfl⟩
        obtain ⟨Y, hY⟩ : ∃ Y, Y = toBA y := ⟨_, rfl⟩
        obtain ⟨m, hm⟩ : ∃ m, m = u.length + 3 := ⟨_, rfl⟩
        have hm2 : 2 < m := by omega
        have hmb : m ≤ 1000000000000 ∨ 1000000000000 < m := by omega
        rw [← hX] at N1
        rw [← hY] at N2
        rw [← hX, ← hY, ← hm] at CS
        obtain ⟨R, hR⟩ : ∃ R : Value, R = rrV none := ⟨_, rfl⟩
        rw [← hR]
        have HR := hide hR
        have d1 : decide ((1 : Int) < (m : Int)) = true := decide_eq_true (by omega)
        have d2 : decide ((2 : Int) < (m : Int)) = true := decide_eq_true (by omega)
        clear hn ho hq hd hX hY hm hws hr hsp hle hR hmb
        go_enter Tryd.func68, Tryd.ntmps68
        go_wp2_with fail
        refine (CS.out _).mono ?_
        rintro e w1 ⟨ao, cap, rfl, hown, hb1⟩
        have B1 := hide (bstep B0.out hb1)
        have K1 := hide (K0.out.below hb1)
        rcases hown.form with ⟨_, h0⟩ | ⟨g, cap', e, hg1, hg2, _, _⟩
        · simp at h0
        simp only [Value.slice.injEq] at e
        obtain ⟨rfl, e2, rfl⟩ := e
        clear e2
        have c0 : w1.cell? ⟨g, 0, none⟩ = some (.string X) := hown.at_ 0 (by simp)
        have c1 : w1.cell? ⟨g, 1, none⟩ = some (.string Y) := hown.at_ 1 (by simp)
        clear hown hb1
        go_wp2_with fail
        refine (N1.out _).mono ?_
        rintro e w2 ⟨rfl, hb2⟩
        have B2 := hide (bstep B1.out hb2)
        have K2 := hide (K1.out.below hb2)
        have hl : w.heap.size < w2.heap.size := K2.out.lt
        have hl' : w.heap.size ≤ w2.heap.size := by omega
        have hne : ¬ w2.heap.size = w.heap.size := by omega
        have hne' : ¬ w.heap.size = w2.heap.size := by omega
        have BA := hide (balloc B2.out (.cells #[.int .i64 n, .int .i64 1] 27))
        have KA := hide (K2.out.alloc (.cells #[.int .i64 n, .int .i64 1] 27))
        have KR := hide (cell2_new (w := w2) (u := .int .i64 n) (v := .int .i64 1) 27)
        have c1' := (hb2.cell (p := ⟨g, 1, none⟩) hg2).trans c1
        have hg3 : g < w2.heap.size := Nat.lt_of_lt_of_le hg2 hb2.size
        have c1'' := ((balloc (Below.refl w2.heap.size w2) (.cells #[.int .i64 n, .int .i64 1] 27)).cell (p := ⟨g, 1, none⟩) hg3).trans c1'
        clear hb2 c0 c1 c1'
        go_wp2_with fail
        refine (N2.out _).mono ?_
        rintro e w3 ⟨rfl, hb3⟩
        have B3 := hide (bstep BA.out hb3)
        have K3 := hide (KA.out.below hb3)
        have KR3 := hide (KR.out.below hb3)
        obtain ⟨k0, k1, k2, k3⟩ := K3.out
        obtain ⟨r0, r1, r2, r3⟩ := KR3.out
        clear hb3 c1''
        cases q
        · have e : R = rrV none := HR.out
          have HE := hide e
          clear e
          go_wp2_with fail
          refine bodyPost_ret (v := .tuple #[.agg #[.int .i64 0, .int .i64 0], .bool false]) (by simp [results, Tryd.results68, go_sem, k0, k1, hl, hl', hne, hne']) rfl ⟨by rw [HE.out]; rfl, ?_⟩
          repeat (first | exact B3.out | refine balloc ?_ _ | refine bset ?_ (by first | (simp; done) | (simp; omega)) _)
        · have e : R = rrV none := HR.out
          have HE := hide e
          clear e
          go_wp2_with fail
          refine bodyPost_ret (v := .tuple #[.agg #[.int .i64 0, .int .i64 0], .bool false]) (by simp [results, Tryd.results68, go_sem, k0, k1, hl, hl', hne, hne']) rfl ⟨by rw [HE.out]; rfl, ?_⟩
          repeat (first | exact B3.out | refine balloc ?_ _ | refine bset ?_ (by first | (simp; done) | (simp; omega)) _)
end Go.Proofs.YtnlimfijepjliaaDoor
