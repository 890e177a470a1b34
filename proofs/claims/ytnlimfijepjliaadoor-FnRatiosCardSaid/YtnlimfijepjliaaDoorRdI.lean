/-
  ReadRatio: the program's walk, and the walk of the law.
-/
import Derived.Test.YtnlimfijepjliaaDoorRdR
import Derived.Test.YtnlimfijepjliaaDoorMax
namespace Go.Proofs.YtnlimfijepjliaaDoor
open Go.RowKit

set_option maxHeartbeats 4000000 in
theorem implReadRatio_any (s : ByteArray) (w : World) (hs : s.size ≤ 4294967280) (ht : TabB w) (he : ErrB w) (hx : MaxB w) :
    Calls Tryd.prog 33 #[.string s] w fun e w' => e = .returned (rrV (rrS s.data.toList)) ∧ Below w.heap.size w w' := by
  have B0 := hide (balloc (Below.refl w.heap.size w) (.cells #[.int .i64 0, .int .i64 0] 27))
  have K0 := hide (cell2_new (w := w) (u := .int .i64 0) (v := .int .i64 0) 27)
  have HT := hide ht
  have HE0 := hide he
  obtain ⟨mx, hmx⟩ := hx.below B0.out
  have CC := hide (Tryd.strings_Cut s ⟨#[47]⟩ mx _ (by omega) hmx)
  clear ht he hx hmx
  rcases splitBy_index 47 s.data.toList with ⟨hix, _⟩ | ⟨i, hix, hil, _⟩
  · have hcut : Lib.cut s.data.toList [47] = (s.data.toList, [], false) := by unfold Lib.cut; rw [if_neg (by omega)]
    have CC' := CC.out
    rw [show (⟨#[47]⟩ : ByteArray).data.toList = [47] from rfl, hcut] at CC'
    have hS : (⟨s.data.toList.toArray⟩ : ByteArray) = s := bext' rfl
    simp only [hS] at CC'
    have CC := hide CC'
    have D1 := hide (fun w (h1 : TabB w) (h2 : ErrB w) => implReadDecimal_any s w hs h1 h2)
    have hr := rr_one hix
    rw [hr]
    unfold rdV at D1
    obtain ⟨n, hn⟩ : ∃ n, n = rdN s.data.toList := ⟨_, rfl⟩
    obtain ⟨o, ho⟩ : ∃ o, o = rdB s.data.toList := ⟨_, rfl⟩
    rw [← hn, ← ho] at D1 ⊢
    obtain ⟨R, hR⟩ : ∃ R : Value, R = rrV (if o = true ∧ (ratV n 1).data.toList = s.data.toList then some (n, 1) else none) := ⟨_, rfl⟩
    rw [← hR]
    have HR := hide hR
    clear CC' hcut hS hr hn ho hR hix
    have CT := hide (fun w (h : TabB w) => implRatioText_any n 1 w h)
    obtain ⟨T, hT⟩ : ∃ T, T = ratV n 1 := ⟨_, rfl⟩
    rw [← hT] at HR CT
    clear hT
    go_enter Tryd.func33, Tryd.ntmps33
    go_wp2_with fail
    refine CC.out.mono ?_
    rintro e w1 ⟨rfl, kd, rfl⟩
    have B1 := hide (bdrewN B0.out kd)
    have K1 := hide (K0.out.below (bdrewN (Below.refl _ _) kd))
    go_wp2_with fail
    refine (D1.out _ (HT.out.below B1.out) (HE0.out.below B1.out)).mono ?_
    rintro e w2 ⟨rfl, hb2⟩
    have B2 := hide (bstep B1.out hb2)
    have K2 := hide (K1.out.below hb2)
    clear hb2
    have hl : w.heap.size < w2.heap.size := K2.out.lt
    have hl' : w.heap.size ≤ w2.heap.size := by omega
    have hne : ¬ w2.heap.size = w.heap.size := by omega
    have KZ := hide K2.out
    obtain ⟨k0, k1, k2, k3⟩ := K2.out
    cases o
    · have e : R = rrV none := by rw [HR.out, if_neg (by simp)]
      have HE := hide e
      clear e
      go_wp2_with fail
      refine bodyPost_ret (v := .tuple #[.agg #[.int .i64 0, .int .i64 0], .bool false]) (by simp [results, Tryd.results33, go_sem, k0, k1, hl, hl', hne]) rfl ⟨by rw [HE.out]; rfl, ?_⟩
      repeat (first | exact B2.out | refine balloc ?_ _ | refine bset ?_ (by first | (simp; done) | (simp; omega)) _)
    · skip
      by_cases hq2 : T = s
      · have e : R = rrV (some (n, 1)) := by rw [HR.out, if_pos ⟨rfl, by rw [hq2]⟩]
        have HEE := hide e
        have t0 : (T.toList == s.toList) = true := by rw [hq2]; simp
        have t1 : (T.toList != s.toList) = false := by rw [hq2]; simp
        have BA := hide (balloc B2.out (.cells #[.int .i64 n, .int .i64 1] 27))
        have KA := hide (KZ.out.alloc (.cells #[.int .i64 n, .int .i64 1] 27))
        have KR := hide (cell2_new (w := w2) (u := .int .i64 n) (v := .int .i64 1) 27)
        have HTA := hide (HT.out.below BA.out)
        clear e hq2 k0 k1 k2 k3
        go_wp2_with fail
        refine (CT.out _ HTA.out).mono ?_
        rintro e wT ⟨rfl, hbT⟩
        have BT := hide (bstep BA.out hbT)
        obtain ⟨k0, k1, k2, k3⟩ := KA.out.below hbT
        obtain ⟨r0, r1, r2, r3⟩ := KR.out.below hbT
        have e := HEE.out
        clear hbT
        have HE := hide e
        clear e
        go_wp2_with fail
        refine bodyPost_ret (v := .tuple #[.agg #[.int .i64 n, .int .i64 1], .bool true]) (by simp [results, Tryd.results33, go_sem, k0, k1, hl, hl', hne]) rfl ⟨by rw [HE.out]; rfl, ?_⟩
        repeat (first | exact BT.out | refine balloc ?_ _ | refine bset ?_ (by first | (simp; done) | (simp; omega)) _)
      · have e : R = rrV none := by rw [HR.out, if_neg (fun h => hq2 (bext' h.2))]
        have HEE := hide e
        have t0 : (T.toList == s.toList) = false := toList_ne hq2
        have t1 : (T.toList != s.toList) = true := by rw [bne, t0]; rfl
        have BA := hide (balloc B2.out (.cells #[.int .i64 n, .int .i64 1] 27))
        have KA := hide (KZ.out.alloc (.cells #[.int .i64 n, .int .i64 1] 27))
        have HTA := hide (HT.out.below BA.out)
        clear e hq2 k0 k1 k2 k3
        go_wp2_with fail
        refine (CT.out _ HTA.out).mono ?_
        rintro e wT ⟨rfl, hbT⟩
        have BT := hide (bstep BA.out hbT)
        obtain ⟨k0, k1, k2, k3⟩ := KA.out.below hbT
        have e := HEE.out
        clear hbT
        have HE := hide e
        clear e
        go_wp2_with fail
        refine bodyPost_ret (v := .tuple #[.agg #[.int .i64 0, .int .i64 0], .bool false]) (by simp [results, Tryd.results33, go_sem, k0, k1, hl, hl', hne]) rfl ⟨by rw [HE.out]; rfl, ?_⟩
        repeat (first | exact BT.out | refine balloc ?_ _ | refine bset ?_ (by first | (simp; done) | (simp; omega)) _)
  · have hcut : Lib.cut s.data.toList [47] = (s.data.toList.take i, s.data.toList.drop (i + 1), true) := by unfold Lib.cut; rw [if_pos (by omega), hix]; rfl
    have CC' := CC.out
    rw [show (⟨#[47]⟩ : ByteArray).data.toList = [47] from rfl, hcut] at CC'
    have CC := hide CC'
    have lx : (⟨(s.data.toList.take i).toArray⟩ : ByteArray).size ≤ 4294967280 := by
      show (s.data.toList.take i).length ≤ _
      rw [List.length_take, len_of]; omega
    have ly : (⟨(s.data.toList.drop (i + 1)).toArray⟩ : ByteArray).size ≤ 4294967280 := by
      show (s.data.toList.drop (i + 1)).length ≤ _
      rw [List.length_drop, len_of]; omega
    have D1 := hide (fun w (h1 : TabB w) (h2 : ErrB w) => implReadDecimal_any ⟨(s.data.toList.take i).toArray⟩ w lx h1 h2)
    have D2 := hide (fun w (h1 : TabB w) (h2 : ErrB w) => implReadDecimal_any ⟨(s.data.toList.drop (i + 1)).toArray⟩ w ly h1 h2)
    rw [show (⟨(s.data.toList.take i).toArray⟩ : ByteArray).data.toList = s.data.toList.take i from rfl] at D1
    rw [show (⟨(s.data.toList.drop (i + 1)).toArray⟩ : ByteArray).data.toList = s.data.toList.drop (i + 1) from rfl] at D2
    have hr := rr_two hix
    rw [hr]
    unfold rdV at D1 D2
    obtain ⟨n, hn⟩ : ∃ n, n = rdN (s.data.toList.take i) := ⟨_, rfl⟩
    obtain ⟨o, ho⟩ : ∃ o, o = rdB (s.data.toList.take i) := ⟨_, rfl⟩
    obtain ⟨d, hd⟩ : ∃ d, d = rdN (s.data.toList.drop (i + 1)) := ⟨_, rfl⟩
    obtain ⟨q, hq⟩ : ∃ q, q = rdB (s.data.toList.drop (i + 1)) := ⟨_, rfl⟩
    rw [← hn, ← ho, ← hd, ← hq]
    rw [← hn, ← ho] at D1
    rw [← hd, ← hq] at D2
    obtain ⟨X, hX⟩ : ∃ X : ByteArray, X = ⟨(s.data.toList.take i).toArray⟩ := ⟨_, rfl⟩
    obtain ⟨Y, hY⟩ : ∃ Y : ByteArray, Y = ⟨(s.data.toList.drop (i + 1)).toArray⟩ := ⟨_, rfl⟩
    rw [← hX] at D1 CC
    rw [← hY] at D2 CC
    obtain ⟨R, hR⟩ : ∃ R : Value, R = rrV (if o = true ∧ q = true ∧ (ratV n d).data.toList = s.data.toList then some (n, d) else none) := ⟨_, rfl⟩
    rw [← hR]
    have HR := hide hR
    clear CC' hcut hr hn ho hd hq hX hY hR hix hil lx ly
    have CT := hide (fun w (h : TabB w) => implRatioText_any n d w h)
    obtain ⟨T, hT⟩ : ∃ T, T = ratV n d := ⟨_, rfl⟩
    rw [← hT] at HR CT
    clear hT
    go_enter Tryd.func33, Tryd.ntmps33
    go_wp2_with fail
    refine CC.out.mono ?_
    rintro e w1 ⟨rfl, kd, rfl⟩
    have B1 := hide (bdrewN B0.out kd)
    have K1 := hide (K0.out.below (bdrewN (Below.refl _ _) kd))
    go_wp2_with fail
    refine (D1.out _ (HT.out.below B1.out) (HE0.out.below B1.out)).mono ?_
    rintro e w2 ⟨rfl, hb2⟩
    have B2 := hide (bstep B1.out hb2)
    have K2 := hide (K1.out.below hb2)
    clear hb2
    go_wp2_with fail
    refine (D2.out _ (HT.out.below B2.out) (HE0.out.below B2.out)).mono ?_
    rintro e w3 ⟨rfl, hb3⟩
    have B3 := hide (bstep B2.out hb3)
    have K3 := hide (K2.out.below hb3)
    clear hb3
    have hl : w.heap.size < w3.heap.size := K3.out.lt
    have hl' : w.heap.size ≤ w3.heap.size := by omega
    have hne : ¬ w3.heap.size = w.heap.size := by omega
    have KZ := hide K3.out
    obtain ⟨k0, k1, k2, k3⟩ := K3.out
    cases o
    · have e : R = rrV none := by rw [HR.out, if_neg (by simp)]
      have HE := hide e
      clear e
      go_wp2_with fail
      refine bodyPost_ret (v := .tuple #[.agg #[.int .i64 0, .int .i64 0], .bool false]) (by simp [results, Tryd.results33, go_sem, k0, k1, hl, hl', hne]) rfl ⟨by rw [HE.out]; rfl, ?_⟩
      repeat (first | exact B3.out | refine balloc ?_ _ | refine bset ?_ (by first | (simp; done) | (simp; omega)) _)
    · cases q
      · have e : R = rrV none := by rw [HR.out, if_neg (by simp)]
        have HE := hide e
        clear e
        go_wp2_with fail
        refine bodyPost_ret (v := .tuple #[.agg #[.int .i64 0, .int .i64 0], .bool false]) (by simp [results, Tryd.results33, go_sem, k0, k1, hl, hl', hne]) rfl ⟨by rw [HE.out]; rfl, ?_⟩
        repeat (first | exact B3.out | refine balloc ?_ _ | refine bset ?_ (by first | (simp; done) | (simp; omega)) _)
      · skip
        by_cases hq2 : T = s
        · have e : R = rrV (some (n, d)) := by rw [HR.out, if_pos ⟨rfl, rfl, by rw [hq2]⟩]
          have HEE := hide e
          have t0 : (T.toList == s.toList) = true := by rw [hq2]; simp
          have t1 : (T.toList != s.toList) = false := by rw [hq2]; simp
          have BA := hide (balloc B3.out (.cells #[.int .i64 n, .int .i64 d] 27))
          have KA := hide (KZ.out.alloc (.cells #[.int .i64 n, .int .i64 d] 27))
          have KR := hide (cell2_new (w := w3) (u := .int .i64 n) (v := .int .i64 d) 27)
          have HTA := hide (HT.out.below BA.out)
          clear e hq2 k0 k1 k2 k3
          go_wp2_with fail
          refine (CT.out _ HTA.out).mono ?_
          rintro e wT ⟨rfl, hbT⟩
          have BT := hide (bstep BA.out hbT)
          obtain ⟨k0, k1, k2, k3⟩ := KA.out.below hbT
          obtain ⟨r0, r1, r2, r3⟩ := KR.out.below hbT
          have e := HEE.out
          clear hbT
          have HE := hide e
          clear e
          go_wp2_with fail
          refine bodyPost_ret (v := .tuple #[.agg #[.int .i64 n, .int .i64 d], .bool true]) (by simp [results, Tryd.results33, go_sem, k0, k1, hl, hl', hne]) rfl ⟨by rw [HE.out]; rfl, ?_⟩
          repeat (first | exact BT.out | refine balloc ?_ _ | refine bset ?_ (by first | (simp; done) | (simp; omega)) _)
        · have e : R = rrV none := by rw [HR.out, if_neg (fun h => hq2 (bext' h.2.2))]
          have HEE := hide e
          have t0 : (T.toList == s.toList) = false := toList_ne hq2
          have t1 : (T.toList != s.toList) = true := by rw [bne, t0]; rfl
          have BA := hide (balloc B3.out (.cells #[.int .i64 n, .int .i64 d] 27))
          have KA := hide (KZ.out.alloc (.cells #[.int .i64 n, .int .i64 d] 27))
          have HTA := hide (HT.out.below BA.out)
          clear e hq2 k0 k1 k2 k3
          go_wp2_with fail
          refine (CT.out _ HTA.out).mono ?_
          rintro e wT ⟨rfl, hbT⟩
          have BT := hide (bstep BA.out hbT)
          obtain ⟨k0, k1, k2, k3⟩ := KA.out.below hbT
          have e := HEE.out
          clear hbT
          have HE := hide e
          clear e
          go_wp2_with fail
          refine bodyPost_ret (v := .tuple #[.agg #[.int .i64 0, .int .i64 0], .bool false]) (by simp [results, Tryd.results33, go_sem, k0, k1, hl, hl', hne]) rfl ⟨by rw [HE.out]; rfl, ?_⟩
          repeat (first | exact BT.out | refine balloc ?_ _ | refine bset ?_ (by first | (simp; done) | (simp; omega)) _)
theorem specReadRatio_any (s : ByteArray) (n d : Int) (b : Bool) (w : World) (hv : rrV (rrS s.data.toList) = .tuple #[.agg #[.int .i64 n, .int .i64 d], .bool b]) (hs : s.size ≤ 4294967280) :
    Calls Tryd.prog 32 #[.string s] w fun e w' => e = .returned (.tuple #[.agg #[.int .i64 n, .int .i64 d], .bool b]) ∧ Below w.heap.size w w' := by
  have B0 := hide (balloc (Below.refl w.heap.size w) (.cells #[.int .i64 0, .int .i64 0] 27))
  have K0 := hide (cell2_new (w := w) (u := .int .i64 0) (v := .int .i64 0) 27)
  have C := hide (fun w => hv ▸ l02Read_any s w hs)
  clear hv
  go_enter Tryd.func32, Tryd.ntmps32
  go_wp2_with fail
  refine (C.out _).mono ?_
  rintro e w1 ⟨rfl, hb1⟩
  have B1 := hide (bstep B0.out hb1)
  have K1 := K0.out.below hb1
  obtain ⟨k0, k1, k2, k3⟩ := K1
  have hl : w.heap.size < w1.heap.size := (K0.out.below hb1).lt
  have hl' : w.heap.size ≤ w1.heap.size := by omega
  clear hb1
  go_wp2_with fail
  refine bodyPost_ret (v := .tuple #[.agg #[.int .i64 n, .int .i64 d], .bool b]) (by simp [results, Tryd.results32, go_sem, k0, k1, hl, hl']) rfl ⟨rfl, ?_⟩
  repeat (first | exact B1.out | refine balloc ?_ _ | refine bset ?_ (by first | (simp; done) | (simp; omega)) _)
theorem walk_FnExactReadRatio (a0 : ByteArray) (w : World) (h0 : a0.size ≤ maxLen) (hL : laidMetH Tryd.prog Rows.fnExactReadRatioRow.laid w) (hS : w.ShapedOpen Tryd.prog) :
    Calls Tryd.prog 9 #[.string a0] w fun e w' => e = .returned (.bool true) ∧ Below w.heap.size w w' := by
  have hm : a0.size ≤ 9223372036854775807 := h0
  have h : laidMet Tryd.prog Rows.fnExactReadRatioRow.laid w := by rwa [Go.MakeChecks.laidMetH_plain _ _ _ (by kernel_rfl)] at hL
  have HT := hide (show TabB w from tab_head h.tail.tail)
  have HE := hide (show ErrB w from errB_head h.tail.tail.tail)
  have HX := hide (maxB_of hS)
  clear h hL hS
  by_cases hl : a0.size ≤ 1048576
  · obtain ⟨n, d, b, hv⟩ : ∃ (n d : Int) (b : Bool), rrV (rrS a0.data.toList) = .tuple #[.agg #[.int .i64 n, .int .i64 d], .bool b] := by
      unfold rrV
      split
      · exact ⟨_, _, _, rfl⟩
      · exact ⟨_, _, _, rfl⟩
    have C1 := hide (fun w => specReadRatio_any a0 n d b w hv (by omega))
    have C2 := hide (fun w (h1 : TabB w) (h2 : ErrB w) (h3 : MaxB w) => hv ▸ implReadRatio_any a0 w (by omega) h1 h2 h3)
    have hq := eqR_refl n d
    clear hv
    go_enter Tryd.func9, Tryd.ntmps9
    go_wp2_with fail
    refine (C1.out _).mono ?_
    rintro e w1 ⟨rfl, hb1⟩
    have B1 := hide hb1
    have BA := hide (balloc hb1 (.cells #[.int .i64 n, .int .i64 d] 27))
    have K1 := hide (cell2_new (w := w1) (u := .int .i64 n) (v := .int .i64 d) 27)
    clear hb1
    go_wp2_with fail
    refine (C2.out _ (HT.out.below BA.out) (HE.out.below BA.out) (HX.out.below BA.out)).mono ?_
    rintro e w2 ⟨rfl, hb2⟩
    have B2 := hide (bstep BA.out hb2)
    obtain ⟨k0, k1, k2, k3⟩ := (K1.out.below hb2).alloc (.cells #[.int .i64 n, .int .i64 d] 27)
    have BA2 := hide (balloc B2.out (.cells #[.int .i64 n, .int .i64 d] 27))
    clear hb2
    go_wp2_with fail
    refine (eqRatio_any _ _ _ _ _).mono ?_
    rintro e w3 ⟨rfl, hb3⟩
    have B3 := hide (bstep BA2.out hb3)
    clear hb3 k0 k1 k2 k3
    rw [hq]
    cases b
    · go_wp2_with fail
      go_ret
      exact ⟨rfl, B3.out⟩
    · go_wp2_with fail
      go_ret
      exact ⟨rfl, B3.out⟩
  · go_enter Tryd.func9, Tryd.ntmps9
    go_wp2_with fail
    go_ret
    exact ⟨rfl, Below.refl _ _⟩
end Go.Proofs.YtnlimfijepjliaaDoor
