/-
  TrainText: contracts of both functions, and the walk of its law.
-/
import Derived.Test.YtnlimfijepjliaaDoorRatT
import Derived.Test.YtnlimfijepjliaaDoorStrRow
import Derived.Test.YtnlimfijepjliaaDoorTrainV
import Derived.Test.YtnlimfijepjliaaDoorPairsA
import Derived.Lib.Join
import Derived.Lib.SmallJoins
import Derived.Deep.RegionHeld3
namespace Go.Proofs.YtnlimfijepjliaaDoor
open Go.RowKit

/-- A pair's text. -/
def wordB (p : Int × Int) : ByteArray := itoaB p.1 ++ ⟨#[58]⟩ ++ itoaB p.2
def accS (ps : List (Int × Int)) : Nat → ByteArray
  | 0 => ⟨#[]⟩
  | k + 1 => (if k = 0 then accS ps k else accS ps k ++ ⟨#[32]⟩) ++ wordB (ps.getD k (0, 0))
def trnS (ps : List (Int × Int)) : ByteArray := if ps.length = 0 then ⟨#[45]⟩ else accS ps ps.length
def trnV (ps : List (Int × Int)) : ByteArray := if validT ps then trnS ps else ⟨#[]⟩
theorem bdata_append (a b : ByteArray) : (a ++ b).data.toList = a.data.toList ++ b.data.toList := by
  rw [ByteArray.data_append, Array.toList_append]
theorem bsize_append (a b : ByteArray) : (a ++ b).size = a.size + b.size := ByteArray.size_append
theorem bsize_one (c : UInt8) : (⟨#[c]⟩ : ByteArray).size = 1 := rfl
theorem accS_size {ps : List (Int × Int)} (h : ∀ j, j < ps.length → (itoaB (ps.getD j (0, 0)).1).size ≤ 21 ∧ (itoaB (ps.getD j (0, 0)).2).size ≤ 21) : ∀ k, k ≤ ps.length → (accS ps k).size ≤ 44 * k
  | 0, _ => Nat.le_refl _
  | k + 1, hk => by
    have ih := accS_size h k (by omega)
    obtain ⟨h1, h2⟩ := h k (by omega)
    have hw : (wordB (ps.getD k (0, 0))).size ≤ 43 := by
      unfold wordB
      rw [bsize_append, bsize_append, bsize_one]
      omega
    rw [accS, bsize_append]
    split
    · omega
    · rw [bsize_append, bsize_one]
      omega
theorem join_snoc (x : List UInt8) (r : List (List UInt8)) (y sep : List UInt8) : Lib.join (x :: (r ++ [y])) sep = Lib.join (x :: r) sep ++ sep ++ y := by
  rw [Lib.join_cons, Lib.join_cons]
  unfold Lib.joinTail
  simp [List.append_assoc]
theorem bext {a b : ByteArray} (h : a.data.toList = b.data.toList) : a = b := by
  obtain ⟨⟨x⟩⟩ := a
  obtain ⟨⟨y⟩⟩ := b
  simp only at h
  rw [h]
theorem acc_join (ps : List (Int × Int)) : ∀ k, k + 1 ≤ ps.length → (accS ps (k + 1)).data.toList = Lib.join (((ps.take (k + 1)).map wordB).map (·.data.toList)) [32]
  | 0, hk => by
    rw [List.take_succ_eq_append_getElem (by omega)]
    have e : ps.getD 0 (0, 0) = ps[0] := by rw [List.getD_eq_getElem?_getD, List.getElem?_eq_getElem (by omega)]; rfl
    rw [accS, if_pos rfl, accS, bdata_append, e]
    simp [Lib.join_one]
  | k + 1, hk => by
    have ih := acc_join ps k (by omega)
    rw [List.take_succ_eq_append_getElem (show k + 1 < ps.length by omega)]
    have e : ps.getD (k + 1) (0, 0) = ps[k + 1] := by rw [List.getD_eq_getElem?_getD, List.getElem?_eq_getElem (by omega)]; rfl
    rw [accS, if_neg (by omega), bdata_append, bdata_append, ih, e]
    cases ps with
    | nil => simp at hk
    | cons p r =>
      simp only [List.take_succ_cons, List.map_cons, List.map_append, List.map_nil, List.cons_append]
      rw [join_snoc]
theorem trn_join {ps : List (Int × Int)} (h : ps.length ≠ 0) : (⟨(Lib.join ((ps.map wordB).map (·.data.toList)) (⟨#[32]⟩ : ByteArray).data.toList).toArray⟩ : ByteArray) = trnS ps := by
  obtain ⟨k, hk⟩ : ∃ k, ps.length = k + 1 := ⟨ps.length - 1, by omega⟩
  unfold trnS
  rw [if_neg h, hk]
  apply bext
  rw [acc_join ps k (by omega), ← hk, List.take_length]
theorem validT_bds {ps : List (Int × Int)} (h : validT ps = true) (j : Nat) (hj : j < ps.length) : (6 ≤ (ps.getD j (0, 0)).1 ∧ (ps.getD j (0, 0)).1 ≤ 240) ∧ (6 ≤ (ps.getD j (0, 0)).2 ∧ (ps.getD j (0, 0)).2 ≤ 240) := by
  unfold validT at h
  simp only [Bool.and_eq_true, List.all_eq_true, decide_eq_true_eq] at h
  have e : ps.getD j (0, 0) = ps[j] := by rw [List.getD_eq_getElem?_getD, List.getElem?_eq_getElem hj]; rfl
  rw [e]
  exact pairOk_true (h.1 _ (List.getElem_mem hj))
theorem validT_five {ps : List (Int × Int)} (h : validT ps = true) : ps.length ≤ 5 := by
  unfold validT at h
  simp only [Bool.and_eq_true, decide_eq_true_eq] at h
  exact h.2
set_option maxHeartbeats 1000000 in
set_option maxRecDepth 100000 in
theorem l05Text_any (ao : Option Addr) (ps : List (Int × Int)) (cap : Nat) (w : World) (h : ReadsP w ao ps) (hv : validT ps = true) :
    Calls Tryd.prog 61 #[.slice ao ps.length cap] w fun e w' => e = .returned (.string (trnS ps)) ∧ Below w.heap.size w w' := by
  have HV := hide hv
  have HA := hide h
  have hn5 := validT_five hv
  obtain ⟨n, hn⟩ : ∃ n, n = ps.length := ⟨_, rfl⟩
  rw [← hn] at hn5 ⊢
  have HN := hide hn
  clear h hv
  by_cases h0 : n = 0
  · subst h0
    have e : trnS ps = ⟨#[45]⟩ := by unfold trnS; rw [if_pos hn.symm]
    rw [e]
    clear e hn
    go_enter Tryd.func61, Tryd.ntmps61
    go_wp2_with fail
    go_ret
    exact ⟨rfl, Below.refl _ _⟩
  · have hz : ((n : Int) == 0) = false := by simpa using h0
    have hz2 : (n == 0) = false := by simpa using h0
    have HE := hide (show trnS ps = accS ps n by unfold trnS; rw [if_neg (by rw [← hn]; exact h0), hn])
    clear hn
    go_enter Tryd.func61, Tryd.ntmps61
    go_wp2_with fail
    go_loopw [3, 4] (fun s3 s4 wr => ∃ (k : Nat), k ≤ n ∧ s3 = .string (accS ps k) ∧ s4 = .int .i64 (k : Int) ∧ Below w.heap.size w wr) (fun _ s4 _ => n - (intOf s4).toNat)
    case atStart => exact ⟨0, by omega, rfl, rfl, Below.refl _ _⟩
    case round =>
      obtain ⟨k, hk, rfl, rfl, hbel⟩ := hrel
      have HB := hide hbel
      clear hbel
      by_cases hlt : k < n
      · obtain ⟨b, off, rfl, l1, hcw⟩ := HA.out (by have := HN.out; omega)
        have hc := hcw k (by have := HN.out; omega)
        obtain ⟨⟨x1, x2⟩, y1, y2⟩ := validT_bds HV.out k (by have := HN.out; omega)
        have has := accS_size (ps := ps) (fun j hj => by have := validT_bds HV.out j hj; exact ⟨itoaB_size _ (by omega) (by omega), itoaB_size _ (by omega) (by omega)⟩) k (by have := HN.out; omega)
        have hstep : accS ps (k + 1) = (if k = 0 then accS ps k else accS ps k ++ ⟨#[32]⟩) ++ wordB (ps.getD k (0, 0)) := rfl
        obtain ⟨q, hq⟩ : ∃ q, q = ps.getD k (0, 0) := ⟨_, rfl⟩
        rw [← hq] at hc x1 x2 y1 y2 hstep
        obtain ⟨x, y⟩ := q
        simp only at x1 x2 y1 y2 hc
        have CA := hide (fun w => show Calls Tryd.prog 47 #[.int .i64 x] w fun e w' => e = .returned (.string (itoaB x)) ∧ Below w.heap.size w w' from l01Dec_any x w (by omega) (by omega))
        have CB := hide (fun w => show Calls Tryd.prog 47 #[.int .i64 y] w fun e w' => e = .returned (.string (itoaB y)) ∧ Below w.heap.size w w' from l01Dec_any y w (by omega) (by omega))
        have za := itoaB_size x (by omega) (by omega)
        have zb := itoaB_size y (by omega) (by omega)
        have hw : wordB (x, y) = itoaB x ++ ⟨#[58]⟩ ++ itoaB y := rfl
        rw [hw] at hstep
        obtain ⟨sa, hsa⟩ : ∃ s, s = itoaB x := ⟨_, rfl⟩
        obtain ⟨sb, hsb⟩ : ∃ s, s = itoaB y := ⟨_, rfl⟩
        rw [← hsa] at za CA hstep
        rw [← hsb] at zb CB hstep
        obtain ⟨ac, hac⟩ : ∃ s, s = accS ps k := ⟨_, rfl⟩
        rw [← hac] at has hstep
        rw [← hac]
        have c0 := (HB.out.cell (p := ⟨b, off + k * 2, none⟩) l1).trans hc.1
        have c1 := (HB.out.cell (p := ⟨b, off + k * 2 + 1, none⟩) l1).trans hc.2
        have i0 : (0 : Int) ≤ (k : Int) := by omega
        have i1 : (k : Int) < (n : Int) := by omega
        have k0 := cell_regrown c0
        have k1 := cell_regrown c1
        have HK := hide k0
        have HK1 := hide k1
        clear hcw hc hq hw hsa hsb hac k0 k1
        have cA := hide (fun d os => Calls.regrown_of (w := wr) (d := d) (os := os) (CA.out _))
        have cB := hide (fun d os => Calls.regrown_of (w := wr) (d := d) (os := os) (CB.out _))
        have n1 : ¬ 9223372036854775807 < sa.size + 1 := by omega
        have n2 : ¬ 9223372036854775807 < sa.size + 1 + sb.size := by omega
        by_cases hk0 : k = 0
        · rw [if_pos hk0] at hstep
          have HST := hide hstep
          have hd : decide ((0 : Int) < (k : Int)) = false := decide_eq_false (by omega)
          have hd2 : decide (0 < k) = false := decide_eq_false (by omega)
          have n3 : ¬ 9223372036854775807 < ac.size + (sa.size + 1 + sb.size) := by omega
          clear hstep hk0
          go_upto_region 9 with fail
          have k0 := HK.out
          have k1 := HK1.out
          have qA := cA.out
          have qB := cB.out
          refine wp_region_quiet_below (by kernel_rfl) (by kernel_rfl) ?_
          repeat (go_big_quiet_step (first | with_reducible exact qA _ _ | with_reducible exact qB _ _))
          refine wpQuiet_nil ?_
          intro _ hw'
          obtain ⟨⟨dq, osq⟩, hw''⟩ := hw'
          subst hw''
          have B1 := hide (bstep HB.out (below_regrown _ dq osq))
          clear qA qB k0 k1 c0 c1
          go_wp2_with fail
          go_roundw
          case rel => exact ⟨k + 1, hlt, by rw [HST.out], by first | rfl | go_num, B1.out⟩
          case measure => simp only [intOf]; omega
        · rw [if_neg hk0] at hstep
          have HST := hide hstep
          have hd : decide ((0 : Int) < (k : Int)) = true := decide_eq_true (by omega)
          have hd2 : decide (0 < k) = true := decide_eq_true (by omega)
          have n3 : ¬ 9223372036854775807 < ac.size + 1 := by omega
          have n4 : ¬ 9223372036854775807 < ac.size + 1 + (sa.size + 1 + sb.size) := by omega
          clear hstep hk0
          go_upto_region 9 with fail
          have k0 := HK.out
          have k1 := HK1.out
          have qA := cA.out
          have qB := cB.out
          refine wp_region_quiet_below (by kernel_rfl) (by kernel_rfl) ?_
          repeat (go_big_quiet_step (first | with_reducible exact qA _ _ | with_reducible exact qB _ _))
          refine wpQuiet_nil ?_
          intro _ hw'
          obtain ⟨⟨dq, osq⟩, hw''⟩ := hw'
          subst hw''
          have B1 := hide (bstep HB.out (below_regrown _ dq osq))
          clear qA qB k0 k1 c0 c1
          go_wp2_with fail
          go_roundw
          case rel => exact ⟨k + 1, hlt, by rw [HST.out], by first | rfl | go_num, B1.out⟩
          case measure => simp only [intOf]; omega
      · obtain rfl : k = n := by omega
        rw [← HE.out]
        obtain ⟨r, hr⟩ : ∃ r, r = trnS ps := ⟨_, rfl⟩
        rw [← hr]
        have HR := hide hr
        clear hr
        go_wp2_with fail
        go_ret
        exact ⟨by rw [← HR.out]; rfl, HB.out⟩
theorem specTrainText_any (ao : Option Addr) (ps : List (Int × Int)) (cap : Nat) (w : World) (h : ReadsP w ao ps) (hn : ps.length ≤ 1048576) :
    Calls Tryd.prog 26 #[.slice ao ps.length cap] w fun e w' => e = .returned (.string (trnV ps)) ∧ Below w.heap.size w w' := by
  cases hv : validT ps
  · have e : trnV ps = ⟨#[]⟩ := by unfold trnV; rw [hv]; rfl
    have CV := hide (show Calls Tryd.prog 60 #[.slice ao ps.length cap] w fun e w' => e = .returned (.bool false) ∧ Below w.heap.size w w' from hv ▸ l05Ok_any ao ps cap w h hn)
    rw [e]
    clear e hv h
    go_enter Tryd.func26, Tryd.ntmps26
    go_wp2_with fail
    refine CV.out.mono ?_
    rintro e w1 ⟨rfl, hb1⟩
    have B1 := hide hb1
    clear hb1
    go_wp2_with fail
    go_ret
    exact ⟨rfl, B1.out⟩
  · have e : trnV ps = trnS ps := by unfold trnV; rw [hv]; rfl
    have CV := hide (show Calls Tryd.prog 60 #[.slice ao ps.length cap] w fun e w' => e = .returned (.bool true) ∧ Below w.heap.size w w' from hv ▸ l05Ok_any ao ps cap w h hn)
    have CT := hide (fun w' (hb : Below w.heap.size w w') => l05Text_any ao ps cap w' (h.below hb) hv)
    rw [e]
    obtain ⟨s, hs⟩ : ∃ s, s = trnS ps := ⟨_, rfl⟩
    rw [← hs] at CT ⊢
    clear e hv h hs
    go_enter Tryd.func26, Tryd.ntmps26
    go_wp2_with fail
    refine CV.out.mono ?_
    rintro e w1 ⟨rfl, hb1⟩
    have B1 := hide hb1
    clear hb1
    go_wp2_with fail
    refine (CT.out _ B1.out).mono ?_
    rintro e w2 ⟨rfl, hb2⟩
    have B2 := hide (bstep B1.out hb2)
    clear hb2
    go_wp2_with fail
    go_ret
    exact ⟨rfl, B2.out⟩
set_option maxHeartbeats 2000000 in
set_option maxRecDepth 100000 in
theorem implTrainText_any (ao : Option Addr) (ps : List (Int × Int)) (cap : Nat) (w : World) (h : ReadsP w ao ps) (hn : ps.length ≤ 1048576) (ht : TabB w) :
    Calls Tryd.prog 28 #[.slice ao ps.length cap] w fun e w' => e = .returned (.string (trnV ps)) ∧ Below w.heap.size w w' := by
  cases hv : validT ps
  · have e : trnV ps = ⟨#[]⟩ := by unfold trnV; rw [hv]; rfl
    have CV := hide (show Calls Tryd.prog 63 #[.slice ao ps.length cap] w fun e w' => e = .returned (.bool false) ∧ Below w.heap.size w w' from hv ▸ implValidTrain_any ao ps cap w h hn)
    rw [e]
    clear e hv h ht
    go_enter Tryd.func28, Tryd.ntmps28
    go_wp2_with fail
    refine CV.out.mono ?_
    rintro e w1 ⟨rfl, hb1⟩
    have B1 := hide hb1
    clear hb1
    go_wp2_with fail
    go_ret
    exact ⟨rfl, B1.out⟩
  · have e : trnV ps = trnS ps := by unfold trnV; rw [hv]; rfl
    have CV := hide (show Calls Tryd.prog 63 #[.slice ao ps.length cap] w fun e w' => e = .returned (.bool true) ∧ Below w.heap.size w w' from hv ▸ implValidTrain_any ao ps cap w h hn)
    have HV := hide hv
    have HA := hide h
    have HT := hide ht
    have hn5 := validT_five hv
    rw [e]
    obtain ⟨n, hn'⟩ : ∃ n, n = ps.length := ⟨_, rfl⟩
    rw [← hn'] at CV hn5 ⊢
    have HN := hide hn'
    clear e hv h ht hn
    by_cases h0 : n = 0
    · subst h0
      have e : trnS ps = ⟨#[45]⟩ := by unfold trnS; rw [if_pos hn'.symm]
      rw [e]
      clear e hn'
      go_enter Tryd.func28, Tryd.ntmps28
      go_wp2_with fail
      refine CV.out.mono ?_
      rintro e w1 ⟨rfl, hb1⟩
      have B1 := hide hb1
      clear hb1
      go_wp2_with fail
      go_ret
      exact ⟨rfl, B1.out⟩
    · have hz : ((n : Int) == 0) = false := by simpa using h0
      have hz2 : (n == 0) = false := by simpa using h0
      have HJ := hide (trn_join (ps := ps) (by rw [← hn']; exact h0))
      have HS := hide (fun k (hk : k ≤ ps.length) => accS_size (ps := ps) (fun j hj => by have := validT_bds HV.out j hj; exact ⟨itoaB_size _ (by omega) (by omega), itoaB_size _ (by omega) (by omega)⟩) k hk)
      clear hn'
      go_enter Tryd.func28, Tryd.ntmps28
      go_wp2_with fail
      refine CV.out.mono ?_
      rintro e w1 ⟨rfl, hb1⟩
      have B1 := hide hb1
      have hz1 := hb1.size
      clear hb1
      go_wp2_with fail
      go_loopw [3, 14] (fun s3 s14 wr => ∃ (k : Nat) (ao' : Option Addr) (cap' : Nat), k ≤ n ∧ s3 = .slice ao' k cap' ∧ s14 = .int .i64 (k : Int) ∧ OwnsS wr w.heap.size (.slice ao' k cap') ((ps.take k).map wordB) ∧ Below w.heap.size w wr) (fun _ s14 _ => n - (intOf s14).toNat)
      case atStart => exact ⟨0, none, 0, by omega, rfl, rfl, OwnsS.none_, B1.out⟩
      case round =>
        obtain ⟨k, ao', cap', hk, rfl, rfl, hown, hbel⟩ := hrel
        have HB := hide hbel
        have HO := hide hown
        have hsz := hbel.size
        clear hbel hown
        by_cases hlt : k < n
        · obtain ⟨b, off, rfl, l1, hcw⟩ := HA.out (by have := HN.out; omega)
          have hc := hcw k (by have := HN.out; omega)
          obtain ⟨⟨x1, x2⟩, y1, y2⟩ := validT_bds HV.out k (by have := HN.out; omega)
          obtain ⟨q, hq⟩ : ∃ q, q = ps.getD k (0, 0) := ⟨_, rfl⟩
          have HQ := hide hq
          rw [← hq] at hc x1 x2 y1 y2
          obtain ⟨x, y⟩ := q
          simp only at x1 x2 y1 y2 hc
          have CA := hide (fun w (h : TabB w) => show Calls Tryd.prog 14 #[.int .i64 x] w fun e w' => e = .returned (.string (itoaB x)) ∧ Below w.heap.size w w' from implDecimal_any x w (by omega) (by omega) h)
          have CB := hide (fun w (h : TabB w) => show Calls Tryd.prog 14 #[.int .i64 y] w fun e w' => e = .returned (.string (itoaB y)) ∧ Below w.heap.size w w' from implDecimal_any y w (by omega) (by omega) h)
          have za := itoaB_size x (by omega) (by omega)
          have zb := itoaB_size y (by omega) (by omega)
          have hw : wordB (x, y) = itoaB x ++ ⟨#[58]⟩ ++ itoaB y := rfl
          obtain ⟨sa, hsa⟩ : ∃ s, s = itoaB x := ⟨_, rfl⟩
          obtain ⟨sb, hsb⟩ : ∃ s, s = itoaB y := ⟨_, rfl⟩
          rw [← hsa] at za CA hw
          rw [← hsb] at zb CB hw
          have HW := hide hw
          have c0 := (HB.out.cell (p := ⟨b, off + k * 2, none⟩) l1).trans hc.1
          have c1 := (HB.out.cell (p := ⟨b, off + k * 2 + 1, none⟩) l1).trans hc.2
          have i0 : (0 : Int) ≤ (k : Int) := by omega
          have i1 : (k : Int) < (n : Int) := by omega
          have n1 : ¬ 9223372036854775807 < sa.size + 1 := by omega
          have n2 : ¬ 9223372036854775807 < sa.size + 1 + sb.size := by omega
          clear hcw hc hq hw hsa hsb
          go_upto_region 9 with fail
          obtain ⟨p, hp⟩ : ∃ p, p = wr.heap.size := ⟨_, rfl⟩
          obtain ⟨wz, hwz⟩ : ∃ wz, wz = wr.alloc (.cells #[.int .i64 x, .int .i64 y] 70) := ⟨_, rfl⟩
          obtain ⟨e0, e1⟩ := cells_two (w := wr) (.int .i64 x) (.int .i64 y) 70
          have BZ := hide (balloc HB.out (.cells #[.int .i64 x, .int .i64 y] 70))
          have OZ := hide (HO.out.below (balloc (Below.refl _ _) (.cells #[.int .i64 x, .int .i64 y] 70)).drew)
          have HPL := hide (fun j (hj : (Value.slice ao' k cap').ownBlock = some j) => show w.heap.size ≤ j ∧ j < p from hp ▸ HO.out.lt j hj)
          rw [← hwz] at e0 e1 BZ OZ ⊢
          rw [← hp] at e0 e1 ⊢
          have SZ := hide (show wz.drew.cell? ⟨p, 0, none⟩ = some (.int .i64 x) ∧ wz.drew.cell? ⟨p, 1, none⟩ = some (.int .i64 y) ∧ Below w.heap.size w wz.drew from ⟨e0, e1, BZ.out.drew⟩)
          have KS := hide (fun (c w' : World) (h : c.cell? ⟨p, 0, none⟩ = some (.int .i64 x) ∧ c.cell? ⟨p, 1, none⟩ = some (.int .i64 y) ∧ Below w.heap.size w c) (hb : Below c.heap.size c w') => show w'.cell? ⟨p, 0, none⟩ = some (.int .i64 x) ∧ w'.cell? ⟨p, 1, none⟩ = some (.int .i64 y) ∧ Below w.heap.size w w' from ⟨(hb.cell (World.block_lt_of_cell? c _ h.1)).trans h.1, (hb.cell (World.block_lt_of_cell? c _ h.2.1)).trans h.2.1, bstep h.2.2 hb⟩)
          have KA := hide (fun (c : World) (o : Obj) (h : c.cell? ⟨p, 0, none⟩ = some (.int .i64 x) ∧ c.cell? ⟨p, 1, none⟩ = some (.int .i64 y) ∧ Below w.heap.size w c) => KS.out c (c.alloc o) h (balloc (Below.refl _ _) o))
          have KG := hide (fun (c w' : World) (h : c.cell? ⟨p, 0, none⟩ = some (.int .i64 x) ∧ c.cell? ⟨p, 1, none⟩ = some (.int .i64 y) ∧ Below w.heap.size w c) (hg : c.grownBy w' (Value.slice ao' k cap').ownBlock) => show w'.cell? ⟨p, 0, none⟩ = some (.int .i64 x) ∧ w'.cell? ⟨p, 1, none⟩ = some (.int .i64 y) ∧ Below w.heap.size w w' from
            have hne : some p ≠ (Value.slice ao' k cap').ownBlock := fun e => by have := HPL.out p e.symm; omega
            have hb := hg.block p (World.block_lt_of_cell? c _ h.1) hne
            ⟨(World.cell?_of_block (a := ⟨p, 0, none⟩) hb).trans h.1, (World.cell?_of_block (a := ⟨p, 1, none⟩) hb).trans h.2.1, h.2.2.grown hg h.2.2.size (fun j hj => (HPL.out j hj).1)⟩)
          have KT := hide (fun (c : World) (h : c.cell? ⟨p, 0, none⟩ = some (.int .i64 x) ∧ c.cell? ⟨p, 1, none⟩ = some (.int .i64 y) ∧ Below w.heap.size w c) => HT.out.below h.2.2)
          have KZ := hide (fun (c : World) (h : c.cell? ⟨p, 0, none⟩ = some (.int .i64 x) ∧ c.cell? ⟨p, 1, none⟩ = some (.int .i64 y) ∧ Below w.heap.size w c) => h.2.2.size)
          have hkl : ((ps.take k).map wordB).length ≤ 5 := by rw [List.length_map, List.length_take]; omega
          clear hwz hp e0 e1 c0 c1
          go_region_held3 (fun w' => w'.cell? ⟨p, 0, none⟩ = some (.int .i64 x) ∧ w'.cell? ⟨p, 1, none⟩ = some (.int .i64 y) ∧ Below w.heap.size w w')
            (first | exact SZ.out | exact KS.out _ _ (by assumption) hb | exact KA.out _ _ (by assumption) | exact hSg)
            (first
              | (go_at_call 14; first
                  | (with_reducible refine (CA.out _ (KT.out _ (by assumption))).mono ?_; rintro e w' ⟨rfl, hb⟩; have hoA := (show OwnsS w' w.heap.size (.slice ao' k cap') ((ps.take k).map wordB) from by first | exact hoB.below hb | exact OZ.out.below hb))
                  | (with_reducible refine (CB.out _ (KT.out _ (by assumption))).mono ?_; rintro e w' ⟨rfl, hb⟩; have hoB := (show OwnsS w' w.heap.size (.slice ao' k cap') ((ps.take k).map wordB) from by first | exact hoA.below hb | exact OZ.out.below hb)))
              | (refine step_appendS rfl _ _ rfl w.heap.size _ _ rfl (by first | exact hoA.below (balloc (Below.refl _ _) _) | exact hoB.below (balloc (Below.refl _ _) _)) (sa ++ ⟨#[58]⟩ ++ sb) _ _ rfl (by simp [go_sem]) (by omega) (KZ.out _ (by assumption)) ?_; intro v' w5 hown' hgr; have hSg := KG.out _ _ (by assumption) hgr))
          all_goals
            have O5 := hide hown'
            have B5 := hide hSg.2.2
            clear hSg hgr hown'
            rcases O5.out.form with ⟨_, hx0⟩ | ⟨g3, cap3, rfl, _⟩
            · simp at hx0
            go_wp2_with fail
            go_roundw
            case rel =>
              have hlt' : k < ps.length := by have := HN.out; omega
              have hq : ps[k] = (x, y) := by have := HQ.out; rw [List.getD_eq_getElem?_getD, List.getElem?_eq_getElem hlt'] at this; exact this.symm
              have e : (ps.take (k + 1)).map wordB = (ps.take k).map wordB ++ [sa ++ ⟨#[58]⟩ ++ sb] := by
                rw [List.take_succ_eq_append_getElem hlt', List.map_append, hq, ← HW.out]; rfl
              have el : ((ps.take k).map wordB ++ [sa ++ ⟨#[58]⟩ ++ sb]).length = k + 1 := by
                rw [← e, List.length_map, List.length_take]; omega
              have o5 := O5.out
              rw [← e] at o5 el
              refine ⟨k + 1, some ⟨g3, 0, none⟩, cap3, hlt, ?_, by first | rfl | go_num, ?_, B5.out⟩
              · rw [← e, el]
              · rw [el] at o5; exact o5
            case measure => simp only [intOf]; omega
        · obtain rfl : k = n := by omega
          have hfull : (ps.take k).map wordB = ps.map wordB := by rw [List.take_of_length_le (by have := HN.out; omega)]
          have ho := HO.out
          rw [hfull] at ho
          have hlw : (ps.map wordB).length = k := by rw [List.length_map]; exact HN.out.symm
          rcases ho.form with ⟨_, hx0⟩ | ⟨g3, cap3, e3, _, hg3, hc3, _⟩
          · rw [hx0] at hlw; simp at hlw; omega
          simp only [Value.slice.injEq] at e3
          obtain ⟨rfl, _, rfl⟩ := e3
          have hjl : (Lib.join ((ps.map wordB).map (·.data.toList)) (⟨#[32]⟩ : ByteArray).data.toList).length ≤ 140737488355328 := by
            have hx := congrArg ByteArray.size HJ.out
            have hs : (trnS ps).size ≤ 44 * ps.length := by
              unfold trnS
              rw [if_neg (by have := HN.out; omega)]
              exact HS.out _ (Nat.le_refl _)
            change (Lib.join ((ps.map wordB).map (·.data.toList)) (⟨#[32]⟩ : ByteArray).data.toList).length = (trnS ps).size at hx
            rw [hx]
            have := HN.out
            omega
          have JC := Tryd.strings_Join g3 0 cap' (ps.map wordB) ⟨#[32]⟩ wr (fun j x hx => by
            have hj := (List.getElem?_eq_some_iff.1 hx).1
            have h := ho.at_ j hj
            rw [List.getD_eq_getElem?_getD, hx] at h
            rw [Nat.zero_add]
            exact h) hg3 (by omega) (by omega) hjl
          rw [HJ.out, hlw] at JC
          have HJC := hide JC
          clear JC hjl ho hfull hg3 hc3 HO
          obtain ⟨r, hr⟩ : ∃ r, r = trnS ps := ⟨_, rfl⟩
          rw [← hr] at HJC
          have HR := hide hr
          clear hr hlw
          go_wp2_with fail
          (try rw [← HN.out])
          refine HJC.out.mono ?_
          rintro e w4 ⟨rfl, hb4⟩
          have B4 := hide (bstep HB.out hb4)
          clear hb4
          go_wp2_with fail
          go_ret
          exact ⟨by rw [← HR.out]; rfl, B4.out⟩
set_option maxHeartbeats 1000000 in
theorem walk_FnExactTrainText (a : Option Addr) (len cap : Nat) (ps : List (Int × Int)) (w : World) (h : IsPairs w a len cap ps) (hL : laidMetH Tryd.prog Rows.fnExactTrainTextRow.laid w) :
    Calls Tryd.prog 7 #[.slice a len cap] w fun e w' => e = .returned (.bool true) ∧ Below w.heap.size w w' := by
  have hT : TabB w := by
    have h : laidMet Tryd.prog Rows.fnExactTrainTextRow.laid w := by rwa [Go.MakeChecks.laidMetH_plain _ _ _ (by kernel_rfl)] at hL
    exact tab_head h.tail.tail
  have HT := hide hT
  obtain ⟨rfl, hm, hr⟩ := h
  have HR := hide hr
  clear hT hL hr
  by_cases hl : ps.length ≤ 1048576
  · have hs : szP ps.length 1048576 = 1048576 - (ps.length : Int) := by unfold szP; rw [if_pos (by omega)]
    have C1 := hide (fun ao c w (h : ReadsP w ao ps) => specTrainText_any ao ps c w h hl)
    have C2 := hide (fun ao c w (h : ReadsP w ao ps) (ht : TabB w) => implTrainText_any ao ps c w h hl ht)
    obtain ⟨s, hs'⟩ : ∃ s, s = trnV ps := ⟨_, rfl⟩
    rw [← hs'] at C1 C2
    clear hs'
    go_enter Tryd.func7, Tryd.ntmps7
    go_wp2_with fail
    refine (szPairS_any a ps.length cap 1048576 _ hm (by omega)).mono ?_
    rintro e w0 ⟨rfl, rfl⟩
    go_wp2_with fail
    refine (toPairS_any a ps cap _ HR.out hl).mono ?_
    rintro e w1 ⟨g1, rfl, o1, b1⟩
    go_wp2_with fail
    refine (C1.out _ _ _ o1.reads).mono ?_
    rintro e w2 ⟨rfl, b2⟩
    have B2 := hide (bstep b1 b2)
    clear b1 b2 o1
    go_wp2_with fail
    refine (toPairS_any a ps cap _ (HR.out.below B2.out) hl).mono ?_
    rintro e w3 ⟨g3, rfl, o3, b3⟩
    have B3 := hide (bstep B2.out b3)
    clear b3
    go_wp2_with fail
    refine (C2.out _ _ _ o3.reads (HT.out.below B3.out)).mono ?_
    rintro e w4 ⟨rfl, b4⟩
    have B4 := hide (bstep B3.out b4)
    have o34 := o3.below b4
    clear b4
    go_wp2_with fail
    refine (toPairS_any a ps cap _ (HR.out.below B4.out) hl).mono ?_
    rintro e w5 ⟨g5, rfl, o5, b5⟩
    have B5 := hide (bstep B4.out b5)
    have o35 := o34.below b5
    clear b5
    go_wp2_with fail
    refine (eqPairS_any _ _ ps ps _ _ _ o35.reads o5.reads hl hl).mono ?_
    rintro e w6 ⟨rfl, b6⟩
    rw [show decide (ps = ps) = true from decide_eq_true rfl]
    have B6 := hide (bstep B5.out b6)
    clear b6
    go_wp2_with fail
    go_ret
    exact ⟨rfl, B6.out⟩
  · have hs : szP ps.length 1048576 = -1 := by unfold szP; rw [if_neg (by omega)]
    go_enter Tryd.func7, Tryd.ntmps7
    go_wp2_with fail
    refine (szPairS_any a ps.length cap 1048576 _ hm (by omega)).mono ?_
    rintro e w0 ⟨rfl, rfl⟩
    rw [hs]
    go_wp2_with fail
    go_ret
    exact ⟨rfl, Below.refl _ _⟩
end Go.Proofs.YtnlimfijepjliaaDoor
