/-
  The harness' helpers on rows of strings: marks, the look at the marks, comparison.
-/
import Derived.Test.YtnlimfijepjliaaDoorStrRow
import Derived.Test.YtnlimfijepjliaaDoorTxt
import Derived.Test.YtnlimfijepjliaaDoorMem
import Derived.Lib.QuietBelow
import Derived.BigQuiet
import Derived.Deep.Cut
namespace Go.Proofs.YtnlimfijepjliaaDoor
open Go.RowKit

def mtGo : Nat → ByteArray → ByteArray
  | 0, out => out
  | k + 1, out => mtGo ((k + 1) / 10) ((⟨[UInt8.ofNat (48 + (k + 1) % 10)].toArray⟩ : ByteArray) ++ out)
termination_by k => k
decreasing_by omega
theorem mtGo_step {k : Nat} (h : k ≠ 0) (out : ByteArray) : mtGo k out = mtGo (k / 10) ((⟨[UInt8.ofNat (48 + k % 10)].toArray⟩ : ByteArray) ++ out) := by
  cases k with
  | zero => exact absurd rfl h
  | succ k => rw [mtGo]
theorem mtGo_zero (out : ByteArray) : mtGo 0 out = out := by rw [mtGo]
/-- The mark of a number. -/
def markB (k : Nat) : ByteArray := (⟨#[109]⟩ : ByteArray) ++ mtGo k ⟨#[]⟩
theorem ne_self (x : ByteArray) : (x.toList != x.toList) = false := by simp
theorem OwnsS.cell {w : World} {base g cap : Nat} {n : Nat} {xs : List ByteArray} (h : OwnsS w base (.slice (some ⟨g, 0, none⟩) n cap) xs) (hn : n = xs.length) (j : Nat) (hj : j < xs.length) : w.cell? ⟨g, j, none⟩ = some (.string (xs.getD j ⟨#[]⟩)) := by
  subst hn
  have := World.ownsRow.cellAt h j (by omega)
  rw [this]
  simp [List.getElem?_map, List.getElem?_eq_getElem hj]
theorem OwnsS.frozen {w : World} {base g cap : Nat} {n : Nat} {xs : List ByteArray} (h : OwnsS w base (.slice (some ⟨g, 0, none⟩) n cap) xs) (hn : n = xs.length) (j : Nat) : w.frozen? ⟨g, j, none⟩ = false := by
  subst hn; exact World.ownsRow.frozenAt h j
theorem OwnsS.stored {w : World} {base g cap : Nat} {n : Nat} {xs : List ByteArray} (h : OwnsS w base (.slice (some ⟨g, 0, none⟩) n cap) xs) (hn : n = xs.length) (j : Nat) (u : ByteArray) :
    OwnsS (w.setCell ⟨g, j, none⟩ (.string u)) base (.slice (some ⟨g, 0, none⟩) n cap) (xs.set j u) ∧ w.grownBy (w.setCell ⟨g, j, none⟩ (.string u)) (some g) := by
  subst hn
  have := World.ownsRow.stored h j (.string u)
  refine ⟨?_, this.2⟩
  unfold OwnsS
  simp only [List.length_set, List.map_set]
  exact this.1
def marksS (k n : Nat) : List ByteArray := (List.range n).map fun i => markB (k + i)
theorem marksS_len (k n : Nat) : (marksS k n).length = n := by simp [marksS]
theorem marksS_get (k n j : Nat) (h : j < n) : (marksS k n).getD j ⟨#[]⟩ = markB (k + j) := by
  simp [marksS, h]
theorem below_markS {a w w' : World} {w1 w2 : World} {v : Value} {xs : List ByteArray} (h : Below a.heap.size a w) (hg : w.grownBy w' v.ownBlock) (o : OwnsS w2 w1.heap.size v xs) (h1 : a.heap.size ≤ w1.heap.size) : Below a.heap.size a w' :=
  h.grown hg h.size (fun k hk => by have := o.lt k hk; omega)
set_option maxHeartbeats 1000000 in
set_option maxRecDepth 100000 in
theorem markText_any (k : Nat) (w : World) (hk : 1 ≤ k ∧ k ≤ 1000000000000) :
    Calls Tryd.prog 54 #[.int .i64 (k : Int)] w fun e w' => e = .returned (.string (markB k)) ∧ Below w.heap.size w w' := by
  go_enter Tryd.func54, Tryd.ntmps54
  go_wp2_with fail
  go_loopw [0, 3] (fun s0 s3 wr => ∃ (j : Nat) (out : ByteArray), mtGo j out = mtGo k ⟨#[]⟩ ∧ out.size + j ≤ k ∧ s0 = .int .i64 (j : Int) ∧ s3 = .string out ∧ Below w.heap.size w wr) (fun s0 _ _ => (intOf s0).toNat)
  case atStart => exact ⟨k, ⟨#[]⟩, rfl, by show 0 + k ≤ k; omega, rfl, rfl, Below.refl _ _⟩
  case round =>
    obtain ⟨j, out, hmt, hsz, rfl, rfl, hbel⟩ := hrel
    have HM := hide hmt
    have HB := hide hbel
    have HSZ := hide hsz
    have hob : out.size ≤ 1000000000000 := by omega
    have hjb : j ≤ 1000000000000 := by omega
    clear hmt hbel hsz
    by_cases h0 : j = 0
    · subst h0
      have n1 : ¬ 9223372036854775807 < 1 + out.size := by omega
      have HE := hide (show markB k = (⟨#[109]⟩ : ByteArray) ++ out by unfold markB; rw [← HM.out, mtGo_zero])
      go_wp2_with fail
      go_ret
      rw [HE.out]
      exact ⟨rfl, HB.out⟩
    · have hpos : (0 : Int) < (j : Int) := by omega
      obtain ⟨u, hu⟩ : ∃ u, u = j % 10 := ⟨_, rfl⟩
      obtain ⟨q, hq⟩ : ∃ q, q = j / 10 := ⟨_, rfl⟩
      have hu10 : u < 10 := by omega
      have hqj : q < j := by omega
      have hst := mtGo_step h0 out
      rw [← hu, ← hq] at hst
      obtain ⟨b, hb⟩ : ∃ b, b = UInt8.ofNat (48 + u) := ⟨_, rfl⟩
      have hbn : (b.toNat : Int) = 48 + (u : Int) := by rw [hb, UInt8.toNat_ofNat']; omega
      rw [← hb] at hst
      obtain ⟨S, hS⟩ : ∃ S, S = (⟨[b].toArray⟩ : ByteArray) := ⟨_, rfl⟩
      have hS1 : S.size = 1 := by rw [hS]; rfl
      have n1 : ¬ 9223372036854775807 < S.size + out.size := by omega
      have f1 : (j : Int).tmod 10 = (u : Int) := by rw [Int.tmod_eq_emod_of_nonneg (by omega)]; omega
      have f2 : IntKind.i64.wrap (u : Int) = (u : Int) := IntWalk.i64_in _ (by omega)
      have f3 : (j : Int).tdiv 10 = (q : Int) := by rw [Int.tdiv_eq_ediv_of_nonneg (by omega)]; omega
      have f4 : IntKind.i64.wrap (q : Int) = (q : Int) := IntWalk.i64_in _ (by omega)
      have f5 : IntKind.i64.wrap (48 + (u : Int)) = (b.toNat : Int) := (IntWalk.i64_in _ (by omega)).trans hbn.symm
      have f6 : IntKind.u8.wrap (b.toNat : Int) = (b.toNat : Int) := IntWalk.u8_in _ (by omega)
      have hcv : (convert 47 9 (.slice (some ⟨wr.heap.size, 0, none⟩) 1 1)).run Tryd.prog (wr.alloc (.cells #[.int .u8 (b.toNat : Int)] 5)) = .ok (.string ⟨[b].toArray⟩) (wr.alloc (.cells #[.int .u8 (b.toNat : Int)] 5)) := run_convert_bytes_back (P := Tryd.prog) (wr.alloc (.cells #[.int .u8 (b.toNat : Int)] 5)) 47 9 5 ⟨wr.heap.size, 0, none⟩ 1 [b] Tryd.underlying47 Tryd.underlying5 Tryd.underlying9 (fun t ht => by
        obtain rfl : t = 0 := by simp at ht; omega
        simp [go_sem])
      rw [← hS] at hcv hst
      have HM2 := hide (hst.symm.trans HM.out)
      have B1 := hide (balloc HB.out (.cells #[.int .u8 (b.toNat : Int)] 5))
      have HS1 := hide hS1
      have HQ := hide hqj
      clear hS hS1 hst hu hq hb hbn hu10 hqj
      go_wp2_with fail
      go_roundw
      case rel => exact ⟨q, S ++ out, HM2.out, by rw [ByteArray.size_append, HS1.out]; have := HSZ.out; have := HQ.out; omega, rfl, rfl, B1.out⟩
      case measure => simp only [intOf]; have := HQ.out; omega
theorem eqS_same (va vb : Value) (xs : List ByteArray) (B1 B2 : Nat) (w : World) (ha : OwnsS w B1 va xs) (hb : OwnsS w B2 vb xs) :
    Calls Tryd.prog 20 #[va, vb] w fun e w' => e = .returned (.bool true) ∧ Below w.heap.size w w' := by
  have hlm : xs.length ≤ maxLen := by
    rcases ha.form with ⟨_, h2⟩ | ⟨g, cap, _, _, _, h4, h5⟩
    · subst h2; exact Nat.zero_le _
    · omega
  unfold maxLen at hlm
  by_cases h0 : xs.length = 0
  · have hx : xs = [] := List.eq_nil_of_length_eq_zero h0
    subst hx
    have hva : ∃ ao ca, va = .slice ao 0 ca := by
      rcases ha.form with ⟨h1, _⟩ | ⟨g, cap, h1, _⟩
      · exact ⟨_, _, h1⟩
      · exact ⟨_, _, h1⟩
    have hvb : ∃ ao ca, vb = .slice ao 0 ca := by
      rcases hb.form with ⟨h1, _⟩ | ⟨g, cap, h1, _⟩
      · exact ⟨_, _, h1⟩
      · exact ⟨_, _, h1⟩
    obtain ⟨ao, ca, rfl⟩ := hva
    obtain ⟨bo, cb, rfl⟩ := hvb
    clear ha hb
    go_enter Tryd.func20, Tryd.ntmps20
    go_wp2
    refine wp_loop_rounds 1 ?_
    rw [rounds_succ]
    go_wp2
    go_ret
    exact ⟨rfl, Below.refl _ _⟩
  · rcases ha.form with ⟨_, h2⟩ | ⟨g, cap, rfl, _, _, _, _⟩
    · exact absurd (by simp [h2]) h0
    rcases hb.form with ⟨_, h2⟩ | ⟨g', cap', rfl, _, _, _, _⟩
    · exact absurd (by simp [h2]) h0
    have hca := hide (fun j hj => ha.cell rfl j hj)
    have hcb := hide (fun j hj => hb.cell rfl j hj)
    clear ha hb
    go_enter Tryd.func20, Tryd.ntmps20
    go_wp2
    go_loopw [5] (fun i wr => ∃ k : Nat, k ≤ xs.length ∧ i = .int .i64 k ∧ ∃ n, wr = w.drewN n) (fun i _ => xs.length - (intOf i).toNat)
    case atStart => exact ⟨0, by omega, rfl, 0, rfl⟩
    case round =>
      obtain ⟨k, hk, rfl, n, rfl⟩ := hrel
      by_cases hlt : k < xs.length
      · have c1 := hca.out k hlt
        have c2 := hcb.out k hlt
        obtain ⟨x, hx⟩ : ∃ x, x = xs.getD k ⟨#[]⟩ := ⟨_, rfl⟩
        rw [← hx] at c1 c2
        have hne' := ne_self x
        clear hx
        go_wp2
        go_quiet (fail)
        go_wp2
        go_roundw
        case rel => exact ⟨k + 1, by omega, by go_num, _, rfl⟩
        case measure => simp [intOf]; omega
      · go_wp2
        go_ret
        exact ⟨rfl, bdrewN (Below.refl _ _) _⟩
set_option maxHeartbeats 1000000 in
theorem markStringS_any (v : Value) (xs : List ByteArray) (B : Nat) (w : World) (h : OwnsS w B v xs) (hl : xs.length ≤ 100000000000) :
    Calls Tryd.prog 21 #[v, .int .i64 1] w fun e w' => e = .returned (.int .i64 (1 + xs.length)) ∧ OwnsS w' B v (marksS 1 xs.length) ∧ w.grownBy w' v.ownBlock := by
  rcases h.form with ⟨rfl, rfl⟩ | ⟨g, cap, rfl, _, hgl, _, _⟩
  · go_enter Tryd.func21, Tryd.ntmps21
    go_wp2
    refine wp_loop_rounds 1 ?_
    rw [rounds_succ]
    go_wp2
    go_ret
    exact ⟨ret_int (by simp), h, World.grownBy.refl _ _⟩
  · go_enter Tryd.func21, Tryd.ntmps21
    go_wp2
    go_loopw [1, 5] (fun kv i wr => ∃ (j : Nat) (ys : List ByteArray), j ≤ xs.length ∧ ys.length = xs.length ∧ (∀ t, t < j → ys.getD t ⟨#[]⟩ = markB (1 + t)) ∧ OwnsS wr B (.slice (some ⟨g, 0, none⟩) xs.length cap) ys ∧ w.grownBy wr (some g) ∧ kv = .int .i64 (((1 + j : Nat)) : Int) ∧ i = .int .i64 j) (fun _ i _ => xs.length - (intOf i).toNat)
    case atStart => exact ⟨0, xs, by omega, rfl, by omega, h, World.grownBy.refl _ _, rfl, rfl⟩
    case round =>
      obtain ⟨j, ys, hj, hyl, hys, hown, hgr, rfl, rfl⟩ := hrel
      have HYL := hide hyl
      have HYS := hide hys
      have HG := hide hgr
      have HO := hide hown
      clear hyl hys hgr hown
      by_cases hlt : j < xs.length
      · obtain ⟨m, hm⟩ : ∃ m, m = 1 + j := ⟨_, rfl⟩
        rw [← hm]
        have CM := hide (markText_any m wr (by omega))
        have q1 : IntKind.i64.wrap ((m : Int) + 1) = ((m + 1 : Nat) : Int) := (IntWalk.i64_in _ (by omega)).trans (by omega)
        have HMM := hide hm
        clear hm
        go_wp2_with fail
        refine CM.out.mono ?_
        rintro e w2 ⟨rfl, hb2⟩
        have HO2 := hide (HO.out.below hb2)
        have HG2 := hide (grown_step HG.out (grown_of_belowB hb2 (some g)))
        have c1 := HO2.out.cell HYL.out.symm j (by have := HYL.out; omega)
        have f1 := HO2.out.frozen HYL.out.symm j
        clear hb2
        go_wp2_with fail
        go_roundw
        case rel =>
          have hst := HO2.out.stored HYL.out.symm j (markB m)
          refine ⟨j + 1, ys.set j (markB m), by omega, by rw [List.length_set]; exact HYL.out, fun t ht => ?_, hst.1, grown_step HG2.out hst.2, by rw [HMM.out]; first | rfl | (congr 1; omega), by first | rfl | go_num⟩
          rcases Nat.lt_succ_iff_lt_or_eq.1 ht with h1 | rfl
          · have := HYS.out t h1
            rw [← this]
            simp only [List.getD_eq_getElem?_getD]
            rw [List.getElem?_set_ne (by omega)]
          · rw [HMM.out]
            simp [List.getElem?_set, HYL.out, hlt]
        case measure => simp [intOf]; omega
      · go_wp2
        go_ret
        have e : j = xs.length := by omega
        refine ⟨ret_int (by rw [e]; omega), ?_, HG.out⟩
        have e2 : ys = marksS 1 xs.length := by
          apply List.ext_getElem (by rw [marksS_len]; exact HYL.out)
          intro t h1 h2
          have a1 := HYS.out t (by rw [marksS_len] at h2; omega)
          have a2 := marksS_get 1 xs.length t (by rw [marksS_len] at h2; omega)
          rw [← a2] at a1
          simpa [List.getD_eq_getElem?_getD, List.getElem?_eq_getElem h1, List.getElem?_eq_getElem h2] using a1
        rw [← e2]; exact HO.out
set_option maxHeartbeats 1000000 in
set_option maxRecDepth 100000 in
theorem heldStringS_any (v : Value) (n : Nat) (B : Nat) (w : World) (h : OwnsS w B v (marksS 1 n)) (hl : n ≤ 100000000000) :
    Calls Tryd.prog 22 #[v, .int .i64 1] w fun e w' => e = .returned (.int .i64 (1 + n)) ∧ Below w.heap.size w w' := by
  rcases h.form with ⟨rfl, h0⟩ | ⟨g, cap, rfl, _, hgl, _, _⟩
  · have hn : n = 0 := by rw [← marksS_len 1 n, h0]; rfl
    subst hn
    go_enter Tryd.func22, Tryd.ntmps22
    go_wp2
    refine wp_loop_rounds 1 ?_
    rw [rounds_succ]
    go_wp2
    go_ret
    exact ⟨ret_int (by simp), Below.refl _ _⟩
  · have hc : ∀ j, j < n → w.cell? ⟨g, j, none⟩ = some (.string (markB (1 + j))) := fun j hj => by
      rw [h.cell rfl j (by rw [marksS_len]; exact hj), marksS_get 1 n j hj]
    have HC := hide hc
    clear hc
    rw [marksS_len] at h ⊢
    clear h
    go_enter Tryd.func22, Tryd.ntmps22
    go_wp2
    go_loopw [1, 5] (fun kv i wr => ∃ j : Nat, j ≤ n ∧ kv = .int .i64 ((1 + j : Nat) : Int) ∧ i = .int .i64 j ∧ Below w.heap.size w wr) (fun _ i _ => n - (intOf i).toNat)
    case atStart => exact ⟨0, by omega, rfl, rfl, Below.refl _ _⟩
    case round =>
      obtain ⟨j, hj, rfl, rfl, hbel⟩ := hrel
      have HB := hide hbel
      clear hbel
      by_cases hlt : j < n
      · obtain ⟨m, hm⟩ : ∃ m, m = 1 + j := ⟨_, rfl⟩
        have c1 := (HB.out.cell (p := ⟨g, j, none⟩) hgl).trans (HC.out j hlt)
        rw [← hm] at c1 ⊢
        have CM := hide (fun w => markText_any m w (by omega))
        obtain ⟨x, hx⟩ : ∃ x, x = markB m := ⟨_, rfl⟩
        rw [← hx] at c1 CM
        have hne' := ne_self x
        have q1 : IntKind.i64.wrap ((m : Int) + 1) = ((m + 1 : Nat) : Int) := (IntWalk.i64_in _ (by omega)).trans (by omega)
        have i0 : (0 : Int) ≤ (j : Int) := by omega
        have i1 : (j : Int) < (n : Int) := by omega
        have HMM := hide hm
        clear hm hx
        go_upto_region 4 with fail
        obtain ⟨wb, hwb⟩ : ∃ wb, wb = wr := ⟨_, rfl⟩
        rw [← hwb] at c1 HB ⊢
        clear hwb
        have k0 := cell_regrown c1
        have cA := fun d os => Calls.regrown_of (w := wb) (d := d) (os := os) (CM.out _)
        refine wp_region_quiet_below (by kernel_rfl) (by kernel_rfl) ?_
        repeat (go_big_quiet_step (with_reducible exact cA _ _))
        refine wpQuiet_nil ?_
        intro _ hw'
        obtain ⟨⟨dq, osq⟩, hw''⟩ := hw'
        subst hw''
        have B1 := hide (bstep HB.out (below_regrown _ dq osq))
        clear cA k0 c1
        go_wp2_with fail
        go_roundw
        case rel => exact ⟨j + 1, by omega, by rw [HMM.out]; first | rfl | (congr 1; omega), by first | rfl | go_num, B1.out⟩
        case measure => simp [intOf]; omega
      · go_wp2
        go_ret
        exact ⟨ret_int (by omega), HB.out⟩
end Go.Proofs.YtnlimfijepjliaaDoor
