/-
  PathOf: the reference's walk.
-/
import Derived.Test.YtnlimfijepjliaaPathP
import Derived.Test.YtnlimfijepjliaaDec
import Derived.Lib.QuietBelow
namespace Go.Proofs.Ytnlimfijepjliaa
open Go.RowKit

theorem tmod_two (i : Nat) : IntKind.i64.wrap ((i : Int).tmod 2) = ((i % 2 : Nat) : Int) := by
  rw [Int.tmod_eq_emod_of_nonneg (by omega)]
  exact (IntWalk.i64_in _ (by omega)).trans (by omega)
theorem tmod_two' (i : Nat) : (i : Int).tmod 2 = ((i % 2 : Nat) : Int) := by
  rw [Int.tmod_eq_emod_of_nonneg (by omega)]
  omega
/-- A row's cells behind a store, and the store below. -/
theorem stored_facts {w w1 : World} {B : Nat} {g cap n : Nat} {xs : List Int} (h : OwnsI w1 B (.slice (some ⟨g, 0, none⟩) n cap) xs) (hn : n = xs.length) (hb : Below B w w1) (hBw : B ≤ w.heap.size) (j : Nat) (u : Int) :
    (∀ k, k < xs.length → (w1.setCell ⟨g, j, none⟩ (.int .i64 u)).cell? ⟨g, k, none⟩ = some (.int .i64 ((xs.set j u).getD k 0))) ∧ Below B w (w1.setCell ⟨g, j, none⟩ (.int .i64 u)) := by
  obtain ⟨h1, h2⟩ := h.stored hn j u
  refine ⟨fun k hk => h1.cell (by simp [hn]) k (by simpa using hk), ?_⟩
  refine hb.grown h2 ?_ (fun k hk => (h.lt k (by simpa [Value.ownBlock] using hk)).1)
  have := hb.size
  omega
set_option maxHeartbeats 2000000 in
theorem specPathOf_any (a b : Int) (w : World) :
    Calls Try.prog 4 #[.agg #[.int .i64 a, .int .i64 b]] w fun e w' => e = .returned (.tuple #[.string ⟨(pathV a b).toArray⟩, .int .i64 (pathC a b)]) ∧ Below w.heap.size w w' := by
  have B0 := hide (balloc (Below.refl w.heap.size w) (.cells #[.int .i64 a, .int .i64 b] 26))
  have K0 := hide (cell2_new (w := w) (u := .int .i64 a) (v := .int .i64 b) 26)
  cases hv : validR a b
  · have CV := hide (fun w => show Calls Try.prog 7 #[.agg #[.int .i64 a, .int .i64 b]] w fun e w' => e = .returned (.bool false) ∧ Below w.heap.size w w' from hv ▸ l02Ok_any a b w)
    have hV : pathV a b = [] := by unfold pathV; rw [hv, if_neg (by simp)]
    have hC : pathC a b = 1 := by unfold pathC; rw [hv, if_neg (by simp)]
    rw [hV, hC]
    clear hV hC hv
    go_enter Try.func4, Try.ntmps4
    go_wp2_with fail
    refine (CV.out _).mono ?_
    rintro e w1 ⟨rfl, hb1⟩
    have B1 := hide (bstep B0.out hb1)
    clear hb1
    go_wp2_with fail
    go_ret2
    exact ⟨rfl, B1.out⟩
  · have CV := hide (fun w => show Calls Try.prog 7 #[.agg #[.int .i64 a, .int .i64 b]] w fun e w' => e = .returned (.bool true) ∧ Below w.heap.size w w' from hv ▸ l02Ok_any a b w)
    obtain ⟨hab, hbb⟩ := validR_bd' hv
    by_cases ha : 0 < a
    · have hV0 : pathV a b = if (pathT (tdec (cf a b))).length ≤ 200 then pathT (tdec (cf a b)) else [] := by unfold pathV; rw [hv, if_pos ⟨rfl, ha⟩]
      have hC0 : pathC a b = if (pathT (tdec (cf a b))).length ≤ 200 then 0 else 5 := by unfold pathC; rw [hv, if_pos rfl, if_pos ha]
      obtain ⟨cne, cbd, _⟩ := cf_facts b.toNat a b (Nat.le_refl _) (by omega) (by omega)
      have tbd := fun j hj => tdec_bd (a := a) (b := b) (by omega) (by omega) j hj
      have CT := hide (fun w => l03Terms_any a b w hab hbb)
      obtain ⟨cs, hcs⟩ : ∃ cs, cs = cf a b := ⟨_, rfl⟩
      rw [← hcs] at hV0 hC0 cne cbd tbd CT
      have hlen := cf_len a b
      rw [← hcs] at hlen
      obtain ⟨m, hm⟩ : ∃ m, cs.length = m + 1 := ⟨cs.length - 1, by have : cs.length ≠ 0 := fun e => cne (List.eq_nil_of_length_eq_zero e); omega⟩
      have hmb : m ≤ 1000000000 := by omega
      rw [hm] at CT
      have clast := cbd m (by omega)
      obtain ⟨x, hx⟩ : ∃ x, x = cs.getD m 0 := ⟨_, rfl⟩
      rw [← hx] at clast
      obtain ⟨ts, hts⟩ : ∃ ts, ts = tdec cs := ⟨_, rfl⟩
      have hset : cs.set m (x - 1) = ts := by rw [hts, tdec, hm, Nat.add_sub_cancel, hx]
      rw [← hts] at hV0 hC0 tbd
      have htl : ts.length = m + 1 := by rw [hts, tdec_len, hm]
      have HV0 := hide hV0
      have HC0 := hide hC0
      have TBD := hide tbd
      have HTL := hide htl
      have HSET := hide hset
      have HX := hide hx
      have HM := hide hm
      have q1 : IntKind.i64.wrap (x - 1) = x - 1 := IntWalk.i64_in _ (by omega)
      have q2 : IntKind.i64.wrap (((m + 1 : Nat) : Int) - 1) = (m : Int) := (IntWalk.i64_in _ (by omega)).trans (by omega)
      clear hV0 hC0 cne cbd tbd hcs hlen hm hx hts hset htl hv hab hbb
      go_enter Try.func4, Try.ntmps4
      go_wp2_with fail
      refine (CV.out _).mono ?_
      rintro e w1 ⟨rfl, hb1⟩
      have B1 := hide (bstep B0.out hb1)
      obtain ⟨k0, k1, k2, k3⟩ := K0.out.below hb1
      clear hb1
      go_wp2_with fail
      refine (CT.out _).mono ?_
      rintro e w2 ⟨ao, cap, rfl, hown, hb2⟩
      have B2 := hide (bstep B1.out hb2)
      have HO0 := hide (hown.mono_base B1.out.size)
      clear hb2 k0 k1 k2 k3 hown
      rcases HO0.out.form with ⟨_, h2⟩ | ⟨g, cap', e, hg1, hg2, _, _⟩
      · have h3 := HM.out
        rw [h2] at h3
        simp at h3
      simp only [Value.slice.injEq] at e
      obtain ⟨rfl, e2, rfl⟩ := e
      clear e2
      have c0 := HO0.out.cell HM.out.symm m (by have := HM.out; omega)
      rw [← HX.out] at c0
      have f0 := HO0.out.frozen HM.out.symm m
      obtain ⟨hcells, hB3⟩ := stored_facts HO0.out HM.out.symm B2.out (Nat.le_refl _) m (x - 1)
      rw [HSET.out] at hcells
      have HCL0 := hide hcells
      have HB3 := hide hB3
      clear hcells hB3
      go_wp2_with fail
      obtain ⟨w3, hw3⟩ : ∃ w3, w3 = w2.setCell ⟨g, m, none⟩ (.int .i64 (x - 1)) := ⟨_, rfl⟩
      rw [← hw3] at HCL0 HB3
      try rw [← hw3]
      have hg3 : g < w3.heap.size := by rw [hw3]; simpa using hg2
      have HS := hide (show w2.heap.size = w3.heap.size by rw [hw3]; simp)
      have HG1 := hide hg1
      clear c0 f0 hw3
      go_loopw [5, 6] (fun s5 s6 wr => ∃ (i gO p : Nat), i ≤ m + 1 ∧ (pathL ts i).length ≤ 200 ∧ s6 = .int .i64 (i : Int) ∧ s5 = .slice (some ⟨gO, 0, none⟩) (pathL ts i).length p ∧ OwnsB wr w3.heap.size (.slice (some ⟨gO, 0, none⟩) (pathL ts i).length p) (pathL ts i) ∧ Below w3.heap.size w3 wr) (fun _ s6 _ => m + 1 - (intOf s6).toNat)
      case atStart => exact ⟨0, w3.heap.size, 0, by omega, Nat.zero_le _, rfl, by rw [HS.out]; rfl, OwnsB.made_, balloc (Below.refl _ _) _⟩
      case round =>
        obtain ⟨i, gO, p, hi, hle, rfl, rfl, hown, hbel⟩ := hrel
        have HO := hide hown
        have HB := hide hbel
        have hsz := hbel.size
        clear hown hbel
        by_cases hlt : i < m + 1
        · obtain ⟨t0, t1⟩ := TBD.out i (by rw [HTL.out]; omega)
          have hc := (HB.out.cell (p := ⟨g, i, none⟩) hg3).trans (HCL0.out i (by rw [HM.out]; omega))
          have hplen := pathL_len ts i
          have HPS := hide (show pathL ts (i + 1) = pathL ts i ++ List.replicate (ts.getD i 0).toNat (ltr i) from rfl)
          obtain ⟨t, ht⟩ : ∃ t, t = ts.getD i 0 := ⟨_, rfl⟩
          rw [← ht] at t0 t1 hc hplen HPS
          have HT := hide ht
          clear ht
          by_cases hbig : 200 < t
          · have hfull : ¬ (pathT ts).length ≤ 200 := by
              have := pathL_mono ts (i := i + 1) (j := ts.length) (by rw [HTL.out]; omega)
              unfold pathT
              omega
            have HV := hide (HV0.out.trans (if_neg hfull))
            have HC := hide (HC0.out.trans (if_neg hfull))
            clear hfull
            go_wp2_with fail
            go_ret2
            rw [HV.out, HC.out]
            exact ⟨rfl, bstep HB3.out HB.out⟩
          · obtain ⟨wo, hwo⟩ : ∃ wo : World, wo = wr := ⟨_, rfl⟩
            subst hwo
            go_wp2_with fail
            go_loopw [5, 7] (fun s5 s7 wr => ∃ (k gk pk : Nat) (l : List UInt8), (k : Int) ≤ t ∧ l = pathL ts i ++ List.replicate k (ltr i) ∧ s7 = .int .i64 (k : Int) ∧ s5 = .slice (some ⟨gk, 0, none⟩) l.length pk ∧ OwnsB wr w3.heap.size (.slice (some ⟨gk, 0, none⟩) l.length pk) l ∧ Below w3.heap.size w3 wr) (fun _ s7 _ => (t - intOf s7).toNat)
            case atStart => exact ⟨0, gO, p, pathL ts i, t0, by simp, rfl, rfl, HO.out, HB.out⟩
            case round =>
              obtain ⟨k, gk, pk, l, hk, hl, rfl, rfl, hown', hbel'⟩ := hrel
              have HO' := hide hown'
              have HB' := hide hbel'
              have HL := hide hl
              have hsz' := hbel'.size
              have hll : l.length ≤ 400 := by rw [hl, List.length_append, List.length_replicate]; omega
              have hc' := (HB'.out.cell (p := ⟨g, i, none⟩) hg3).trans (HCL0.out i (by rw [HM.out]; omega))
              rw [← HT.out] at hc'
              clear hown' hbel' hl hc
              by_cases hlt2 : (k : Int) < t
              · have O1 := fun u : Int => HO'.out.below (balloc (Below.refl wr.heap.size wr) (.cells #[.int .u8 u] 5))
                have B1' := fun u : Int => balloc HB'.out (.cells #[.int .u8 u] 5)
                have CU : ∀ u : Int, (wr.alloc (.cells #[.int .u8 u] 5)).cell? ⟨wr.heap.size, 0, none⟩ = some (.int .u8 u) := fun u => by simp [go_sem]
                have O1R := hide (O1 82)
                have O1L := hide (O1 76)
                have B1R := hide (B1' 82)
                have B1L := hide (B1' 76)
                have CR := hide (CU 82)
                have CL := hide (CU 76)
                have hsR := (B1' 82).size
                have hsL := (B1' 76).size
                clear O1 B1' CU
                by_cases hpar : i % 2 = 0
                · have q3 : IntKind.i64.wrap ((i : Int).tmod 2) = 0 := by rw [tmod_two, hpar]; rfl
                  have q4 : (i : Int).tmod 2 = 0 := by rw [tmod_two', hpar]; rfl
                  have HLT := hide (show ltr i = 82 by unfold ltr; rw [if_pos hpar])
                  clear hpar
                  go_wp2_with (at_builtin; refine wpList_appendB rfl (.tmp 47) (.tmp 48) rfl w3.heap.size _ l rfl O1R.out ⟨wr.heap.size, 0, none⟩ 1 1 [82] rfl rfl (fun j hj => ?_) (by omega) hsR fun v' w' r1 r2 _ => ?_)
                  · obtain rfl : j = 0 := by omega
                    exact CR.out
                  · have B2' := hide (B1R.out.grown r2 hsR (fun k hk => (O1R.out.lt k hk).1))
                    rcases r1.form with ⟨_, h0⟩ | ⟨g3, cap3, rfl, _⟩
                    · simp at h0
                    have O3 := hide r1
                    clear r1 r2
                    go_roundw
                    case rel => exact ⟨k + 1, g3, cap3, l ++ [82], by omega, by rw [HL.out, HLT.out, List.append_assoc, List.replicate_succ'], by first | rfl | go_num, rfl, O3.out, B2'.out⟩
                    case measure => simp only [intOf]; omega
                · have q3 : IntKind.i64.wrap ((i : Int).tmod 2) = 1 := by rw [tmod_two, show i % 2 = 1 by omega]; rfl
                  have q4 : (i : Int).tmod 2 = 1 := by rw [tmod_two', show i % 2 = 1 by omega]; rfl
                  have HLT := hide (show ltr i = 76 by unfold ltr; rw [if_neg hpar])
                  clear hpar
                  go_wp2_with (at_builtin; refine wpList_appendB rfl (.tmp 50) (.tmp 51) rfl w3.heap.size _ l rfl O1L.out ⟨wr.heap.size, 0, none⟩ 1 1 [76] rfl rfl (fun j hj => ?_) (by omega) hsL fun v' w' r1 r2 _ => ?_)
                  · obtain rfl : j = 0 := by omega
                    exact CL.out
                  · have B2' := hide (B1L.out.grown r2 hsL (fun k hk => (O1L.out.lt k hk).1))
                    rcases r1.form with ⟨_, h0⟩ | ⟨g3, cap3, rfl, _⟩
                    · simp at h0
                    have O3 := hide r1
                    clear r1 r2
                    go_roundw
                    case rel => exact ⟨k + 1, g3, cap3, l ++ [76], by omega, by rw [HL.out, HLT.out, List.append_assoc, List.replicate_succ'], by first | rfl | go_num, rfl, O3.out, B2'.out⟩
                    case measure => simp only [intOf]; omega
              · have hlp : l = pathL ts (i + 1) := by rw [HL.out, HPS.out, show t.toNat = k by omega]
                have HLP := hide hlp
                have hlq : l.length = (pathL ts (i + 1)).length := by rw [hlp]
                clear hlp
                by_cases hbig2 : 200 < l.length
                · have hfull : ¬ (pathT ts).length ≤ 200 := by
                    have := pathL_mono ts (i := i + 1) (j := ts.length) (by rw [HTL.out]; omega)
                    unfold pathT
                    omega
                  have HV := hide (HV0.out.trans (if_neg hfull))
                  have HC := hide (HC0.out.trans (if_neg hfull))
                  have d0 : decide ((200 : Int) < (l.length : Int)) = true := decide_eq_true (by omega)
                  clear hfull hlq hplen
                  go_wp2_with fail
                  go_ret2
                  rw [HV.out, HC.out]
                  exact ⟨rfl, bstep HB3.out HB'.out⟩
                · have d0 : decide ((200 : Int) < (l.length : Int)) = false := decide_eq_false (by omega)
                  have HNB := hide hbig2
                  clear hlq hplen
                  go_wp2_with fail
                  go_roundw
                  case rel =>
                    have ho := HO'.out
                    have hnb := HNB.out
                    rw [HLP.out] at ho hnb
                    exact ⟨i + 1, gk, pk, by omega, by omega, by first | rfl | go_num, by rw [HLP.out], ho, HB'.out⟩
                  case measure => simp only [intOf]; omega
        · have hiT : pathL ts i = pathT ts := by unfold pathT; rw [HTL.out, show i = m + 1 by omega]
          obtain ⟨l, hl⟩ : ∃ l, l = pathL ts i := ⟨_, rfl⟩
          rw [← hl] at HO hle hiT ⊢
          have hv2 : pathV a b = l := by rw [HV0.out, ← hiT, if_pos hle]
          have hc2 : pathC a b = 0 := by rw [HC0.out, ← hiT, if_pos hle]
          have HV := hide hv2
          have HC := hide hc2
          have hcv := run_convert_bytes_back (P := Try.prog) wr 32 9 5 ⟨gO, 0, none⟩ p l Try.underlying32 Try.underlying5 Try.underlying9 (fun j hj => World.ownsRow.cells HO.out (g := gO) rfl j _ (by simp [Lib.byteCells, hj]))
          clear hv2 hc2 hiT hl
          go_wp2_with fail
          go_ret2
          rw [HV.out, HC.out]
          exact ⟨rfl, bstep HB3.out HB.out⟩
    · have hV : pathV a b = [] := by unfold pathV; rw [if_neg (fun h => ha h.2)]
      have hC : pathC a b = 2 := by unfold pathC; rw [hv, if_pos rfl, if_neg ha]
      rw [hV, hC]
      clear hV hC hv hab hbb
      go_enter Try.func4, Try.ntmps4
      go_wp2_with fail
      refine (CV.out _).mono ?_
      rintro e w1 ⟨rfl, hb1⟩
      have B1 := hide (bstep B0.out hb1)
      obtain ⟨k0, k1, k2, k3⟩ := K0.out.below hb1
      clear hb1
      go_wp2_with fail
      go_ret2
      exact ⟨rfl, B1.out⟩
end Go.Proofs.Ytnlimfijepjliaa
