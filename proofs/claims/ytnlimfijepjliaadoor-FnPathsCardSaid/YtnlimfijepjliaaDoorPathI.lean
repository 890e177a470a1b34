/-
  PathOf: the program's walk.
-/
import Derived.Test.YtnlimfijepjliaaDoorPathS
import Derived.Test.YtnlimfijepjliaaDoorBld
import Derived.Lib.Repeat
namespace Go.Proofs.YtnlimfijepjliaaDoor
open Go.RowKit

theorem isB_below {T e : TypeId} {B b : Nat} {bs : List Value} {w w' : World} (h : Lib.IsBuilder T e B b bs w) (hb : Below w.heap.size w w') : Lib.IsBuilder T e B b bs w' := by
  rcases h with ⟨h1, v, h2, h3, h4⟩ | ⟨h1, v, h2, h3, h4⟩
  · have hlt : b < w.heap.size := (Array.getElem?_eq_some_iff.1 h2).1
    exact .inl ⟨h1, v, by rw [hb.block b hlt]; exact h2, World.ownsRow.kept h3 (grown_of_belowB hb none) (by cases v.ownBlock <;> simp), h4⟩
  · have hlt : b < w.heap.size := (Array.getElem?_eq_some_iff.1 h2).1
    exact .inr ⟨h1, v, by rw [hb.block b hlt]; exact h2, World.ownsRow.kept h3 (grown_of_belowB hb none) (by cases v.ownBlock <;> simp), h4⟩
theorem pathL_bd {ts : List Int} (h : ∀ j, j < ts.length → 0 ≤ ts.getD j 0 ∧ ts.getD j 0 ≤ 1000000000) : ∀ i, i ≤ ts.length → (pathL ts i).length ≤ 1000000000 * i
  | 0, _ => Nat.le_refl _
  | i + 1, hi => by
    have ih := pathL_bd h i (by omega)
    have := h i (by omega)
    rw [pathL_len]
    omega
theorem rep_one (x : UInt8) (c : Nat) : Lib.repeatL (⟨#[x]⟩ : ByteArray).data.toList c = List.replicate c x := by
  have := Lib.repeatL_replicate x 1 c
  rw [Nat.mul_one] at this
  exact this
theorem byteCells_add (a b : List UInt8) : Lib.byteCells a ++ Lib.strCells ⟨b.toArray⟩ = Lib.byteCells (a ++ b) := by
  show Lib.byteCells a ++ Lib.byteCells b = _
  rw [Lib.byteCells_append]
theorem rep_size (x : UInt8) (c : Nat) : (⟨(Lib.repeatL (⟨#[x]⟩ : ByteArray).data.toList c).toArray⟩ : ByteArray).size = c := by
  show (Lib.repeatL (⟨#[x]⟩ : ByteArray).data.toList c).length = c
  rw [rep_one, List.length_replicate]
set_option maxHeartbeats 2000000 in
theorem implPathOf_any (a b : Int) (w : World) :
    Calls Tryd.prog 46 #[.agg #[.int .i64 a, .int .i64 b]] w fun e w' => e = .returned (.tuple #[.string ⟨(pathV a b).toArray⟩, .int .i64 (pathC a b)]) ∧ Below w.heap.size w w' := by
  have B0 := hide (balloc (Below.refl w.heap.size w) (.cells #[.int .i64 a, .int .i64 b] 27))
  have K0 := hide (cell2_new (w := w) (u := .int .i64 a) (v := .int .i64 b) 27)
  cases hv : validR a b
  · have CV := hide (fun w => show Calls Tryd.prog 51 #[.agg #[.int .i64 a, .int .i64 b]] w fun e w' => e = .returned (.bool false) ∧ Below w.heap.size w w' from hv ▸ implValidRatio_any a b w)
    have hV : pathV a b = [] := by unfold pathV; rw [hv, if_neg (by simp)]
    have hC : pathC a b = 1 := by unfold pathC; rw [hv, if_neg (by simp)]
    rw [hV, hC]
    clear hV hC hv
    go_enter Tryd.func46, Tryd.ntmps46
    go_wp2_with fail
    refine (CV.out _).mono ?_
    rintro e w1 ⟨rfl, hb1⟩
    have B1 := hide (bstep B0.out hb1)
    clear hb1
    go_wp2_with fail
    go_ret2
    exact ⟨rfl, B1.out⟩
  · have CV := hide (fun w => show Calls Tryd.prog 51 #[.agg #[.int .i64 a, .int .i64 b]] w fun e w' => e = .returned (.bool true) ∧ Below w.heap.size w w' from hv ▸ implValidRatio_any a b w)
    obtain ⟨hab, hbb⟩ := validR_bd' hv
    by_cases ha : 0 < a
    · have hV0 : pathV a b = if (pathT (tdec (cf a b))).length ≤ 200 then pathT (tdec (cf a b)) else [] := by unfold pathV; rw [hv, if_pos ⟨rfl, ha⟩]
      have hC0 : pathC a b = if (pathT (tdec (cf a b))).length ≤ 200 then 0 else 5 := by unfold pathC; rw [hv, if_pos rfl, if_pos ha]
      obtain ⟨cne, cbd, _⟩ := cf_facts b.toNat a b (Nat.le_refl _) (by omega) (by omega)
      have tbd := fun j hj => tdec_bd (a := a) (b := b) (by omega) (by omega) j hj
      have CT := hide (fun w => termsOf_any a b w hab hbb)
      obtain ⟨cs, hcs⟩ : ∃ cs, cs = cf a b := ⟨_, rfl⟩
      rw [← hcs] at hV0 hC0 cne cbd tbd CT
      have hlen := cf_len a b
      rw [← hcs] at hlen
      obtain ⟨m, hm⟩ : ∃ m, cs.length = m + 1 := ⟨cs.length - 1, by have : cs.length ≠ 0 := fun e => cne (List.eq_nil_of_length_eq_zero e); omega⟩
      have hmb : m ≤ 1000000000 := by omega
      rw [hm] at CT
      have clast := cbd m (by omega)
      obtain ⟨x, hx⟩ : ∃ x, x = cs.getD m 0 := ⟨_, rfl⟩
      rw [← hx] at clast
      obtain ⟨ts, hts⟩ : ∃ ts, ts = tdec cs := ⟨_, rfl⟩
      have hset : cs.set m (x - 1) = ts := by rw [hts, tdec, hm, Nat.add_sub_cancel, hx]
      rw [← hts] at hV0 hC0 tbd
      have htl : ts.length = m + 1 := by rw [hts, tdec_len, hm]
      have HV0 := hide hV0
      have HC0 := hide hC0
      have TBD := hide tbd
      have HTL := hide htl
      have HSET := hide hset
      have HX := hide hx
      have HM := hide hm
      have q1 : IntKind.i64.wrap (x - 1) = x - 1 := IntWalk.i64_in _ (by omega)
      have q2 : IntKind.i64.wrap (((m + 1 : Nat) : Int) - 1) = (m : Int) := (IntWalk.i64_in _ (by omega)).trans (by omega)
      clear hV0 hC0 cne cbd tbd hcs hlen hm hx hts hset htl hv hab hbb
      go_enter Tryd.func46, Tryd.ntmps46
      go_wp2_with fail
      refine (CV.out _).mono ?_
      rintro e w1 ⟨rfl, hb1⟩
      have B1 := hide (bstep B0.out hb1)
      obtain ⟨k0, k1, k2, k3⟩ := K0.out.below hb1
      clear hb1
      go_wp2_with fail
      refine (CT.out _).mono ?_
      rintro e w2 ⟨ao, cap, rfl, hown, hb2⟩
      have B2 := hide (bstep B1.out hb2)
      have HO0 := hide (hown.mono_base B1.out.size)
      clear hb2 k0 k1 k2 k3 hown
      rcases HO0.out.form with ⟨_, h2⟩ | ⟨g, cap', e, hg1, hg2, _, _⟩
      · have h3 := HM.out
        rw [h2] at h3
        simp at h3
      simp only [Value.slice.injEq] at e
      obtain ⟨rfl, e2, rfl⟩ := e
      clear e2
      have c0 := HO0.out.cell HM.out.symm m (by have := HM.out; omega)
      rw [← HX.out] at c0
      have f0 := HO0.out.frozen HM.out.symm m
      obtain ⟨hcells, hB3⟩ := stored_facts HO0.out HM.out.symm B2.out (Nat.le_refl _) m (x - 1)
      rw [HSET.out] at hcells
      have HCL0 := hide hcells
      have HB3 := hide hB3
      clear hcells hB3
      go_wp2_with fail
      obtain ⟨w3, hw3⟩ : ∃ w3, w3 = w2.setCell ⟨g, m, none⟩ (.int .i64 (x - 1)) := ⟨_, rfl⟩
      rw [← hw3] at HCL0 HB3
      try rw [← hw3]
      have hg3 : g < w3.heap.size := by rw [hw3]; simpa using hg2
      have HS := hide (show w2.heap.size = w3.heap.size by rw [hw3]; simp)
      clear c0 f0 hw3
      go_loop [5, 7, 29] (fun s5 _ s29 => ∃ i : Nat, i ≤ m + 1 ∧ s5 = .int .i64 ((pathL ts i).length : Int) ∧ s29 = .int .i64 (i : Int)) (fun _ _ s29 => m + 1 - (intOf s29).toNat)
      case atStart => exact ⟨0, by omega, rfl, rfl⟩
      case round =>
        obtain ⟨i, hi, rfl, rfl⟩ := hrel
        by_cases hlt : i < m + 1
        · obtain ⟨t0, t1⟩ := TBD.out i (by rw [HTL.out]; omega)
          have hc := HCL0.out i (by rw [HM.out]; omega)
          have hplen := pathL_len ts i
          have hpb := pathL_bd TBD.out i (by rw [HTL.out]; omega)
          obtain ⟨t, ht⟩ : ∃ t, t = ts.getD i 0 := ⟨_, rfl⟩
          rw [← ht] at t0 t1 hc hplen
          obtain ⟨p, hp⟩ : ∃ p, p = (pathL ts i).length := ⟨_, rfl⟩
          rw [← hp] at hplen hpb
          try rw [← hp]
          have hq : IntKind.i64.wrap ((p : Int) + t) = (((pathL ts (i + 1)).length : Nat) : Int) := (IntWalk.i64_in _ (by omega)).trans (by omega)
          clear hplen ht hp
          go_wp2_with fail
          go_round
          case rel => exact ⟨i + 1, by omega, rfl, by first | rfl | go_num⟩
          case measure => simp only [intOf]; omega
        · have hiT : (pathL ts i).length = (pathT ts).length := by unfold pathT; rw [HTL.out, show i = m + 1 by omega]
          rw [hiT]
          by_cases hbig : 200 < (pathT ts).length
          · have HV := hide (HV0.out.trans (if_neg (by omega)))
            have HC := hide (HC0.out.trans (if_neg (by omega)))
            obtain ⟨p, hp⟩ : ∃ p, p = (pathT ts).length := ⟨_, rfl⟩
            rw [← hp] at hbig ⊢
            clear hiT hp
            go_wp2_with fail
            go_ret2
            rw [HV.out, HC.out]
            exact ⟨rfl, HB3.out⟩
          · have HV := hide (HV0.out.trans (if_pos (by omega)))
            have HC := hide (HC0.out.trans (if_pos (by omega)))
            obtain ⟨p, hp⟩ : ∃ p, p = (pathT ts).length := ⟨_, rfl⟩
            rw [← hp] at hbig ⊢
            have HP := hide (show (pathT ts).length ≤ 200 by rw [← hp]; omega)
            have HF := hide (Lib.fresh_isBuilder 88 5 w3)
            clear hiT hp
            go_wp2_with fail
            go_loopw [9, 10, 41] (fun _ _ s41 wr => ∃ k : Nat, k ≤ m + 1 ∧ s41 = .int .i64 (k : Int) ∧ Lib.IsBuilder 88 5 w3.heap.size w3.heap.size (Lib.byteCells (pathL ts k)) wr ∧ Below w3.heap.size w3 wr) (fun _ _ s41 _ => m + 1 - (intOf s41).toNat)
            case atStart => exact ⟨0, by omega, rfl, HF.out, balloc (Below.refl _ _) _⟩
            case round =>
              obtain ⟨k, hk, rfl, hbld, hbel⟩ := hrel
              have HBL := hide hbld
              have HB := hide hbel
              have hsz := hbel.size
              clear hbld hbel
              by_cases hlt2 : k < m + 1
              · obtain ⟨t0, _⟩ := TBD.out k (by rw [HTL.out]; omega)
                have hc := (HB.out.cell (p := ⟨g, k, none⟩) hg3).trans (HCL0.out k (by rw [HM.out]; omega))
                have hm1 := pathL_mono ts (i := k + 1) (j := ts.length) (by rw [HTL.out]; omega)
                have hp2 : (pathL ts ts.length).length ≤ 200 := HP.out
                have hpl := pathL_len ts k
                have HPS := hide (show pathL ts (k + 1) = pathL ts k ++ List.replicate (ts.getD k 0).toNat (ltr k) from rfl)
                obtain ⟨c, hcc⟩ := Int.eq_ofNat_of_zero_le t0
                rw [hcc] at hc hpl HPS
                rw [Int.toNat_natCast] at hpl HPS
                have hcb : c ≤ 200 := by omega
                have hlb : (Lib.byteCells (pathL ts k)).length ≤ 200 := by rw [Lib.byteCells_length]; omega
                obtain ⟨wA, hwA⟩ : ∃ wA, wA = wr.alloc (.cells #[.string ⟨#[82]⟩, .string ⟨#[76]⟩] 9) := ⟨_, rfl⟩
                have BA := hide (show Below wr.heap.size wr wA by rw [hwA]; exact balloc (Below.refl _ _) _)
                have cR : wA.cell? ⟨wr.heap.size, 0, none⟩ = some (.string ⟨#[82]⟩) := by rw [hwA]; simp [go_sem]
                have cL : wA.cell? ⟨wr.heap.size, 1, none⟩ = some (.string ⟨#[76]⟩) := by rw [hwA]; simp [go_sem]
                have hc' := (BA.out.cell (p := ⟨g, k, none⟩) (Nat.lt_of_lt_of_le hg3 hsz)).trans hc
                clear t0 hcc hm1 hp2 hpl
                by_cases hpar : k % 2 = 0
                · have q3 : IntKind.i64.wrap ((k : Int).tmod 2) = 0 := by rw [tmod_two, hpar]; rfl
                  have q4 : (k : Int).tmod 2 = 0 := by rw [tmod_two', hpar]; rfl
                  have HLT := hide (show ltr k = 82 by unfold ltr; rw [if_pos hpar])
                  have CR := hide (fun w => Tryd.strings_Repeat ⟨#[82]⟩ c w (by omega) (by show 1 * c ≤ _; omega))
                  clear hpar
                  go_wp2_with fail
                  try rw [← hwA]
                  clear hwA
                  refine (CR.out _).mono ?_
                  rintro e wB ⟨rfl, hbB⟩
                  have BB := hide (bstep BA.out hbB)
                  have HBL2 := hide (isB_below HBL.out BB.out)
                  have hszB := BB.out.size
                  clear hbB
                  go_wp2_with fail
                  refine (builder_WriteString w3.heap.size w3.heap.size _ _ wB HBL2.out (by rw [rep_size]; omega) (by omega)).mono ?_
                  rintro e wC ⟨rfl, hat, hbC⟩
                  have HBL3 := hide (show Lib.IsBuilder 88 5 w3.heap.size w3.heap.size (Lib.byteCells (pathL ts (k + 1))) wC by
                    refine .inr ?_
                    rw [HPS.out, HLT.out, ← rep_one, ← byteCells_add]
                    exact hat)
                  have BC := hide ((bstep HB.out BB.out).trans hbC)
                  clear hat hbC
                  go_wp2_with fail
                  go_roundw
                  case rel => exact ⟨k + 1, by omega, by first | rfl | go_num, HBL3.out, BC.out⟩
                  case measure => simp only [intOf]; omega
                · have q3 : IntKind.i64.wrap ((k : Int).tmod 2) = 1 := by rw [tmod_two, show k % 2 = 1 by omega]; rfl
                  have q4 : (k : Int).tmod 2 = 1 := by rw [tmod_two', show k % 2 = 1 by omega]; rfl
                  have HLT := hide (show ltr k = 76 by unfold ltr; rw [if_neg hpar])
                  have CR := hide (fun w => Tryd.strings_Repeat ⟨#[76]⟩ c w (by omega) (by show 1 * c ≤ _; omega))
                  clear hpar
                  go_wp2_with fail
                  try rw [← hwA]
                  clear hwA
                  refine (CR.out _).mono ?_
                  rintro e wB ⟨rfl, hbB⟩
                  have BB := hide (bstep BA.out hbB)
                  have HBL2 := hide (isB_below HBL.out BB.out)
                  have hszB := BB.out.size
                  clear hbB
                  go_wp2_with fail
                  refine (builder_WriteString w3.heap.size w3.heap.size _ _ wB HBL2.out (by rw [rep_size]; omega) (by omega)).mono ?_
                  rintro e wC ⟨rfl, hat, hbC⟩
                  have HBL3 := hide (show Lib.IsBuilder 88 5 w3.heap.size w3.heap.size (Lib.byteCells (pathL ts (k + 1))) wC by
                    refine .inr ?_
                    rw [HPS.out, HLT.out, ← rep_one, ← byteCells_add]
                    exact hat)
                  have BC := hide ((bstep HB.out BB.out).trans hbC)
                  clear hat hbC
                  go_wp2_with fail
                  go_roundw
                  case rel => exact ⟨k + 1, by omega, by first | rfl | go_num, HBL3.out, BC.out⟩
                  case measure => simp only [intOf]; omega
              · have hkT : pathL ts k = pathT ts := by unfold pathT; rw [HTL.out, show k = m + 1 by omega]
                rw [hkT] at HBL
                clear hkT
                go_wp2_with fail
                refine (Tryd.Builder_String_any w3.heap.size w3.heap.size _ wr HBL.out hsz).mono ?_
                rintro e wZ ⟨rfl, hbZ⟩
                have BZ := hide (bstep HB3.out (HB.out.trans hbZ))
                clear hbZ
                go_wp2_with fail
                go_ret2
                rw [HV.out, HC.out]
                exact ⟨rfl, BZ.out⟩
    · have hV : pathV a b = [] := by unfold pathV; rw [if_neg (fun h => ha h.2)]
      have hC : pathC a b = 2 := by unfold pathC; rw [hv, if_pos rfl, if_neg ha]
      rw [hV, hC]
      clear hV hC hv hab hbb
      go_enter Tryd.func46, Tryd.ntmps46
      go_wp2_with fail
      refine (CV.out _).mono ?_
      rintro e w1 ⟨rfl, hb1⟩
      have B1 := hide (bstep B0.out hb1)
      obtain ⟨k0, k1, k2, k3⟩ := K0.out.below hb1
      clear hb1
      go_wp2_with fail
      go_ret2
      exact ⟨rfl, B1.out⟩
end Go.Proofs.YtnlimfijepjliaaDoor
