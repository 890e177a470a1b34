/-
  The reference's search for splits: the walk at more factors, by induction.
-/
import Derived.Test.YthagogjklocmoaaFindW
import Derived.Deep.RegionLaw
namespace Go.Proofs.Ythagogjklocmoaa
open Go.RowKit

theorem rows_map (taken : List Int) (d : Int) (X : List (List Int)) : (X.map (d :: ·)).map (taken ++ ·) = X.map ((taken ++ [d]) ++ ·) := by
  rw [List.map_map]
  congr 1
  funext r
  simp
/-- One divisor's rows are laid behind the others'. -/
theorem fnd_step {T : Nat} {acc : List (List Int)} {D : List Int} {high : Int} {c : Nat} {n low : Int} {taken : List Int} {i : Nat} (hi : i < D.length) :
    fnd T acc (((D.take (i + 1)).flatMap (oneS D high c n low)).map (taken ++ ·)) = fnd T (fnd T acc (((D.take i).flatMap (oneS D high c n low)).map (taken ++ ·))) ((oneS D high c n low (D.getD i 0)).map (taken ++ ·)) := by
  rw [flat_step hi, List.map_append, fnd_add]
theorem Fr.cell {w w' : World} {b : Nat} {vo po : Option Nat} (h : Fr w w' b vo po) {g j : Nat} (hg : g < w.heap.size) (h1 : g ≠ b) (h2 : vo ≠ some g) (h3 : po ≠ some g) : w'.cell? ⟨g, j, none⟩ = w.cell? ⟨g, j, none⟩ := World.cell?_of_block (a := ⟨g, j, none⟩) (h.2.2.2.2 g hg h1 h2 h3)
/-- The divisors rise. -/
def Rise (D : List Int) : Prop := (∀ j, j < D.length → 1 ≤ D.getD j 0 ∧ D.getD j 0 ≤ 1000000000) ∧ ∀ i j, i ≤ j → j < D.length → D.getD i 0 ≤ D.getD j 0
theorem drop_ge {D : List Int} (h : Rise D) {i : Nat} : ∀ d ∈ D.drop i, D.getD i 0 ≤ d ∧ 1 ≤ d := by
  intro d hd
  obtain ⟨j, hj, rfl⟩ := List.mem_iff_getElem.1 hd
  rw [List.length_drop] at hj
  have h1 := h.2 i (i + j) (by omega) (by omega)
  have h2 := h.1 (i + j) (by omega)
  have e : D.getD (i + j) 0 = (D.drop i)[j]'(by rw [List.length_drop]; omega) := by
    rw [List.getElem_drop, List.getD_eq_getElem?_getD, List.getElem?_eq_getElem (by omega)]
    rfl
  rw [e] at h1 h2
  exact ⟨h1, h2.1⟩
def FindPost (w : World) (b gd B : Nat) (D : List Int) (dcap : Nat) (high : Int) (most : Nat) (v : Value) (rows : List (List Int)) (w' : World) : Prop :=
  ∃ v' es', FindSt w' b gd B D dcap high most v' rows es' ∧ Fr w w' b v.ownBlock none ∧ (v'.ownBlock = v.ownBlock ∨ ∀ k, v'.ownBlock = some k → w.heap.size ≤ k)
/-- What the search does at c + 1 factors. -/
def FindC (c : Nat) : Prop := ∀ (n low : Int) (taken : List Int) (ta : Option Addr) (tc : Nat) (b gd B : Nat) (D : List Int) (dcap : Nat) (high : Int) (most : Nat) (v : Value) (acc : List (List Int)) (es : List (Nat × Nat)) (w : World),
  most ≤ 1000 → acc.length ≤ most + 1 → taken.length + c ≤ 10 → (1 ≤ n ∧ n ≤ 1000000000) → high ≤ 1000000000 → Rise D → D.length ≤ 1000000 →
  FindSt w b gd B D dcap high most v acc es → TakenOk w ta taken → (∀ k, addrB ta = some k → k ≠ b ∧ v.ownBlock ≠ some k) →
  Calls Try.prog 39 #[.pointer (some ⟨b, 0, none⟩), .int .i64 n, .int .i64 low, .int .i64 ((c + 1 : Nat) : Int), .slice ta taken.length tc] w fun e w' => e = .returned (.tuple #[]) ∧
    FindPost w b gd B D dcap high most v (fnd (most + 1) acc ((allS D high (c + 1) n low).map (taken ++ ·))) w'
theorem find_next {w wr W w7 : World} {b gd B : Nat} {D : List Int} {dcap : Nat} {high : Int} {most : Nat} {v v1 : Value} {rows : List (List Int)} {ta : Option Addr} {taken : List Int} (hT : TakenOk w ta taken) (hTb : ∀ k, addrB ta = some k → k ≠ b ∧ v.ownBlock ≠ some k) (hT1 : TakenOk wr ta taken) (hF1 : Fr w wr b v.ownBlock none)
    (hv1 : v1.ownBlock = v.ownBlock ∨ ∀ k, v1.ownBlock = some k → w.heap.size ≤ k) (hW : Below wr.heap.size wr W) (hp : FindPost W b gd B D dcap high most v1 rows w7) :
    ∃ v2 es2, FindSt w7 b gd B D dcap high most v2 rows es2 ∧ TakenOk w7 ta taken ∧ Fr w w7 b v.ownBlock none ∧ (v2.ownBlock = v.ownBlock ∨ ∀ k, v2.ownBlock = some k → w.heap.size ≤ k) := by
  obtain ⟨v2, es2, h1, h2, h3⟩ := hp
  have hlt : ∀ k, addrB ta = some k → k < w.heap.size := fun k hk => by
    rcases hT with ⟨rfl, _⟩ | ⟨gt, rfl, h, _⟩
    · cases hk
    · have : gt = k := by simpa [addrB] using hk
      omega
  refine ⟨v2, es2, h1, (hT1.below hW).fr h2 (fun e => (hTb b e).1 rfl) (fun k hk e => ?_) (fun k hk => by simp), (hF1.trans (Fr.of_below (b := b) (vo := v1.ownBlock) (po := none) hW) ?_ (.inl rfl)).trans h2 ?_ (.inl rfl), ?_⟩
  · rcases hv1 with h | h
    · exact (hTb k hk).2 (by rw [← h]; exact e)
    · have := h k e
      have := hlt k hk
      omega
  · exact hv1
  · exact hv1
  · rcases h3 with h3 | h3
    · rcases hv1 with h | h
      · exact .inl (h3.trans h)
      · exact .inr fun k hk => h k (by rw [← h3]; exact hk)
    · refine .inr fun k hk => ?_
      have := h3 k hk
      have := hF1.2.2.2.1
      have := hW.size
      omega
theorem findC_zero : FindC 0 := fun n low taken ta tc b gd B D dcap high most v acc es w hm hacc htl _ _ _ _ hS hT _ =>
  find_one n low taken ta tc b gd B D dcap high most v acc es w hm hacc (by omega) hS hT
set_option maxHeartbeats 8000000 in
set_option maxRecDepth 100000 in
theorem findC_succ (c : Nat) (hc : c ≤ 5) (IH : FindC c) : FindC (c + 1) := by
  intro n low taken ta tc b gd B D dcap high most v acc es w hm hacc htl hn hh hD hDl hS hT hTb
  have HS := hide hS
  have HT := hide hT
  have HTB := hide hTb
  have HIH := hide IH
  have HD := hide hD
  have HACC := hide hacc
  obtain ⟨⟨k0, k1, k2, k3, k4⟩, hd, ho, h1, h2, h3, h4⟩ := hS
  obtain ⟨ao, cap, hv⟩ := ho.form
  obtain ⟨na, hna⟩ : ∃ na, na = acc.length := ⟨_, rfl⟩
  have HNA := hide hna
  rw [← hna] at hv hacc
  have HV := hide hv
  have k3' := k3
  rw [hv] at k3'
  have hbw : b < w.heap.size := by omega
  obtain ⟨cc, hcc⟩ : ∃ cc, cc = c + 1 + 1 := ⟨_, rfl⟩
  have hcb : 2 ≤ cc ∧ cc ≤ 10 := by omega
  have HCC := hide hcc
  rw [← hcc]
  have hz1 : ((cc : Int) == 1) = false := by simp; omega
  have hz2 : (cc == 1) = false := by simp; omega
  clear hT hd ho hv hna k0 k1 k4 hTb IH hD hcc
  by_cases hfull : na = most + 1
  · have HR := hide (fnd_full (T := most + 1) (acc := acc) (by rw [← HNA.out]; exact hfull) ((allS D high cc n low).map (taken ++ ·)))
    have d0' : most < na := by omega
    clear k3 hfull
    go_enter Try.func39, Try.ntmps39
    go_upto_region 0 with fail
    go_quiet (fail)
    go_wp2_with fail
    refine bodyPost_ret (v := .tuple #[]) (by simp [results, Try.results39]) rfl ⟨rfl, ?_⟩
    rw [HR.out]
    exact ⟨v, es, HS.out.below (bdrewN (Below.refl _ _) _), Fr.of_below (bdrewN (Below.refl _ _) _), .inl rfl⟩
  · have d0' : ¬ most < na := by omega
    clear k3 hfull
    go_enter Try.func39, Try.ntmps39
    go_upto_region 0 with fail
    go_quiet (fail)
    go_wp2_with fail
    go_loopw [10, 11] (fun s10 _ wr => ∃ (i : Nat) (v1 : Value) (es1 : List (Nat × Nat)) (acc1 : List (List Int)), i ≤ D.length ∧ acc1 = fnd (most + 1) acc (((D.take i).flatMap (oneS D high c n low)).map (taken ++ ·)) ∧ s10 = .int .i64 (i : Int) ∧ FindSt wr b gd B D dcap high most v1 acc1 es1 ∧ TakenOk wr ta taken ∧ Fr w wr b v.ownBlock none ∧ (v1.ownBlock = v.ownBlock ∨ ∀ k, v1.ownBlock = some k → w.heap.size ≤ k)) (fun s10 _ _ => D.length - (intOf s10).toNat)
    case atStart => exact ⟨0, v, es, acc, by omega, by rw [List.take_zero, List.flatMap_nil, List.map_nil]; exact (fnd_nil HACC.out).symm, rfl, HS.out.below (bdrewN (Below.refl _ _) _), HT.out.below (bdrewN (Below.refl _ _) _), Fr.of_below (bdrewN (Below.refl _ _) _), .inl rfl⟩
    case round =>
      obtain ⟨i, v1, es1, acc1, hi, hacc1, rfl, hS1, hT1, hF1, hv1⟩ := hrel
      have HA1 := hide hacc1
      have HS1 := hide hS1
      have HT1 := hide hT1
      have HF1 := hide hF1
      have HV1 := hide hv1
      obtain ⟨⟨k0, k1, k2, k3, k4⟩, hd, ho, _, _, _, _⟩ := hS1
      clear hacc1 hT1 hF1 hv1 ho k2 k3 k4
      by_cases hlt : i < D.length
      · have kd := hd i hlt
        obtain ⟨e1, e2⟩ := HD.out.1 i hlt
        have HST := hide (fnd_step (T := most + 1) (acc := acc) (D := D) (high := high) (c := c) (n := n) (low := low) (taken := taken) hlt)
        have HGE := hide (drop_ge HD.out (i := i))
        obtain ⟨d, hdd⟩ : ∃ d, d = D.getD i 0 := ⟨_, rfl⟩
        rw [← hdd] at kd e1 e2 HST HGE
        have i0 : (0 : Int) ≤ (i : Int) := by omega
        have i1 : (i : Int) < (D.length : Int) := by omega
        have q1 : d * d ≤ 1000000000 * 1000000000 := Int.mul_le_mul e2 e2 (by omega) (by omega)
        have q0 : 0 ≤ d * d := Int.mul_nonneg (by omega) (by omega)
        have qw : IntKind.i64.wrap (d * d) = d * d := IntWalk.i64_in _ (by omega)
        clear hdd hd
        by_cases hdh : high < d
        · have HR := hide (show fnd (most + 1) acc ((allS D high cc n low).map (taken ++ ·)) = acc1 by
            rw [HA1.out, HCC.out, allS_two, rest_nil (i := i) (fun x hx => oneS_high _ _ _ _ _ _ (by have := (HGE.out x hx).1; omega))])
          clear qw q1 q0
          go_wp2_with fail
          refine bodyPost_ret (v := .tuple #[]) (by simp [results, Try.results39]) rfl ⟨rfl, ?_⟩
          rw [HR.out]
          exact ⟨v1, es1, HS1.out, HF1.out, HV1.out⟩
        · by_cases hsq : n < d * d
          · have HR := hide (show fnd (most + 1) acc ((allS D high cc n low).map (taken ++ ·)) = acc1 by
              rw [HA1.out, HCC.out, allS_two, rest_nil (i := i) (fun x hx => oneS_sq _ _ _ _ _ _ hn.1 (HGE.out x hx).2 (by
                have h1 := (HGE.out x hx).1
                have h2 : d * d ≤ x * x := Int.mul_le_mul h1 h1 (by omega) (by omega)
                omega))])
            go_wp2_with fail
            refine bodyPost_ret (v := .tuple #[]) (by simp [results, Try.results39]) rfl ⟨rfl, ?_⟩
            rw [HR.out]
            exact ⟨v1, es1, HS1.out, HF1.out, HV1.out⟩
          · have hn1 := hn.1
            have hn2 := hn.2
            have m0 : n.tmod d = n % d := Int.tmod_eq_emod_of_nonneg (by omega)
            have m1 : 0 ≤ n % d := Int.emod_nonneg _ (by omega)
            have m2 : n % d < d := Int.emod_lt_of_pos _ (by omega)
            have mw : IntKind.i64.wrap (n % d) = n % d := IntWalk.i64_in _ (by omega)
            have hd0 : ¬ d = 0 := by omega
            have hd0' : (d == 0) = false := by simpa using hd0
            have HNX0 := hide (fun (h : oneS D high c n low d = []) => show acc1 = fnd (most + 1) acc (((D.take (i + 1)).flatMap (oneS D high c n low)).map (taken ++ ·)) from by
              rw [HST.out, h, List.map_nil, ← HA1.out]
              exact (fnd_nil (by rw [HA1.out]; exact fnd_len _ _ _)).symm)
            by_cases hlow : low ≤ d
            · by_cases hmod : n % d = 0
              · have hz : (n % d == 0) = true := by simpa using hmod
                have hdv : d ∣ n := Int.dvd_of_emod_eq_zero hmod
                have p1 := Int.ediv_pos_of_pos_of_dvd (by omega : 0 < n) (by omega) hdv
                have p2 : n / d ≤ n := Int.ediv_le_self _ (by omega)
                have t0 : n.tdiv d = n / d := Int.tdiv_eq_ediv_of_nonneg (by omega)
                have tw : IntKind.i64.wrap (n / d) = n / d := IntWalk.i64_in _ (by omega)
                have tw2 : IntKind.i64.wrap (n.tdiv d) = n / d := by rw [t0]; exact tw
                have qc : IntKind.i64.wrap ((cc : Int) - 1) = ((c + 1 : Nat) : Int) := (IntWalk.i64_in _ (by omega)).trans (by have := HCC.out; omega)
                obtain ⟨acc2, hacc2⟩ : ∃ acc2, acc2 = fnd (most + 1) acc (((D.take (i + 1)).flatMap (oneS D high c n low)).map (taken ++ ·)) := ⟨_, rfl⟩
                have hsn : acc2 = fnd (most + 1) acc1 ((allS D high (c + 1) (n / d) d).map ((taken ++ [d]) ++ ·)) := by
                  rw [hacc2, HST.out, ← HA1.out]
                  congr 1
                  unfold oneS
                  rw [if_pos ⟨hlow, by omega, hmod⟩, rows_map]
                have HA2 := hide hacc2
                obtain ⟨t1, ht1⟩ : ∃ t1, (taken ++ [d]).length = t1 := ⟨_, rfl⟩
                have HT1L := hide ht1
                have ht10 : 0 < t1 := by rw [← ht1]; simp
                have HI := hide (fun (W : World) (xg xc : Nat) (hb : Below wr.heap.size wr W) (hTk : TakenOk W (some ⟨xg, 0, none⟩) (taken ++ [d])) (hx : wr.heap.size ≤ xg) => show Calls Try.prog 39 #[.pointer (some ⟨b, 0, none⟩), .int .i64 (n / d), .int .i64 d, .int .i64 ((c + 1 : Nat) : Int), .slice (some ⟨xg, 0, none⟩) t1 xc] W fun e w' => e = .returned (.tuple #[]) ∧ FindPost W b gd B D dcap high most v1 acc2 w' from by
                  have h := HIH.out (n / d) d (taken ++ [d]) (some ⟨xg, 0, none⟩) xc b gd B D dcap high most v1 acc1 es1 W hm (by rw [HA1.out]; exact fnd_len _ _ _) (by simp; omega) (by omega) hh HD.out hDl (HS1.out.below hb) hTk (fun k hk => by
                    have hk2 : xg = k := by simpa [addrB] using hk
                    have hbl := HS1.out.2.2.2
                    refine ⟨by omega, fun e => ?_⟩
                    have := (HS1.out.2.2.1.v_lt k e).2
                    omega)
                  rw [ht1, ← hsn] at h
                  exact h)
                have HFN := hide (fun (W w7 : World) (hb : Below wr.heap.size wr W) (hp : FindPost W b gd B D dcap high most v1 acc2 w7) => find_next HT.out HTB.out HT1.out HF1.out HV1.out hb hp)
                have KB := hide (fun (w' : World) (hb : Below wr.heap.size wr w') => HT1.out.below hb)
                clear hacc2 hsn ht1 hmod hdv p1 p2 HNX0 m1 m2
                go_upto_region 10 with fail
                go_region_law (first
                  | (refine step_appendJ rfl (.tmp 91) (.tmp 93) rfl wr.heap.size vt taken rfl ?g1 d _ _ rfl ?g2 ?g3 ?g4 ?_
                     case g1 => first | exact hvt2 | exact hvt2.below (balloc (Below.refl _ _) _)
                     case g2 => first | (simp [go_sem]; done) | exact (hbt.cell (by simp)).trans (by simp [go_sem])
                     case g3 => omega
                     case g4 => first | exact hB1.size | exact (balloc hB1 _).size
                     intro vr w5 hrow hgr
                     have hB2 : Below wr.heap.size wr w5 := by
                       first
                       | exact hB1.grown hgr hB1.size (fun k hk => (hvt2.lt k hk).1)
                       | exact (balloc hB1 _).grown hgr (balloc hB1 _).size (fun k hk => (hvt2.lt k hk).1)
                     obtain ⟨xg, xc, rfl, hx1, hx2⟩ := ownsI_sl hrow HT1L.out (by omega)
                     have hTk : TakenOk w5 (some ⟨xg, 0, none⟩) (taken ++ [d]) := .inr ⟨xg, rfl, hx2, fun j hj => hrow.cell HT1L.out.symm j hj⟩)
                  | (go_simp
                     go_at_call 44
                     refine (own_any ta taken tc _ ?g1 (by omega)).mono ?_
                     case g1 => exact KB.out _ (by first | exact (Below.refl _ _).drew | exact balloc (Below.refl _ _).drew _ | exact (balloc (Below.refl _ _) _).drew)
                     rintro e w' ⟨vt, rfl, hvt, hbt⟩
                     have hB1 : Below wr.heap.size wr w' := by
                       first
                       | exact bstep (Below.refl _ _).drew hbt
                       | exact bstep (balloc (Below.refl _ _).drew _) hbt
                       | exact bstep (balloc (Below.refl _ _) _).drew hbt
                     have hvt2 := hvt.mono_base' (B' := wr.heap.size) (by first | (simp; done) | (simp; omega)))
                  | (go_simp
                     go_at_call 39
                     refine (HI.out _ xg xc hB2 hTk hx1).mono ?_
                     rintro e w7 ⟨rfl, hp7⟩))
                all_goals
                  have HN := hide (HFN.out _ _ hB2 hp7)
                  clear hrow hx1 hx2 hTk hB2 hp7 hvt2 hgr hB1 hbt
                  go_wp2_with fail
                  go_roundw
                  case rel =>
                    obtain ⟨v2, es2, f1, f2, f3, f4⟩ := HN.out
                    exact ⟨i + 1, v2, es2, acc2, by omega, HA2.out, by first | rfl | go_num, f1, f2, f3, f4⟩
                  case measure => simp only [intOf]; omega
              · have hz : (n % d == 0) = false := by simpa using hmod
                have HNX := hide (HNX0.out (by unfold oneS; rw [if_neg (fun h => hmod h.2.2)]))
                clear HNX0 hmod
                go_wp2_with fail
                go_roundw
                case rel => exact ⟨i + 1, v1, es1, acc1, by omega, HNX.out, by first | rfl | go_num, HS1.out, HT1.out, HF1.out, HV1.out⟩
                case measure => simp only [intOf]; omega
            · have HNX := hide (HNX0.out (by unfold oneS; rw [if_neg (fun h => hlow h.1)]))
              clear HNX0
              go_wp2_with fail
              go_roundw
              case rel => exact ⟨i + 1, v1, es1, acc1, by omega, HNX.out, by first | rfl | go_num, HS1.out, HT1.out, HF1.out, HV1.out⟩
              case measure => simp only [intOf]; omega
      · have HR := hide (show fnd (most + 1) acc ((allS D high cc n low).map (taken ++ ·)) = acc1 by
          rw [HA1.out, HCC.out, allS_two, show i = D.length by omega, List.take_length])
        go_wp2_with fail
        refine bodyPost_end (v := .tuple #[]) (by simp [results, Try.results39]) rfl ⟨rfl, ?_⟩
        rw [HR.out]
        exact ⟨v1, es1, HS1.out, HF1.out, HV1.out⟩
theorem findC_any : ∀ c, c ≤ 5 → FindC c
  | 0, _ => findC_zero
  | c + 1, h => findC_succ c (by omega) (findC_any c (by omega))
end Go.Proofs.Ythagogjklocmoaa
