/-
  The program's search for splits: the walk at more factors, by induction.
-/
import Derived.Test.YthagogjklocmoaaSplW
namespace Go.Proofs.Ythagogjklocmoaa
open Go.RowKit

theorem OwnsI.cutR {w : World} {B g n cap : Nat} {xs ys : List Int} (h : OwnsI w B (.slice (some ⟨g, 0, none⟩) n cap) (xs ++ ys)) : OwnsI w B (.slice (some ⟨g, 0, none⟩) xs.length cap) xs := by
  refine ⟨by simp, ?_⟩
  rcases h.2 with ⟨h1, _⟩ | ⟨g', cap', cur, h1, h2, h3, h4, h5, h6, h7⟩
  · cases h1
  · cases h1
    refine .inr ⟨g, cap, cur, rfl, h2, h3, ?_, h5, h6, ?_⟩
    · rw [List.length_append] at h4; omega
    · have e := congrArg (List.take (xs.length * 1)) h7
      rw [List.take_take, List.length_append, Nat.min_eq_left (by omega)] at e
      rw [e]
      simp
/-- Where a longer row lies: in the old one's spare room, or in a new block with all else as it was. -/
def Longer (w w' : World) (v v' : Value) (n : Nat) : Prop := (∃ g cap, v = .slice (some ⟨g, 0, none⟩) n cap ∧ v' = .slice (some ⟨g, 0, none⟩) (n + 1) cap) ∨ (v'.ownBlock = some w.heap.size ∧ w.grownBy w' none)
theorem run_append1 (w : World) (ty : TypeId) (base : Nat) (v : Value) (xs : List Int) (hown : OwnsI w base v xs) (ad : Addr) (c : Nat) (y : Int)
    (hnew : w.cell? (ad.add 0) = some (.int .i64 y)) (hx : xs.length + 1 ≤ 1000000000000) (hbase : base ≤ w.heap.size) :
    ∃ v' w', (Builtin.append_ #[29, 29] ty #[v, .slice (some ad) 1 c]).run Try.prog w = .ok v' w' ∧ OwnsI w' base v' (xs ++ [y]) ∧ w.grownBy w' v.ownBlock ∧ Longer w w' v v' xs.length := by
  obtain ⟨i0, hi, hz0, hz1, hz2⟩ := info_parts infoI
  have hnn : ∀ j u, ([Value.int .i64 y] : List Value)[j]? = some u → w.cell? (ad.add j) = some u := fun j u hj => by
    match j, hj with
    | 0, hj => simp at hj; subst hj; exact hnew
  have h1 : ∀ u ∈ [Value.int .i64 y], u.oneCell' = true := fun u hu => by rw [List.mem_singleton.1 hu]; rfl
  have hu : Try.prog.underlying 29 = some (.slice 2) := by rw [Try.underlying29]
  obtain ⟨v', w', hr, h2, h3, h4⟩ := run_append_own (P := Try.prog) w base 29 ty 2 i0 (.int .i64 0) 1 8 hu hi hz0 hz1 hz2 rfl (by decide) v xs.length (xs.map (Value.int .i64)) hown ad 1 c [.int .i64 y] rfl hnn h1 (by unfold maxLen; omega) (by omega) hbase
  refine ⟨v', w', hr, ?_, h3, ?_⟩
  · unfold OwnsI
    rw [List.length_append, List.map_append]
    exact h2
  · have hz1' : i0.size = 1 := hz1
    rcases hown.2 with ⟨rfl, h0⟩ | ⟨g, cap, cur, rfl, hbg, hg, hnc, hcm, hcs, htake⟩
    · right
      have hr2 := run_append_nil (P := Try.prog) w 29 ty 2 i0 (.int .i64 0) hu hi hz0 ad 1 c [.int .i64 y] (by rw [hz1']; rfl) hnn (by omega) (by omega) (by rw [hz2]; omega)
      rw [hr2] at hr
      cases hr
      exact ⟨rfl, h3⟩
    · by_cases hroom : xs.length + 1 ≤ cap
      · left
        have hr2 := run_append_room (P := Try.prog) w 29 ty 2 i0 hu hi g xs.length cap cur hg ad 1 c [.int .i64 y] (by rw [hz1']; rfl) hnn h1 hroom (by rw [hz1', hcs]; simp; omega)
        rw [hr2] at hr
        cases hr
        exact ⟨g, cap, rfl, rfl⟩
      · right
        have holds : ∀ j u, (xs.map (Value.int .i64))[j]? = some u → w.cell? ((⟨g, 0, none⟩ : Addr).add j) = some u := World.ownsRow.cells hown (g := g) rfl
        have hr2 := run_append_grow (P := Try.prog) w 29 ty 2 i0 (.int .i64 0) hu hi hz0 ⟨g, 0, none⟩ xs.length cap (xs.map (Value.int .i64)) (by rw [hz1']; simp) holds ad 1 c [.int .i64 y] (by rw [hz1']; rfl) hnn (by omega) (by omega) (growslice_fits (by omega) (by rw [hz2]; omega))
        rw [hr2] at hr
        cases hr
        exact ⟨rfl, grown_of_below (balloc (Below.refl _ _).drew _) none⟩
/-- step_appendJ, and where the longer row lies. -/
theorem step_append1 {ops : Array Oper} {o : Oper} {a : Act} {K : Act → World → Prop} {Q : Exit → Act → World → Prop} {E : Prop} {w : World} (hgd : o.guard = none) (s x : Operand)
    (ho : o.op = .call { callee := .builtin .append, args := #[s, x], argTypes := #[29, 29] })
    (base : Nat) (v : Value) (xs : List Int) (hs : a.eval s = v) (hown : OwnsI w base v xs) (y : Int) (c m : Nat) (hx : a.eval x = .slice (some ⟨m, 0, none⟩) 1 c)
    (h0 : w.cell? ⟨m, 0, none⟩ = some (.int .i64 y)) (hl : xs.length ≤ 1000000000) (hbase : base ≤ w.heap.size)
    (h : ∀ v' w', OwnsI w' base v' (xs ++ [y]) → w.grownBy w' v.ownBlock → Longer w w' v v' xs.length → K (a.put o.dst v') w') :
    if Region.wanted o (yielded ops a.tmps) = true then Oper.wp Try.prog o a w K Q else E := by
  have hw : Region.wanted o (yielded ops a.tmps) = true := by simp [Region.wanted, hgd]
  rw [if_pos hw]
  obtain ⟨v', w', hr, h2, h3, h4⟩ := run_append1 w o.type base v xs hown ⟨m, 0, none⟩ c y (by simpa [Addr.add] using h0) (by omega) hbase
  unfold Oper.wp execOp
  simp only [ho, resolve, invoke, builtin, Sem.run_bind, Sem.run_pure, Result.andThen_ok, List.map_toArray, List.map_cons, List.map_nil, hs, hx, hr]
  exact h v' w' h2 h3 h4
theorem FindSt.same {w w' : World} {b gd B : Nat} {D : List Int} {dcap : Nat} {high : Int} {most : Nat} {v : Value} {acc : List (List Int)} {es : List (Nat × Nat)} {row : Option Nat} (h : FindSt w b gd B D dcap high most v acc es) (hg : w.grownBy w' row)
    (n1 : row ≠ some b) (n2 : row ≠ some gd) (n3 : v.ownBlock = none ∨ v.ownBlock ≠ row) (n4 : ∀ e ∈ es, some e.1 ≠ row) : FindSt w' b gd B D dcap high most v acc es := by
  obtain ⟨⟨k0, k1, k2, k3, k4⟩, hd, ho, h1, h2, h3, h4⟩ := h
  have eb : w'.heap[b]? = w.heap[b]? := hg.block b (by omega) (fun e => n1 e.symm)
  have eg : w'.heap[gd]? = w.heap[gd]? := hg.block gd (by omega) (fun e => n2 e.symm)
  exact ⟨⟨(World.cell?_of_block (a := ⟨b, 0, none⟩) eb).trans k0, (World.cell?_of_block (a := ⟨b, 1, none⟩) eb).trans k1, (World.cell?_of_block (a := ⟨b, 2, none⟩) eb).trans k2, (World.cell?_of_block (a := ⟨b, 3, none⟩) eb).trans k3, (World.frozen?_of_block (a := ⟨b, 3, none⟩) eb).trans k4⟩,
    fun j hj => (World.cell?_of_block (a := ⟨gd, j, none⟩) eg).trans (hd j hj), ho.same hg n3 n4, h1, h2, h3, Nat.le_trans h4 hg.size⟩
theorem split_app {wz Wa w5 : World} {b gd B : Nat} {D : List Int} {dcap : Nat} {high : Int} {most : Nat} {v1 pv vr : Value} {acc1 : List (List Int)} {es1 : List (Nat × Nat)} {parts : List Int} (hS : FindSt wz b gd B D dcap high most v1 acc1 es1) (hA : Away b gd v1 es1 pv)
    (hB : Below wz.heap.size wz Wa) (hg : Wa.grownBy w5 pv.ownBlock) (hL : Longer Wa w5 pv vr parts.length) : FindSt w5 b gd B D dcap high most v1 acc1 es1 ∧ Away b gd v1 es1 vr ∧ Fr wz w5 b v1.ownBlock pv.ownBlock ∧ (vr.ownBlock = pv.ownBlock ∨ ∀ k, vr.ownBlock = some k → wz.heap.size ≤ k) := by
  refine ⟨(hS.below hB).same hg (fun e => (hA b e).1 rfl) (fun e => (hA gd e).2.1 rfl) ?_ (fun e he c => (hA e.1 c.symm).2.2.2 e he rfl), ?_, (Fr.of_below hB).trans (Fr.of_grown2 hg) (.inl rfl) (.inl rfl), ?_⟩
  · cases hp : pv.ownBlock with
    | none => cases hv : v1.ownBlock with
      | none => exact .inl rfl
      | some k => exact .inr (by simp)
    | some k => exact .inr (hA k hp).2.2.1
  · rcases hL with ⟨g, cap, rfl, rfl⟩ | ⟨h, _⟩
    · exact hA
    · intro k hk
      rw [h] at hk
      simp only [Option.some.injEq] at hk
      have hsz := hB.size
      have hs := hS.2.2.2
      refine ⟨by omega, by omega, fun e => ?_, fun e he c => ?_⟩
      · have := (hS.2.2.1.v_lt k e).2; omega
      · have := (hS.2.2.1.es_lt e he).2; omega
  · rcases hL with ⟨g, cap, rfl, rfl⟩ | ⟨h, _⟩
    · exact .inl rfl
    · refine .inr fun k hk => ?_
      rw [h] at hk
      simp only [Option.some.injEq] at hk
      have := hB.size
      omega
theorem split_next {w wz Wa w5 w7 : World} {b gd B P : Nat} {D : List Int} {dcap : Nat} {high : Int} {most : Nat} {v v1 pv vr : Value} {acc1 rows : List (List Int)} {es es1 : List (Nat × Nat)} {parts : List Int} {d : Int} (hS : FindSt wz b gd B D dcap high most v1 acc1 es1) (hO : OwnsI wz P pv parts) (hA : Away b gd v1 es1 pv)
    (hF : Fr w wz b v.ownBlock pv.ownBlock) (hv1 : v1.ownBlock = v.ownBlock ∨ ∀ k, v1.ownBlock = some k → w.heap.size ≤ k) (he1 : ∀ e ∈ es1, e ∈ es ∨ w.heap.size ≤ e.1)
    (hB : Below wz.heap.size wz Wa) (hg : Wa.grownBy w5 pv.ownBlock) (hL : Longer Wa w5 pv vr parts.length) (hp : SplPost w5 b gd B D dcap high most v1 es1 P vr (parts ++ [d]) rows w7) :
    ∃ v2 es2, FindSt w7 b gd B D dcap high most v2 rows es2 ∧ Fr w w7 b v.ownBlock pv.ownBlock ∧ OwnsI w7 P pv parts ∧ Away b gd v2 es2 pv ∧ (v2.ownBlock = v.ownBlock ∨ ∀ k, v2.ownBlock = some k → w.heap.size ≤ k) ∧ ∀ e ∈ es2, e ∈ es ∨ w.heap.size ≤ e.1 := by
  obtain ⟨f1, f2, f3, f4⟩ := split_app (parts := parts) hS hA hB hg hL
  obtain ⟨v2, es2, g1, g2, g3, g4, g5⟩ := hp
  have hz5 := f3.2.2.2.1
  have hwz := hF.2.2.2.1
  refine ⟨v2, es2, g1, (hF.trans f3 hv1 (.inl rfl)).trans g2 hv1 ?_, ?_, ?_, ?_, ?_⟩
  · rcases f4 with h | h
    · exact .inl h
    · exact .inr fun k hk => by have := h k hk; omega
  · rcases hL with ⟨g, cap, rfl, rfl⟩ | ⟨h, hg0⟩
    · exact g3.cutR
    · refine ((hO.below hB).same hg0 (by cases pv.ownBlock <;> simp)).frk fun k hk => ?_
      have hlt := (hO.lt k hk).2
      have ha := hA k hk
      have hsz := hB.size
      refine g2.2.2.2.2 k (by omega) ha.1 ha.2.2.1 (fun e => ?_)
      rw [h] at e
      simp only [Option.some.injEq] at e
      omega
  · intro k hk
    have hlt := (hO.lt k hk).2
    have ha := hA k hk
    refine ⟨ha.1, ha.2.1, fun e => ?_, fun e he c => ?_⟩
    · rcases g4 with h | h
      · exact ha.2.2.1 (by rw [← h]; exact e)
      · have := h k e; omega
    · rcases g5 e he with h | h
      · exact ha.2.2.2 e h c
      · omega
  · rcases g4 with h | h
    · rcases hv1 with h2 | h2
      · exact .inl (h.trans h2)
      · exact .inr fun k hk => h2 k (by rw [← h]; exact hk)
    · exact .inr fun k hk => by have := h k hk; omega
  · intro e he
    rcases g5 e he with h | h
    · exact he1 e h
    · exact .inr (by omega)
theorem fnd_stop {T : Nat} {acc : List (List Int)} {D : List Int} {f : Int → List (List Int)} {g : List Int → List Int} {i : Nat} (h : (fnd T acc (((D.take i).flatMap f).map g)).length = T) : fnd T acc ((D.flatMap f).map g) = fnd T acc (((D.take i).flatMap f).map g) := by
  have e : D.flatMap f = (D.take i).flatMap f ++ (D.drop i).flatMap f := by rw [← List.flatMap_append, List.take_append_drop]
  rw [e, List.map_append, ← fnd_add, fnd_full h]
/-- No split whose least factor is above the greatest. -/
theorem allS_high (D : List Int) (high : Int) : ∀ (c : Nat) (n low : Int), high < low → allS D high c n low = []
  | 0, _, _, _ => rfl
  | 1, n, low, h => by rw [allS_one, if_neg (by omega)]
  | c + 2, n, low, h => by
    rw [allS_two, List.flatMap_eq_nil_iff]
    intro d _
    unfold oneS
    rw [if_neg (by omega)]
/-- What the search does at c + 1 factors. -/
def SplitC (c : Nat) : Prop := ∀ (n low : Int) (parts : List Int) (pv : Value) (P b gd B : Nat) (D : List Int) (dcap : Nat) (high : Int) (most : Nat) (v : Value) (acc : List (List Int)) (es : List (Nat × Nat)) (w : World),
  most ≤ 1000 → acc.length < most → parts.length + c ≤ 10 → (1 ≤ n ∧ n ≤ 1000000000) → Rise D → D.length ≤ 1000000 →
  FindSt w b gd B D dcap high most v acc es → OwnsI w P pv parts → P ≤ w.heap.size → Away b gd v es pv →
  Calls Try.prog 37 #[.pointer (some ⟨b, 0, none⟩), pv, .int .i64 n, .int .i64 low, .int .i64 ((c + 1 : Nat) : Int)] w fun e w' => e = .returned (.tuple #[]) ∧
    SplPost w b gd B D dcap high most v es P pv parts (fnd most acc ((allS D high (c + 1) n low).map (parts ++ ·))) w'
theorem splitC_zero : SplitC 0 := fun n low parts pv P b gd B D dcap high most v acc es w hm hacc htl _ _ _ hS hO _ hA =>
  split_one n low parts pv P b gd B D dcap high most v acc es w hm hacc (by omega) hS hO hA
set_option maxHeartbeats 8000000 in
set_option maxRecDepth 100000 in
theorem splitC_succ (c : Nat) (hc : c ≤ 5) (IH : SplitC c) : SplitC (c + 1) := by
  intro n low parts pv P b gd B D dcap high most v acc es w hm hacc htl hn hD hDl hS hO hP hA
  have HS := hide hS
  have HO := hide hO
  have HA := hide hA
  have HIH := hide IH
  have HD := hide hD
  have HACC := hide hacc
  obtain ⟨⟨k0, k1, k2, k3, k4⟩, hd, ho, h1, h2, h3, h4⟩ := hS
  obtain ⟨cc, hcc⟩ : ∃ cc, cc = c + 1 + 1 := ⟨_, rfl⟩
  have hcb : 2 ≤ cc ∧ cc ≤ 10 := by omega
  have HCC := hide hcc
  rw [← hcc]
  have hz1 : ((cc : Int) == 1) = false := by simp; omega
  have hz2 : (cc == 1) = false := by simp; omega
  clear hO hd ho k1 k2 k3 k4 IH hD hcc hA
  go_enter Try.func37, Try.ntmps37
  go_wp2_with fail
  go_loopw [11, 40] (fun _ s40 wr => ∃ (i : Nat) (v1 : Value) (es1 : List (Nat × Nat)) (acc1 : List (List Int)), i ≤ D.length ∧ acc1 = fnd most acc (((D.take i).flatMap (oneS D high c n low)).map (parts ++ ·)) ∧ s40 = .int .i64 (i : Int) ∧ FindSt wr b gd B D dcap high most v1 acc1 es1 ∧ OwnsI wr P pv parts ∧ Away b gd v1 es1 pv ∧ Fr w wr b v.ownBlock pv.ownBlock ∧ (v1.ownBlock = v.ownBlock ∨ ∀ k, v1.ownBlock = some k → w.heap.size ≤ k) ∧ ∀ e ∈ es1, e ∈ es ∨ w.heap.size ≤ e.1) (fun _ s40 _ => D.length - (intOf s40).toNat)
  case atStart => exact ⟨0, v, es, acc, by omega, by rw [List.take_zero, List.flatMap_nil, List.map_nil]; exact (fnd_nil (Nat.le_of_lt HACC.out)).symm, rfl, HS.out, HO.out, HA.out, Fr.refl _ _ _ _, .inl rfl, fun e he => .inl he⟩
  case round =>
    obtain ⟨i, v1, es1, acc1, hi, hacc1, rfl, hS1, hO1, hA1, hF1, hv1, he1⟩ := hrel
    have HA1 := hide hacc1
    have hal : acc1.length ≤ most := by rw [hacc1]; exact fnd_len _ _ _
    have HAL := hide hal
    have HS1 := hide hS1
    have HO1 := hide hO1
    have HAW := hide hA1
    have HF1 := hide hF1
    have HV1 := hide hv1
    have HE1 := hide he1
    have hPr : P ≤ wr.heap.size := Nat.le_trans hP hF1.2.2.2.1
    have HPR := hide hPr
    obtain ⟨⟨k0', k1, k2, k3, k4⟩, hd, ho, _, _, _, _⟩ := hS1
    obtain ⟨ao, cap, hv⟩ := ho.form
    obtain ⟨na, hna⟩ : ∃ na, na = acc1.length := ⟨_, rfl⟩
    have HNA := hide hna
    rw [← hna] at hv hal
    rw [hv] at k3
    clear hacc1 hO1 hA1 hF1 hv1 he1 ho k0' k1 k4 hv hna hPr
    by_cases hlt : i < D.length
    · have kd := hd i hlt
      obtain ⟨e1, e2⟩ := HD.out.1 i hlt
      have HST := hide (fnd_step (T := most) (acc := acc) (D := D) (high := high) (c := c) (n := n) (low := low) (taken := parts) hlt)
      obtain ⟨d, hdd⟩ : ∃ d, d = D.getD i 0 := ⟨_, rfl⟩
      rw [← hdd] at kd e1 e2 HST
      have i0 : (0 : Int) ≤ (i : Int) := by omega
      have i1 : (i : Int) < (D.length : Int) := by omega
      clear hdd hd
      by_cases hfull : na = most
      · have HR := hide (show fnd most acc ((allS D high cc n low).map (parts ++ ·)) = acc1 by
          rw [HCC.out, allS_two, fnd_stop (i := i) (by rw [← HA1.out, ← HNA.out]; exact hfull), ← HA1.out])
        have d0 : most ≤ na := by omega
        clear hfull
        go_upto_region 6 with fail
        go_quiet (fail)
        go_wp2_with fail
        refine bodyPost_ret (v := .tuple #[]) (by simp [results, Try.results37]) rfl ⟨rfl, ?_⟩
        rw [HR.out]
        exact ⟨v1, es1, HS1.out.below (bdrewN (Below.refl _ _) _), HF1.out.trans (Fr.of_below (b := b) (vo := v.ownBlock) (po := pv.ownBlock) (bdrewN (Below.refl _ _) _)) (.inl rfl) (.inl rfl), HO1.out.below (bdrewN (Below.refl _ _) _), HV1.out, HE1.out⟩
      · have d0 : ¬ most ≤ na := by omega
        have hnl : na < most := by omega
        have HNL := hide hnl
        clear hfull
        have hn1 := hn.1
        have hn2 := hn.2
        have m0 : n.tmod d = n % d := Int.tmod_eq_emod_of_nonneg (by omega)
        have m1 : 0 ≤ n % d := Int.emod_nonneg _ (by omega)
        have m2 : n % d < d := Int.emod_lt_of_pos _ (by omega)
        have mw : IntKind.i64.wrap (n % d) = n % d := IntWalk.i64_in _ (by omega)
        have hd0 : ¬ d = 0 := by omega
        have hd0' : (d == 0) = false := by simpa using hd0
        have HNX0 := hide (fun (h : oneS D high c n low d = []) => show acc1 = fnd most acc (((D.take (i + 1)).flatMap (oneS D high c n low)).map (parts ++ ·)) from by
          rw [HST.out, h, List.map_nil, ← HA1.out]
          exact (fnd_nil HAL.out).symm)
        go_upto_region 6 with fail
        go_quiet (fail)
        obtain ⟨wz, hwz⟩ : ∃ wz, wz = wr.drewN nq := ⟨_, rfl⟩
        have hbz : Below wr.heap.size wr wz := by rw [hwz]; exact bdrewN (Below.refl _ _) _
        have HSz := hide (HS1.out.below hbz)
        have HOz := hide (HO1.out.below hbz)
        have HFz := hide (HF1.out.trans (Fr.of_below (b := b) (vo := v.ownBlock) (po := pv.ownBlock) hbz) (.inl rfl) (.inl rfl))
        have hPz : P ≤ wz.heap.size := Nat.le_trans HPR.out hbz.size
        rw [← hwz]
        clear hwz hbz k2 k3 kd
        by_cases hlow : low ≤ d
        · by_cases hmod : n % d = 0
          · have hz : (n % d == 0) = true := by simpa using hmod
            have hdv : d ∣ n := Int.dvd_of_emod_eq_zero hmod
            have p1 := Int.ediv_pos_of_pos_of_dvd (by omega : 0 < n) (by omega) hdv
            have p2 : n / d ≤ n := Int.ediv_le_self _ (by omega)
            have t0 : n.tdiv d = n / d := Int.tdiv_eq_ediv_of_nonneg (by omega)
            have tw : IntKind.i64.wrap (n / d) = n / d := IntWalk.i64_in _ (by omega)
            have tw2 : IntKind.i64.wrap (n.tdiv d) = n / d := by rw [t0]; exact tw
            have qc : IntKind.i64.wrap ((cc : Int) - 1) = ((c + 1 : Nat) : Int) := (IntWalk.i64_in _ (by omega)).trans (by have := HCC.out; omega)
            obtain ⟨acc2, hacc2⟩ : ∃ acc2, acc2 = fnd most acc (((D.take (i + 1)).flatMap (oneS D high c n low)).map (parts ++ ·)) := ⟨_, rfl⟩
            have hsn : acc2 = fnd most acc1 ((allS D high (c + 1) (n / d) d).map ((parts ++ [d]) ++ ·)) := by
              rw [hacc2, HST.out, ← HA1.out]
              congr 1
              unfold oneS
              by_cases hdh : high < d
              · rw [if_neg (fun h => by omega), allS_high D high (c + 1) _ _ hdh]
                rfl
              · rw [if_pos ⟨hlow, by omega, hmod⟩, rows_map]
            have HA2 := hide hacc2
            have HI := hide (fun (W : World) (vr : Value) (hrow : OwnsI W P vr (parts ++ [d])) (hf : FindSt W b gd B D dcap high most v1 acc1 es1) (ha : Away b gd v1 es1 vr) (hPW : P ≤ W.heap.size) => show Calls Try.prog 37 #[.pointer (some ⟨b, 0, none⟩), vr, .int .i64 (n / d), .int .i64 d, .int .i64 ((c + 1 : Nat) : Int)] W fun e w' => e = .returned (.tuple #[]) ∧ SplPost W b gd B D dcap high most v1 es1 P vr (parts ++ [d]) acc2 w' from by
              have h := HIH.out (n / d) d (parts ++ [d]) vr P b gd B D dcap high most v1 acc1 es1 W hm (by have := HNL.out; have := HNA.out; omega) (by simp; omega) (by omega) HD.out hDl hf hrow hPW ha
              rw [← hsn] at h
              exact h)
            have KAP := hide (fun (Wa w5 : World) (vr : Value) (hB : Below wz.heap.size wz Wa) (hg : Wa.grownBy w5 pv.ownBlock) (hL : Longer Wa w5 pv vr parts.length) => split_app HSz.out HAW.out hB hg hL)
            have KNX := hide (fun (Wa w5 w7 : World) (vr : Value) (hB : Below wz.heap.size wz Wa) (hg : Wa.grownBy w5 pv.ownBlock) (hL : Longer Wa w5 pv vr parts.length) (hp : SplPost w5 b gd B D dcap high most v1 es1 P vr (parts ++ [d]) acc2 w7) => split_next HSz.out HOz.out HAW.out HFz.out HV1.out HE1.out hB hg hL hp)
            have KOP := hide (fun (c : World) (hb : Below wz.heap.size wz c) => HOz.out.below hb)
            have KP := hide (fun (c : World) (hb : Below wz.heap.size wz c) => Nat.le_trans hPz hb.size)
            clear hacc2 hsn hmod hdv p1 p2 HNX0 m1 m2
            go_upto_region 8 with fail
            go_region_law (first
              | (refine step_append1 rfl (.tmp 64) (.tmp 66) rfl P pv parts rfl ?g1 d _ _ rfl ?g2 ?g3 ?g4 ?_
                 case g1 => exact KOP.out _ (by first | exact balloc (Below.refl _ _).drew _ | exact (balloc (Below.refl _ _) _).drew | exact balloc (Below.refl _ _) _)
                 case g2 => simp [go_sem]; done
                 case g3 => omega
                 case g4 => exact KP.out _ (by first | exact balloc (Below.refl _ _).drew _ | exact (balloc (Below.refl _ _) _).drew | exact balloc (Below.refl _ _) _)
                 intro vr w5 hrow hgr hL
                 have hAP := KAP.out _ w5 vr (by first | exact balloc (Below.refl _ _).drew _ | exact (balloc (Below.refl _ _) _).drew | exact balloc (Below.refl _ _) _) hgr hL
                 have hNX := hide (fun w7 => KNX.out _ w5 w7 vr (by first | exact balloc (Below.refl _ _).drew _ | exact (balloc (Below.refl _ _) _).drew | exact balloc (Below.refl _ _) _) hgr hL)
                 have hHI := hide (HI.out w5 vr hrow hAP.1 hAP.2.1 (Nat.le_trans hPz hAP.2.2.1.2.2.2.1))
                 clear hrow hgr hL hAP)
              | (go_simp
                 go_at_call 37
                 refine hHI.out.mono ?_
                 rintro e w7 ⟨rfl, hp7⟩))
            all_goals
              have HN := hide (hNX.out _ hp7)
              clear hp7 hNX hHI
              go_wp2_with fail
              go_roundw
              case rel =>
                obtain ⟨v2, es2, f1, f2, f3, f4, f5, f6⟩ := HN.out
                exact ⟨i + 1, v2, es2, acc2, by omega, HA2.out, by first | rfl | go_num, f1, f3, f4, f2, f5, f6⟩
              case measure => simp only [intOf]; omega
          · have hz : (n % d == 0) = false := by simpa using hmod
            have HNX := hide (HNX0.out (by unfold oneS; rw [if_neg (fun h => hmod h.2.2)]))
            clear HNX0 hmod
            go_wp2_with fail
            go_roundw
            case rel => exact ⟨i + 1, v1, es1, acc1, by omega, HNX.out, by first | rfl | go_num, HSz.out, HOz.out, HAW.out, HFz.out, HV1.out, HE1.out⟩
            case measure => simp only [intOf]; omega
        · have HNX := hide (HNX0.out (by unfold oneS; rw [if_neg (fun h => hlow h.1)]))
          clear HNX0
          go_wp2_with fail
          go_roundw
          case rel => exact ⟨i + 1, v1, es1, acc1, by omega, HNX.out, by first | rfl | go_num, HSz.out, HOz.out, HAW.out, HFz.out, HV1.out, HE1.out⟩
          case measure => simp only [intOf]; omega
    · have HR := hide (show fnd most acc ((allS D high cc n low).map (parts ++ ·)) = acc1 by
        rw [HA1.out, HCC.out, allS_two, show i = D.length by omega, List.take_length])
      go_wp2_with fail
      refine bodyPost_end (v := .tuple #[]) (by simp [results, Try.results37]) rfl ⟨rfl, ?_⟩
      rw [HR.out]
      exact ⟨v1, es1, HS1.out, HF1.out, HO1.out, HV1.out, HE1.out⟩
theorem splitC_any : ∀ c, c ≤ 5 → SplitC c
  | 0, _ => splitC_zero
  | c + 1, h => splitC_succ c (by omega) (splitC_any c (by omega))
end Go.Proofs.Ythagogjklocmoaa
