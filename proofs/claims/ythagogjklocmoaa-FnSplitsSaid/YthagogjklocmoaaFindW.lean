/-
  The reference's search for splits: its walk.
-/
import Derived.Test.YthagogjklocmoaaFind
import Derived.Deep.RegionLaw
import Derived.Deep.AppendLies
namespace Go.Proofs.Ythagogjklocmoaa
open Go.RowKit

theorem nodupish {w : World} {B : Nat} {v : Value} {acc : List (List Int)} {es : List (Nat × Nat)} (h : Own2 w B v acc es) (k : Nat) (hk : w.heap.size ≤ k) : (∀ e ∈ es, e.1 ≠ k) ∧ v.ownBlock ≠ some k :=
  ⟨fun e he c => by have := (h.es_lt e he).2; omega, fun c => by have := (h.v_lt k c).2; omega⟩
theorem ownsI_sl {w : World} {B : Nat} {v : Value} {xs : List Int} {m : Nat} (h : OwnsI w B v xs) (hm : xs.length = m) (hne : m ≠ 0) : ∃ g c : Nat, v = .slice (some ⟨g, 0, none⟩) m c ∧ B ≤ g ∧ g < w.heap.size := by
  rcases h.form with ⟨_, h2⟩ | ⟨g, cap, h1, h2, h3, _⟩
  · exact absurd (by rw [← hm, h2]; rfl) hne
  · exact ⟨g, cap, by rw [h1, hm], h2, h3⟩
theorem ownsV_sl {w : World} {B : Nat} {v y : Value} {xs : List Value} {m : Nat} (h : OwnsV w B v (xs ++ [y])) (hm : xs.length + 1 = m) : ∃ g c : Nat, v = .slice (some ⟨g, 0, none⟩) m c := by
  rcases h.form with ⟨_, h2⟩ | ⟨g, cap, h1, _⟩
  · simp at h2
  · exact ⟨g, cap, by rw [h1, List.length_append, List.length_singleton, hm]⟩
theorem ownsI_el {w : World} {B : Nat} {v : Value} {xs : List Int} (h : OwnsI w B v xs) (hne : xs ≠ []) : ∃ e : Nat × Nat, v = elV e xs ∧ B ≤ e.1 ∧ e.1 < w.heap.size := by
  rcases h.form with ⟨_, h2⟩ | ⟨g, cap, h1, h2, h3, _⟩
  · exact absurd h2 hne
  · exact ⟨(g, cap), h1, h2, h3⟩
/-- 'append(out, y)' at a step of a region that draws its order, onto a row of rows. -/
theorem step_appendV {ops : Array Oper} {o : Oper} {a : Act} {K : Act → World → Prop} {Q : Exit → Act → World → Prop} {E : Prop} {w : World} (hgd : o.guard = none) (s x : Operand)
    (ho : o.op = .call { callee := .builtin .append, args := #[s, x], argTypes := #[26, 26] })
    (base : Nat) (v : Value) (xs : List Value) (hs : a.eval s = v) (hown : OwnsV w base v xs) (y : Value) (hy : y.oneCell' = true) (c m : Nat) (hx : a.eval x = .slice (some ⟨m, 0, none⟩) 1 c)
    (h0 : w.cell? ⟨m, 0, none⟩ = some y) (hl : xs.length ≤ 1000000000) (hbase : base ≤ w.heap.size)
    (h : ∀ v' w', OwnsV w' base v' (xs ++ [y]) → w.grownBy w' v.ownBlock → (v'.ownBlock = v.ownBlock ∨ v'.ownBlock = some w.heap.size) → K (a.put o.dst v') w') :
    if Region.wanted o (yielded ops a.tmps) = true then Oper.wp Try.prog o a w K Q else E := by
  have hw : Region.wanted o (yielded ops a.tmps) = true := by simp [Region.wanted, hgd]
  rw [if_pos hw]
  obtain ⟨v', w', hr, h2, h3, h4⟩ := run_appendV w o.type base v xs hown ⟨m, 0, none⟩ c y hy (by simpa [Addr.add] using h0) (by omega) hbase
  unfold Oper.wp execOp
  simp only [ho, resolve, invoke, builtin, Sem.run_bind, Sem.run_pure, Result.andThen_ok, List.map_toArray, List.map_cons, List.map_nil, hs, hx, hr]
  exact h v' w' h2 h3 h4
theorem find_fin {w wz w5 w6 : World} {b gd B : Nat} {D : List Int} {dcap : Nat} {high : Int} {most : Nat} {v v3 : Value} {acc : List (List Int)} {es : List (Nat × Nat)} {r : List Int} {xg xc t1 : Nat} (hS : FindSt wz b gd B D dcap high most v acc es) (hz : Below w.heap.size w wz) (hB2 : Below wz.heap.size wz w5)
    (hrow : OwnsI w5 wz.heap.size (.slice (some ⟨xg, 0, none⟩) t1 xc) r) (ht : r.length = t1) (hx1 : wz.heap.size ≤ xg) (hg : (w5.alloc (.cells #[.slice (some ⟨xg, 0, none⟩) t1 xc] 29)).grownBy w6 v.ownBlock) (hov : OwnsV w6 B v3 (List.zipWith elV es acc ++ [.slice (some ⟨xg, 0, none⟩) t1 xc]))
    (hbl : v3.ownBlock = v.ownBlock ∨ v3.ownBlock = some (w5.alloc (.cells #[.slice (some ⟨xg, 0, none⟩) t1 xc] 29)).heap.size) :
    ∃ v' es', FindSt (w6.setCell ⟨b, 3, none⟩ v3) b gd B D dcap high most v' (acc ++ [r]) es' ∧ Fr w (w6.setCell ⟨b, 3, none⟩ v3) b v.ownBlock none ∧ (v'.ownBlock = v.ownBlock ∨ ∀ k, v'.ownBlock = some k → w.heap.size ≤ k) := by
  subst ht
  have hB3 := balloc hB2 (.cells #[.slice (some ⟨xg, 0, none⟩) r.length xc] 29)
  have hS3 := hS.below hB3
  have hn := nodupish hS.2.2.1 xg hx1
  have hxo : OwnsI (w5.alloc (.cells #[.slice (some ⟨xg, 0, none⟩) r.length xc] 29)) B (elV (xg, xc) r) r := (hrow.below (balloc (Below.refl _ _) _)).mono_base' hS.2.2.2.2.2.2
  obtain ⟨f1, f2⟩ := hS3.push (x := (xg, xc)) hxo hn.1 hn.2 hov hg hbl
  have hw := bstep hz hB3
  refine ⟨v3, _, f1, (Fr.of_below hw).trans f2 (.inl rfl) (.inl rfl), ?_⟩
  rcases hbl with h | h
  · exact .inl h
  · refine .inr fun k hk => ?_
    rw [h] at hk
    simp only [Option.some.injEq] at hk
    have := hw.size
    omega
set_option maxHeartbeats 4000000 in
set_option maxRecDepth 100000 in
theorem find_one (n low : Int) (taken : List Int) (ta : Option Addr) (tc : Nat) (b gd B : Nat) (D : List Int) (dcap : Nat) (high : Int) (most : Nat) (v : Value) (acc : List (List Int)) (es : List (Nat × Nat)) (w : World)
    (hm : most ≤ 1000) (hacc : acc.length ≤ most + 1) (htl : taken.length ≤ 10) (hS : FindSt w b gd B D dcap high most v acc es) (hT : TakenOk w ta taken) :
    Calls Try.prog 39 #[.pointer (some ⟨b, 0, none⟩), .int .i64 n, .int .i64 low, .int .i64 1, .slice ta taken.length tc] w fun e w' => e = .returned (.tuple #[]) ∧
      ∃ v' es', FindSt w' b gd B D dcap high most v' (fnd (most + 1) acc ((allS D high 1 n low).map (taken ++ ·))) es' ∧ Fr w w' b v.ownBlock none ∧ (v'.ownBlock = v.ownBlock ∨ ∀ k, v'.ownBlock = some k → w.heap.size ≤ k) := by
  have HS := hide hS
  have HT := hide hT
  obtain ⟨⟨k0, k1, k2, k3, k4⟩, hd, ho, h1, h2, h3, h4⟩ := hS
  obtain ⟨ao, cap, hv⟩ := ho.form
  have HACC := hide hacc
  obtain ⟨na, hna⟩ : ∃ na, na = acc.length := ⟨_, rfl⟩
  have HNA := hide hna
  rw [← hna] at hv hacc
  have HV := hide hv
  have k3' := k3
  rw [hv] at k3'
  have hbw : b < w.heap.size := by omega
  clear hT hd ho hv hna k0 k1 k4
  by_cases hfull : na = most + 1
  · have HR := hide (fnd_full (T := most + 1) (acc := acc) (by rw [← HNA.out]; exact hfull) ((allS D high 1 n low).map (taken ++ ·)))
    have d0 : decide ((most : Int) < (na : Int)) = true := decide_eq_true (by omega)
    have d0' : most < na := by omega
    clear k3 hfull
    go_enter Try.func39, Try.ntmps39
    go_upto_region 0 with fail
    go_quiet (fail)
    go_wp2_with fail
    refine bodyPost_ret (v := .tuple #[]) (by simp [results, Try.results39]) rfl ⟨rfl, ?_⟩
    rw [HR.out]
    exact ⟨v, es, HS.out.below (bdrewN (Below.refl _ _) _), Fr.of_below (bdrewN (Below.refl _ _) _), .inl rfl⟩
  · have d0 : decide ((most : Int) < (na : Int)) = false := decide_eq_false (by omega)
    have d0' : ¬ most < na := by omega
    cases hr : inR n low high
    · have HR := hide (show fnd (most + 1) acc ((allS D high 1 n low).map (taken ++ ·)) = acc by
        rw [allS_one, if_neg (fun h => by rw [inR_mk h] at hr; cases hr)]
        exact fnd_nil HACC.out)
      clear k3 hfull
      have HI := hide hr
      have HK1 := hide HS.out.1.2.1
      clear hr
      go_enter Try.func39, Try.ntmps39
      go_upto_region 0 with fail
      go_quiet (fail)
      have k1 := HK1.out
      go_wp2_with fail
      refine (l00In_any _ _ _ _).mono ?_
      rintro e w' ⟨rfl, rfl⟩
      rw [HI.out]
      go_wp2_with fail
      refine bodyPost_ret (v := .tuple #[]) (by simp [results, Try.results39]) rfl ⟨rfl, ?_⟩
      rw [HR.out]
      exact ⟨v, es, HS.out.below (bdrewN (Below.refl _ _) _), Fr.of_below (bdrewN (Below.refl _ _) _), .inl rfl⟩
    · have hr2 := inR_true hr
      have HR := hide (show fnd (most + 1) acc ((allS D high 1 n low).map (taken ++ ·)) = acc ++ [taken ++ [n]] by
        rw [allS_one, if_pos hr2]
        exact fnd_one (by have := HNA.out; omega) _)
      clear k3 hfull hr2
      have HI := hide hr
      have HK1 := hide HS.out.1.2.1
      clear hr
      go_enter Try.func39, Try.ntmps39
      go_upto_region 0 with fail
      go_quiet (fail)
      have k1 := HK1.out
      go_wp2_with fail
      refine (l00In_any _ _ _ _).mono ?_
      rintro e w' ⟨rfl, rfl⟩
      rw [HI.out]
      go_upto_region 3 with fail
      obtain ⟨wz, hwz⟩ : ∃ wz, wz = w.drewN nq := ⟨_, rfl⟩
      have HSz := hide (show FindSt wz b gd B D dcap high most v acc es by rw [hwz]; exact HS.out.below (bdrewN (Below.refl _ _) _))
      have HTz := hide (show TakenOk wz ta taken by rw [hwz]; exact HT.out.below (bdrewN (Below.refl _ _) _))
      have HBz := hide (show Below w.heap.size w wz by rw [hwz]; exact bdrewN (Below.refl _ _) _)
      have hszz : wz.heap.size = w.heap.size := by rw [hwz]; rfl
      have HSZ := hide hszz
      have k3z : wz.cell? ⟨b, 3, none⟩ = some (.slice ao na cap) := by rw [← HV.out]; exact HSz.out.1.2.2.2.1
      have K3Z := hide k3z
      have F3Z := hide HSz.out.1.2.2.2.2
      have hbz : b < wz.heap.size := by omega
      rw [← hwz]
      clear hwz hszz k2 k3' hbw
      have KB := hide (fun (w' : World) (hb : Below wz.heap.size wz w') => show w'.cell? ⟨b, 3, none⟩ = some (.slice ao na cap) ∧ w'.frozen? ⟨b, 3, none⟩ = false from ⟨(hb.cell (p := ⟨b, 3, none⟩) hbz).trans K3Z.out, (hb.frozen hbz).trans F3Z.out⟩)
      have KV := hide (fun (c w' : World) (hb : Below wz.heap.size wz c) (hg : c.grownBy w' v.ownBlock) => show w'.cell? ⟨b, 3, none⟩ = some (.slice ao na cap) ∧ w'.frozen? ⟨b, 3, none⟩ = false from by
        have hvb : v.ownBlock ≠ some b := fun e => by have := (HSz.out.2.2.1.v_lt b e).1; omega
        have hbc : b < c.heap.size := Nat.lt_of_lt_of_le hbz hb.size
        have eb := hg.block b hbc (fun e => hvb e.symm)
        obtain ⟨q1, q2⟩ := KB.out c hb
        exact ⟨(World.cell?_of_block (a := ⟨b, 3, none⟩) eb).trans q1, (World.frozen?_of_block (a := ⟨b, 3, none⟩) eb).trans q2⟩)
      have KOV := hide (fun (c : World) (hb : Below wz.heap.size wz c) => show OwnsV c B (.slice ao na cap) (List.zipWith elV es acc) from by rw [← HV.out]; exact (HSz.out.2.2.1.below hb).2.1)
      obtain ⟨t1, ht1⟩ : ∃ t1, (taken ++ [n]).length = t1 := ⟨_, rfl⟩
      have HT1 := hide ht1
      have ht10 : 0 < t1 := by rw [← ht1]; simp
      clear ht1
      have HN2 := hide (show (List.zipWith elV es acc).length + 1 = na + 1 by rw [HSz.out.2.2.1.len, HNA.out])
      go_region_law (first
        | (refine step_appendJ rfl (.tmp 37) (.tmp 39) rfl wz.heap.size vt taken rfl ?g1 n _ _ rfl ?g2 ?g3 ?g4 ?_
           case g1 => first | exact hvt2 | exact hvt2.below (balloc (Below.refl _ _) _)
           case g2 => first | (simp [go_sem]; done) | exact (hbt.cell (by simp)).trans (by simp [go_sem])
           case g3 => omega
           case g4 => first | exact hB1.size | exact (balloc hB1 _).size
           intro vr w5 hrow hgr
           have hB2 : Below wz.heap.size wz w5 := by
             first
             | exact hB1.grown hgr hB1.size (fun k hk => (hvt2.lt k hk).1)
             | exact (balloc hB1 _).grown hgr (balloc hB1 _).size (fun k hk => (hvt2.lt k hk).1)
           obtain ⟨xg, xc, rfl, hx1, hx2⟩ := ownsI_sl hrow HT1.out (by omega)
           have k3n := (KB.out w5 hB2).1
           have k3a := (KB.out _ (balloc hB2 (.cells #[.slice (some ⟨xg, 0, none⟩) t1 xc] 29))).1
           have hbw5 : b < w5.heap.size := Nat.lt_of_lt_of_le hbz hB2.size)
        | (go_simp
           go_at_call 44
           refine (own_any ta taken tc _ ?g1 (by omega)).mono ?_
           case g1 => exact HTz.out.below (by first | exact (Below.refl _ _).drew | exact balloc (Below.refl _ _).drew _ | exact (balloc (Below.refl _ _) _).drew)
           rintro e w' ⟨vt, rfl, hvt, hbt⟩
           have hB1 : Below wz.heap.size wz w' := by
             first
             | exact bstep (Below.refl _ _).drew hbt
             | exact bstep (balloc (Below.refl _ _).drew _) hbt
             | exact bstep (balloc (Below.refl _ _) _).drew hbt
           have hvt2 := hvt.mono_base' (B' := wz.heap.size) (by first | (simp; done) | (simp; omega))
           have k3n := (KB.out w' hB1).1
           have k3a := (KB.out _ (balloc hB1 (.cells #[.int .i64 n] 2))).1
           have hbw' : b < w'.heap.size := Nat.lt_of_lt_of_le hbz hB1.size)
        | (refine step_appendV rfl (.tmp 35) (.tmp 41) rfl B (.slice ao na cap) (List.zipWith elV es acc) rfl ?g1 (.slice (some ⟨xg, 0, none⟩) t1 xc) rfl _ _ rfl ?g2 ?g3 ?g4 ?_
           case g1 => exact KOV.out _ (balloc hB2 _)
           case g2 => simp [go_sem]
           case g3 => rw [HSz.out.2.2.1.len]; have := HACC.out; omega
           case g4 => have := (balloc hB2 (.cells #[.slice (some ⟨xg, 0, none⟩) t1 xc] 29)).size; have := HSz.out.2.2.2.2.2.2; omega
           intro v3 w6 hov hg3 hbl
           obtain ⟨vg, vc, rfl⟩ := ownsV_sl hov HN2.out
           rw [← HV.out] at hg3 hbl
           obtain ⟨k3m, f3m⟩ := KV.out _ w6 (balloc hB2 _) hg3))
      all_goals
        have HF := hide (find_fin HSz.out HBz.out hB2 hrow HT1.out hx1 hg3 hov hbl)
        clear hrow hx1 hx2 hg3 hov hbl k3m f3m hvt2 hgr
        go_wp2_with fail
        refine bodyPost_ret (v := .tuple #[]) (by simp [results, Try.results39]) rfl ⟨rfl, ?_⟩
        rw [HR.out]
        exact HF.out
end Go.Proofs.Ythagogjklocmoaa
