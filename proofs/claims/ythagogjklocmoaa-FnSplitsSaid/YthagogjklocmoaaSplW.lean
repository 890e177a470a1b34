/-
  The program's search for splits: its contract, and its walk at one factor.
-/
import Derived.Test.YthagogjklocmoaaFindM
import Derived.Test.YthagogjklocmoaaShelf
namespace Go.Proofs.Ythagogjklocmoaa
open Go.RowKit

theorem OwnsI.frk {w w' : World} {B : Nat} {v : Value} {xs : List Int} (h : OwnsI w B v xs) (hb : ∀ k, v.ownBlock = some k → w'.heap[k]? = w.heap[k]?) : OwnsI w' B v xs := by
  refine ⟨h.1, ?_⟩
  rcases h.2 with h2 | ⟨g, cap, cur, h1, h2, h3, h4⟩
  · exact .inl h2
  · exact .inr ⟨g, cap, cur, h1, h2, (hb g (by rw [h1]; rfl)).trans h3, h4⟩
/-- The parts' row lies away from all that the search holds. -/
def Away (b gd : Nat) (v : Value) (es : List (Nat × Nat)) (pv : Value) : Prop := ∀ k, pv.ownBlock = some k → k ≠ b ∧ k ≠ gd ∧ v.ownBlock ≠ some k ∧ ∀ e ∈ es, e.1 ≠ k
def SplPost (w : World) (b gd B : Nat) (D : List Int) (dcap : Nat) (high : Int) (most : Nat) (v : Value) (es : List (Nat × Nat)) (P : Nat) (pv : Value) (parts : List Int) (rows : List (List Int)) (w' : World) : Prop :=
  ∃ v' es', FindSt w' b gd B D dcap high most v' rows es' ∧ Fr w w' b v.ownBlock pv.ownBlock ∧ OwnsI w' P pv parts ∧ (v'.ownBlock = v.ownBlock ∨ ∀ k, v'.ownBlock = some k → w.heap.size ≤ k) ∧ ∀ e ∈ es', e ∈ es ∨ w.heap.size ≤ e.1
theorem split_fin {w w5 w6 : World} {b gd B : Nat} {D : List Int} {dcap : Nat} {high : Int} {most : Nat} {v v3 : Value} {acc : List (List Int)} {es : List (Nat × Nat)} {r : List Int} {xg xc t1 P : Nat} {pv : Value} {parts : List Int} (hS : FindSt w b gd B D dcap high most v acc es) (hO : OwnsI w P pv parts) (hA : Away b gd v es pv) (hB2 : Below w.heap.size w w5)
    (hrow : OwnsI w5 w.heap.size (.slice (some ⟨xg, 0, none⟩) t1 xc) r) (ht : r.length = t1) (hx1 : w.heap.size ≤ xg) (hg : (w5.alloc (.cells #[.slice (some ⟨xg, 0, none⟩) t1 xc] 29)).grownBy w6 v.ownBlock) (hov : OwnsV w6 B v3 (List.zipWith elV es acc ++ [.slice (some ⟨xg, 0, none⟩) t1 xc]))
    (hbl : v3.ownBlock = v.ownBlock ∨ v3.ownBlock = some (w5.alloc (.cells #[.slice (some ⟨xg, 0, none⟩) t1 xc] 29)).heap.size) :
    SplPost w b gd B D dcap high most v es P pv parts (acc ++ [r]) (w6.setCell ⟨b, 3, none⟩ v3) := by
  subst ht
  have hB3 := balloc hB2 (.cells #[.slice (some ⟨xg, 0, none⟩) r.length xc] 29)
  have hS3 := hS.below hB3
  have hn := nodupish hS.2.2.1 xg hx1
  have hxo : OwnsI (w5.alloc (.cells #[.slice (some ⟨xg, 0, none⟩) r.length xc] 29)) B (elV (xg, xc) r) r := (hrow.below (balloc (Below.refl _ _) _)).mono_base' hS.2.2.2.2.2.2
  obtain ⟨f1, f2⟩ := hS3.push (x := (xg, xc)) hxo hn.1 hn.2 hov hg hbl
  have hF : Fr w (w6.setCell ⟨b, 3, none⟩ v3) b v.ownBlock none := (Fr.of_below hB3).trans f2 (.inl rfl) (.inl rfl)
  refine ⟨v3, _, f1, ⟨hF.1, hF.2.1, hF.2.2.1, hF.2.2.2.1, fun i hi n1 n2 _ => hF.2.2.2.2 i hi n1 n2 (by simp)⟩, hO.frk fun k hk => ?_, ?_, fun e he => ?_⟩
  · have ha := hA k hk
    exact hF.2.2.2.2 k (hO.lt k hk).2 ha.1 ha.2.2.1 (by simp)
  · rcases hbl with h | h
    · exact .inl h
    · refine .inr fun k hk => ?_
      rw [h] at hk
      simp only [Option.some.injEq] at hk
      have := hB3.size
      omega
  · rcases List.mem_append.1 he with he | he
    · exact .inl he
    · have : e = (xg, xc) := by simpa using he
      subst this
      exact .inr hx1
theorem clone_any (v : Value) (xs : List Int) (B : Nat) (w : World) (h : OwnsI w B v xs) (hl : xs.length ≤ 1000000) :
    Calls Try.prog 43 #[v] w fun e w' => ∃ v', e = .returned v' ∧ OwnsI w' w.heap.size v' xs ∧ Below w.heap.size w w' := by
  rcases h.form with ⟨rfl, rfl⟩ | ⟨g, cap, rfl, h2, h3, _⟩
  · refine (Try.slices_Clone_int_nil 0 0 w).mono ?_
    rintro e w' ⟨rfl, rfl⟩
    exact ⟨_, rfl, OwnsI.none_, Below.refl _ _⟩
  · refine (Try.slices_Clone_int g 0 xs.length cap xs w (Nat.le_refl _) (by omega) (fun j hj => by rw [Nat.zero_add]; exact h.cell rfl j hj)).mono ?_
    rintro e w' ⟨v', rfl, ho, _, hb⟩
    rw [List.take_length] at ho
    exact ⟨v', rfl, ho, hb⟩
set_option maxHeartbeats 4000000 in
set_option maxRecDepth 100000 in
theorem split_one (n low : Int) (parts : List Int) (pv : Value) (P b gd B : Nat) (D : List Int) (dcap : Nat) (high : Int) (most : Nat) (v : Value) (acc : List (List Int)) (es : List (Nat × Nat)) (w : World)
    (hm : most ≤ 1000) (hacc : acc.length < most) (htl : parts.length ≤ 10) (hS : FindSt w b gd B D dcap high most v acc es) (hO : OwnsI w P pv parts) (hA : Away b gd v es pv) :
    Calls Try.prog 37 #[.pointer (some ⟨b, 0, none⟩), pv, .int .i64 n, .int .i64 low, .int .i64 1] w fun e w' => e = .returned (.tuple #[]) ∧
      SplPost w b gd B D dcap high most v es P pv parts (fnd most acc ((allS D high 1 n low).map (parts ++ ·))) w' := by
  have HS := hide hS
  have HO := hide hO
  have HA := hide hA
  obtain ⟨⟨k0, k1, k2, k3, k4⟩, hd, ho, h1, h2, h3, h4⟩ := hS
  obtain ⟨ao, cap, hv⟩ := ho.form
  have HACC := hide hacc
  obtain ⟨na, hna⟩ : ∃ na, na = acc.length := ⟨_, rfl⟩
  have HNA := hide hna
  rw [← hna] at hv hacc
  have HV := hide hv
  have k3' := k3
  rw [hv] at k3'
  have hbw : b < w.heap.size := by omega
  clear hO hA hd ho hv hna k0 k2
  cases hr : inR n low high
  · have HR := hide (show fnd most acc ((allS D high 1 n low).map (parts ++ ·)) = acc by
      rw [allS_one, if_neg (fun h => by rw [inR_mk h] at hr; cases hr)]
      exact fnd_nil (Nat.le_of_lt HACC.out))
    clear k3 k3' k4
    have HI := hide hr
    clear hr
    go_enter Try.func37, Try.ntmps37
    go_wp2_with fail
    refine (within_any _ _ _ _).mono ?_
    rintro e w' ⟨rfl, rfl⟩
    rw [HI.out]
    go_wp2_with fail
    refine bodyPost_ret (v := .tuple #[]) (by simp [results, Try.results37]) rfl ⟨rfl, ?_⟩
    rw [HR.out]
    exact ⟨v, es, HS.out, Fr.refl _ _ _ _, HO.out, .inl rfl, fun e he => .inl he⟩
  · have hr2 := inR_true hr
    have HR := hide (show fnd most acc ((allS D high 1 n low).map (parts ++ ·)) = acc ++ [parts ++ [n]] by
      rw [allS_one, if_pos hr2]
      exact fnd_one HACC.out _)
    clear k3 hr2
    have HI := hide hr
    clear hr
    have KB := hide (fun (w' : World) (hb : Below w.heap.size w w') => show w'.cell? ⟨b, 3, none⟩ = some (.slice ao na cap) ∧ w'.frozen? ⟨b, 3, none⟩ = false from ⟨(hb.cell (p := ⟨b, 3, none⟩) hbw).trans k3', (hb.frozen hbw).trans k4⟩)
    have KV := hide (fun (c w' : World) (hb : Below w.heap.size w c) (hg : c.grownBy w' v.ownBlock) => show w'.cell? ⟨b, 3, none⟩ = some (.slice ao na cap) ∧ w'.frozen? ⟨b, 3, none⟩ = false from by
      have hvb : v.ownBlock ≠ some b := fun e => by have := (HS.out.2.2.1.v_lt b e).1; omega
      have hbc : b < c.heap.size := Nat.lt_of_lt_of_le hbw hb.size
      have eb := hg.block b hbc (fun e => hvb e.symm)
      obtain ⟨q1, q2⟩ := KB.out c hb
      exact ⟨(World.cell?_of_block (a := ⟨b, 3, none⟩) eb).trans q1, (World.frozen?_of_block (a := ⟨b, 3, none⟩) eb).trans q2⟩)
    have KOV := hide (fun (c : World) (hb : Below w.heap.size w c) => show OwnsV c B (.slice ao na cap) (List.zipWith elV es acc) from by rw [← HV.out]; exact (HS.out.2.2.1.below hb).2.1)
    have KOP := hide (fun (c : World) (hb : Below w.heap.size w c) => HO.out.below hb)
    obtain ⟨t1, ht1⟩ : ∃ t1, (parts ++ [n]).length = t1 := ⟨_, rfl⟩
    have HT1 := hide ht1
    have ht10 : 0 < t1 := by rw [← ht1]; simp
    clear ht1
    have HN2 := hide (show (List.zipWith elV es acc).length + 1 = na + 1 by rw [HS.out.2.2.1.len, HNA.out])
    go_enter Try.func37, Try.ntmps37
    go_wp2_with fail
    refine (within_any _ _ _ _).mono ?_
    rintro e w' ⟨rfl, rfl⟩
    rw [HI.out]
    go_upto_region 2 with fail
    go_region_law (first
      | (refine step_appendJ rfl (.tmp 27) (.tmp 29) rfl w.heap.size vt parts rfl ?g1 n _ _ rfl ?g2 ?g3 ?g4 ?_
         case g1 => first | exact hvt2 | exact hvt2.below (balloc (Below.refl _ _) _)
         case g2 => first | (simp [go_sem]; done) | exact (hbt.cell (by simp)).trans (by simp [go_sem])
         case g3 => omega
         case g4 => first | exact hB1.size | exact (balloc hB1 _).size
         intro vr w5 hrow hgr
         have hB2 : Below w.heap.size w w5 := by
           first
           | exact hB1.grown hgr hB1.size (fun k hk => (hvt2.lt k hk).1)
           | exact (balloc hB1 _).grown hgr (balloc hB1 _).size (fun k hk => (hvt2.lt k hk).1)
         obtain ⟨xg, xc, rfl, hx1, hx2⟩ := ownsI_sl hrow HT1.out (by omega)
         have k3n := (KB.out w5 hB2).1
         have k3a := (KB.out _ (balloc hB2 (.cells #[.slice (some ⟨xg, 0, none⟩) t1 xc] 29))).1
         have hbw5 : b < w5.heap.size := Nat.lt_of_lt_of_le hbw hB2.size)
      | (go_simp
         go_at_call 43
         refine (clone_any pv parts P _ ?g1 (by omega)).mono ?_
         case g1 => exact KOP.out _ (by first | exact (Below.refl _ _).drew | exact balloc (Below.refl _ _).drew _ | exact (balloc (Below.refl _ _) _).drew)
         rintro e w' ⟨vt, rfl, hvt, hbt⟩
         have hB1 : Below w.heap.size w w' := by
           first
           | exact bstep (Below.refl _ _).drew hbt
           | exact bstep (balloc (Below.refl _ _).drew _) hbt
           | exact bstep (balloc (Below.refl _ _) _).drew hbt
         have hvt2 := hvt.mono_base' (B' := w.heap.size) (by first | (simp; done) | (simp; omega))
         have k3n := (KB.out w' hB1).1
         have k3a := (KB.out _ (balloc hB1 (.cells #[.int .i64 n] 2))).1
         have hbw' : b < w'.heap.size := Nat.lt_of_lt_of_le hbw hB1.size)
      | (refine step_appendV rfl (.tmp 25) (.tmp 31) rfl B (.slice ao na cap) (List.zipWith elV es acc) rfl ?g1 (.slice (some ⟨xg, 0, none⟩) t1 xc) rfl _ _ rfl ?g2 ?g3 ?g4 ?_
         case g1 => exact KOV.out _ (balloc hB2 _)
         case g2 => simp [go_sem]
         case g3 => rw [HS.out.2.2.1.len]; have := HACC.out; omega
         case g4 => have := (balloc hB2 (.cells #[.slice (some ⟨xg, 0, none⟩) t1 xc] 29)).size; have := HS.out.2.2.2.2.2.2; omega
         intro v3 w6 hov hg3 hbl
         obtain ⟨vg, vc, rfl⟩ := ownsV_sl hov HN2.out
         rw [← HV.out] at hg3 hbl
         obtain ⟨k3m, f3m⟩ := KV.out _ w6 (balloc hB2 _) hg3))
    all_goals
      have HF := hide (split_fin HS.out HO.out HA.out hB2 hrow HT1.out hx1 hg3 hov hbl)
      clear hrow hx1 hx2 hg3 hov hbl k3m f3m hvt2 hgr
      go_wp2_with fail
      refine bodyPost_ret (v := .tuple #[]) (by simp [results, Try.results37]) rfl ⟨rfl, ?_⟩
      rw [HR.out]
      exact HF.out
end Go.Proofs.Ythagogjklocmoaa
