/-
  CanonTrain: the reference's sort by insertion (under way).
-/
import Derived.Test.YtnfllflifmijeaaOwn
import Derived.Test.YtnfllflifmijeaaCanI
import Derived.BigQuiet
namespace Go.Proofs.Ytnfllflifmijeaa
open Go.RowKit

def ins (x : Int) (out : List Int) (k : Nat) : List Int := out.take k ++ [x] ++ out.drop k
theorem ins_perm (x : Int) (out : List Int) (k : Nat) : (ins x out k).Perm (x :: out) := by
  unfold ins
  have h : (out.take k ++ [x] ++ out.drop k).Perm (x :: (out.take k ++ out.drop k)) := by
    rw [List.append_assoc]
    exact List.perm_middle
  rwa [List.take_append_drop] at h
theorem ins_sorted {x : Int} {out : List Int} {k : Nat} (hs : out.Pairwise (· ≤ ·)) (hk : k ≤ out.length) (h1 : ∀ j, k ≤ j → j < out.length → x < out.getD j 0) (h2 : ∀ j, k = j + 1 → out.getD j 0 ≤ x) : (ins x out k).Pairwise (· ≤ ·) := by
  unfold ins
  have ht : ∀ y ∈ out.take k, y ≤ x := by
    intro y hy
    obtain ⟨j, hj, rfl⟩ := List.getElem_of_mem hy
    rw [List.length_take] at hj
    rw [List.getElem_take]
    cases k with
    | zero => omega
    | succ i =>
      have h3 := h2 i rfl
      rw [List.getD_eq_getElem?_getD, List.getElem?_eq_getElem (by omega : i < out.length)] at h3
      simp only [Option.getD_some] at h3
      rcases Nat.lt_or_ge j i with s | s
      · have := List.pairwise_iff_getElem.mp hs j i (by omega) (by omega) s
        omega
      · have e : j = i := by omega
        subst e; exact h3
  have hd : ∀ y ∈ out.drop k, x < y := by
    intro y hy
    obtain ⟨j, hj, rfl⟩ := List.getElem_of_mem hy
    rw [List.length_drop] at hj
    rw [List.getElem_drop]
    have h3 := h1 (k + j) (by omega) (by omega)
    rwa [List.getD_eq_getElem?_getD, List.getElem?_eq_getElem (by omega : k + j < out.length)] at h3
  rw [List.append_assoc, List.pairwise_append]
  refine ⟨hs.sublist (List.take_sublist _ _), ?_, ?_⟩
  · rw [List.singleton_append, List.pairwise_cons]
    exact ⟨fun y hy => by have := hd y hy; omega, hs.sublist (List.drop_sublist _ _)⟩
  · intro y hy z hz
    have h3 := ht y hy
    rcases List.mem_append.mp hz with h | h
    · rw [List.mem_singleton] at h; omega
    · have := hd z h; omega
theorem srt_of {xs ys : List Int} (hp : ys.Perm xs) (hs : ys.Pairwise (· ≤ ·)) : ys = srt xs := by
  have hq : (srt xs).Pairwise (· ≤ ·) := by
    have h := List.pairwise_mergeSort (le := fun x y : Int => decide (x ≤ y)) (fun a b c h1 h2 => decide_eq_true (Int.le_trans (of_decide_eq_true h1) (of_decide_eq_true h2))) (fun a b => by first | (simp; done) | (simp; omega)) xs
    exact h.imp fun h => by simpa using h
  exact List.Perm.eq_of_pairwise (fun a b _ _ h1 h2 => Int.le_antisymm h1 h2) hs hq (hp.trans (List.mergeSort_perm xs _).symm)
theorem getD_take {xs : List Int} {k j : Nat} (h : j < k) : (xs.take k).getD j 0 = xs.getD j 0 := by
  simp [List.getD_eq_getElem?_getD, List.getElem?_take, h]
theorem own_cap {w : World} {base b i p : Nat} {out : List Int} (h : OwnsI w base (.slice (some ⟨b, 0, none⟩) i p) out) : i ≤ p := by
  rcases h.form with ⟨e, _⟩ | ⟨g, cap, e, _, _, h3, _⟩
  · simp at e
  · simp only [Value.slice.injEq] at e
    omega
set_option maxHeartbeats 2000000 in
set_option maxRecDepth 100000 in
theorem l05Sort_any (g : Nat) (xs : List Int) (cap : Nat) (w : World) (h : ∀ j, j < xs.length → w.cell? ⟨g, j, none⟩ = some (.int .i64 (xs.getD j 0))) (hg : g < w.heap.size) (hn : xs.length ≤ 1048576) :
    Calls Try.prog 93 #[.slice (some ⟨g, 0, none⟩) xs.length cap] w fun e w' => ∃ v, e = .returned v ∧ OwnsI w' w.heap.size v (srt xs) ∧ Below w.heap.size w w' := by
  obtain ⟨n, hn'⟩ : ∃ n, n = xs.length := ⟨_, rfl⟩
  rw [← hn'] at hn h ⊢
  have HN := hide hn'
  have H := hide h
  clear hn' h
  have HE := hide (OwnsI.made_ (w := w))
  go_enter Try.func93, Try.ntmps93
  go_wp2
  go_loopw [3, 4] (fun s3 s4 wr => ∃ (i b p : Nat) (out : List Int), i ≤ n ∧ s4 = .int .i64 (i : Int) ∧ s3 = .slice (some ⟨b, 0, none⟩) i p ∧ out.length = i ∧ out.Perm (xs.take i) ∧ out.Pairwise (· ≤ ·) ∧ OwnsI wr w.heap.size (.slice (some ⟨b, 0, none⟩) i p) out ∧ Below w.heap.size w wr) (fun _ s4 _ => n - (intOf s4).toNat)
  case atStart => exact ⟨0, w.heap.size, 0, [], by omega, rfl, rfl, rfl, by simp, List.Pairwise.nil, HE.out, balloc (Below.refl _ _) _⟩
  case round =>
    obtain ⟨i, b, p, out, hi, rfl, rfl, hlen, hperm, hsort, hown, hbel⟩ := hrel
    have HLE := hide hlen
    have HP := hide hperm
    have HS := hide hsort
    have HO := hide hown
    have HB := hide hbel
    have hsz := hbel.size
    clear hlen hperm hsort hown hbel
    rcases Nat.lt_or_ge i n with hlt | hge
    · have c0 := (HB.out.cell (p := ⟨g, i, none⟩) hg).trans (H.out i hlt)
      obtain ⟨x, hx⟩ : ∃ x, x = xs.getD i 0 := ⟨_, rfl⟩
      rw [← hx] at c0
      have HX := hide hx
      have C0 := hide c0
      clear hx c0
      go_wp2_with fail
      go_loopw [5] (fun s5 wr' => ∃ (k : Nat), k ≤ i ∧ s5 = .int .i64 (k : Int) ∧ (∀ j, k ≤ j → j < i → x < out.getD j 0) ∧ OwnsI wr' w.heap.size (.slice (some ⟨b, 0, none⟩) i p) out ∧ Below w.heap.size w wr') (fun s5 _ => (intOf s5).toNat)
      case atStart => exact ⟨i, Nat.le_refl _, rfl, fun j h1 h2 => by omega, HO.out, HB.out⟩
      case round =>
        obtain ⟨k, hk, rfl, hgt, hown, hbel⟩ := hrel
        have HGT := hide hgt
        have HO2 := hide hown
        have HB2 := hide hbel
        have hsz2 := hbel.size
        have c0 := (HB2.out.cell (p := ⟨g, i, none⟩) hg).trans (H.out i hlt)
        rw [← HX.out] at c0
        clear hgt hown hbel
        have i1 : (0 : Int) ≤ (i : Int) := by omega
        have i2 : (i : Int) < (n : Int) := by omega
        cases k with
        | zero =>
          have hd : decide ((0 : Int) < ((0 : Nat) : Int)) = false := by decide
          go_upto_region 6 with fail
          go_quiet (fail)
          go_wp2_with fail
          obtain ⟨wz, hwz⟩ : ∃ wz, wz = wr.drewN nq := ⟨_, rfl⟩
          have HOz : Hid (OwnsI wz w.heap.size (.slice (some ⟨b, 0, none⟩) i p) out) := hide (hwz ▸ HO2.out.below (bdrewN (Below.refl wr.heap.size wr) _))
          have HBz : Hid (Below w.heap.size w wz) := hide (hwz ▸ bdrewN HB2.out _)
          have hszz := HBz.out.size
          have hgz : g < wz.heap.size := by omega
          have cz := (HBz.out.cell (p := ⟨g, i, none⟩) hg).trans (H.out i hlt)
          rw [← HX.out] at cz
          have CZ := hide cz
          rw [← hwz]
          clear hwz c0 cz
          obtain ⟨zs, hzs⟩ : ∃ zs, zs = out.take 0 := ⟨_, rfl⟩
          have HZS := hide hzs
          have hzl : 0 = zs.length := by have := HLE.out; rw [hzs, List.length_take]; omega
          have HZL := hide hzl
          have hkp : 0 ≤ 1048576 := by omega
          have hrd : ∀ j, j < 0 → wz.cell? ⟨b, j, none⟩ = some (.int .i64 (zs.getD j 0)) := by
            intro j hj
            have h3 := HOz.out.cell HLE.out.symm j (by have := HLE.out; omega)
            rw [h3, HZS.out, getD_take hj]
          have HRD := hide hrd
          have hbz : b < wz.heap.size := (HOz.out.lt b rfl).2
          have keep : ∀ w', Below wz.heap.size wz w' → w'.cell? ⟨g, i, none⟩ = some (.int .i64 x) ∧ Below wz.heap.size wz w' := fun w' hb => ⟨(hb.cell (p := ⟨g, i, none⟩) hgz).trans CZ.out, hb⟩
          have KEEP := hide keep
          have b1 : (0 : Int) ≤ ((0 : Nat) : Int) := by omega
          have b2 : ((0 : Nat) : Int) ≤ (p : Int) := by have := own_cap HOz.out; omega
          clear hzs hzl hrd keep
          have KS := hide (fun (c w' : World) (h : c.cell? ⟨g, i, none⟩ = some (.int .i64 x) ∧ Below wz.heap.size wz c) (hb : Below c.heap.size c w') => KEEP.out w' (bstep h.2 hb))
          have KA := hide (fun (c : World) (o : Obj) (h : c.cell? ⟨g, i, none⟩ = some (.int .i64 x) ∧ Below wz.heap.size wz c) => KEEP.out (c.alloc o) (balloc h.2 o))
          have KC := hide (fun (c : World) (h : c.cell? ⟨g, i, none⟩ = some (.int .i64 x) ∧ Below wz.heap.size wz c) (j : Nat) (hj : j < 0) => (h.2.cell (p := ⟨b, j, none⟩) hbz).trans (HRD.out j hj))
          have KZ := hide (fun (c : World) (h : c.cell? ⟨g, i, none⟩ = some (.int .i64 x) ∧ Below wz.heap.size wz c) => h.2.size)
          have KG := hide (fun (c w' : World) (row : Option Nat) (h : c.cell? ⟨g, i, none⟩ = some (.int .i64 x) ∧ Below wz.heap.size wz c) (hgr : c.grownBy w' row) (hr : ∀ k, row = some k → wz.heap.size ≤ k) => KEEP.out w' (h.2.grown hgr h.2.size hr))
          go_region_held3 (fun w' => w'.cell? ⟨g, i, none⟩ = some (.int .i64 x) ∧ Below wz.heap.size wz w')
            (first | exact KEEP.out _ (Below.refl _ _).drew | exact KS.out _ _ (by assumption) hb | exact KA.out _ _ (by assumption) | exact hSg)
            (first
              | (go_at_call 106; refine (l00Own_n b zs 0 _ _ HZL.out (KC.out _ (by assumption)) (by omega)).mono ?_; rintro e w' ⟨v, rfl, hv, hb⟩; have hv2 := hv.mono_base' (KZ.out _ (by assumption)); clear hv)
              | (refine step_appendJ rfl _ _ rfl wz.heap.size v zs rfl (by first | exact hv2 | exact hv2.below (balloc (Below.refl _ _) _)) x _ _ rfl (by first | (simp [go_sem]; done) | exact (hb.cell (by simp)).trans (by simp [go_sem])) (by have := HZL.out; omega) (KZ.out _ (by assumption)) ?_; intro v' w5 hown' hgr; have hSg := KG.out _ _ _ (by assumption) hgr (fun k hk => (hv2.lt k hk).1)))
          all_goals
            have HOW := hide hown'
            have HSG := hide hSg
            clear hown' hSg hgr hv2 hb
            have HNW := hide (fun (j : Nat) (hj : j < i - 0) => (HSG.out.2.cell (p := ⟨b, 0 + j, none⟩) hbz).trans (HOz.out.cell HLE.out.symm (0 + j) (by have := HLE.out; omega)))
            go_wp2_with (at_builtin; refine wpList_appendR rfl (.tmp 42) (.tmp 45) rfl wz.heap.size _ (zs ++ [x]) rfl HOW.out ⟨b, 0, none⟩ i p (out.drop 0) rfl (by rw [List.length_drop, HLE.out]; rfl) (fun j hj => ?_) (by rw [List.length_append, ← HZL.out]; simp; omega) (KZ.out _ HSG.out) ?_)
            · have h := HNW.out j (by omega)
              rw [show (⟨b, 0, none⟩ : Addr).add j = ⟨b, j, none⟩ by simp [Addr.add]; omega]
              simpa using h
            · intro v3 w6 h1 h2 _
              have B6 := hide ((bstep HBz.out HSG.out.2).grown h2 (Nat.le_trans hszz (KZ.out _ HSG.out)) (fun k hk => by have := HOW.out.lt k hk; omega))
              have e : zs ++ x :: out = ins x out 0 := by rw [HZS.out]; simp [ins]
              rw [e] at h1
              have hle : (ins x out 0).length = i + 1 := by rw [(ins_perm x out 0).length_eq, List.length_cons, HLE.out]
              rcases h1.form with ⟨_, h0⟩ | ⟨g3, cap3, rfl, _⟩
              · rw [h0] at hle; simp at hle
              have HO6 := hide h1
              have HL6 := hide hle
              clear h1 h2 e
              rw [hle]
              clear hle
              go_wp2_with fail
              go_roundw
              case rel =>
                refine ⟨i + 1, g3, cap3, ins x out 0, hlt, by first | rfl | go_num, rfl, HL6.out, ?_, ?_, ?_, B6.out⟩
                · rw [List.take_succ_eq_append_getElem (by rw [← HN.out]; exact hlt)]
                  refine (ins_perm x out 0).trans ?_
                  have hx : xs[i]'(by rw [← HN.out]; exact hlt) = x := by rw [HX.out, List.getD_eq_getElem?_getD, List.getElem?_eq_getElem (by rw [← HN.out]; exact hlt)]; rfl
                  rw [hx]
                  exact (List.Perm.cons x HP.out).trans (List.perm_append_singleton x _).symm
                · exact ins_sorted HS.out (by omega) (fun j h1 h2 => HGT.out j h1 (by have := HLE.out; omega)) (fun j h => by omega)
                · have h := HO6.out.mono_base' hszz
                  rw [HL6.out] at h
                  exact h
              case measure => simp only [intOf]; omega
        | succ j =>
          have c1 := HO2.out.cell HLE.out.symm j (by have := HLE.out; omega)
          obtain ⟨y, hy⟩ : ∃ y, y = out.getD j 0 := ⟨_, rfl⟩
          rw [← hy] at c1
          have HY := hide hy
          obtain ⟨z, hz⟩ : ∃ z, z = ((j + 1 : Nat) : Int) := ⟨_, rfl⟩
          have HZ := hide hz
          have hd : decide ((0 : Int) < z) = true := by simp; omega
          have hw : IntKind.i64.wrap (z - 1) = (j : Int) := (IntWalk.i64_in _ (by omega)).trans (by omega)
          have j1 : (0 : Int) ≤ (j : Int) := by omega
          have j2 : (j : Int) < (i : Int) := by omega
          rw [← hz]
          clear hy hz
          by_cases hxy : x < y
          · have HXY := hide hxy
            go_upto_region 6 with fail
            go_quiet (fail)
            go_wp2_with fail
            refine ⟨⟨j, by omega, rfl, fun j' h1 h2 => ?_, HO2.out.below (bdrewN (Below.refl wr.heap.size wr) _), bdrewN HB2.out _⟩, by rw [HZ.out]; simp only [intOf]; omega⟩
            rcases Nat.lt_or_ge j j' with s | s
            · exact HGT.out j' (by omega) h2
            · have e : j' = j := by omega
              rw [e, ← HY.out]; exact HXY.out
          · have HXY := hide hxy
            go_upto_region 6 with fail
            go_quiet (fail)
            go_wp2_with fail
            obtain ⟨k, hkj⟩ : ∃ k, k = j + 1 := ⟨_, rfl⟩
            have HKJ := hide hkj
            have HLST := hide (fun (j' : Nat) (h : k = j' + 1) => show out.getD j' 0 ≤ x by
              have e : j' = j := by omega
              rw [e, ← HY.out]; have := HXY.out; omega)
            have hzk : z = (k : Int) := by rw [HZ.out, hkj]
            subst hzk
            have hki : k ≤ i := by omega
            clear hkj
            obtain ⟨wz, hwz⟩ : ∃ wz, wz = wr.drewN nq := ⟨_, rfl⟩
            have HOz : Hid (OwnsI wz w.heap.size (.slice (some ⟨b, 0, none⟩) i p) out) := hide (hwz ▸ HO2.out.below (bdrewN (Below.refl wr.heap.size wr) _))
            have HBz : Hid (Below w.heap.size w wz) := hide (hwz ▸ bdrewN HB2.out _)
            have hszz := HBz.out.size
            have hgz : g < wz.heap.size := by omega
            have cz := (HBz.out.cell (p := ⟨g, i, none⟩) hg).trans (H.out i hlt)
            rw [← HX.out] at cz
            have CZ := hide cz
            rw [← hwz]
            clear hwz c0 cz
            obtain ⟨zs, hzs⟩ : ∃ zs, zs = out.take k := ⟨_, rfl⟩
            have HZS := hide hzs
            have hzl : k = zs.length := by have := HLE.out; rw [hzs, List.length_take]; omega
            have HZL := hide hzl
            have hkp : k ≤ 1048576 := by omega
            have hrd : ∀ j, j < k → wz.cell? ⟨b, j, none⟩ = some (.int .i64 (zs.getD j 0)) := by
              intro j hj
              have h3 := HOz.out.cell HLE.out.symm j (by have := HLE.out; omega)
              rw [h3, HZS.out, getD_take hj]
            have HRD := hide hrd
            have hbz : b < wz.heap.size := (HOz.out.lt b rfl).2
            have keep : ∀ w', Below wz.heap.size wz w' → w'.cell? ⟨g, i, none⟩ = some (.int .i64 x) ∧ Below wz.heap.size wz w' := fun w' hb => ⟨(hb.cell (p := ⟨g, i, none⟩) hgz).trans CZ.out, hb⟩
            have KEEP := hide keep
            have b1 : (0 : Int) ≤ (k : Int) := by omega
            have b2 : (k : Int) ≤ (p : Int) := by have := own_cap HOz.out; omega
            clear hzs hzl hrd keep
            have KS := hide (fun (c w' : World) (h : c.cell? ⟨g, i, none⟩ = some (.int .i64 x) ∧ Below wz.heap.size wz c) (hb : Below c.heap.size c w') => KEEP.out w' (bstep h.2 hb))
            have KA := hide (fun (c : World) (o : Obj) (h : c.cell? ⟨g, i, none⟩ = some (.int .i64 x) ∧ Below wz.heap.size wz c) => KEEP.out (c.alloc o) (balloc h.2 o))
            have KC := hide (fun (c : World) (h : c.cell? ⟨g, i, none⟩ = some (.int .i64 x) ∧ Below wz.heap.size wz c) (j : Nat) (hj : j < k) => (h.2.cell (p := ⟨b, j, none⟩) hbz).trans (HRD.out j hj))
            have KZ := hide (fun (c : World) (h : c.cell? ⟨g, i, none⟩ = some (.int .i64 x) ∧ Below wz.heap.size wz c) => h.2.size)
            have KG := hide (fun (c w' : World) (row : Option Nat) (h : c.cell? ⟨g, i, none⟩ = some (.int .i64 x) ∧ Below wz.heap.size wz c) (hgr : c.grownBy w' row) (hr : ∀ k, row = some k → wz.heap.size ≤ k) => KEEP.out w' (h.2.grown hgr h.2.size hr))
            go_region_held3 (fun w' => w'.cell? ⟨g, i, none⟩ = some (.int .i64 x) ∧ Below wz.heap.size wz w')
              (first | exact KEEP.out _ (Below.refl _ _).drew | exact KS.out _ _ (by assumption) hb | exact KA.out _ _ (by assumption) | exact hSg)
              (first
                | (go_at_call 106; refine (l00Own_n b zs k _ _ HZL.out (KC.out _ (by assumption)) (by omega)).mono ?_; rintro e w' ⟨v, rfl, hv, hb⟩; have hv2 := hv.mono_base' (KZ.out _ (by assumption)); clear hv)
                | (refine step_appendJ rfl _ _ rfl wz.heap.size v zs rfl (by first | exact hv2 | exact hv2.below (balloc (Below.refl _ _) _)) x _ _ rfl (by first | (simp [go_sem]; done) | exact (hb.cell (by simp)).trans (by simp [go_sem])) (by have := HZL.out; omega) (KZ.out _ (by assumption)) ?_; intro v' w5 hown' hgr; have hSg := KG.out _ _ _ (by assumption) hgr (fun k hk => (hv2.lt k hk).1)))
            all_goals
              have HOW := hide hown'
              have HSG := hide hSg
              clear hown' hSg hgr hv2 hb
              have HNW := hide (fun (j : Nat) (hj : j < i - k) => (HSG.out.2.cell (p := ⟨b, k + j, none⟩) hbz).trans (HOz.out.cell HLE.out.symm (k + j) (by have := HLE.out; omega)))
              rcases Nat.lt_or_ge k p with hkp2 | hkp2
              · have hne : ¬ p - k = 0 := by omega
                have hne2 : ¬ p = k := by omega
                go_wp2_with (at_builtin; refine wpList_appendR rfl (.tmp 42) (.tmp 45) rfl wz.heap.size _ (zs ++ [x]) rfl HOW.out ⟨b, k, none⟩ (i - k) (p - k) (out.drop k) rfl (by rw [List.length_drop, HLE.out]) (fun j hj => ?_) (by rw [List.length_append, ← HZL.out, List.length_singleton]; omega) (KZ.out _ HSG.out) ?_)
                · have h := HNW.out j (by omega)
                  rw [show (⟨b, k, none⟩ : Addr).add j = ⟨b, k + j, none⟩ by simp [Addr.add]]
                  simpa using h
                · intro v3 w6 h1 h2 _
                  have B6 := hide ((bstep HBz.out HSG.out.2).grown h2 (Nat.le_trans hszz (KZ.out _ HSG.out)) (fun k hk => by have := HOW.out.lt k hk; omega))
                  have e : zs ++ x :: out.drop k = ins x out k := by rw [HZS.out]; simp [ins]
                  rw [e] at h1
                  have hle : (ins x out k).length = i + 1 := by rw [(ins_perm x out k).length_eq, List.length_cons, HLE.out]
                  rcases h1.form with ⟨_, h0⟩ | ⟨g3, cap3, rfl, _⟩
                  · rw [h0] at hle; simp at hle
                  have HO6 := hide h1
                  have HL6 := hide hle
                  clear h1 h2 e
                  rw [hle]
                  clear hle
                  go_wp2_with fail
                  go_roundw
                  case rel =>
                    refine ⟨i + 1, g3, cap3, ins x out k, hlt, by first | rfl | go_num, rfl, HL6.out, ?_, ?_, ?_, B6.out⟩
                    · rw [List.take_succ_eq_append_getElem (by rw [← HN.out]; exact hlt)]
                      refine (ins_perm x out k).trans ?_
                      have hx : xs[i]'(by rw [← HN.out]; exact hlt) = x := by rw [HX.out, List.getD_eq_getElem?_getD, List.getElem?_eq_getElem (by rw [← HN.out]; exact hlt)]; rfl
                      rw [hx]
                      exact (List.Perm.cons x HP.out).trans (List.perm_append_singleton x _).symm
                    · exact ins_sorted HS.out (by have := HLE.out; omega) (fun j h1 h2 => HGT.out j (by have := HKJ.out; omega) (by have := HLE.out; omega)) (fun j' h => HLST.out j' h)
                    · have h := HO6.out.mono_base' hszz
                      rw [HL6.out] at h
                      exact h
                  case measure => simp only [intOf]; omega
              · have hpe : p = k := by have := own_cap HOz.out; omega
                have HIK := hide (show i - k = 0 by have := own_cap HOz.out; omega)
                clear hkp2
                subst hpe
                go_wp2_with (at_builtin; refine wpList_appendR rfl (.tmp 42) (.tmp 45) rfl wz.heap.size _ (zs ++ [x]) rfl HOW.out ⟨b, 0, none⟩ (i - p) 0 (out.drop p) rfl (by rw [List.length_drop, HLE.out]) (fun j hj => ?_) (by rw [List.length_append, ← HZL.out, List.length_singleton]; omega) (KZ.out _ HSG.out) ?_)
                · have := HIK.out; omega
                · intro v3 w6 h1 h2 _
                  have B6 := hide ((bstep HBz.out HSG.out.2).grown h2 (Nat.le_trans hszz (KZ.out _ HSG.out)) (fun k hk => by have := HOW.out.lt k hk; omega))
                  have e : zs ++ x :: out.drop p = ins x out p := by rw [HZS.out]; simp [ins]
                  rw [e] at h1
                  have hle : (ins x out p).length = i + 1 := by rw [(ins_perm x out p).length_eq, List.length_cons, HLE.out]
                  rcases h1.form with ⟨_, h0⟩ | ⟨g3, cap3, rfl, _⟩
                  · rw [h0] at hle; simp at hle
                  have HO6 := hide h1
                  have HL6 := hide hle
                  clear h1 h2 e
                  rw [hle]
                  clear hle
                  go_wp2_with fail
                  go_roundw
                  case rel =>
                    refine ⟨i + 1, g3, cap3, ins x out p, hlt, by first | rfl | go_num, rfl, HL6.out, ?_, ?_, ?_, B6.out⟩
                    · rw [List.take_succ_eq_append_getElem (by rw [← HN.out]; exact hlt)]
                      refine (ins_perm x out p).trans ?_
                      have hx : xs[i]'(by rw [← HN.out]; exact hlt) = x := by rw [HX.out, List.getD_eq_getElem?_getD, List.getElem?_eq_getElem (by rw [← HN.out]; exact hlt)]; rfl
                      rw [hx]
                      exact (List.Perm.cons x HP.out).trans (List.perm_append_singleton x _).symm
                    · exact ins_sorted HS.out (by have := HLE.out; omega) (fun j h1 h2 => HGT.out j (by have := HKJ.out; omega) (by have := HLE.out; omega)) (fun j' h => HLST.out j' h)
                    · have h := HO6.out.mono_base' hszz
                      rw [HL6.out] at h
                      exact h
                  case measure => simp only [intOf]; omega
    · have HE2 := hide (show i = n by omega)
      go_wp2_with fail
      go_ret
      refine ⟨_, rfl, ?_, HB.out⟩
      rw [← srt_of (ys := out) (by have h := HP.out; rwa [HE2.out, HN.out, List.take_length] at h) HS.out]
      exact HO.out
end Go.Proofs.Ytnfllflifmijeaa
