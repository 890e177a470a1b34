/-
  ConvergentsOf: plain laws, and contracts of both functions.
-/
import Derived.Test.YtjojeoehdocojaaRatioE
import Derived.Test.YtjojeoehdocojaaRTI
import Derived.Test.YtjojeoehdocojaaTerms
namespace Go.Proofs.Ytjojeoehdocojaa
open Go.RowKit

theorem cf_mem (n d : Int) (hd : 0 < d) : ∀ t ∈ (cf n d).drop 1, 1 ≤ t := by
  induction n, d using cf.induct with
  | case1 n d h ih =>
    rw [cf_pos h]
    simp only [List.drop_succ_cons, List.drop_zero]
    by_cases h0 : 0 < n % d
    · rw [cf_pos h0]
      intro t ht
      have h1 := Int.emod_lt_of_pos n h
      rcases List.mem_cons.1 ht with rfl | ht
      · have := Int.le_ediv_of_mul_le h0 (a := 1) (b := d) (by omega)
        exact this
      · have := ih h0
        rw [cf_pos h0] at this
        exact this t (by simpa using ht)
    · have h2 := Int.emod_nonneg n (by omega : d ≠ 0)
      have e : n % d = 0 := by omega
      rw [e, cf_zero]
      simp
  | case2 n d h => exact absurd hd h
theorem cf_in (n d : Int) (hn : -1000000000 ≤ n ∧ n ≤ 1000000000) (hd : d ≤ 1000000000) : ∀ t ∈ cf n d, -1000000000 ≤ t ∧ t ≤ 1000000000 := by
  induction n, d using cf.induct with
  | case1 n d h ih =>
    rw [cf_pos h]
    intro t ht
    have h1 := Int.emod_lt_of_pos n h
    have h2 := Int.emod_nonneg n (by omega : d ≠ 0)
    rcases List.mem_cons.1 ht with rfl | ht
    · exact ediv_bd n d 1000000000 (by omega) hn (by omega)
    · exact ih (by omega) (by omega) t ht
  | case2 n d h => rw [cf, dif_neg h]; simp
theorem getD_mem (L : List Int) (j : Nat) (h : j < L.length) : L.getD j 0 ∈ L := by
  rw [List.getD_eq_getElem?_getD, List.getElem?_eq_getElem h]
  exact List.getElem_mem h
theorem getD_take (L : List Int) (k j : Nat) (h : j < k) : (L.take k).getD j 0 = L.getD j 0 := by
  simp only [List.getD_eq_getElem?_getD]
  rw [List.getElem?_take_of_lt h]
theorem cf_tail (n d : Int) (hd : 0 < d) (k : Nat) (hk : 1 ≤ k) (hl : k ≤ (cf n d).length) : tailOk ((cf n d).take k) = true := by
  refine tailOk_mk (by rw [List.length_take]; omega) (fun j h1 h2 => ?_)
  rw [List.length_take] at h2
  rw [getD_take _ _ _ (by omega)]
  have h3 := cf_mem n d hd
  have h4 : j - 1 < ((cf n d).drop 1).length := by rw [List.length_drop]; omega
  have h5 := h3 _ (List.getElem_mem h4)
  rw [List.getElem_drop] at h5
  rw [List.getD_eq_getElem?_getD, List.getElem?_eq_getElem (by omega)]
  simpa [show 1 + (j - 1) = j by omega] using h5
/-- The first k convergents of the terms L. -/
def convs (L : List Int) (k : Nat) : List (Int × Int) := (List.range k).map fun i => ((rtR (L.take (i + 1))).1, (rtR (L.take (i + 1))).2.1)
theorem convs_succ (L : List Int) (k : Nat) : convs L (k + 1) = convs L k ++ [((rtR (L.take (k + 1))).1, (rtR (L.take (k + 1))).2.1)] := by
  unfold convs
  rw [List.range_succ, List.map_append]; rfl
theorem convs_len (L : List Int) (k : Nat) : (convs L k).length = k := by simp [convs]
def convL (a b : Int) : List (Int × Int) := if validR a b then convs (cf a b) (cf a b).length else []
theorem ReadsI.take {w : World} {ao : Option Addr} {xs : List Int} (h : ReadsI w ao xs) (k : Nat) : ReadsI w ao (xs.take k) := fun hp => by
  rw [List.length_take] at hp
  obtain ⟨b, off, e, hlt, hc⟩ := h (by omega)
  refine ⟨b, off, e, hlt, fun j hj => ?_⟩
  rw [List.length_take] at hj
  rw [getD_take _ _ _ (by omega)]
  exact hc j (by omega)
theorem OwnsI.cap {w : World} {base : Nat} {xs : List Int} {ao : Option Addr} {n cap : Nat} (h : OwnsI w base (.slice ao n cap) xs) (hn : 0 < xs.length) : n = xs.length ∧ xs.length ≤ cap ∧ cap ≤ maxLen ∧ ∃ b, ao = some ⟨b, 0, none⟩ := by
  rcases h.form with ⟨h1, h2⟩ | ⟨g, c, h1, _, _, h4, h5⟩
  · subst h2; simp at hn
  · simp only [Value.slice.injEq] at h1
    obtain ⟨rfl, rfl, rfl⟩ := h1
    exact ⟨rfl, h4, h5, g, rfl⟩
/-- 'out = append(out, y)' where the new element's block is told otherwise. -/
theorem wpList_appendP' {ops : Array Oper} {rest : List Oper} {o : Oper} {a : Act} {Q : Exit → Act → World → Prop} {w : World} (hgd : o.guard = none) (s x : Operand)
    (ho : o.op = .call { callee := .builtin .append, args := #[s, x], argTypes := #[37, 37] })
    (base : Nat) (v : Value) (xs : List (Int × Int)) (hs : a.eval s = v) (hown : OwnsP w base v xs) (y z : Int) (c m : Nat) (hx : a.eval x = .slice (some ⟨m, 0, none⟩) 1 c) (hm : m = w.heap.size)
    (hl : xs.length ≤ 1000000000000) (hbase : base ≤ w.heap.size)
    (h : ∀ ao cap w', OwnsP w' base (.slice ao (xs.length + 1) cap) (xs ++ [(y, z)]) → w.grownBy w' v.ownBlock → wpList Try.prog ops Q rest (a.put o.dst (.slice ao (xs.length + 1) cap)) w') :
    wpList Try.prog ops Q (o :: rest) a (w.alloc (.cells #[.int .i64 y, .int .i64 z] 27)) := by
  subst hm
  exact wpList_appendP hgd s x ho base v xs hs hown y z c hx hl hbase h
set_option maxHeartbeats 1000000 in
theorem specConvergentsOf_any (a b : Int) (w : World) : Calls Try.prog 22 #[.agg #[.int .i64 a, .int .i64 b]] w fun e w' => ∃ ao cap, e = .returned (.tuple #[.slice ao (convL a b).length cap, .int .i64 (termsC a b)]) ∧ OwnsP w' w.heap.size (.slice ao (convL a b).length cap) (convL a b) ∧ Below w.heap.size w w' := by
  have K := hide (cell2_new (w := w) (u := .int .i64 a) (v := .int .i64 b) 27)
  cases h : validR a b
  · have e : convL a b = [] := by unfold convL; rw [h]; rfl
    have e2 : termsC a b = 1 := by unfold termsC; rw [h]; rfl
    have HV := hide h
    rw [e, e2]
    clear e e2
    go_enter Try.func22, Try.ntmps22
    go_wp2_with fail
    refine (l02Ok_any a b _).mono ?_
    rintro e w1 ⟨rfl, b1⟩
    rw [HV.out]
    go_wp2_with fail
    go_ret2
    exact ⟨none, 0, rfl, OwnsP.none_, bstep (balloc (Below.refl _ _) _) b1⟩
  · have e : convL a b = convs (cf a b) (cf a b).length := by unfold convL; rw [h]; rfl
    have e2 : termsC a b = 0 := by unfold termsC; rw [h]; rfl
    have HV := hide h
    obtain ⟨v1, v2⟩ := validR_bd' h
    have hlen := cf_len a b
    have hpos : 0 < (cf a b).length := by rw [cf_pos (show 0 < b by omega)]; simp
    have HT := hide (cf_tail a b (by omega))
    have HI := hide (cf_in a b v1 (by omega))
    rw [e, e2]
    clear e e2
    go_enter Try.func22, Try.ntmps22
    go_wp2_with fail
    refine (l02Ok_any a b _).mono ?_
    rintro e w1 ⟨rfl, b1⟩
    rw [HV.out]
    obtain ⟨k0, k1, k2, k3⟩ := K.out.below b1
    have B1 := hide (bstep (balloc (Below.refl w.heap.size w) _) b1)
    clear b1
    go_wp2_with fail
    refine (l03Terms_any a b _ v1 v2).mono ?_
    rintro e w2 ⟨ao, cap, rfl, o2, b2⟩
    obtain ⟨L, hL⟩ : ∃ L, L = cf a b := ⟨_, rfl⟩
    rw [← hL] at o2 hpos hlen HT HI ⊢
    have HL := hide hL
    obtain ⟨_, hc1, hc2, g, rfl⟩ := o2.cap hpos
    unfold maxLen at hc2
    have R2 := hide o2.reads
    have B2 := hide (bstep B1.out b2)
    have O2 := hide (OwnsP.made_ (w := w2))
    have w1s := B1.out.size
    clear b2 k0 k1 k2 k3 o2 hL
    go_wp2_with fail
    go_loopw [5, 6] (fun s i wr => ∃ (k : Nat) (ao' : Option Addr) (cap' : Nat) (acc : List (Int × Int)), k ≤ L.length ∧ acc = convs L k ∧ s = .slice ao' acc.length cap' ∧ i = .int .i64 ((k + 1 : Nat) : Int) ∧ OwnsP wr w2.heap.size (.slice ao' acc.length cap') acc ∧ Below w2.heap.size w2 wr) (fun _ i _ => L.length + 1 - (intOf i).toNat)
    case atStart => exact ⟨0, some ⟨w2.heap.size, 0, none⟩, 0, [], by omega, rfl, rfl, rfl, O2.out, balloc (Below.refl _ _) _⟩
    case round =>
      obtain ⟨k, ao', cap', acc, hk, hacc, rfl, rfl, hown, hbel⟩ := hrel
      have HBL := hide hbel
      have HAC := hide hacc
      have hsz := hbel.size
      have hal : acc.length ≤ L.length := by rw [hacc, convs_len]; omega
      have HO := hide hown
      clear hacc hown
      by_cases hlt : k < L.length
      · have hlk : (L.take (k + 1)).length = k + 1 := by rw [List.length_take]; omega
        have HC := hide (fun w' (hr : ReadsI w' (some ⟨g, 0, none⟩) L) => l03Ratio_any _ (L.take (k + 1)) cap w' (hr.take _) (HT.out (k + 1) (by omega) (by omega)) (by rw [hlk]; omega) (fun j hj => by rw [hlk] at hj; rw [getD_take _ _ _ hj]; have := HI.out _ (getD_mem L j (by omega)); omega))
        rw [hlk] at HC
        have i0 : k + 1 ≤ cap := by omega
        have i1 : ((k + 1 : Nat) : Int) ≤ (L.length : Int) := by omega
        have i2 : ((k + 1 : Nat) : Int) ≤ (cap : Int) := by omega
        have i3 : (0 : Int) ≤ ((k + 1 : Nat) : Int) := by omega
        have HCS := hide (convs_succ L k)
        clear hlk hbel
        go_wp2_with fail
        refine (HC.out _ (R2.out.below HBL.out)).mono ?_
        rintro e w3 ⟨rfl, hb3⟩
        obtain ⟨r1, hr1⟩ : ∃ x, x = (rtR (L.take (k + 1))).1 := ⟨_, rfl⟩
        obtain ⟨r2, hr2⟩ : ∃ x, x = (rtR (L.take (k + 1))).2.1 := ⟨_, rfl⟩
        rw [← hr1, ← hr2] at HCS ⊢
        have B3 := hide (bstep HBL.out hb3)
        have O3 := hide ((HO.out.below hb3).below (balloc (Below.refl _ _) (.cells #[.int .i64 r1, .int .i64 r2] 27)))
        have hsz3 : w2.heap.size ≤ (w3.alloc (.cells #[.int .i64 r1, .int .i64 r2] 27)).heap.size := (balloc B3.out _).size
        clear hb3 hr1 hr2
        go_wp2_with (at_builtin; refine wpList_appendP' rfl _ _ rfl w2.heap.size _ acc rfl O3.out r1 r2 _ _ rfl (by simp) (by omega) hsz3 ?_; intro ao2 cap2 w4 hown2 hg2)
        go_roundw
        case rel =>
          exact ⟨k + 1, ao2, cap2, acc ++ [(r1, r2)], by omega, by rw [HCS.out, HAC.out], by simp, by go_num, by simpa using hown2, (balloc B3.out _).grown hg2 hsz3 (fun j hj => (HO.out.lt j hj).1)⟩
        case measure => simp [intOf]; omega
      · have e : k = L.length := by omega
        have e2 : acc = convs (cf a b) (cf a b).length := by rw [HAC.out, e, HL.out]
        clear hbel
        go_wp2_with fail
        go_ret2
        have ho := HO.out
        rw [e2] at ho
        exact ⟨ao', cap', by subst e2; rfl, ho.mono_base B2.out.size, bstep B2.out HBL.out⟩
theorem implConvRT (ao : Option Addr) (L : List Int) (cap : Nat) (w : World) (h : ReadsI w ao L) (ht : tailOk L = true) (hn : L.length ≤ 1000000000) (hcap : L.length ≤ cap ∧ cap ≤ maxLen) (hbd : ∀ j, j < L.length → -9223372036854775808 ≤ L.getD j 0 ∧ L.getD j 0 ≤ 9223372036854775807) :
    Calls Try.prog 20 #[.slice ao L.length cap] w fun e w' => e = .returned (.tuple #[.agg #[.int .i64 (rtR L).1, .int .i64 (rtR L).2.1], .int .i64 (codeOf (rtR L).2.2)]) ∧ Below w.heap.size w w' := by
  have := implRatioOfTerms_any ao L cap w h hn hcap hbd
  rw [(rt_t ht).1, (rt_t ht).2.1, (rt_t ht).2.2] at this
  exact this
set_option maxHeartbeats 1000000 in
theorem implConvergentsOf_any (a b : Int) (w : World) : Calls Try.prog 23 #[.agg #[.int .i64 a, .int .i64 b]] w fun e w' => ∃ ao cap, e = .returned (.tuple #[.slice ao (convL a b).length cap, .int .i64 (termsC a b)]) ∧ OwnsP w' w.heap.size (.slice ao (convL a b).length cap) (convL a b) ∧ Below w.heap.size w w' := by
  have K := hide (cell2_new (w := w) (u := .int .i64 a) (v := .int .i64 b) 27)
  cases h : validR a b
  · have e : convL a b = [] := by unfold convL; rw [h]; rfl
    have e2 : termsC a b = 1 := by unfold termsC; rw [h]; rfl
    have HV := hide h
    rw [e, e2]
    clear e e2
    go_enter Try.func23, Try.ntmps23
    go_wp2_with fail
    refine (implValidRatio_any a b _).mono ?_
    rintro e w1 ⟨rfl, b1⟩
    rw [HV.out]
    go_wp2_with fail
    go_ret2
    exact ⟨none, 0, rfl, OwnsP.none_, bstep (balloc (Below.refl _ _) _) b1⟩
  · have e : convL a b = convs (cf a b) (cf a b).length := by unfold convL; rw [h]; rfl
    have e2 : termsC a b = 0 := by unfold termsC; rw [h]; rfl
    have HV := hide h
    obtain ⟨v1, v2⟩ := validR_bd' h
    have hlen := cf_len a b
    have hpos : 0 < (cf a b).length := by rw [cf_pos (show 0 < b by omega)]; simp
    have HT := hide (cf_tail a b (by omega))
    have HI := hide (cf_in a b v1 (by omega))
    rw [e, e2]
    clear e e2
    go_enter Try.func23, Try.ntmps23
    go_wp2_with fail
    refine (implValidRatio_any a b _).mono ?_
    rintro e w1 ⟨rfl, b1⟩
    rw [HV.out]
    obtain ⟨k0, k1, k2, k3⟩ := K.out.below b1
    have B1 := hide (bstep (balloc (Below.refl w.heap.size w) _) b1)
    clear b1
    go_wp2_with fail
    refine (termsOf_any a b _ v1 v2).mono ?_
    rintro e w2 ⟨ao, cap, rfl, o2, b2⟩
    obtain ⟨L, hL⟩ : ∃ L, L = cf a b := ⟨_, rfl⟩
    rw [← hL] at o2 hpos hlen HT HI ⊢
    have HL := hide hL
    obtain ⟨_, hc1, hc2, g, rfl⟩ := o2.cap hpos
    unfold maxLen at hc2
    have R2 := hide o2.reads
    have B2 := hide (bstep B1.out b2)
    have O2 := hide (OwnsP.none_ (w := w2) (base := w2.heap.size))
    have w1s := B1.out.size
    clear b2 k0 k1 k2 k3 o2 hL
    go_wp2_with fail
    go_loopw [5, 16] (fun s i wr => ∃ (k : Nat) (ao' : Option Addr) (cap' : Nat) (acc : List (Int × Int)), k ≤ L.length ∧ acc = convs L k ∧ s = .slice ao' acc.length cap' ∧ i = .int .i64 (k : Int) ∧ OwnsP wr w2.heap.size (.slice ao' acc.length cap') acc ∧ Below w2.heap.size w2 wr) (fun _ i _ => L.length - (intOf i).toNat)
    case atStart => exact ⟨0, none, 0, [], by omega, rfl, rfl, rfl, O2.out, Below.refl _ _⟩
    case round =>
      obtain ⟨k, ao', cap', acc, hk, hacc, rfl, rfl, hown, hbel⟩ := hrel
      have HBL := hide hbel
      have HAC := hide hacc
      have hsz := hbel.size
      have hal : acc.length ≤ L.length := by rw [hacc, convs_len]; omega
      have HO := hide hown
      clear hacc hown
      by_cases hlt : k < L.length
      · have hlk : (L.take (k + 1)).length = k + 1 := by rw [List.length_take]; omega
        have HC := hide (fun w' (hr : ReadsI w' (some ⟨g, 0, none⟩) L) => implConvRT _ (L.take (k + 1)) cap w' (hr.take _) (HT.out (k + 1) (by omega) (by omega)) (by rw [hlk]; omega) ⟨by omega, by unfold maxLen; omega⟩ (fun j hj => by rw [hlk] at hj; rw [getD_take _ _ _ hj]; have := HI.out _ (getD_mem L j (by omega)); omega))
        rw [hlk] at HC
        have i0 : k + 1 ≤ cap := by omega
        have i1 : (k : Int) + 1 ≤ (cap : Int) := by omega
        have i2 : (0 : Int) ≤ (k : Int) + 1 := by omega
        have i3 : ((k : Int) + 1).toNat = k + 1 := by omega
        have HCS := hide (convs_succ L k)
        clear hlk hbel
        go_wp2_with fail
        refine (HC.out _ (R2.out.below HBL.out)).mono ?_
        rintro e w3 ⟨rfl, hb3⟩
        obtain ⟨r1, hr1⟩ : ∃ x, x = (rtR (L.take (k + 1))).1 := ⟨_, rfl⟩
        obtain ⟨r2, hr2⟩ : ∃ x, x = (rtR (L.take (k + 1))).2.1 := ⟨_, rfl⟩
        rw [← hr1, ← hr2] at HCS ⊢
        have B3 := hide (bstep HBL.out hb3)
        have O3 := hide ((HO.out.below hb3).below (balloc (Below.refl _ _) (.cells #[.int .i64 r1, .int .i64 r2] 27)))
        have hsz3 : w2.heap.size ≤ (w3.alloc (.cells #[.int .i64 r1, .int .i64 r2] 27)).heap.size := (balloc B3.out _).size
        clear hb3 hr1 hr2
        go_wp2_with (at_builtin; refine wpList_appendP' rfl _ _ rfl w2.heap.size _ acc rfl O3.out r1 r2 _ _ rfl (by simp) (by omega) hsz3 ?_; intro ao2 cap2 w4 hown2 hg2)
        go_roundw
        case rel =>
          exact ⟨k + 1, ao2, cap2, acc ++ [(r1, r2)], by omega, by rw [HCS.out, HAC.out], by simp, by go_num, by simpa using hown2, (balloc B3.out _).grown hg2 hsz3 (fun j hj => (HO.out.lt j hj).1)⟩
        case measure => simp [intOf]; omega
      · have e : k = L.length := by omega
        have e2 : acc = convs (cf a b) (cf a b).length := by rw [HAC.out, e, HL.out]
        clear hbel
        go_wp2_with fail
        go_ret2
        have ho := HO.out
        rw [e2] at ho
        exact ⟨ao', cap', by subst e2; rfl, ho.mono_base B2.out.size, bstep B2.out HBL.out⟩
end Go.Proofs.Ytjojeoehdocojaa
