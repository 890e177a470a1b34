/-
  Divisors: the contract of the program's function.
-/
import Derived.Test.YthagogjklocmoaaDivW
import Derived.Test.YthagogjklocmoaaPrimesW
import Derived.Test.YthagogjklocmoaaShelf
import Derived.Test.YthagogjklocmoaaInRows
import Derived.Sort.OwnSortedInts
import Derived.Laws.Rows
namespace Go.Proofs.Ythagogjklocmoaa
open Go.RowKit Go.Sort

/-- slices.Sort at a row of int64 that the call owns. -/
theorem sort_any (v : Value) (xs : List Int) (B : Nat) (w : World) (h : OwnsI w B v xs) (hz : xs.length ≤ 1000000000) :
    Calls Try.prog 42 #[v] w fun e w' => e = .returned (.tuple #[]) ∧ OwnsI w' B v (xs.mergeSort fun x y => decide (x ≤ y)) ∧ w.grownBy w' v.ownBlock := by
  have hlen := h.len
  have h' := h
  rcases h'.2 with ⟨h1, h2⟩ | ⟨g, cap, cur, h1, h2, h3, h4, h5, h6, h7⟩
  · have hx : xs = [] := List.eq_nil_of_length_eq_zero h2
    subst h1; subst hx
    refine (Try.slices_Sort_int_none none 0 w).mono ?_
    rintro e w' ⟨rfl, rfl⟩
    exact ⟨rfl, by simpa using h, World.grownBy.refl _ _⟩
  · subst h1
    unfold maxLen at hlen
    have hh : Holds (Value.int .i64) w g 0 xs.toArray := holds_of_blockI h3 (by simpa using h7)
    have hg : g < w.heap.size := (Array.getElem?_eq_some_iff.1 h3).1
    refine (Try.slices_Sort_int g 0 cap xs w hh hg (by omega)).mono ?_
    rintro e w' ⟨rfl, n, os, rfl⟩
    have hpl : (xs.mergeSort fun x y => decide (x ≤ y)).length = xs.length := (List.mergeSort_perm _ _).length_eq
    refine ⟨rfl, ?_, grownBy_sortedI _⟩
    unfold OwnsI
    rw [hpl]
    exact ownsRow_sortedI (os := os) (n := n) (ss := xs) (ts := xs.mergeSort fun x y => decide (x ≤ y)) hpl h2 h3 h4 h5 (by simpa using h6)
/-- 'make([]int64, 0, n)'. -/
theorem wpList_makeI {ops : Array Oper} {rest : List Oper} {o : Oper} {a : Act} {Q : Exit → Act → World → Prop} (w : World) (hgd : o.guard = none) (l c : Operand)
    (ho : o.op = .makeSlice 29 l c) (base : Nat) (C : Int) (n : Nat) (hl : a.eval l = .int .i64 0) (hc : a.eval c = .int .i64 C) (hC : C = (n : Int)) (hn : n ≤ 1000000000000) (hbase : base ≤ w.heap.size)
    (h : ∀ w', OwnsI w' base (.slice (some ⟨w.heap.size, 0, none⟩) 0 n) [] → w.grownBy w' none → wpList Try.prog ops Q rest (a.put o.dst (.slice (some ⟨w.heap.size, 0, none⟩) 0 n)) w') :
    wpList Try.prog ops Q (o :: rest) a w := by
  obtain ⟨i0, hi, hz0, hz1, hz2⟩ := info_parts infoI
  exact wpList_make_own w hgd l c 29 ho base 2 i0 _ 1 (by rw [Try.underlying29]) hi hz0 hz1 .i64 .i64 C n hl hc hC (by rw [hz2]; omega) (by unfold maxLen; omega) hbase h
/-- wpList_appendR where the row comes out not empty. -/
theorem wpList_appendRR {ops : Array Oper} {rest : List Oper} {o : Oper} {a : Act} {Q : Exit → Act → World → Prop} {w : World} (hgd : o.guard = none) (s x : Operand)
    (ho : o.op = .call { callee := .builtin .append, args := #[s, x], argTypes := #[29, 29] })
    (base : Nat) (v : Value) (xs : List Int) (hs : a.eval s = v) (hown : OwnsI w base v xs) (ad : Addr) (m c : Nat) (ys : List Int) (hx : a.eval x = .slice (some ad) m c) (hm : ys.length = m)
    (hnews : ∀ j, j < m → w.cell? (ad.add j) = some (.int .i64 (ys.getD j 0)))
    (hl : xs.length + m ≤ 1000000000000) (hp : 0 < m) (hbase : base ≤ w.heap.size) (l : Nat) (hll : l = xs.length)
    (h : ∀ g cap w', OwnsI w' base (.slice (some ⟨g, 0, none⟩) (l + m) cap) (xs ++ ys) → w.grownBy w' v.ownBlock → ((Value.slice (some ⟨g, 0, none⟩) (l + m) cap).ownBlock = v.ownBlock ∨ (Value.slice (some ⟨g, 0, none⟩) (l + m) cap).ownBlock = some w.heap.size) → wpList Try.prog ops Q rest (a.put o.dst (.slice (some ⟨g, 0, none⟩) (l + m) cap)) w') :
    wpList Try.prog ops Q (o :: rest) a w := by
  refine wpList_appendR hgd s x ho base v xs hs hown ad m c ys hx hm hnews hl hbase fun v' w' h1 h2 h3 => ?_
  rcases h1.form with ⟨_, h5⟩ | ⟨g, cap, h5, _⟩
  · have h6 : (xs ++ ys).length = 0 := by rw [h5]; rfl
    rw [List.length_append] at h6
    omega
  · have e : v' = .slice (some ⟨g, 0, none⟩) (l + m) cap := by rw [h5, List.length_append, hm, hll]
    subst e
    exact h _ _ _ h1 h2 h3
/-- The list behind the first i prime factors. -/
def pst (N : Int) (i : Nat) : List Int × Int × Nat := ((fac 2 N).take i).foldl divStep ([1], 0, 0)
theorem pst_succ {N : Int} {i : Nat} (h : i < (fac 2 N).length) : pst N (i + 1) = divStep (pst N i) ((fac 2 N).getD i 0) := by
  unfold pst
  rw [List.take_succ_eq_append_getElem h, List.foldl_append]
  simp [List.getD_eq_getElem?_getD, List.getElem?_eq_getElem h]
theorem prod_pow {xs : List Int} (h : ∀ x ∈ xs, 2 ≤ x) : (2 : Int) ^ xs.length ≤ prodI xs := by
  induction xs with
  | nil => simp [prodI]
  | cons y ys ih =>
    have h1 := ih fun x hx => h x (by simp [hx])
    have h2 := h y (by simp)
    have h3 : (0 : Int) < 2 ^ ys.length := Int.pow_pos (by omega)
    simp only [List.length_cons, prodI, Int.pow_succ]
    have : (2 : Int) * 2 ^ ys.length ≤ y * prodI ys := Int.mul_le_mul h2 h1 (by omega) (by omega)
    omega
theorem pst_len (N : Int) (i : Nat) : (((pst N i).1.length : Nat) : Int) ≤ 2 ^ (((fac 2 N).take i).length) := by
  unfold pst
  suffices h : ∀ (ps : List Int) (s : List Int × Int × Nat), ((ps.foldl divStep s).1.length : Int) ≤ (s.1.length : Int) * 2 ^ ps.length by
    have := h ((fac 2 N).take i) ([1], 0, 0)
    simpa using this
  intro ps
  induction ps with
  | nil => intro s; simp
  | cons p ps ih =>
    intro s
    have h1 := ih (divStep s p)
    have h2 : ((divStep s p).1.length : Int) ≤ (s.1.length : Int) * 2 := by
      unfold divStep
      simp only [List.length_append, List.length_map, List.length_drop]
      omega
    have h3 : (0 : Int) < 2 ^ ps.length := Int.pow_pos (by omega)
    have h4 : ((divStep s p).1.length : Int) * 2 ^ ps.length ≤ (s.1.length : Int) * 2 * 2 ^ ps.length := Int.mul_le_mul_of_nonneg_right h2 (by omega)
    simp only [List.foldl_cons, List.length_cons, Int.pow_succ]
    have e : (s.1.length : Int) * (2 ^ ps.length * 2) = (s.1.length : Int) * 2 * 2 ^ ps.length := by grind
    rw [e]
    omega
theorem pst_facts {N : Int} (hN : 1 ≤ N ∧ N ≤ 1000000000) {i : Nat} (hi : i ≤ (fac 2 N).length) :
    (∀ x ∈ (pst N i).1, 1 ≤ x ∧ x ≤ N) ∧ 1 ≤ (pst N i).1.length ∧ (((pst N i).1.length : Nat) : Int) ≤ 1000000000 ∧ (pst N i).2.2 ≤ (pst N i).1.length ∧ (2 ≤ (pst N i).2.1 → 1 ≤ (pst N i).2.2) := by
  obtain ⟨f1, f2, f3⟩ := fac_all 2 N (by omega) hN.1 (rough_two N)
  have hmem : ∀ q ∈ (fac 2 N).take i, q ∈ fac 2 N := fun q hq => List.mem_of_mem_take hq
  have h0 : DivInv ([1], 0, 0) 1 0 := by
    refine ⟨by omega, fun x => ?_, by simp, by simp, fun h => by simp at h⟩
    simp only [List.mem_singleton]
    constructor
    · rintro rfl; exact ⟨by omega, Int.dvd_refl _⟩
    · rintro ⟨a, b⟩
      have := Int.le_of_dvd (by omega) b
      omega
  obtain ⟨m0, h⟩ := div_go (ps := (fac 2 N).take i) h0 (fun q hq => (f2 q (hmem q hq)).2) (f3.sublist (List.take_sublist _ _)) (fun q hq => .inr fun d => by
    have := (f2 q (hmem q hq)).1
    have := Int.le_of_dvd (by omega) d
    omega) (fun q hq => by have := (f2 q (hmem q hq)).1; simp; omega)
  rw [Int.one_mul] at h
  have hmul : prodI ((fac 2 N).take i) * prodI ((fac 2 N).drop i) = N := by rw [← prodI_append, List.take_append_drop]; exact f1
  have hdv : prodI ((fac 2 N).take i) ∣ N := ⟨_, hmul.symm⟩
  have hle := Int.le_of_dvd (by omega) hdv
  have hpw := prod_pow (xs := (fac 2 N).take i) (fun x hx => (f2 x (hmem x hx)).1)
  have hpl := pst_len N i
  obtain ⟨g1, g2, g3, g4, g5⟩ := h
  refine ⟨fun x hx => ?_, ?_, by omega, g4, fun hl => ?_⟩
  · obtain ⟨a, b⟩ := (g2 x).1 hx
    have := Int.le_of_dvd (by omega) b
    exact ⟨a, by omega⟩
  · exact List.length_pos_of_mem ((g2 1).2 ⟨by omega, Int.one_dvd _⟩)
  · obtain ⟨k1, k2⟩ := g5 hl
    have hm := (k2 (prodI ((fac 2 N).take i))).2 ⟨g1, Int.dvd_refl _, fun hd => by
      have hm0 : 1 ≤ m0 := by
        rcases Int.lt_or_le 0 m0 with s | s
        · omega
        · have : m0 * (pst N i).2.1 ≤ 0 * (pst N i).2.1 := Int.mul_le_mul_of_nonneg_right s (by omega)
          unfold pst at this
          omega
      have hle2 := Int.le_of_dvd (by omega) hd
      have : m0 * 2 ≤ m0 * (pst N i).2.1 := Int.mul_le_mul_of_nonneg_left hl (by omega)
      unfold pst at this
      omega⟩
    have := List.length_pos_of_mem hm
    rw [List.length_drop] at this
    unfold pst
    omega
theorem divStep_eq {s : List Int × Int × Nat} {p : Int} {f : Nat} (hf : f = if p = s.2.1 then s.1.length - s.2.2 else 0) : divStep s p = (s.1 ++ (s.1.drop f).map (· * p), p, ((s.1.drop f).map (· * p)).length) := by
  rw [hf]; rfl
set_option maxHeartbeats 2000000 in
theorem divisorsOf_any (N : Int) (w : World) (hN : 1 ≤ N ∧ N ≤ 1000000000) : Calls Try.prog 35 #[.int .i64 N] w (DivPost N w) := by
  have O1 : OwnsI (w.alloc (.cells #[.int .i64 1] 2)) w.heap.size (.slice (some ⟨w.heap.size, 0, none⟩) 1 1) [1] := World.ownsRow_lit w #[.int .i64 1] 1 (Nat.le_refl _) (by unfold maxLen; omega) rfl
  have HO1 := hide O1
  have B0 := hide (balloc (Below.refl w.heap.size w) (.cells #[.int .i64 1] 2))
  have hfl := fac_len 2 N hN.1
  have HF := hide (fun i (hi : i ≤ (fac 2 N).length) => pst_facts hN hi)
  have HP := hide (fun q (hq : q ∈ fac 2 N) => (fac_all 2 N (by omega) hN.1 (rough_two N)).2.1 q hq)
  have HPD := hide (fun q (hq : q ∈ fac 2 N) => Int.le_of_dvd (show 0 < N by omega) (by have h1 := (fac_all 2 N (by omega) hN.1 (rough_two N)).1; have h2 := dvd_of_mem_prodI hq; rw [h1] at h2; exact h2))
  have HS := hide (fun i (hi : i < (fac 2 N).length) => pst_succ (N := N) hi)
  have HZ := hide (show pst N 0 = ([1], 0, 0) by unfold pst; simp)
  clear O1
  go_enter Try.func35, Try.ntmps35
  go_wp2_with fail
  refine (primesOf_any N _ hN).mono ?_
  rintro e w1 ⟨ao, cp, rfl, of, hb1⟩
  have HOF := hide (of.mono_base' (B' := w.heap.size) (by simp))
  have HAF : Hid (Apart (.slice ao (fac 2 N).length cp) (.slice (some ⟨w.heap.size, 0, none⟩) 1 1)) := hide (by
    cases hb : Value.ownBlock (.slice ao (fac 2 N).length cp) with
    | none => exact .inl hb
    | some k =>
      have := (of.lt k hb).1
      exact .inr (by rw [hb]; simp [Value.ownBlock] at this ⊢; omega))
  have HO2 := hide (HO1.out.below hb1)
  have B1 := hide (bstep B0.out hb1)
  have hsz1 : w.heap.size < w1.heap.size := by have := hb1.size; simp at this; omega
  obtain ⟨n, hn⟩ : ∃ n, n = (fac 2 N).length := ⟨_, rfl⟩
  rw [← hn] at hfl
  have HNL := hide hn
  have HNN := hide (show (fac 2 N).length = n from hn.symm)
  rw [HNN.out] at HOF HAF ⊢
  clear hb1 of hn
  go_wp2_with fail
  go_loopw [3, 4, 5, 7, 8, 9, 11, 16] (fun s3 s4 s5 _ _ _ _ s16 wr => ∃ (i l fr : Nat) (last : Int) (L : List Int) (g cap : Nat), i ≤ n ∧ s16 = .int .i64 (i : Int) ∧ s3 = .slice (some ⟨g, 0, none⟩) l cap ∧ s4 = .int .i64 last ∧ s5 = .int .i64 (fr : Int) ∧
      L = (pst N i).1 ∧ last = (pst N i).2.1 ∧ fr = (pst N i).2.2 ∧ l = L.length ∧ OwnsI wr w.heap.size (.slice (some ⟨g, 0, none⟩) l cap) L ∧ OwnsI wr w.heap.size (.slice ao n cp) (fac 2 N) ∧ Apart (.slice ao n cp) (.slice (some ⟨g, 0, none⟩) l cap) ∧ Below w.heap.size w wr) (fun _ _ _ _ _ _ _ s16 _ => n - (intOf s16).toNat)
  case atStart => exact ⟨0, 1, 0, 0, [1], w.heap.size, 1, by omega, rfl, rfl, rfl, rfl, by rw [HZ.out], by rw [HZ.out], by rw [HZ.out], rfl, HO2.out, HOF.out, HAF.out, B1.out⟩
  case round =>
    obtain ⟨i, l, fr, last, L, g, cap, hi, rfl, rfl, rfl, rfl, hL, hlast, hfr, hl, hown, hr, hap, hbel⟩ := hrel
    have HAP := hide hap
    obtain ⟨wo, hwo⟩ : ∃ wo : World, wo = wr := ⟨_, rfl⟩
    subst hwo
    have HO := hide hown
    have HB := hide hbel
    have HR := hide hr
    have hsz := hbel.size
    obtain ⟨p1, p2, p3, p4, p5⟩ := HF.out i (by have := HNL.out; omega)
    rw [← hL] at p1 p2 p3 p4
    rw [← hlast] at p5
    rw [← hfr] at p4 p5
    rw [← hl] at p2 p3 p4
    have P1 := hide p1
    have P5 := hide p5
    have HL := hide hL
    have HLA := hide hlast
    have HFR := hide hfr
    have HLL := hide hl
    have hcap : l ≤ cap := by
      rcases hown.form with ⟨h, _⟩ | ⟨g', cap', h, _, _, h3, _⟩
      · cases h
      · cases h; omega
    have hcm : cap ≤ maxLen := by
      rcases hown.form with ⟨h, _⟩ | ⟨g', cap', h, _, _, h3, h4⟩
      · cases h
      · cases h; exact h4
    unfold maxLen at hcm
    clear hL hlast hfr hl hown hbel hap p1 p5
    by_cases hlt : i < n
    · obtain ⟨b2, rfl⟩ : ∃ b2, ao = some ⟨b2, 0, none⟩ := by
        rcases hr.form with ⟨h, h0⟩ | ⟨g', cap', h, _⟩
        · rw [h0] at HNL; have := HNL.out; simp at this; omega
        · cases h; exact ⟨g', rfl⟩
      have c0 := hr.cell HNL.out i (by have := HNL.out; omega)
      obtain ⟨p, hp⟩ : ∃ p, p = (fac 2 N).getD i 0 := ⟨_, rfl⟩
      rw [← hp] at c0
      have hpm : p ∈ fac 2 N := by
        rw [hp, List.getD_eq_getElem?_getD, List.getElem?_eq_getElem (by have := HNL.out; omega)]
        exact List.getElem_mem _
      have hpp := HP.out p hpm
      have hpn := HPD.out p hpm
      have hp2 : 2 ≤ p := hpp.1
      have HPP := hide hp
      have HST := hide (HS.out i (by have := HNL.out; omega))
      clear hr hp hpm hpp
      by_cases hpl : p = last
      · have hq : (p == last) = true := by simpa using hpl
        have hfr1 : 1 ≤ fr := P5.out (by omega)
        obtain ⟨f, hf0⟩ : ∃ f, f = l - fr := ⟨_, rfl⟩
        have hf : f = if p = (pst N i).2.1 then (pst N i).1.length - (pst N i).2.2 else 0 := by rw [if_pos (by rw [← HLA.out]; exact hpl), ← HFR.out, ← HL.out, ← HLL.out]; exact hf0
        have hfi : (l : Int) - (fr : Int) = (f : Int) := by omega
        have hfl2 : f + 1 ≤ l := by omega
        have HPL := hide hpl
        clear hpl hf0
        have HFF := hide hf
        clear hf
        go_wp2_with (first
          | (at_make; refine wpList_makeI _ rfl _ _ rfl wo.heap.size _ (l - f) rfl rfl (by omega) (by omega) (Nat.le_refl _) ?_; intro w1 hown1 hg1; have M1 := hide hown1; have LA := hide (HO.out.same hg1 (by cases h : Value.ownBlock (.slice (some ⟨g, 0, none⟩) l cap) <;> simp)); have RA := hide (HR.out.same hg1 (by cases h : Value.ownBlock (.slice (some ⟨b2, 0, none⟩) n cp) <;> simp)); have BA := hide (HB.out.grown hg1 hsz (by simp)); have SZ := hide hg1.size; clear hown1 hg1))
        go_loopw [9, 11, 36] (fun s9 _ s36 wr' => ∃ (j : Nat) (ms : List Int) (a9 : Option Addr) (p9 : Nat), j ≤ (l - f) ∧ s36 = .int .i64 (j : Int) ∧ s9 = .slice a9 ms.length p9 ∧ ms = ((L.drop f).take j).map (· * p) ∧
            OwnsI wr' wo.heap.size (.slice a9 ms.length p9) ms ∧ OwnsI wr' w.heap.size (.slice (some ⟨g, 0, none⟩) l cap) L ∧ OwnsI wr' w.heap.size (.slice (some ⟨b2, 0, none⟩) n cp) (fac 2 N) ∧ Apart (.slice (some ⟨g, 0, none⟩) l cap) (.slice a9 ms.length p9) ∧ Apart (.slice (some ⟨b2, 0, none⟩) n cp) (.slice a9 ms.length p9) ∧ Below w.heap.size w wr' ∧ wo.heap.size ≤ wr'.heap.size)
            (fun _ _ s36 _ => (l - f) - (intOf s36).toNat)
        case atStart =>
          refine ⟨0, [], some ⟨wo.heap.size, 0, none⟩, (l - f), by omega, rfl, rfl, by simp, M1.out, LA.out, RA.out, ?_, ?_, BA.out, SZ.out⟩
          · exact .inr (by have := (HO.out.lt g (by simp [Value.ownBlock])).2; simp [Value.ownBlock]; omega)
          · exact .inr (by have := (HR.out.lt b2 (by simp [Value.ownBlock])).2; simp [Value.ownBlock]; omega)
        case round =>
          obtain ⟨j, ms, a9, p9, hj, rfl, rfl, hms, om, ol, orr, ap1, ap2, hbb, hbase9⟩ := hrel
          have OM := hide om
          have OL := hide ol
          have ORR := hide orr
          have AP1 := hide ap1
          have AP2 := hide ap2
          have HBB := hide hbb
          have hszz := hbb.size
          have hmb : ms.length = j := by rw [hms, List.length_map, List.length_take, List.length_drop]; have := HLL.out; omega
          have HMS := hide hms
          have HMB := hide hmb
          have hml : ms.length ≤ 1000000000 := by omega
          have cL := hide (fun j hj => ol.cell HLL.out j hj)
          clear hms hmb om ol orr ap1 ap2 hbb
          by_cases hjl : j < (l - f)
          · have c1 := cL.out (f + j) (by have := HLL.out; omega)
            obtain ⟨d, hd⟩ : ∃ d, d = L.getD (f + j) 0 := ⟨_, rfl⟩
            rw [← hd] at c1
            have hdb := P1.out d (by rw [hd, List.getD_eq_getElem?_getD, List.getElem?_eq_getElem (by have := HLL.out; omega)]; exact List.getElem_mem _)
            have hmul : 0 ≤ d * p ∧ d * p ≤ 1000000000000000000 := by
              refine ⟨Int.mul_nonneg (by omega) (by omega), ?_⟩
              have : d * p ≤ 1000000000 * 1000000000 := Int.mul_le_mul (by omega) (by omega) (by omega) (by omega)
              omega
            have HDD := hide hd
            clear hd
            go_wp2_with (at_builtin; refine wpList_append2 rfl (.tmp 40) (.tmp 44) rfl wo.heap.size _ ms rfl OM.out (d * p) _ rfl hml hbase9 ?_; intro ao2 cap2 w2 hown2 hg2 hsep2)
            go_roundw
            case rel =>
              refine ⟨j + 1, ms ++ [d * p], ao2, cap2, by omega, by go_num, by simp, ?_, by simpa using hown2, OL.out.same hg2 AP1.out, ORR.out.same hg2 AP2.out, ?_, ?_, HBB.out.grown hg2 hszz (fun k hk => by have := (OM.out.lt k hk).1; omega), Nat.le_trans hbase9 hg2.size⟩
              · have hjj : j < (L.drop f).length := by rw [List.length_drop]; have := HLL.out; omega
                rw [HMS.out, HDD.out, List.take_succ_eq_append_getElem hjj, List.map_append, List.getElem_drop, List.getD_eq_getElem?_getD, List.getElem?_eq_getElem (by have := HLL.out; omega)]
                simp
              · have := hsep2 _ _ _ OL.out AP1.out
                simpa using this
              · have := hsep2 _ _ _ ORR.out AP2.out
                simpa using this
            case measure => simp only [intOf]; omega
          · have hje : j = (l - f) := by omega
            have hpos : 0 < ms.length := by have := HMB.out; omega
            have HFULL : Hid (ms = (L.drop f).map (· * p)) := hide (by rw [HMS.out, List.take_of_length_le (by rw [List.length_drop]; have := HLL.out; omega)])
            obtain ⟨g9, rfl⟩ : ∃ g9, a9 = some ⟨g9, 0, none⟩ := by
              rcases OM.out.form with ⟨h, h0⟩ | ⟨g', cap', h, _⟩
              · rw [h0] at hpos; simp at hpos
              · cases h; exact ⟨g', rfl⟩
            obtain ⟨mm, hmm⟩ : ∃ mm, mm = ms.length := ⟨_, rfl⟩
            have HMM := hide hmm
            rw [← hmm] at OM AP1 AP2 hpos ⊢
            have hmm2 : mm ≤ 1000000000 := by rw [hmm]; exact hml
            have CN := hide (fun j (hj : j < mm) => OM.out.cell HMM.out j (by have := HMM.out; omega))
            have CNN := hide (fun j (hj : j < mm) => show wr.cell? ((⟨g9, 0, none⟩ : Addr).add j) = some (.int .i64 (ms.getD j 0)) by
              have hadd : (⟨g9, 0, none⟩ : Addr).add j = ⟨g9, 0 + j, none⟩ := by unfold Addr.add; split <;> simp_all
              rw [hadd, Nat.zero_add]
              exact CN.out j hj)
            have HL2 : Hid (L.length = l) := hide HLL.out.symm
            have hl2 : l ≤ 1000000000 := by omega
            clear hmm hml
            go_wp2_with (at_builtin; refine wpList_appendRR rfl (.tmp 47) (.tmp 48) rfl w.heap.size _ L rfl OL.out ⟨g9, 0, none⟩ mm p9 ms rfl HMM.out.symm CNN.out (by have := HL2.out; omega) hpos hszz l HLL.out ?_; intro g3 cap3 w3 hown3 hg3 hsep3)
            go_roundw
            case rel =>
              have hds := divStep_eq (s := pst N i) (p := p) (f := f) HFF.out
              have hst := HST.out
              rw [← HPP.out, hds] at hst
              refine ⟨i + 1, l + mm, mm, p, L ++ ms, g3, cap3, by omega, by go_num, rfl, rfl, rfl, ?_, ?_, ?_, ?_, hown3, ORR.out.same hg3 HAP.out, apart_next ORR.out HAP.out hsep3, HBB.out.grown hg3 hszz (fun k hk => (OL.out.lt k hk).1)⟩
              · rw [hst, HFULL.out, HL.out]
              · rw [hst]
              · rw [hst, HMM.out, HFULL.out, HL.out]
              · rw [List.length_append, HL2.out, HMM.out]
            case measure => simp only [intOf]; omega
      · have hq : (p == last) = false := by simpa using hpl
        have hf : 0 = if p = (pst N i).2.1 then (pst N i).1.length - (pst N i).2.2 else 0 := by rw [if_neg (by rw [← HLA.out]; exact hpl)]
        have HPL := hide hpl
        clear hpl
        have HFF := hide hf
        clear hf
        go_wp2_with (first
          | (at_make; refine wpList_makeI _ rfl _ _ rfl wo.heap.size _ l rfl rfl (by omega) (by omega) (Nat.le_refl _) ?_; intro w1 hown1 hg1; have M1 := hide hown1; have LA := hide (HO.out.same hg1 (by cases h : Value.ownBlock (.slice (some ⟨g, 0, none⟩) l cap) <;> simp)); have RA := hide (HR.out.same hg1 (by cases h : Value.ownBlock (.slice (some ⟨b2, 0, none⟩) n cp) <;> simp)); have BA := hide (HB.out.grown hg1 hsz (by simp)); have SZ := hide hg1.size; clear hown1 hg1))
        go_loopw [9, 11, 36] (fun s9 _ s36 wr' => ∃ (j : Nat) (ms : List Int) (a9 : Option Addr) (p9 : Nat), j ≤ l ∧ s36 = .int .i64 (j : Int) ∧ s9 = .slice a9 ms.length p9 ∧ ms = ((L.drop 0).take j).map (· * p) ∧
            OwnsI wr' wo.heap.size (.slice a9 ms.length p9) ms ∧ OwnsI wr' w.heap.size (.slice (some ⟨g, 0, none⟩) l cap) L ∧ OwnsI wr' w.heap.size (.slice (some ⟨b2, 0, none⟩) n cp) (fac 2 N) ∧ Apart (.slice (some ⟨g, 0, none⟩) l cap) (.slice a9 ms.length p9) ∧ Apart (.slice (some ⟨b2, 0, none⟩) n cp) (.slice a9 ms.length p9) ∧ Below w.heap.size w wr' ∧ wo.heap.size ≤ wr'.heap.size)
            (fun _ _ s36 _ => l - (intOf s36).toNat)
        case atStart =>
          refine ⟨0, [], some ⟨wo.heap.size, 0, none⟩, l, by omega, rfl, rfl, by simp, M1.out, LA.out, RA.out, ?_, ?_, BA.out, SZ.out⟩
          · exact .inr (by have := (HO.out.lt g (by simp [Value.ownBlock])).2; simp [Value.ownBlock]; omega)
          · exact .inr (by have := (HR.out.lt b2 (by simp [Value.ownBlock])).2; simp [Value.ownBlock]; omega)
        case round =>
          obtain ⟨j, ms, a9, p9, hj, rfl, rfl, hms, om, ol, orr, ap1, ap2, hbb, hbase9⟩ := hrel
          have OM := hide om
          have OL := hide ol
          have ORR := hide orr
          have AP1 := hide ap1
          have AP2 := hide ap2
          have HBB := hide hbb
          have hszz := hbb.size
          have hmb : ms.length = j := by rw [hms, List.length_map, List.length_take, List.length_drop]; have := HLL.out; omega
          have HMS := hide hms
          have HMB := hide hmb
          have hml : ms.length ≤ 1000000000 := by omega
          have cL := hide (fun j hj => ol.cell HLL.out j hj)
          clear hms hmb om ol orr ap1 ap2 hbb
          by_cases hjl : j < l
          · have c1 := cL.out j (by have := HLL.out; omega)
            obtain ⟨d, hd⟩ : ∃ d, d = L.getD j 0 := ⟨_, rfl⟩
            rw [← hd] at c1
            have hdb := P1.out d (by rw [hd, List.getD_eq_getElem?_getD, List.getElem?_eq_getElem (by have := HLL.out; omega)]; exact List.getElem_mem _)
            have hmul : 0 ≤ d * p ∧ d * p ≤ 1000000000000000000 := by
              refine ⟨Int.mul_nonneg (by omega) (by omega), ?_⟩
              have : d * p ≤ 1000000000 * 1000000000 := Int.mul_le_mul (by omega) (by omega) (by omega) (by omega)
              omega
            have HDD := hide hd
            clear hd
            go_wp2_with (at_builtin; refine wpList_append2 rfl (.tmp 40) (.tmp 44) rfl wo.heap.size _ ms rfl OM.out (d * p) _ rfl hml hbase9 ?_; intro ao2 cap2 w2 hown2 hg2 hsep2)
            go_roundw
            case rel =>
              refine ⟨j + 1, ms ++ [d * p], ao2, cap2, by omega, by go_num, by simp, ?_, by simpa using hown2, OL.out.same hg2 AP1.out, ORR.out.same hg2 AP2.out, ?_, ?_, HBB.out.grown hg2 hszz (fun k hk => by have := (OM.out.lt k hk).1; omega), Nat.le_trans hbase9 hg2.size⟩
              · have hjj : j < (L.drop 0).length := by rw [List.length_drop]; have := HLL.out; omega
                rw [HMS.out, HDD.out, List.take_succ_eq_append_getElem hjj, List.map_append, List.getElem_drop, List.getD_eq_getElem?_getD, List.getElem?_eq_getElem (by have := HLL.out; omega)]
                simp
              · have := hsep2 _ _ _ OL.out AP1.out
                simpa using this
              · have := hsep2 _ _ _ ORR.out AP2.out
                simpa using this
            case measure => simp only [intOf]; omega
          · have hje : j = l := by omega
            have hpos : 0 < ms.length := by have := HMB.out; omega
            have HFULL : Hid (ms = (L.drop 0).map (· * p)) := hide (by rw [HMS.out, List.take_of_length_le (by rw [List.length_drop]; have := HLL.out; omega)])
            obtain ⟨g9, rfl⟩ : ∃ g9, a9 = some ⟨g9, 0, none⟩ := by
              rcases OM.out.form with ⟨h, h0⟩ | ⟨g', cap', h, _⟩
              · rw [h0] at hpos; simp at hpos
              · cases h; exact ⟨g', rfl⟩
            obtain ⟨mm, hmm⟩ : ∃ mm, mm = ms.length := ⟨_, rfl⟩
            have HMM := hide hmm
            rw [← hmm] at OM AP1 AP2 hpos ⊢
            have hmm2 : mm ≤ 1000000000 := by rw [hmm]; exact hml
            have CN := hide (fun j (hj : j < mm) => OM.out.cell HMM.out j (by have := HMM.out; omega))
            have CNN := hide (fun j (hj : j < mm) => show wr.cell? ((⟨g9, 0, none⟩ : Addr).add j) = some (.int .i64 (ms.getD j 0)) by
              have hadd : (⟨g9, 0, none⟩ : Addr).add j = ⟨g9, 0 + j, none⟩ := by unfold Addr.add; split <;> simp_all
              rw [hadd, Nat.zero_add]
              exact CN.out j hj)
            have HL2 : Hid (L.length = l) := hide HLL.out.symm
            have hl2 : l ≤ 1000000000 := by omega
            clear hmm hml
            go_wp2_with (at_builtin; refine wpList_appendRR rfl (.tmp 47) (.tmp 48) rfl w.heap.size _ L rfl OL.out ⟨g9, 0, none⟩ mm p9 ms rfl HMM.out.symm CNN.out (by have := HL2.out; omega) hpos hszz l HLL.out ?_; intro g3 cap3 w3 hown3 hg3 hsep3)
            go_roundw
            case rel =>
              have hds := divStep_eq (s := pst N i) (p := p) (f := 0) HFF.out
              have hst := HST.out
              rw [← HPP.out, hds] at hst
              refine ⟨i + 1, l + mm, mm, p, L ++ ms, g3, cap3, by omega, by go_num, rfl, rfl, rfl, ?_, ?_, ?_, ?_, hown3, ORR.out.same hg3 HAP.out, apart_next ORR.out HAP.out hsep3, HBB.out.grown hg3 hszz (fun k hk => (OL.out.lt k hk).1)⟩
              · rw [hst, HFULL.out, HL.out]
              · rw [hst]
              · rw [hst, HMM.out, HFULL.out, HL.out]
              · rw [List.length_append, HL2.out, HMM.out]
            case measure => simp only [intOf]; omega
    · have hin : i = n := by omega
      have hl2 : L.length ≤ 1000000000 := by rw [← HLL.out]; omega
      have HRAW : Hid (L = divRaw N) := hide (by rw [HL.out, hin]; unfold pst divRaw; rw [← HNN.out, List.take_length])
      clear hin hr
      go_wp2_with fail
      refine (sort_any _ L w.heap.size _ HO.out hl2).mono ?_
      rintro e w2 ⟨rfl, hs, hg2⟩
      go_wp2_with fail
      go_ret
      obtain ⟨k, hk1, hk2⟩ := root_exists N (by omega)
      have hperm := List.mergeSort_perm L (fun x y : Int => decide (x ≤ y))
      have hsort : (L.mergeSort fun x y => decide (x ≤ y)).Pairwise (· ≤ ·) := by
        have h := List.pairwise_mergeSort (le := fun x y : Int => decide (x ≤ y)) (fun a b c h1 h2 => decide_eq_true (Int.le_trans (of_decide_eq_true h1) (of_decide_eq_true h2))) (fun a b => by first | (simp; done) | (simp; omega)) L
        exact h.imp fun h => by simpa using h
      have hsame := div_same (by omega) hk1 hk2 (hperm.trans (by rw [HRAW.out])) hsort
      have hlen : (L.mergeSort fun x y => decide (x ≤ y)).length = l := by rw [hperm.length_eq]; exact HLL.out.symm
      have hkb : k ≤ 40000 := by
        rcases Nat.lt_or_ge 40000 k with s | s
        · exfalso
          have : (40000 : Int) * 40000 ≤ (k : Int) * k := Int.mul_le_mul (by omega) (by omega) (by omega) (by omega)
          omega
        · exact s
      refine ⟨L.mergeSort fun x y => decide (x ≤ y), some ⟨g, 0, none⟩, cap, ⟨k, hk1, hk2, hsame⟩, ?_, ret_slice hlen.symm, by rw [hlen]; exact hs, HB.out.grown hg2 hsz (fun k hk => (HO.out.lt k hk).1)⟩
      rw [hsame]
      have h1 := lowD_len N k
      have h2 := highD_len N k
      unfold divAll
      rw [List.length_append, List.length_reverse]
      omega
end Go.Proofs.Ythagogjklocmoaa
