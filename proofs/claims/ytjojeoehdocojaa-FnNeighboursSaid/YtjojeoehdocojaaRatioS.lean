/-
  Rows of ratios that the call owns: append, marking and holding.
-/
import Derived.Test.YtjojeoehdocojaaMem
namespace Go.Proofs.Ytjojeoehdocojaa
open Go.RowKit

/-- The cells of a list of pairs. -/
def flat (ps : List (Int × Int)) : List Value := ps.flatMap fun p => [.int .i64 p.1, .int .i64 p.2]
theorem flat_nil : flat [] = [] := rfl
theorem flat_cons (p : Int × Int) (ps : List (Int × Int)) : flat (p :: ps) = .int .i64 p.1 :: .int .i64 p.2 :: flat ps := rfl
theorem flat_len (ps : List (Int × Int)) : (flat ps).length = ps.length * 2 := by
  induction ps with
  | nil => rfl
  | cons p ps ih => rw [flat_cons]; simp only [List.length_cons, ih]; omega
theorem flat_get0 (ps : List (Int × Int)) (j : Nat) (h : j < ps.length) : (flat ps)[j * 2]? = some (.int .i64 (ps.getD j (0, 0)).1) := by
  induction ps generalizing j with
  | nil => simp at h
  | cons p ps ih =>
    rw [flat_cons]
    cases j with
    | zero => rfl
    | succ j =>
      rw [show (j + 1) * 2 = j * 2 + 1 + 1 by omega, List.getElem?_cons_succ, List.getElem?_cons_succ, ih j (by simpa using h)]
      rfl
theorem flat_get1 (ps : List (Int × Int)) (j : Nat) (h : j < ps.length) : (flat ps)[j * 2 + 1]? = some (.int .i64 (ps.getD j (0, 0)).2) := by
  induction ps generalizing j with
  | nil => simp at h
  | cons p ps ih =>
    rw [flat_cons]
    cases j with
    | zero => rfl
    | succ j =>
      rw [show (j + 1) * 2 + 1 = (j * 2 + 1) + 1 + 1 by omega, List.getElem?_cons_succ, List.getElem?_cons_succ, ih j (by simpa using h)]
      rfl
theorem flat_set (ps : List (Int × Int)) (j : Nat) (u v : Int) : ((flat ps).set (j * 2) (.int .i64 u)).set (j * 2 + 1) (.int .i64 v) = flat (ps.set j (u, v)) := by
  induction ps generalizing j with
  | nil => simp [flat_nil]
  | cons p ps ih =>
    rw [flat_cons]
    cases j with
    | zero => rfl
    | succ j =>
      rw [show (j + 1) * 2 + 1 = (j * 2 + 1) + 1 + 1 by omega, show (j + 1) * 2 = j * 2 + 1 + 1 by omega]
      simp only [List.set_cons_succ]
      rw [ih j, flat_cons]

/-- The slice with address ao reads as the pairs ps. -/
def ReadsP (w : World) (ao : Option Addr) (ps : List (Int × Int)) : Prop :=
  0 < ps.length → ∃ b off, ao = some ⟨b, off, none⟩ ∧ b < w.heap.size ∧ ∀ j, j < ps.length → w.cell? ⟨b, off + j * 2, none⟩ = some (.int .i64 (ps.getD j (0, 0)).1) ∧ w.cell? ⟨b, off + j * 2 + 1, none⟩ = some (.int .i64 (ps.getD j (0, 0)).2)
/-- An argument that is a slice of pairs. -/
def IsPairs (w : World) (a : Option Addr) (len _cap : Nat) (z : List (Int × Int)) : Prop := z.length = len ∧ len ≤ maxLen ∧ ReadsP w a z
/-- The slice value v owns the pairs ps, in a block from base on. -/
def OwnsP (w : World) (base : Nat) (v : Value) (ps : List (Int × Int)) : Prop := w.ownsRow base 27 2 v ps.length (flat ps)
theorem ReadsP.below {w w' : World} {ao : Option Addr} {ps : List (Int × Int)} (h : ReadsP w ao ps) (hb : Below w.heap.size w w') : ReadsP w' ao ps := fun hp => by
  obtain ⟨b, off, e, hlt, hc⟩ := h hp
  exact ⟨b, off, e, Nat.lt_of_lt_of_le hlt hb.size, fun j hj => ⟨(hb.cell (p := ⟨b, off + j * 2, none⟩) hlt).trans (hc j hj).1, (hb.cell (p := ⟨b, off + j * 2 + 1, none⟩) hlt).trans (hc j hj).2⟩⟩
theorem isPairs_nil {w : World} : IsPairs w none 0 0 [] := ⟨rfl, Nat.zero_le _, fun h => absurd h (by simp)⟩
theorem choose_list {α : Type} (n : Nat) (P : Nat → α → Prop) (d : α) (h : ∀ i, i < n → ∃ x, P i x) : ∃ l : List α, l.length = n ∧ ∀ i, i < n → P i (l.getD i d) := by
  induction n with
  | zero => exact ⟨[], rfl, by omega⟩
  | succ n ih =>
    obtain ⟨l, hl, hP⟩ := ih (fun i hi => h i (by omega))
    obtain ⟨x, hx⟩ := h n (by omega)
    refine ⟨l ++ [x], by simp [hl], fun i hi => ?_⟩
    rcases Nat.lt_succ_iff_lt_or_eq.1 hi with h1 | rfl
    · have := hP i h1
      rw [List.getD_eq_getElem?_getD, List.getElem?_append_left (by omega), ← List.getD_eq_getElem?_getD]
      exact this
    · rw [List.getD_eq_getElem?_getD, List.getElem?_append_right (by omega), hl]
      simpa using hx
theorem isPairs_of {w : World} {x : Addr} {len cap : Nat} (hl : len ≤ cap) (hm : cap ≤ maxLen)
    (h : ∀ i, i < len → ∃ n0 n1 : Int, w.cell? (x.add (i * 2)) = some (.int .i64 n0) ∧ w.cell? (x.add (i * 2 + 1)) = some (.int .i64 n1) ∧ (-9223372036854775808 ≤ n0 ∧ n0 ≤ 9223372036854775807) ∧ (-9223372036854775808 ≤ n1 ∧ n1 ≤ 9223372036854775807)) :
    ∃ z, IsPairs w (some x) len cap z := by
  obtain ⟨z, hz, hP⟩ := choose_list len (fun i (p : Int × Int) => w.cell? (x.add (i * 2)) = some (.int .i64 p.1) ∧ w.cell? (x.add (i * 2 + 1)) = some (.int .i64 p.2)) (0, 0) (fun i hi => by
    obtain ⟨n0, n1, h0, h1, _⟩ := h i hi
    exact ⟨(n0, n1), h0, h1⟩)
  refine ⟨z, hz, by omega, fun hp => ?_⟩
  obtain ⟨b, off, spot⟩ := x
  have hc := (hP 0 (by omega)).1
  have hspot : spot = none := by simpa [Addr.add] using World.cell?_spot hc
  subst hspot
  have hadd : ∀ n, (⟨b, off, none⟩ : Addr).add n = ⟨b, off + n, none⟩ := fun n => by unfold Addr.add; split <;> simp_all
  refine ⟨b, off, rfl, ?_, fun j hj => ?_⟩
  · have := World.block_lt_of_cell? w _ hc
    rw [hadd] at this
    exact this
  · have := hP j (by omega)
    rw [hadd, hadd] at this
    exact ⟨this.1, by rw [show off + j * 2 + 1 = off + (j * 2 + 1) by omega]; exact this.2⟩
section
variable {w w' : World} {base : Nat} {v : Value} {ps : List (Int × Int)}
theorem OwnsP.same {row : Option Nat} (h : OwnsP w base v ps) (hg : w.grownBy w' row) (hne : v.ownBlock = none ∨ v.ownBlock ≠ row) : OwnsP w' base v ps := World.ownsRow.kept h hg hne
theorem OwnsP.below (h : OwnsP w base v ps) (hb : Below w.heap.size w w') : OwnsP w' base v ps :=
  h.same (grown_of_below hb none) (by cases v.ownBlock <;> simp)
theorem OwnsP.lt (h : OwnsP w base v ps) : ∀ k, v.ownBlock = some k → base ≤ k ∧ k < w.heap.size := World.ownsRow.lt h
theorem OwnsP.form (h : OwnsP w base v ps) : (v = .slice none 0 0 ∧ ps = []) ∨ ∃ g cap, v = .slice (some ⟨g, 0, none⟩) ps.length cap ∧ base ≤ g ∧ g < w.heap.size ∧ ps.length ≤ cap ∧ cap ≤ maxLen := by
  rcases h.2 with ⟨h1, h2⟩ | ⟨g, cap, cur, h1, h2, h3, h4, h5, _⟩
  · exact .inl ⟨h1, List.eq_nil_of_length_eq_zero h2⟩
  · exact .inr ⟨g, cap, h1, h2, (Array.getElem?_eq_some_iff.1 h3).1, h4, h5⟩
theorem OwnsP.cell {g cap n : Nat} (h : OwnsP w base (.slice (some ⟨g, 0, none⟩) n cap) ps) (hn : n = ps.length) (j : Nat) (hj : j < ps.length) :
    w.cell? ⟨g, j * 2, none⟩ = some (.int .i64 (ps.getD j (0, 0)).1) ∧ w.cell? ⟨g, j * 2 + 1, none⟩ = some (.int .i64 (ps.getD j (0, 0)).2) := by
  subst hn
  exact ⟨(World.ownsRow.cellAt h (j * 2) (by omega)).trans (flat_get0 ps j hj), (World.ownsRow.cellAt h (j * 2 + 1) (by omega)).trans (flat_get1 ps j hj)⟩
theorem OwnsP.reads {ao : Option Addr} {n cap : Nat} (h : OwnsP w base (.slice ao n cap) ps) : ReadsP w ao ps := fun hp => by
  rcases h.form with ⟨_, h2⟩ | ⟨g, cap', h1, _, h3, _⟩
  · subst h2; simp at hp
  · simp only [Value.slice.injEq] at h1
    obtain ⟨rfl, rfl, rfl⟩ := h1
    refine ⟨g, 0, rfl, h3, fun j hj => ?_⟩
    have := h.cell rfl j hj
    simpa using this
theorem OwnsP.stored {g cap n : Nat} (h : OwnsP w base (.slice (some ⟨g, 0, none⟩) n cap) ps) (hn : n = ps.length) (j : Nat) (u x : Int) :
    OwnsP ((w.setCell ⟨g, j * 2, none⟩ (.int .i64 u)).setCell ⟨g, j * 2 + 1, none⟩ (.int .i64 x)) base (.slice (some ⟨g, 0, none⟩) n cap) (ps.set j (u, x)) ∧ w.grownBy ((w.setCell ⟨g, j * 2, none⟩ (.int .i64 u)).setCell ⟨g, j * 2 + 1, none⟩ (.int .i64 x)) (some g) := by
  subst hn
  have h1 := World.ownsRow.stored h (j * 2) (.int .i64 u)
  have h2 := World.ownsRow.stored h1.1 (j * 2 + 1) (.int .i64 x)
  refine ⟨?_, grown_step h1.2 h2.2⟩
  unfold OwnsP
  rw [List.length_set, ← flat_set]
  exact h2.1
theorem OwnsP.frozen {g cap n : Nat} (h : OwnsP w base (.slice (some ⟨g, 0, none⟩) n cap) ps) (hn : n = ps.length) (j : Nat) : w.frozen? ⟨g, j, none⟩ = false := by
  subst hn; exact World.ownsRow.frozenAt h j
end
theorem infoP : (Try.prog.info? 27).map (fun i => (i.zero, i.size, i.bytes)) = some (some (.agg #[.int .i64 0, .int .i64 0]), 2, 16) := by kernel_rfl
section
variable {w w' : World} {base : Nat} {v : Value} {ps : List (Int × Int)}
theorem OwnsP.none_ : OwnsP w base (.slice none 0 0) [] := World.ownsRow_nil _ _ _ _
theorem OwnsP.made_ : OwnsP (w.alloc (.cells #[] 27)) w.heap.size (.slice (some ⟨w.heap.size, 0, none⟩) 0 0) [] := World.ownsRow_lit w #[] 0 (Nat.le_refl _) (Nat.zero_le _) rfl
theorem OwnsP.len (h : OwnsP w base v ps) : ps.length ≤ maxLen := by
  rcases h.form with ⟨_, h2⟩ | ⟨g, cap, _, _, _, h4, h5⟩
  · subst h2; exact Nat.zero_le _
  · omega
theorem OwnsP.mono_base {B : Nat} (h : OwnsP w base v ps) (hb : B ≤ base) : OwnsP w B v ps := by
  refine ⟨h.1, ?_⟩
  rcases h.2 with h2 | ⟨g, cap, cur, h1, h2, h3⟩
  · exact .inl h2
  · exact .inr ⟨g, cap, cur, h1, Nat.le_trans hb h2, h3⟩
end
theorem flat_append (ps qs : List (Int × Int)) : flat (ps ++ qs) = flat ps ++ flat qs := by unfold flat; rw [List.flatMap_append]
theorem own_neP {w1 w2 : World} {base : Nat} {v0 v1 : Value} {xs ys : List (Int × Int)} (o1 : OwnsP w1 base v0 xs) (o2 : OwnsP w2 w1.heap.size v1 ys) : v0.ownBlock = none ∨ v0.ownBlock ≠ v1.ownBlock := by
  cases h : v0.ownBlock with
  | none => exact .inl rfl
  | some k =>
    refine .inr fun e => ?_
    have h1 := o1.lt k h
    have h2 := o2.lt k e.symm
    omega
theorem below_markP {a w w' : World} {w1 w2 : World} {v : Value} {xs : List (Int × Int)} (h : Below a.heap.size a w) (hg : w.grownBy w' v.ownBlock) (o : OwnsP w2 w1.heap.size v xs) (h1 : a.heap.size ≤ w1.heap.size) : Below a.heap.size a w' :=
  h.grown hg h.size (fun k hk => by have := o.lt k hk; omega)
/-- 'out = append(out, y)', out a row of pairs that the call owns. -/
theorem wpList_appendP {ops : Array Oper} {rest : List Oper} {o : Oper} {a : Act} {Q : Exit → Act → World → Prop} {w : World} (hgd : o.guard = none) (s x : Operand)
    (ho : o.op = .call { callee := .builtin .append, args := #[s, x], argTypes := #[37, 37] })
    (base : Nat) (v : Value) (xs : List (Int × Int)) (hs : a.eval s = v) (hown : OwnsP w base v xs) (y z : Int) (c : Nat) (hx : a.eval x = .slice (some ⟨w.heap.size, 0, none⟩) 1 c)
    (hl : xs.length ≤ 1000000000000) (hbase : base ≤ w.heap.size)
    (h : ∀ ao cap w', OwnsP w' base (.slice ao (xs.length + 1) cap) (xs ++ [(y, z)]) → w.grownBy w' v.ownBlock → wpList Try.prog ops Q rest (a.put o.dst (.slice ao (xs.length + 1) cap)) w') :
    wpList Try.prog ops Q (o :: rest) a (w.alloc (.cells #[.int .i64 y, .int .i64 z] 27)) := by
  obtain ⟨i0, hi, hz0, hz1, hz2⟩ := info_parts infoP
  refine wpList_append_own _ hgd s x 37 ho base 27 i0 (.agg #[.int .i64 0, .int .i64 0]) 2 16 (by rw [Try.underlying37]) hi hz0 hz1 hz2 rfl (by decide) v xs.length (flat xs) hs (World.ownsRow.alloc hown _) ⟨w.heap.size, 0, none⟩ 1 c [.int .i64 y, .int .i64 z] hx rfl ?_ ?_ ?_ ?_ ?_ ?_
  · intro j u hj
    match j, hj with
    | 0, hj => simp at hj; subst hj; simp [Addr.add]
    | 1, hj => simp at hj; subst hj; simp [Addr.add]
  · intro u hu
    simp at hu
    rcases hu with rfl | rfl <;> rfl
  · unfold maxLen; omega
  · omega
  · simp; omega
  · intro v' w' hown' hg _
    have hown'' : OwnsP w' base v' (xs ++ [(y, z)]) := by
      unfold OwnsP
      rw [flat_append]
      simpa [flat] using hown'
    have hg2 : w.grownBy w' v.ownBlock := grown_step (World.grownBy_alloc w _ _) hg
    rcases hown''.form with ⟨_, h2⟩ | ⟨g, cap, h2, _⟩
    · simp at h2
    · have e : v' = .slice (some ⟨g, 0, none⟩) (xs.length + 1) cap := by rw [h2]; simp
      subst e
      exact h _ _ _ hown'' hg2
/-- (k, k + 1), (k + 2, k + 3), .. : n of them. -/
def marksP (k : Int) (n : Nat) : List (Int × Int) := (List.range n).map fun i => (k + 2 * (i : Nat), k + 2 * (i : Nat) + 1)
theorem marksP_len (k : Int) (n : Nat) : (marksP k n).length = n := by simp [marksP]
theorem marksP_get (k : Int) (n j : Nat) (h : j < n) : (marksP k n).getD j (0, 0) = (k + 2 * j, k + 2 * j + 1) := by
  simp [marksP, h]
set_option maxHeartbeats 1000000 in
theorem markRatioS_any (v : Value) (xs : List (Int × Int)) (k : Int) (B : Nat) (w : World) (h : OwnsP w B v xs) (hk : 0 ≤ k ∧ k ≤ 1000) (hl : xs.length ≤ 1000000000000) :
    Calls Try.prog 25 #[v, .int .i64 k] w fun e w' => e = .returned (.int .i64 (k + 2 * (xs.length : Nat))) ∧ OwnsP w' B v (marksP k xs.length) ∧ w.grownBy w' v.ownBlock := by
  rcases h.form with ⟨rfl, rfl⟩ | ⟨g, cap, rfl, _, _, _, _⟩
  · go_enter Try.func25, Try.ntmps25
    go_wp2
    refine wp_loop_rounds 1 ?_
    rw [rounds_succ]
    go_wp2
    go_ret
    exact ⟨ret_int (by simp), h, World.grownBy.refl _ _⟩
  · go_enter Try.func25, Try.ntmps25
    go_wp2
    go_loopw [1, 5] (fun kv i wr => ∃ (j : Nat) (ys : List (Int × Int)), j ≤ xs.length ∧ ys.length = xs.length ∧ (∀ t, t < j → ys.getD t (0, 0) = (k + 2 * t, k + 2 * t + 1)) ∧ OwnsP wr B (.slice (some ⟨g, 0, none⟩) xs.length cap) ys ∧ w.grownBy wr (some g) ∧ kv = .int .i64 (k + 2 * j) ∧ i = .int .i64 j) (fun _ i _ => xs.length - (intOf i).toNat)
    case atStart => exact ⟨0, xs, by omega, rfl, by omega, h, World.grownBy.refl _ _, by simp, rfl⟩
    case round =>
      obtain ⟨j, ys, hj, hyl, hys, hown, hgr, rfl, rfl⟩ := hrel
      have HYL := hide hyl
      have HYS := hide hys
      have HG := hide hgr
      clear hyl hys hgr
      by_cases hlt : j < xs.length
      · obtain ⟨c0, c1⟩ := hown.cell HYL.out.symm j (by have := HYL.out; omega)
        have f0 := hown.frozen HYL.out.symm (j * 2)
        have f1 := hown.frozen HYL.out.symm (j * 2 + 1)
        have HO := hide hown
        clear hown
        go_wp2
        go_roundw
        case rel =>
          have hst := HO.out.stored HYL.out.symm j (k + 2 * j) (k + 2 * j + 1)
          refine ⟨j + 1, ys.set j (k + 2 * j, k + 2 * j + 1), by omega, by rw [List.length_set]; exact HYL.out, fun t ht => ?_, hst.1, grown_step HG.out hst.2, by first | (congr 1; omega) | omega, by go_num⟩
          rcases Nat.lt_succ_iff_lt_or_eq.1 ht with h1 | rfl
          · have := HYS.out t h1
            rw [← this]
            simp only [List.getD_eq_getElem?_getD]
            rw [List.getElem?_set_ne (by omega)]
          · simp [List.getElem?_set, HYL.out, hlt]
        case measure => simp [intOf]; omega
      · go_wp2
        go_ret
        have e : j = xs.length := by omega
        refine ⟨ret_int (by rw [e]), ?_, HG.out⟩
        have e2 : ys = marksP k xs.length := by
          apply List.ext_getElem (by rw [marksP_len]; exact HYL.out)
          intro t h1 h2
          have a1 := HYS.out t (by rw [marksP_len] at h2; omega)
          have a2 := marksP_get k xs.length t (by rw [marksP_len] at h2; omega)
          rw [← a2] at a1
          simpa [List.getD_eq_getElem?_getD, List.getElem?_eq_getElem h1, List.getElem?_eq_getElem h2] using a1
        rw [← e2]; exact hown
set_option maxHeartbeats 1000000 in
theorem heldRatioS_any (v : Value) (k : Int) (n : Nat) (B : Nat) (w : World) (h : OwnsP w B v (marksP k n)) (hk : 0 ≤ k ∧ k ≤ 1000) (hl : n ≤ 1000000000000) :
    Calls Try.prog 26 #[v, .int .i64 k] w fun e w' => e = .returned (.int .i64 (k + 2 * (n : Nat))) ∧ Below w.heap.size w w' := by
  rcases h.form with ⟨rfl, h0⟩ | ⟨g, cap, rfl, _, _, _, _⟩
  · have hn : n = 0 := by rw [← marksP_len k n, h0]; rfl
    subst hn
    go_enter Try.func26, Try.ntmps26
    go_wp2
    refine wp_loop_rounds 1 ?_
    rw [rounds_succ]
    go_wp2
    go_ret
    exact ⟨ret_int (by simp), Below.refl _ _⟩
  · have hc : ∀ j, j < n → w.cell? ⟨g, j * 2, none⟩ = some (.int .i64 (k + 2 * j)) ∧ w.cell? ⟨g, j * 2 + 1, none⟩ = some (.int .i64 (k + 2 * j + 1)) := fun j hj => by
      have := h.cell rfl j (by rw [marksP_len]; exact hj)
      rw [marksP_get k n j hj] at this
      exact this
    have HC := hide hc
    clear hc
    rw [marksP_len] at h ⊢
    go_enter Try.func26, Try.ntmps26
    go_wp2
    go_loop [1, 5] (fun kv i => ∃ j : Nat, j ≤ n ∧ kv = .int .i64 (k + 2 * j) ∧ i = .int .i64 j) (fun _ i => n - (intOf i).toNat)
    case atStart => exact ⟨0, by omega, by simp, rfl⟩
    case round =>
      obtain ⟨j, hj, rfl, rfl⟩ := hrel
      by_cases hlt : j < n
      · obtain ⟨c0, c1⟩ := HC.out j hlt
        have hne : (k + 2 * (j : Int) != k + 2 * (j : Int)) = false := by simp
        have hne1 : (k + 2 * (j : Int) + 1 != k + 2 * (j : Int) + 1) = false := by simp
        go_wp2
        go_round
        case rel => exact ⟨j + 1, by omega, by first | (congr 1; omega) | omega, by go_num⟩
        case measure => simp [intOf]; omega
      · go_wp2
        go_ret
        exact ⟨ret_int (by omega), Below.refl _ _⟩

end Go.Proofs.Ytjojeoehdocojaa
