/-
  Rows of pairs that the call owns: append, marking and holding.
-/
import Derived.Test.YtnfllflifmijeaaPairsW
import Derived.Test.YtnfllflifmijeaaTrain
namespace Go.Proofs.Ytnfllflifmijeaa
open Go.RowKit

section
variable {w w' : World} {base : Nat} {v : Value} {ps : List (Int × Int)}
theorem OwnsP.none_ : OwnsP w base (.slice none 0 0) [] := World.ownsRow_nil _ _ _ _
theorem OwnsP.made_ : OwnsP (w.alloc (.cells #[] 63)) w.heap.size (.slice (some ⟨w.heap.size, 0, none⟩) 0 0) [] := World.ownsRow_lit w #[] 0 (Nat.le_refl _) (Nat.zero_le _) rfl
theorem OwnsP.len (h : OwnsP w base v ps) : ps.length ≤ maxLen := by
  rcases h.form with ⟨_, h2⟩ | ⟨g, cap, _, _, _, h4, h5⟩
  · subst h2; exact Nat.zero_le _
  · omega
theorem OwnsP.mono_base {B : Nat} (h : OwnsP w base v ps) (hb : B ≤ base) : OwnsP w B v ps := by
  refine ⟨h.1, ?_⟩
  rcases h.2 with h2 | ⟨g, cap, cur, h1, h2, h3⟩
  · exact .inl h2
  · exact .inr ⟨g, cap, cur, h1, Nat.le_trans hb h2, h3⟩
end
theorem flat_append (ps qs : List (Int × Int)) : flat (ps ++ qs) = flat ps ++ flat qs := by unfold flat; rw [List.flatMap_append]
theorem own_neP {w1 w2 : World} {base : Nat} {v0 v1 : Value} {xs ys : List (Int × Int)} (o1 : OwnsP w1 base v0 xs) (o2 : OwnsP w2 w1.heap.size v1 ys) : v0.ownBlock = none ∨ v0.ownBlock ≠ v1.ownBlock := by
  cases h : v0.ownBlock with
  | none => exact .inl rfl
  | some k =>
    refine .inr fun e => ?_
    have h1 := o1.lt k h
    have h2 := o2.lt k e.symm
    omega
theorem below_markP {a w w' : World} {w1 w2 : World} {v : Value} {xs : List (Int × Int)} (h : Below a.heap.size a w) (hg : w.grownBy w' v.ownBlock) (o : OwnsP w2 w1.heap.size v xs) (h1 : a.heap.size ≤ w1.heap.size) : Below a.heap.size a w' :=
  h.grown hg h.size (fun k hk => by have := o.lt k hk; omega)
/-- 'out = append(out, y)', out a row of pairs that the call owns. -/
theorem wpList_appendP {ops : Array Oper} {rest : List Oper} {o : Oper} {a : Act} {Q : Exit → Act → World → Prop} {w : World} (hgd : o.guard = none) (s x : Operand)
    (ho : o.op = .call { callee := .builtin .append, args := #[s, x], argTypes := #[26, 26] })
    (base : Nat) (v : Value) (xs : List (Int × Int)) (hs : a.eval s = v) (hown : OwnsP w base v xs) (y z : Int) (c : Nat) (hx : a.eval x = .slice (some ⟨w.heap.size, 0, none⟩) 1 c)
    (hl : xs.length ≤ 1000000000000) (hbase : base ≤ w.heap.size)
    (h : ∀ ao cap w', OwnsP w' base (.slice ao (xs.length + 1) cap) (xs ++ [(y, z)]) → w.grownBy w' v.ownBlock → wpList Try.prog ops Q rest (a.put o.dst (.slice ao (xs.length + 1) cap)) w') :
    wpList Try.prog ops Q (o :: rest) a (w.alloc (.cells #[.int .i64 y, .int .i64 z] 63)) := by
  obtain ⟨i0, hi, hz0, hz1, hz2⟩ := info_parts infoP
  refine wpList_append_own _ hgd s x 26 ho base 63 i0 (.agg #[.int .i64 0, .int .i64 0]) 2 16 (by rw [Try.underlying26]) hi hz0 hz1 hz2 rfl (by decide) v xs.length (flat xs) hs (World.ownsRow.alloc hown _) ⟨w.heap.size, 0, none⟩ 1 c [.int .i64 y, .int .i64 z] hx rfl ?_ ?_ ?_ ?_ ?_ ?_
  · intro j u hj
    match j, hj with
    | 0, hj => simp at hj; subst hj; simp [Addr.add]
    | 1, hj => simp at hj; subst hj; simp [Addr.add]
  · intro u hu
    simp at hu
    rcases hu with rfl | rfl <;> rfl
  · unfold maxLen; omega
  · omega
  · simp; omega
  · intro v' w' hown' hg _
    have hown'' : OwnsP w' base v' (xs ++ [(y, z)]) := by
      unfold OwnsP
      rw [flat_append]
      simpa [flat] using hown'
    have hg2 : w.grownBy w' v.ownBlock := grown_step (World.grownBy_alloc w _ _) hg
    rcases hown''.form with ⟨_, h2⟩ | ⟨g, cap, h2, _⟩
    · simp at h2
    · have e : v' = .slice (some ⟨g, 0, none⟩) (xs.length + 1) cap := by rw [h2]; simp
      subst e
      exact h _ _ _ hown'' hg2
/-- (k, k + 1), (k + 2, k + 3), .. : n of them. -/
def marksP (k : Int) (n : Nat) : List (Int × Int) := (List.range n).map fun i => (k + 2 * (i : Nat), k + 2 * (i : Nat) + 1)
theorem marksP_len (k : Int) (n : Nat) : (marksP k n).length = n := by simp [marksP]
theorem marksP_get (k : Int) (n j : Nat) (h : j < n) : (marksP k n).getD j (0, 0) = (k + 2 * j, k + 2 * j + 1) := by
  simp [marksP, h]
set_option maxHeartbeats 1000000 in
theorem markPairS_any (v : Value) (xs : List (Int × Int)) (k : Int) (B : Nat) (w : World) (h : OwnsP w B v xs) (hk : 0 ≤ k ∧ k ≤ 1000) (hl : xs.length ≤ 1000000000000) :
    Calls Try.prog 21 #[v, .int .i64 k] w fun e w' => e = .returned (.int .i64 (k + 2 * (xs.length : Nat))) ∧ OwnsP w' B v (marksP k xs.length) ∧ w.grownBy w' v.ownBlock := by
  rcases h.form with ⟨rfl, rfl⟩ | ⟨g, cap, rfl, _, _, _, _⟩
  · go_enter Try.func21, Try.ntmps21
    go_wp2
    refine wp_loop_rounds 1 ?_
    rw [rounds_succ]
    go_wp2
    go_ret
    exact ⟨ret_int (by simp), h, World.grownBy.refl _ _⟩
  · go_enter Try.func21, Try.ntmps21
    go_wp2
    go_loopw [1, 5] (fun kv i wr => ∃ (j : Nat) (ys : List (Int × Int)), j ≤ xs.length ∧ ys.length = xs.length ∧ (∀ t, t < j → ys.getD t (0, 0) = (k + 2 * t, k + 2 * t + 1)) ∧ OwnsP wr B (.slice (some ⟨g, 0, none⟩) xs.length cap) ys ∧ w.grownBy wr (some g) ∧ kv = .int .i64 (k + 2 * j) ∧ i = .int .i64 j) (fun _ i _ => xs.length - (intOf i).toNat)
    case atStart => exact ⟨0, xs, by omega, rfl, by omega, h, World.grownBy.refl _ _, by simp, rfl⟩
    case round =>
      obtain ⟨j, ys, hj, hyl, hys, hown, hgr, rfl, rfl⟩ := hrel
      have HYL := hide hyl
      have HYS := hide hys
      have HG := hide hgr
      clear hyl hys hgr
      by_cases hlt : j < xs.length
      · obtain ⟨c0, c1⟩ := hown.cell HYL.out.symm j (by have := HYL.out; omega)
        have f0 := hown.frozen HYL.out.symm (j * 2)
        have f1 := hown.frozen HYL.out.symm (j * 2 + 1)
        have HO := hide hown
        clear hown
        go_wp2
        go_roundw
        case rel =>
          have hst := HO.out.stored HYL.out.symm j (k + 2 * j) (k + 2 * j + 1)
          refine ⟨j + 1, ys.set j (k + 2 * j, k + 2 * j + 1), by omega, by rw [List.length_set]; exact HYL.out, fun t ht => ?_, hst.1, grown_step HG.out hst.2, by first | (congr 1; omega) | omega, by go_num⟩
          rcases Nat.lt_succ_iff_lt_or_eq.1 ht with h1 | rfl
          · have := HYS.out t h1
            rw [← this]
            simp only [List.getD_eq_getElem?_getD]
            rw [List.getElem?_set_ne (by omega)]
          · simp [List.getElem?_set, HYL.out, hlt]
        case measure => simp [intOf]; omega
      · go_wp2
        go_ret
        have e : j = xs.length := by omega
        refine ⟨ret_int (by rw [e]), ?_, HG.out⟩
        have e2 : ys = marksP k xs.length := by
          apply List.ext_getElem (by rw [marksP_len]; exact HYL.out)
          intro t h1 h2
          have a1 := HYS.out t (by rw [marksP_len] at h2; omega)
          have a2 := marksP_get k xs.length t (by rw [marksP_len] at h2; omega)
          rw [← a2] at a1
          simpa [List.getD_eq_getElem?_getD, List.getElem?_eq_getElem h1, List.getElem?_eq_getElem h2] using a1
        rw [← e2]; exact hown
set_option maxHeartbeats 1000000 in
theorem heldPairS_any (v : Value) (k : Int) (n : Nat) (B : Nat) (w : World) (h : OwnsP w B v (marksP k n)) (hk : 0 ≤ k ∧ k ≤ 1000) (hl : n ≤ 1000000000000) :
    Calls Try.prog 22 #[v, .int .i64 k] w fun e w' => e = .returned (.int .i64 (k + 2 * (n : Nat))) ∧ Below w.heap.size w w' := by
  rcases h.form with ⟨rfl, h0⟩ | ⟨g, cap, rfl, _, _, _, _⟩
  · have hn : n = 0 := by rw [← marksP_len k n, h0]; rfl
    subst hn
    go_enter Try.func22, Try.ntmps22
    go_wp2
    refine wp_loop_rounds 1 ?_
    rw [rounds_succ]
    go_wp2
    go_ret
    exact ⟨ret_int (by simp), Below.refl _ _⟩
  · have hc : ∀ j, j < n → w.cell? ⟨g, j * 2, none⟩ = some (.int .i64 (k + 2 * j)) ∧ w.cell? ⟨g, j * 2 + 1, none⟩ = some (.int .i64 (k + 2 * j + 1)) := fun j hj => by
      have := h.cell rfl j (by rw [marksP_len]; exact hj)
      rw [marksP_get k n j hj] at this
      exact this
    have HC := hide hc
    clear hc
    rw [marksP_len] at h ⊢
    go_enter Try.func22, Try.ntmps22
    go_wp2
    go_loop [1, 5] (fun kv i => ∃ j : Nat, j ≤ n ∧ kv = .int .i64 (k + 2 * j) ∧ i = .int .i64 j) (fun _ i => n - (intOf i).toNat)
    case atStart => exact ⟨0, by omega, by simp, rfl⟩
    case round =>
      obtain ⟨j, hj, rfl, rfl⟩ := hrel
      by_cases hlt : j < n
      · obtain ⟨c0, c1⟩ := HC.out j hlt
        have hne : (k + 2 * (j : Int) != k + 2 * (j : Int)) = false := by simp
        have hne1 : (k + 2 * (j : Int) + 1 != k + 2 * (j : Int) + 1) = false := by simp
        go_wp2
        go_round
        case rel => exact ⟨j + 1, by omega, by first | (congr 1; omega) | omega, by go_num⟩
        case measure => simp [intOf]; omega
      · go_wp2
        go_ret
        exact ⟨ret_int (by omega), Below.refl _ _⟩
end Go.Proofs.Ytnfllflifmijeaa
