/-
  Words for memory: rows of int64 that the call owns; slices that came in; the contracts of the comparing and marking helpers.
-/
import Derived.Test.YthagogjklocmoaaInts
import Derived.Deep.Draws
import Derived.Laws.OwnMore
import Derived.OwnWalk
namespace Go.Proofs.Ythagogjklocmoaa
open Go.RowKit

theorem ret_bool {a b : Bool} (h : a = b) : Ending.returned (.bool a) = .returned (.bool b) := by rw [h]

/-- The slice value v owns the int64 cells xs, in a block from base on. -/
def OwnsI (w : World) (base : Nat) (v : Value) (xs : List Int) : Prop := w.ownsRow base 2 1 v xs.length (xs.map (Value.int .i64))

theorem infoI : (Try.prog.info? 2).map (fun i => (i.zero, i.size, i.bytes)) = some (some (.int .i64 0), 1, 8) := by kernel_rfl

section
variable {w w' : World} {base : Nat} {v : Value} {xs : List Int}
theorem OwnsI.none_ : OwnsI w base (.slice none 0 0) [] := World.ownsRow_nil _ _ _ _
theorem OwnsI.made_ : OwnsI (w.alloc (.cells #[] 2)) w.heap.size (.slice (some ⟨w.heap.size, 0, none⟩) 0 0) [] := World.ownsRow_lit w #[] 0 (Nat.le_refl _) (Nat.zero_le _) rfl
theorem OwnsI.form (h : OwnsI w base v xs) : (v = .slice none 0 0 ∧ xs = []) ∨ ∃ g cap, v = .slice (some ⟨g, 0, none⟩) xs.length cap ∧ base ≤ g ∧ g < w.heap.size ∧ xs.length ≤ cap ∧ cap ≤ maxLen := by
  rcases h.2 with ⟨h1, h2⟩ | ⟨g, cap, cur, h1, h2, h3, h4, h5, _⟩
  · exact .inl ⟨h1, List.eq_nil_of_length_eq_zero h2⟩
  · exact .inr ⟨g, cap, h1, h2, (Array.getElem?_eq_some_iff.1 h3).1, h4, h5⟩
theorem OwnsI.same {row : Option Nat} (h : OwnsI w base v xs) (hg : w.grownBy w' row) (hne : v.ownBlock = none ∨ v.ownBlock ≠ row) : OwnsI w' base v xs := World.ownsRow.kept h hg hne
theorem grown_of_below {a w : World} (h : Below a.heap.size a w) (row : Option Nat) : a.grownBy w row := ⟨h.os, h.tape, h.output, h.size, fun i hi _ => h.block i hi⟩
theorem OwnsI.below (h : OwnsI w base v xs) (hb : Below w.heap.size w w') : OwnsI w' base v xs :=
  h.same (grown_of_below hb none) (by cases v.ownBlock <;> simp)
theorem OwnsI.lt (h : OwnsI w base v xs) : ∀ k, v.ownBlock = some k → base ≤ k ∧ k < w.heap.size := World.ownsRow.lt h
theorem OwnsI.len (h : OwnsI w base v xs) : xs.length ≤ maxLen := by
  rcases h.form with ⟨_, h2⟩ | ⟨g, cap, _, _, _, h4, h5⟩
  · subst h2; exact Nat.zero_le _
  · omega
theorem OwnsI.cell {g cap : Nat} {n : Nat} (h : OwnsI w base (.slice (some ⟨g, 0, none⟩) n cap) xs) (hn : n = xs.length) (j : Nat) (hj : j < xs.length) : w.cell? ⟨g, j, none⟩ = some (.int .i64 (xs.getD j 0)) := by
  subst hn
  have := World.ownsRow.cellAt h j (by omega)
  rw [this]
  simp [List.getElem?_map, List.getElem?_eq_getElem hj]
theorem OwnsI.frozen {g cap : Nat} {n : Nat} (h : OwnsI w base (.slice (some ⟨g, 0, none⟩) n cap) xs) (hn : n = xs.length) (j : Nat) : w.frozen? ⟨g, j, none⟩ = false := by
  subst hn; exact World.ownsRow.frozenAt h j
theorem OwnsI.stored {g cap : Nat} {n : Nat} (h : OwnsI w base (.slice (some ⟨g, 0, none⟩) n cap) xs) (hn : n = xs.length) (j : Nat) (u : Int) :
    OwnsI (w.setCell ⟨g, j, none⟩ (.int .i64 u)) base (.slice (some ⟨g, 0, none⟩) n cap) (xs.set j u) ∧ w.grownBy (w.setCell ⟨g, j, none⟩ (.int .i64 u)) (some g) := by
  subst hn
  have := World.ownsRow.stored h j (.int .i64 u)
  refine ⟨?_, this.2⟩
  unfold OwnsI
  simp only [List.length_set, List.map_set]
  exact this.1
end

theorem grown_step {a b c : World} {row : Option Nat} (h : a.grownBy b row) (k : b.grownBy c row) : a.grownBy c row :=
  ⟨k.os.trans h.os, k.tape.trans h.tape, k.output.trans h.output, Nat.le_trans h.size k.size, fun i hi hn => (k.block i (Nat.lt_of_lt_of_le hi h.size) hn).trans (h.block i hi hn)⟩
/-- k, k + 1, .. : n of them. -/
def marks (k : Int) (n : Nat) : List Int := (List.range n).map fun i => k + (i : Nat)
theorem marks_len (k : Int) (n : Nat) : (marks k n).length = n := by simp [marks]
theorem marks_get (k : Int) (n j : Nat) (h : j < n) : (marks k n).getD j 0 = k + j := by
  simp [marks, h]

theorem own_ne {w1 w2 : World} {base : Nat} {v0 v1 : Value} {xs ys : List Int} (o1 : OwnsI w1 base v0 xs) (o2 : OwnsI w2 w1.heap.size v1 ys) : v0.ownBlock = none ∨ v0.ownBlock ≠ v1.ownBlock := by
  cases h : v0.ownBlock with
  | none => exact .inl rfl
  | some k =>
    refine .inr fun e => ?_
    have h1 := o1.lt k h
    have h2 := o2.lt k e.symm
    omega
theorem below_mark {a w w' : World} {w1 w2 : World} {v : Value} {xs : List Int} (h : Below a.heap.size a w) (hg : w.grownBy w' v.ownBlock) (o : OwnsI w2 w1.heap.size v xs) (h1 : a.heap.size ≤ w1.heap.size) : Below a.heap.size a w' :=
  h.grown hg h.size (fun k hk => by have := o.lt k hk; omega)
/-- 'out = append(out, y)', out a row of int64 that the call owns. -/
theorem wpList_appendI {ops : Array Oper} {rest : List Oper} {o : Oper} {a : Act} {Q : Exit → Act → World → Prop} {w : World} (hgd : o.guard = none) (s x : Operand)
    (ho : o.op = .call { callee := .builtin .append, args := #[s, x], argTypes := #[29, 29] })
    (base : Nat) (v : Value) (xs : List Int) (hs : a.eval s = v) (hown : OwnsI w base v xs) (y : Int) (c : Nat) (hx : a.eval x = .slice (some ⟨w.heap.size, 0, none⟩) 1 c)
    (hl : xs.length ≤ 1000000000000) (hbase : base ≤ w.heap.size)
    (h : ∀ ao cap w', OwnsI w' base (.slice ao (xs.length + 1) cap) (xs ++ [y]) → w.grownBy w' v.ownBlock → wpList Try.prog ops Q rest (a.put o.dst (.slice ao (xs.length + 1) cap)) w') :
    wpList Try.prog ops Q (o :: rest) a (w.alloc (.cells #[.int .i64 y] 2)) := by
  obtain ⟨i0, hi, hz0, hz1, hz2⟩ := info_parts infoI
  refine wpList_append_own _ hgd s x 29 ho base 2 i0 (.int .i64 0) 1 8 (by rw [Try.underlying29]) hi hz0 hz1 hz2 rfl (by decide) v xs.length (xs.map (Value.int .i64)) hs (World.ownsRow.alloc hown _) ⟨w.heap.size, 0, none⟩ 1 c [.int .i64 y] hx rfl ?_ ?_ ?_ ?_ ?_ ?_
  · intro j u hj
    match j, hj with
    | 0, hj => simp at hj; subst hj; simp [Addr.add]
  · intro u hu; simp at hu; subst hu; rfl
  · unfold maxLen; omega
  · omega
  · simp; omega
  · intro v' w' hown' hg _
    have hown'' : OwnsI w' base v' (xs ++ [y]) := by
      unfold OwnsI
      simpa using hown'
    have hg2 : w.grownBy w' v.ownBlock := grown_step (World.grownBy_alloc w _ _) hg
    rcases hown''.form with ⟨_, h2⟩ | ⟨g, cap, h2, _⟩
    · simp at h2
    · have e : v' = .slice (some ⟨g, 0, none⟩) (xs.length + 1) cap := by rw [h2]; simp
      subst e
      exact h _ _ _ hown'' hg2

theorem eqInt64S_any (va vb : Value) (xs ys : List Int) (B1 B2 : Nat) (w : World) (ha : OwnsI w B1 va xs) (hb : OwnsI w B2 vb ys) :
    Calls Try.prog 27 #[va, vb] w fun e w' => e = .returned (.bool (decide (xs = ys))) ∧ Below w.heap.size w w' := by
  have la := ha.len
  have lb := hb.len
  unfold maxLen at la lb
  by_cases hl : xs.length = ys.length
  · by_cases h0 : xs.length = 0
    · have hx : xs = [] := List.eq_nil_of_length_eq_zero h0
      have hy : ys = [] := List.eq_nil_of_length_eq_zero (by omega)
      subst hx; subst hy
      have hva : ∃ ao ca, va = .slice ao 0 ca := by
        rcases ha.form with ⟨h1, _⟩ | ⟨g, cap, h1, _⟩
        · exact ⟨_, _, h1⟩
        · exact ⟨_, _, h1⟩
      have hvb : ∃ ao ca, vb = .slice ao 0 ca := by
        rcases hb.form with ⟨h1, _⟩ | ⟨g, cap, h1, _⟩
        · exact ⟨_, _, h1⟩
        · exact ⟨_, _, h1⟩
      obtain ⟨ao, ca, rfl⟩ := hva
      obtain ⟨bo, cb, rfl⟩ := hvb
      clear ha hb
      go_enter Try.func27, Try.ntmps27
      go_wp2
      refine wp_loop_rounds 1 ?_
      rw [rounds_succ]
      go_wp2
      go_ret
      exact ⟨rfl, Below.refl _ _⟩
    · rcases ha.form with ⟨_, h2⟩ | ⟨g, cap, rfl, _, _, _, _⟩
      · exact absurd (by simp [h2]) h0
      rcases hb.form with ⟨_, h2⟩ | ⟨g', cap', rfl, _, _, _, _⟩
      · exact absurd (by simp [hl, h2]) h0
      have hca := hide (fun j hj => ha.cell rfl j hj)
      have hcb := hide (fun j hj => hb.cell rfl j hj)
      have HL := hide hl
      have hne : ((xs.length : Int) != (ys.length : Int)) = false := by simp; omega
      have hle : xs.length ≤ ys.length := by omega
      clear ha hb hl
      go_enter Try.func27, Try.ntmps27
      go_wp2
      have HNE := hide hne
      clear hne
      go_loopw [5] (fun i wr => ∃ k : Nat, k ≤ xs.length ∧ (∀ j, j < k → xs.getD j 0 = ys.getD j 0) ∧ i = .int .i64 k ∧ ∃ n, wr = w.drewN n) (fun i _ => xs.length - (intOf i).toNat)
      case atStart => exact ⟨0, by omega, by omega, rfl, 0, rfl⟩
      case round =>
        obtain ⟨k, hk, hall, rfl, n, rfl⟩ := hrel
        have HA := hide hall
        clear hall
        by_cases hlt : k < xs.length
        · have c1 := hca.out k hlt
          have c2 := hcb.out k (by have := HL.out; omega)
          obtain ⟨x, hx⟩ : ∃ x, x = xs.getD k 0 := ⟨_, rfl⟩
          obtain ⟨y, hy⟩ : ∃ y, y = ys.getD k 0 := ⟨_, rfl⟩
          rw [← hx] at c1
          rw [← hy] at c2
          have HX := hide hx
          have HY := hide hy
          clear hx hy
          by_cases hxy : x = y
          · subst hxy
            have hne' : (x != x) = false := by simp
            go_wp2
            go_quiet (fail)
            go_wp2
            go_roundw
            case rel =>
              refine ⟨k + 1, by omega, fun j hj => ?_, by go_num, _, rfl⟩
              rcases Nat.lt_succ_iff_lt_or_eq.1 hj with h1 | rfl
              · exact HA.out j h1
              · rw [← HX.out, ← HY.out]
            case measure => simp [intOf]; omega
          · have hne' : (x != y) = true := by simpa using hxy
            go_wp2
            go_quiet (fail)
            go_wp2
            go_ret
            refine ⟨ret_bool (decide_eq_false (fun e => hxy (by rw [HX.out, HY.out, e]))).symm, bdrewN (bdrewN (Below.refl _ _) _) _⟩
        · go_wp2
          go_ret
          refine ⟨ret_bool (decide_eq_true ?_).symm, bdrewN (Below.refl _ _) _⟩
          apply List.ext_getElem HL.out
          intro j h1 h2
          have := HA.out j (by omega)
          simpa [List.getD_eq_getElem?_getD, List.getElem?_eq_getElem h1, List.getElem?_eq_getElem h2] using this
  · have hva : ∃ ao ca, va = .slice ao xs.length ca := by
      rcases ha.form with ⟨h1, h2⟩ | ⟨g, cap, h1, _⟩
      · subst h2; exact ⟨_, _, h1⟩
      · exact ⟨_, _, h1⟩
    have hvb : ∃ ao ca, vb = .slice ao ys.length ca := by
      rcases hb.form with ⟨h1, h2⟩ | ⟨g, cap, h1, _⟩
      · subst h2; exact ⟨_, _, h1⟩
      · exact ⟨_, _, h1⟩
    obtain ⟨ao, ca, rfl⟩ := hva
    obtain ⟨bo, cb, rfl⟩ := hvb
    clear ha hb
    have hne : ((xs.length : Int) != (ys.length : Int)) = true := by simp; omega
    go_enter Try.func27, Try.ntmps27
    go_wp2
    go_ret
    exact ⟨ret_bool (decide_eq_false (fun e => hl (by rw [e]))).symm, Below.refl _ _⟩
theorem markInt64S_any (v : Value) (xs : List Int) (k : Int) (B : Nat) (w : World) (h : OwnsI w B v xs) (hk : 0 ≤ k ∧ k ≤ 1000) (hl : xs.length ≤ 1000000000000) :
    Calls Try.prog 28 #[v, .int .i64 k] w fun e w' => e = .returned (.int .i64 (k + xs.length)) ∧ OwnsI w' B v (marks k xs.length) ∧ w.grownBy w' v.ownBlock := by
  rcases h.form with ⟨rfl, rfl⟩ | ⟨g, cap, rfl, _, _, _, _⟩
  · go_enter Try.func28, Try.ntmps28
    go_wp2
    refine wp_loop_rounds 1 ?_
    rw [rounds_succ]
    go_wp2
    go_ret
    exact ⟨ret_int (by simp), h, World.grownBy.refl _ _⟩
  · go_enter Try.func28, Try.ntmps28
    go_wp2
    go_loopw [1, 5] (fun kv i wr => ∃ (j : Nat) (ys : List Int), j ≤ xs.length ∧ ys.length = xs.length ∧ (∀ t, t < j → ys.getD t 0 = k + t) ∧ OwnsI wr B (.slice (some ⟨g, 0, none⟩) xs.length cap) ys ∧ w.grownBy wr (some g) ∧ kv = .int .i64 (k + j) ∧ i = .int .i64 j) (fun _ i _ => xs.length - (intOf i).toNat)
    case atStart => exact ⟨0, xs, by omega, rfl, by omega, h, World.grownBy.refl _ _, by simp, rfl⟩
    case round =>
      obtain ⟨j, ys, hj, hyl, hys, hown, hgr, rfl, rfl⟩ := hrel
      have HYL := hide hyl
      have HYS := hide hys
      have HG := hide hgr
      clear hyl hys hgr
      by_cases hlt : j < xs.length
      · have c1 := hown.cell HYL.out.symm j (by have := HYL.out; omega)
        have f1 := hown.frozen HYL.out.symm j
        have HO := hide hown
        clear hown
        go_wp2
        go_roundw
        case rel =>
          have hst := HO.out.stored HYL.out.symm j (k + j)
          refine ⟨j + 1, ys.set j (k + j), by omega, by rw [List.length_set]; exact HYL.out, fun t ht => ?_, hst.1, grown_step HG.out hst.2, by rw [Int.natCast_succ, Int.add_assoc], by go_num⟩
          rcases Nat.lt_succ_iff_lt_or_eq.1 ht with h1 | rfl
          · have := HYS.out t h1
            rw [← this]
            simp only [List.getD_eq_getElem?_getD]
            rw [List.getElem?_set_ne (by omega)]
          · simp [List.getElem?_set, HYL.out, hlt]
        case measure => simp [intOf]; omega
      · go_wp2
        go_ret
        have e : j = xs.length := by omega
        refine ⟨ret_int (by rw [e]), ?_, HG.out⟩
        have e2 : ys = marks k xs.length := by
          apply List.ext_getElem (by rw [marks_len]; exact HYL.out)
          intro t h1 h2
          have a1 := HYS.out t (by rw [marks_len] at h2; omega)
          have a2 := marks_get k xs.length t (by rw [marks_len] at h2; omega)
          rw [← a2] at a1
          simpa [List.getD_eq_getElem?_getD, List.getElem?_eq_getElem h1, List.getElem?_eq_getElem h2] using a1
        rw [← e2]; exact hown
theorem heldInt64S_any (v : Value) (k : Int) (n : Nat) (B : Nat) (w : World) (h : OwnsI w B v (marks k n)) (hk : 0 ≤ k ∧ k ≤ 1000) (hl : n ≤ 1000000000000) :
    Calls Try.prog 29 #[v, .int .i64 k] w fun e w' => e = .returned (.int .i64 (k + n)) ∧ Below w.heap.size w w' := by
  rcases h.form with ⟨rfl, h0⟩ | ⟨g, cap, rfl, _, _, _, _⟩
  · have hn : n = 0 := by rw [← marks_len k n, h0]; rfl
    subst hn
    go_enter Try.func29, Try.ntmps29
    go_wp2
    refine wp_loop_rounds 1 ?_
    rw [rounds_succ]
    go_wp2
    go_ret
    exact ⟨ret_int (by simp), Below.refl _ _⟩
  · have hc : ∀ j, j < n → w.cell? ⟨g, j, none⟩ = some (.int .i64 (k + j)) := fun j hj => by
      rw [h.cell rfl j (by rw [marks_len]; exact hj), marks_get k n j hj]
    have HC := hide hc
    clear hc
    rw [marks_len] at h ⊢
    go_enter Try.func29, Try.ntmps29
    go_wp2
    go_loop [1, 5] (fun kv i => ∃ j : Nat, j ≤ n ∧ kv = .int .i64 (k + j) ∧ i = .int .i64 j) (fun _ i => n - (intOf i).toNat)
    case atStart => exact ⟨0, by omega, by simp, rfl⟩
    case round =>
      obtain ⟨j, hj, rfl, rfl⟩ := hrel
      by_cases hlt : j < n
      · have c1 := HC.out j hlt
        have hne : (k + (j : Int) != k + (j : Int)) = false := by simp
        go_wp2
        go_round
        case rel => exact ⟨j + 1, by omega, by rw [Int.natCast_succ, Int.add_assoc], by go_num⟩
        case measure => simp [intOf]; omega
      · go_wp2
        go_ret
        exact ⟨ret_int (by omega), Below.refl _ _⟩
end Go.Proofs.Ythagogjklocmoaa
