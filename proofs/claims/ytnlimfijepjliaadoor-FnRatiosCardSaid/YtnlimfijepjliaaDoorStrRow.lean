/-
  Rows of strings that the call owns.
-/
import Derived.Test.YtnlimfijepjliaaDoorDec
import Derived.Test.YtnlimfijepjliaaDoorCell
namespace Go.Proofs.YtnlimfijepjliaaDoor
open Go.RowKit

theorem infoS : (Tryd.prog.info? 9).map (fun i => (i.zero, i.size, i.bytes)) = some (some (.string ⟨#[]⟩), 1, 16) := by kernel_rfl
def OwnsS (w : World) (base : Nat) (v : Value) (xs : List ByteArray) : Prop := w.ownsRow base 9 1 v xs.length (xs.map Value.string)
section
variable {w w' : World} {base : Nat} {v : Value} {xs : List ByteArray}
theorem OwnsS.none_ : OwnsS w base (.slice none 0 0) [] := World.ownsRow_nil _ _ _ _
theorem OwnsS.made_ : OwnsS (w.alloc (.cells #[] 9)) w.heap.size (.slice (some ⟨w.heap.size, 0, none⟩) 0 0) [] := World.ownsRow_lit w #[] 0 (Nat.le_refl _) (Nat.zero_le _) rfl
theorem OwnsS.form (h : OwnsS w base v xs) : (v = .slice none 0 0 ∧ xs = []) ∨ ∃ g cap, v = .slice (some ⟨g, 0, none⟩) xs.length cap ∧ base ≤ g ∧ g < w.heap.size ∧ xs.length ≤ cap ∧ cap ≤ maxLen := by
  rcases h.2 with ⟨h1, h2⟩ | ⟨g, cap, cur, h1, h2, h3, h4, h5, _⟩
  · exact .inl ⟨h1, List.eq_nil_of_length_eq_zero h2⟩
  · exact .inr ⟨g, cap, h1, h2, (Array.getElem?_eq_some_iff.1 h3).1, h4, h5⟩
theorem OwnsS.same {row : Option Nat} (h : OwnsS w base v xs) (hg : w.grownBy w' row) (hne : v.ownBlock = none ∨ v.ownBlock ≠ row) : OwnsS w' base v xs := World.ownsRow.kept h hg hne
theorem OwnsS.below (h : OwnsS w base v xs) (hb : Below w.heap.size w w') : OwnsS w' base v xs :=
  h.same (grown_of_belowB hb none) (by cases v.ownBlock <;> simp)
theorem OwnsS.lt (h : OwnsS w base v xs) : ∀ k, v.ownBlock = some k → base ≤ k ∧ k < w.heap.size := World.ownsRow.lt h
theorem OwnsS.mono_base {B' : Nat} (h : OwnsS w base v xs) (hb : B' ≤ base) : OwnsS w B' v xs := by
  refine ⟨h.1, ?_⟩
  rcases h.2 with h2 | ⟨g, cap, cur, h1, h2, h3⟩
  · exact .inl h2
  · exact .inr ⟨g, cap, cur, h1, Nat.le_trans hb h2, h3⟩
theorem OwnsS.at_ {g cap n : Nat} (h : OwnsS w base (.slice (some ⟨g, 0, none⟩) n cap) xs) (j : Nat) (hj : j < xs.length) : w.cell? ⟨g, j, none⟩ = some (.string (xs.getD j ⟨#[]⟩)) := by
  have hn : n = xs.length := by
    rcases h.form with ⟨e, _⟩ | ⟨_, _, e, _⟩
    · simp at e
    · simp only [Value.slice.injEq] at e; exact e.2.1
  subst hn
  have := World.ownsRow.cells h (g := g) rfl j (.string (xs.getD j ⟨#[]⟩)) (by simp [List.getD_eq_getElem?_getD, List.getElem?_eq_getElem hj])
  rw [addr_add] at this
  exact this
end
/-- run_append_own, and where the new row lies. -/
theorem run_appendS (w : World) (ty : TypeId) (base : Nat) (v : Value) (xs : List ByteArray) (hown : OwnsS w base v xs) (ad : Addr) (m c : Nat) (ys : List ByteArray) (hl : ys.length = m)
    (hnews : ∀ j, j < m → w.cell? (ad.add j) = some (.string (ys.getD j ⟨#[]⟩))) (hx : xs.length + m ≤ 1000000000000) (hbase : base ≤ w.heap.size) :
    ∃ v' w', (Builtin.append_ #[30, 30] ty #[v, .slice (some ad) m c]).run Tryd.prog w = .ok v' w' ∧ OwnsS w' base v' (xs ++ ys) ∧ w.grownBy w' v.ownBlock ∧
      (v' = .slice none 0 0 ↔ v = .slice none 0 0 ∧ m = 0) ∧ (v'.ownBlock = v.ownBlock ∨ v'.ownBlock = some w.heap.size) := by
  obtain ⟨i0, hi, hz0, hz1, hz2⟩ := info_parts infoS
  have hnl : (ys.map Value.string).length = m * 1 := by simp [hl]
  have hnn : ∀ j u, (ys.map Value.string)[j]? = some u → w.cell? (ad.add j) = some u := fun j u hj => by
    rw [List.getElem?_map] at hj
    cases h : ys[j]? with
    | none => rw [h] at hj; simp at hj
    | some y =>
      rw [h] at hj
      simp at hj
      subst hj
      have hlt : j < ys.length := (List.getElem?_eq_some_iff.1 h).1
      rw [hnews j (by omega), List.getD_eq_getElem?_getD, h]; rfl
  have h1 : ∀ u ∈ ys.map Value.string, u.oneCell' = true := fun u hu => by
    obtain ⟨y, _, rfl⟩ := List.mem_map.1 (by simpa using hu)
    rfl
  have hu : Tryd.prog.underlying 30 = some (.slice 9) := by rw [Tryd.underlying30]
  obtain ⟨v', w', hr, h2, h3, h4⟩ := run_append_own (P := Tryd.prog) w base 30 ty 9 i0 (.string ⟨#[]⟩) 1 16 hu hi hz0 hz1 hz2 rfl (by decide) v xs.length (xs.map Value.string) hown ad m c (ys.map Value.string) hnl hnn h1 (by unfold maxLen; omega) (by omega) hbase
  refine ⟨v', w', hr, ?_, h3, h4, ?_⟩
  · unfold OwnsS
    rw [List.length_append, List.map_append, hl]
    exact h2
  · have hz1' : i0.size = 1 := hz1
    rcases hown.2 with ⟨rfl, h0⟩ | ⟨g, cap, cur, rfl, hbg, hg, hnc, hcm, hcs, htake⟩
    · by_cases hm : m = 0
      · left
        rw [h4.2 ⟨rfl, hm⟩]
      · right
        have hr2 := run_append_nil (P := Tryd.prog) w 30 ty 9 i0 (.string ⟨#[]⟩) hu hi hz0 ad m c (ys.map Value.string) (by rw [hz1']; exact hnl) hnn (by omega) (by omega) (by rw [hz2]; omega)
        rw [hr2] at hr
        cases hr
        rfl
    · by_cases hroom : xs.length + m ≤ cap
      · left
        have hr2 := run_append_room (P := Tryd.prog) w 30 ty 9 i0 hu hi g xs.length cap cur hg ad m c (ys.map Value.string) (by rw [hz1']; exact hnl) hnn h1 hroom (by rw [hz1', hnl, hcs]; omega)
        rw [hr2] at hr
        cases hr
        rfl
      · right
        have holds : ∀ j u, (xs.map Value.string)[j]? = some u → w.cell? ((⟨g, 0, none⟩ : Addr).add j) = some u := World.ownsRow.cells hown (g := g) rfl
        have hr2 := run_append_grow (P := Tryd.prog) w 30 ty 9 i0 (.string ⟨#[]⟩) hu hi hz0 ⟨g, 0, none⟩ xs.length cap (xs.map Value.string) (by rw [hz1']; simp) holds ad m c (ys.map Value.string) (by rw [hz1']; exact hnl) hnn (by omega) (by omega) (growslice_fits (by omega) (by rw [hz2]; omega))
        rw [hr2] at hr
        cases hr
        rfl
/-- 'out = append(out, ys...)': a row of the call's own, a source whose cells are known. -/
theorem wpList_appendS {ops : Array Oper} {rest : List Oper} {o : Oper} {a : Act} {Q : Exit → Act → World → Prop} {w : World} (hgd : o.guard = none) (s x : Operand)
    (ho : o.op = .call { callee := .builtin .append, args := #[s, x], argTypes := #[30, 30] })
    (base : Nat) (v : Value) (xs : List ByteArray) (hs : a.eval s = v) (hown : OwnsS w base v xs) (ad : Addr) (m c : Nat) (ys : List ByteArray) (hx : a.eval x = .slice (some ad) m c) (hm : ys.length = m)
    (hnews : ∀ j, j < m → w.cell? (ad.add j) = some (.string (ys.getD j ⟨#[]⟩)))
    (hl : xs.length + m ≤ 1000000000000) (hbase : base ≤ w.heap.size)
    (h : ∀ v' w', OwnsS w' base v' (xs ++ ys) → w.grownBy w' v.ownBlock → (v'.ownBlock = v.ownBlock ∨ v'.ownBlock = some w.heap.size) → wpList Tryd.prog ops Q rest (a.put o.dst v') w') :
    wpList Tryd.prog ops Q (o :: rest) a w := by
  refine wpList_plain hgd fun _ hK => ?_
  obtain ⟨v', w', hr, h2, h3, _, h4⟩ := run_appendS w o.type base v xs hown ad m c ys hm hnews hl hbase
  unfold Oper.wp execOp
  simp only [ho, resolve, invoke, builtin, Sem.run_bind, Sem.run_pure, Result.andThen_ok, List.map_toArray, List.map_cons, List.map_nil, hs, hx, hr]
  exact hK _ _ (h v' w' h2 h3 h4)

/-- 'append(out, y)' at a step of a region that draws its order, onto a row of strings. -/
theorem step_appendS {ops : Array Oper} {o : Oper} {a : Act} {K : Act → World → Prop} {Q : Exit → Act → World → Prop} {E : Prop} {w : World} (hgd : o.guard = none) (s x : Operand)
    (ho : o.op = .call { callee := .builtin .append, args := #[s, x], argTypes := #[30, 30] })
    (base : Nat) (v : Value) (xs : List ByteArray) (hs : a.eval s = v) (hown : OwnsS w base v xs) (y : ByteArray) (c m : Nat) (hx : a.eval x = .slice (some ⟨m, 0, none⟩) 1 c)
    (h0 : w.cell? ⟨m, 0, none⟩ = some (.string y)) (hl : xs.length ≤ 1000000000) (hbase : base ≤ w.heap.size)
    (h : ∀ v' w', OwnsS w' base v' (xs ++ [y]) → w.grownBy w' v.ownBlock → K (a.put o.dst v') w') :
    if Region.wanted o (yielded ops a.tmps) = true then Oper.wp Tryd.prog o a w K Q else E := by
  have hw : Region.wanted o (yielded ops a.tmps) = true := by simp [Region.wanted, hgd]
  rw [if_pos hw]
  obtain ⟨v', w', hr, h2, h3, _, _⟩ := run_appendS w o.type base v xs hown ⟨m, 0, none⟩ 1 c [y] rfl (fun j hj => by
    have e : j = 0 := by omega
    subst e; simpa [Addr.add] using h0) (by omega) hbase
  unfold Oper.wp execOp
  simp only [ho, resolve, invoke, builtin, Sem.run_bind, Sem.run_pure, Result.andThen_ok, List.map_toArray, List.map_cons, List.map_nil, hs, hx, hr]
  exact h v' w' h2 h3
end Go.Proofs.YtnlimfijepjliaaDoor
