/-
  Appending to one of two rows of int64 that the call owns: the new row lies where the old one lay, or in a new block.
-/
import Derived.Test.YthagogjklocmoaaMem
namespace Go.Proofs.Ythagogjklocmoaa
open Go.RowKit

/-- run_append_own, and where the new row lies. -/
theorem run_appendI (w : World) (ty : TypeId) (base : Nat) (v : Value) (xs : List Int) (hown : OwnsI w base v xs) (ad : Addr) (m c : Nat) (ys : List Int) (hl : ys.length = m)
    (hnews : ∀ j, j < m → w.cell? (ad.add j) = some (.int .i64 (ys.getD j 0))) (hx : xs.length + m ≤ 1000000000000) (hbase : base ≤ w.heap.size) :
    ∃ v' w', (Builtin.append_ #[29, 29] ty #[v, .slice (some ad) m c]).run Try.prog w = .ok v' w' ∧ OwnsI w' base v' (xs ++ ys) ∧ w.grownBy w' v.ownBlock ∧
      (v' = .slice none 0 0 ↔ v = .slice none 0 0 ∧ m = 0) ∧ (v'.ownBlock = v.ownBlock ∨ v'.ownBlock = some w.heap.size) := by
  obtain ⟨i0, hi, hz0, hz1, hz2⟩ := info_parts infoI
  have hnl : (ys.map (Value.int .i64)).length = m * 1 := by simp [hl]
  have hnn : ∀ j u, (ys.map (Value.int .i64))[j]? = some u → w.cell? (ad.add j) = some u := fun j u hj => by
    rw [List.getElem?_map] at hj
    cases h : ys[j]? with
    | none => rw [h] at hj; simp at hj
    | some y =>
      rw [h] at hj
      simp at hj
      subst hj
      have hlt : j < ys.length := (List.getElem?_eq_some_iff.1 h).1
      rw [hnews j (by omega), List.getD_eq_getElem?_getD, h]; rfl
  have h1 : ∀ u ∈ ys.map (Value.int .i64), u.oneCell' = true := fun u hu => by
    obtain ⟨y, _, rfl⟩ := List.mem_map.1 hu
    rfl
  have hu : Try.prog.underlying 29 = some (.slice 2) := by rw [Try.underlying29]
  obtain ⟨v', w', hr, h2, h3, h4⟩ := run_append_own (P := Try.prog) w base 29 ty 2 i0 (.int .i64 0) 1 8 hu hi hz0 hz1 hz2 rfl (by decide) v xs.length (xs.map (Value.int .i64)) hown ad m c (ys.map (Value.int .i64)) hnl hnn h1 (by unfold maxLen; omega) (by omega) hbase
  refine ⟨v', w', hr, ?_, h3, h4, ?_⟩
  · unfold OwnsI
    rw [List.length_append, List.map_append, hl]
    exact h2
  · have hz1' : i0.size = 1 := hz1
    rcases hown.2 with ⟨rfl, h0⟩ | ⟨g, cap, cur, rfl, hbg, hg, hnc, hcm, hcs, htake⟩
    · by_cases hm : m = 0
      · left
        rw [h4.2 ⟨rfl, hm⟩]
      · right
        have hr2 := run_append_nil (P := Try.prog) w 29 ty 2 i0 (.int .i64 0) hu hi hz0 ad m c (ys.map (Value.int .i64)) (by rw [hz1']; exact hnl) hnn (by omega) (by omega) (by rw [hz2]; omega)
        rw [hr2] at hr
        cases hr
        rfl
    · by_cases hroom : xs.length + m ≤ cap
      · left
        have hr2 := run_append_room (P := Try.prog) w 29 ty 2 i0 hu hi g xs.length cap cur hg ad m c (ys.map (Value.int .i64)) (by rw [hz1']; exact hnl) hnn h1 hroom (by rw [hz1', hnl, hcs]; omega)
        rw [hr2] at hr
        cases hr
        rfl
      · right
        have holds : ∀ j u, (xs.map (Value.int .i64))[j]? = some u → w.cell? ((⟨g, 0, none⟩ : Addr).add j) = some u := World.ownsRow.cells hown (g := g) rfl
        have hr2 := run_append_grow (P := Try.prog) w 29 ty 2 i0 (.int .i64 0) hu hi hz0 ⟨g, 0, none⟩ xs.length cap (xs.map (Value.int .i64)) (by rw [hz1']; simp) holds ad m c (ys.map (Value.int .i64)) (by rw [hz1']; exact hnl) hnn (by omega) (by omega) (growslice_fits (by omega) (by rw [hz2]; omega))
        rw [hr2] at hr
        cases hr
        rfl
theorem OwnsI.mono_base' {w : World} {B B' : Nat} {v : Value} {xs : List Int} (h : OwnsI w B v xs) (hb : B' ≤ B) : OwnsI w B' v xs := by
  refine ⟨h.1, ?_⟩
  rcases h.2 with h2 | ⟨g, cap, cur, h1, h2, h3⟩
  · exact .inl h2
  · exact .inr ⟨g, cap, cur, h1, Nat.le_trans hb h2, h3⟩
/-- Two rows lie apart. -/
def Apart (u v : Value) : Prop := u.ownBlock = none ∨ u.ownBlock ≠ v.ownBlock
theorem apart_symm {u v : Value} (h : Apart u v) : Apart v u := by
  rcases h with h | h
  · cases hv : v.ownBlock with
    | none => exact .inl hv
    | some k => exact .inr (by rw [h, hv]; simp)
  · exact .inr fun e => h e.symm
theorem apart_next {w : World} {b : Nat} {u v v' : Value} {ys : List Int} (ho : OwnsI w b u ys) (h : Apart u v) (hv : v'.ownBlock = v.ownBlock ∨ v'.ownBlock = some w.heap.size) : Apart u v' := by
  rcases h with h | h
  · exact .inl h
  · rcases hv with hv | hv
    · exact .inr (by rw [hv]; exact h)
    · cases hu : u.ownBlock with
      | none => exact .inl hu
      | some k =>
        have := (ho.lt k hu).2
        exact .inr (by rw [hu, hv]; simp; omega)
/-- 'out = append(out, ys...)': a row of the call's own, a source whose cells are known. -/
theorem wpList_appendR {ops : Array Oper} {rest : List Oper} {o : Oper} {a : Act} {Q : Exit → Act → World → Prop} {w : World} (hgd : o.guard = none) (s x : Operand)
    (ho : o.op = .call { callee := .builtin .append, args := #[s, x], argTypes := #[29, 29] })
    (base : Nat) (v : Value) (xs : List Int) (hs : a.eval s = v) (hown : OwnsI w base v xs) (ad : Addr) (m c : Nat) (ys : List Int) (hx : a.eval x = .slice (some ad) m c) (hm : ys.length = m)
    (hnews : ∀ j, j < m → w.cell? (ad.add j) = some (.int .i64 (ys.getD j 0)))
    (hl : xs.length + m ≤ 1000000000000) (hbase : base ≤ w.heap.size)
    (h : ∀ v' w', OwnsI w' base v' (xs ++ ys) → w.grownBy w' v.ownBlock → (v'.ownBlock = v.ownBlock ∨ v'.ownBlock = some w.heap.size) → wpList Try.prog ops Q rest (a.put o.dst v') w') :
    wpList Try.prog ops Q (o :: rest) a w := by
  refine wpList_plain hgd fun _ hK => ?_
  obtain ⟨v', w', hr, h2, h3, _, h4⟩ := run_appendI w o.type base v xs hown ad m c ys hm hnews hl hbase
  unfold Oper.wp execOp
  simp only [ho, resolve, invoke, builtin, Sem.run_bind, Sem.run_pure, Result.andThen_ok, List.map_toArray, List.map_cons, List.map_nil, hs, hx, hr]
  exact hK _ _ (h v' w' h2 h3 h4)
/-- 'out = append(out, y)'. -/
theorem wpList_append2 {ops : Array Oper} {rest : List Oper} {o : Oper} {a : Act} {Q : Exit → Act → World → Prop} {w : World} (hgd : o.guard = none) (s x : Operand)
    (ho : o.op = .call { callee := .builtin .append, args := #[s, x], argTypes := #[29, 29] })
    (base : Nat) (v : Value) (xs : List Int) (hs : a.eval s = v) (hown : OwnsI w base v xs) (y : Int) (c : Nat) (hx : a.eval x = .slice (some ⟨w.heap.size, 0, none⟩) 1 c)
    (hl : xs.length ≤ 1000000000) (hbase : base ≤ w.heap.size)
    (h : ∀ ao cap w', OwnsI w' base (.slice ao (xs.length + 1) cap) (xs ++ [y]) → w.grownBy w' v.ownBlock → (∀ (b : Nat) (u : Value) (ys : List Int), OwnsI w b u ys → Apart u v → Apart u (.slice ao (xs.length + 1) cap)) →
      wpList Try.prog ops Q rest (a.put o.dst (.slice ao (xs.length + 1) cap)) w') :
    wpList Try.prog ops Q (o :: rest) a (w.alloc (.cells #[.int .i64 y] 2)) := by
  refine wpList_appendR hgd s x ho base v xs hs (hown.below (balloc (Below.refl _ _) _)) ⟨w.heap.size, 0, none⟩ 1 c [y] hx rfl (fun j hj => ?_) (by omega) (by simp; omega) fun v' w' h1 h2 h3 => ?_
  · obtain rfl : j = 0 := by omega
    simp [Addr.add]
  · have hg2 : w.grownBy w' v.ownBlock := grown_step (World.grownBy_alloc w _ _) h2
    rcases h1.form with ⟨_, h5⟩ | ⟨g, cap, h5, _⟩
    · simp at h5
    · have e : v' = .slice (some ⟨g, 0, none⟩) (xs.length + 1) cap := by rw [h5]; simp
      subst e
      exact h _ _ _ h1 hg2 fun b u ys ho hap => apart_next (ho.below (balloc (Below.refl _ _) _)) hap h3
end Go.Proofs.Ythagogjklocmoaa
