/-
  Rows of rows of int64 that the call owns.
-/
import Derived.Test.YthagogjklocmoaaOwn
namespace Go.Proofs.Ythagogjklocmoaa
open Go.RowKit

theorem infoR : (Try.prog.info? 29).map (fun i => (i.zero, i.size, i.bytes)) = some (some (.slice none 0 0), 1, 24) := by kernel_rfl
def elV (e : Nat × Nat) (r : List Int) : Value := .slice (some ⟨e.1, 0, none⟩) r.length e.2
theorem elV_block (e : Nat × Nat) (r : List Int) : (elV e r).ownBlock = some e.1 := rfl
def OwnsV (w : World) (base : Nat) (v : Value) (xs : List Value) : Prop := w.ownsRow base 29 1 v xs.length xs
section
variable {w w' : World} {base : Nat} {v : Value} {xs : List Value}
theorem OwnsV.none_ : OwnsV w base (.slice none 0 0) [] := World.ownsRow_nil _ _ _ _
theorem OwnsV.form (h : OwnsV w base v xs) : (v = .slice none 0 0 ∧ xs = []) ∨ ∃ g cap, v = .slice (some ⟨g, 0, none⟩) xs.length cap ∧ base ≤ g ∧ g < w.heap.size ∧ xs.length ≤ cap ∧ cap ≤ maxLen := by
  rcases h.2 with ⟨h1, h2⟩ | ⟨g, cap, cur, h1, h2, h3, h4, h5, _⟩
  · exact .inl ⟨h1, List.eq_nil_of_length_eq_zero h2⟩
  · exact .inr ⟨g, cap, h1, h2, (Array.getElem?_eq_some_iff.1 h3).1, h4, h5⟩
theorem OwnsV.same {row : Option Nat} (h : OwnsV w base v xs) (hg : w.grownBy w' row) (hne : v.ownBlock = none ∨ v.ownBlock ≠ row) : OwnsV w' base v xs := World.ownsRow.kept h hg hne
theorem OwnsV.lt (h : OwnsV w base v xs) : ∀ k, v.ownBlock = some k → base ≤ k ∧ k < w.heap.size := World.ownsRow.lt h
theorem OwnsV.cell {g cap : Nat} {n : Nat} (h : OwnsV w base (.slice (some ⟨g, 0, none⟩) n cap) xs) (hn : n = xs.length) (j : Nat) (u : Value) (hj : xs[j]? = some u) : w.cell? ⟨g, j, none⟩ = some u := by
  subst hn
  have hlt : j < xs.length := (List.getElem?_eq_some_iff.1 hj).1
  rw [World.ownsRow.cellAt h j (by omega)]
  exact hj
end
/-- run_append_own at one element, and where the new row lies. -/
theorem run_appendV (w : World) (ty : TypeId) (base : Nat) (v : Value) (xs : List Value) (hown : OwnsV w base v xs) (ad : Addr) (c : Nat) (y : Value) (hy : y.oneCell' = true)
    (hnew : w.cell? (ad.add 0) = some y) (hx : xs.length ≤ 1000000000000) (hbase : base ≤ w.heap.size) :
    ∃ v' w', (Builtin.append_ #[26, 26] ty #[v, .slice (some ad) 1 c]).run Try.prog w = .ok v' w' ∧ OwnsV w' base v' (xs ++ [y]) ∧ w.grownBy w' v.ownBlock ∧
      (v'.ownBlock = v.ownBlock ∨ v'.ownBlock = some w.heap.size) := by
  obtain ⟨i0, hi, hz0, hz1, hz2⟩ := info_parts infoR
  have hnn : ∀ j u, ([y] : List Value)[j]? = some u → w.cell? (ad.add j) = some u := fun j u hj => by
    match j, hj with
    | 0, hj => simp at hj; subst hj; exact hnew
  have h1 : ∀ u ∈ ([y] : List Value), u.oneCell' = true := fun u hu => by rw [List.mem_singleton.1 hu]; exact hy
  have hu : Try.prog.underlying 26 = some (.slice 29) := by rw [Try.underlying26]
  obtain ⟨v', w', hr, h2, h3, h4⟩ := run_append_own (P := Try.prog) w base 26 ty 29 i0 (.slice none 0 0) 1 24 hu hi hz0 hz1 hz2 rfl (by decide) v xs.length xs hown ad 1 c [y] rfl hnn h1 (by unfold maxLen; omega) (by omega) hbase
  refine ⟨v', w', hr, ?_, h3, ?_⟩
  · unfold OwnsV
    rw [List.length_append]
    exact h2
  · have hz1' : i0.size = 1 := hz1
    rcases hown.2 with ⟨rfl, h0⟩ | ⟨g, cap, cur, rfl, hbg, hg, hnc, hcm, hcs, htake⟩
    · right
      have hr2 := run_append_nil (P := Try.prog) w 26 ty 29 i0 (.slice none 0 0) hu hi hz0 ad 1 c [y] (by rw [hz1']; rfl) hnn (by omega) (by omega) (by rw [hz2]; omega)
      rw [hr2] at hr
      cases hr
      rfl
    · by_cases hroom : xs.length + 1 ≤ cap
      · left
        have hr2 := run_append_room (P := Try.prog) w 26 ty 29 i0 hu hi g xs.length cap cur hg ad 1 c [y] (by rw [hz1']; rfl) hnn h1 hroom (by rw [hz1', hcs]; simp; omega)
        rw [hr2] at hr
        cases hr
        rfl
      · right
        have holds : ∀ j u, xs[j]? = some u → w.cell? ((⟨g, 0, none⟩ : Addr).add j) = some u := World.ownsRow.cells hown (g := g) rfl
        have hr2 := run_append_grow (P := Try.prog) w 26 ty 29 i0 (.slice none 0 0) hu hi hz0 ⟨g, 0, none⟩ xs.length cap xs (by rw [hz1']; simp) holds ad 1 c [y] (by rw [hz1']; rfl) hnn (by omega) (by omega) (growslice_fits (by omega) (by rw [hz2]; omega))
        rw [hr2] at hr
        cases hr
        rfl
/-- A row of rows: the slices' blocks and capacities are es. -/
def Own2 (w : World) (B : Nat) (v : Value) (rows : List (List Int)) (es : List (Nat × Nat)) : Prop :=
  es.length = rows.length ∧ OwnsV w B v (List.zipWith elV es rows) ∧ (∀ p ∈ es.zip rows, OwnsI w B (elV p.1 p.2) p.2 ∧ v.ownBlock ≠ some p.1.1) ∧ (es.map (·.1)).Nodup
theorem Own2.nil (w : World) (B : Nat) : Own2 w B (.slice none 0 0) [] [] := ⟨rfl, OwnsV.none_, fun p hp => by simp at hp, by simp⟩
theorem Own2.same {w w' : World} {B : Nat} {v : Value} {rows : List (List Int)} {es : List (Nat × Nat)} {row : Option Nat} (h : Own2 w B v rows es) (hg : w.grownBy w' row) (hv : v.ownBlock = none ∨ v.ownBlock ≠ row) (he : ∀ e ∈ es, some e.1 ≠ row) : Own2 w' B v rows es :=
  ⟨h.1, h.2.1.same hg hv, fun p hp => ⟨(h.2.2.1 p hp).1.same hg (.inr (by rw [elV_block]; exact he p.1 (List.of_mem_zip hp).1)), (h.2.2.1 p hp).2⟩, h.2.2.2⟩
theorem Own2.below {w w' : World} {B : Nat} {v : Value} {rows : List (List Int)} {es : List (Nat × Nat)} (h : Own2 w B v rows es) (hb : Below w.heap.size w w') : Own2 w' B v rows es :=
  h.same (grown_of_below hb none) (by cases v.ownBlock <;> simp) (fun e _ => by simp)
theorem Own2.es_lt {w : World} {B : Nat} {v : Value} {rows : List (List Int)} {es : List (Nat × Nat)} (h : Own2 w B v rows es) : ∀ e ∈ es, B ≤ e.1 ∧ e.1 < w.heap.size := fun e he => by
  obtain ⟨i, hi, rfl⟩ := List.mem_iff_getElem.1 he
  have hz : i < (es.zip rows).length := by rw [List.length_zip, ← h.1]; omega
  have hp := h.2.2.1 ((es.zip rows)[i]) (List.getElem_mem hz)
  have hl := hp.1.lt _ (elV_block _ _)
  rw [List.getElem_zip] at hl
  exact hl
theorem Own2.v_lt {w : World} {B : Nat} {v : Value} {rows : List (List Int)} {es : List (Nat × Nat)} (h : Own2 w B v rows es) : ∀ k, v.ownBlock = some k → B ≤ k ∧ k < w.heap.size := h.2.1.lt
theorem Own2.len {w : World} {B : Nat} {v : Value} {rows : List (List Int)} {es : List (Nat × Nat)} (h : Own2 w B v rows es) : (List.zipWith elV es rows).length = rows.length := by
  rw [List.length_zipWith, h.1]; omega
theorem Own2.form {w : World} {B : Nat} {v : Value} {rows : List (List Int)} {es : List (Nat × Nat)} (h : Own2 w B v rows es) : ∃ ao cap, v = .slice ao rows.length cap := by
  rcases h.2.1.form with ⟨h1, h2⟩ | ⟨g, cap, h1, _⟩
  · have := h.len
    rw [h2] at this
    exact ⟨none, 0, by rw [h1, ← this]; rfl⟩
  · exact ⟨_, _, by rw [h1, h.len]⟩
theorem Own2.push {w w' : World} {B : Nat} {v v' : Value} {rows : List (List Int)} {es : List (Nat × Nat)} (h : Own2 w B v rows es) {x : Nat × Nat} {r : List Int} (hx : OwnsI w B (elV x r) r) (hne : v.ownBlock ≠ some x.1) (hes : ∀ e ∈ es, e.1 ≠ x.1)
    (ho : OwnsV w' B v' (List.zipWith elV es rows ++ [elV x r])) (hg : w.grownBy w' v.ownBlock) (hb : v'.ownBlock = v.ownBlock ∨ v'.ownBlock = some w.heap.size) : Own2 w' B v' (rows ++ [r]) (es ++ [x]) := by
  refine ⟨by simp [h.1], ?_, ?_, ?_⟩
  · rw [List.zipWith_append h.1]
    exact ho
  · intro p hp
    rw [List.zip_append h.1] at hp
    have key : ∀ (e : Nat × Nat) (q : List Int), OwnsI w B (elV e q) q → v.ownBlock ≠ some e.1 → OwnsI w' B (elV e q) q ∧ v'.ownBlock ≠ some e.1 := fun e q h1 h2 => by
      refine ⟨h1.same hg (.inr (by rw [elV_block]; exact fun c => h2 c.symm)), ?_⟩
      rcases hb with hb | hb
      · rw [hb]; exact h2
      · rw [hb]
        intro c
        have := (h1.lt _ (elV_block e q)).2
        simp only [Option.some.injEq] at c
        omega
    rcases List.mem_append.1 hp with hp | hp
    · exact key _ _ (h.2.2.1 p hp).1 (h.2.2.1 p hp).2
    · have : p = (x, r) := by simpa using hp
      subst this
      exact key _ _ hx hne
  · rw [List.map_append, List.nodup_append]
    refine ⟨h.2.2.2, by simp, fun a ha b hb2 => ?_⟩
    obtain ⟨e, he, rfl⟩ := List.mem_map.1 ha
    have : b = x.1 := by simpa using hb2
    rw [this]
    exact hes e he
/-- Which blocks a search may write: the struct's, its row's, one more; all others are as they were. -/
def Fr (w w' : World) (b : Nat) (vo po : Option Nat) : Prop := w'.os = w.os ∧ w'.tape = w.tape ∧ w'.output = w.output ∧ w.heap.size ≤ w'.heap.size ∧ ∀ i, i < w.heap.size → i ≠ b → vo ≠ some i → po ≠ some i → w'.heap[i]? = w.heap[i]?
theorem Fr.refl (w : World) (b : Nat) (vo po : Option Nat) : Fr w w b vo po := ⟨rfl, rfl, rfl, Nat.le_refl _, fun _ _ _ _ _ => rfl⟩
theorem Fr.trans {w w1 w2 : World} {b : Nat} {vo vo1 po po1 : Option Nat} (h : Fr w w1 b vo po) (k : Fr w1 w2 b vo1 po1) (hv : vo1 = vo ∨ ∀ i, vo1 = some i → w.heap.size ≤ i) (hp : po1 = po ∨ ∀ i, po1 = some i → w.heap.size ≤ i) : Fr w w2 b vo po := by
  refine ⟨k.1.trans h.1, k.2.1.trans h.2.1, k.2.2.1.trans h.2.2.1, Nat.le_trans h.2.2.2.1 k.2.2.2.1, fun i hi h1 h2 h3 => ?_⟩
  refine (k.2.2.2.2 i (Nat.lt_of_lt_of_le hi h.2.2.2.1) h1 ?_ ?_).trans (h.2.2.2.2 i hi h1 h2 h3)
  · rcases hv with rfl | hv
    · exact h2
    · intro e
      have := hv i e
      omega
  · rcases hp with rfl | hp
    · exact h3
    · intro e
      have := hp i e
      omega
theorem Fr.of_below {w w' : World} {b : Nat} {vo po : Option Nat} (h : Below w.heap.size w w') : Fr w w' b vo po := ⟨h.os, h.tape, h.output, h.size, fun i hi _ _ _ => h.block i hi⟩
theorem Fr.of_grown {w w' : World} {b : Nat} {vo po : Option Nat} (h : w.grownBy w' vo) : Fr w w' b vo po := ⟨h.os, h.tape, h.output, h.size, fun i hi _ h2 _ => h.block i hi (fun e => h2 e.symm)⟩
theorem Fr.of_grown2 {w w' : World} {b : Nat} {vo po : Option Nat} (h : w.grownBy w' po) : Fr w w' b vo po := ⟨h.os, h.tape, h.output, h.size, fun i hi _ _ h3 => h.block i hi (fun e => h3 e.symm)⟩
theorem Fr.below {w w' : World} {B b : Nat} {vo po : Option Nat} (h : Fr w w' b vo po) (hB : B ≤ w.heap.size) (hb : B ≤ b) (hv : ∀ k, vo = some k → B ≤ k) (hp : ∀ k, po = some k → B ≤ k) : Below B w w' :=
  ⟨h.1, h.2.1, h.2.2.1, h.2.2.2.1, fun i hi => h.2.2.2.2 i (by omega) (by omega) (fun e => by have := hv i e; omega) (fun e => by have := hp i e; omega)⟩
end Go.Proofs.Ythagogjklocmoaa
