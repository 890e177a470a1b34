/-
  Words for memory: slices of pairs; the contracts of the helpers of the laws over trains.
-/
import Derived.Test.YtnlimfijepjliaaDoorMem
namespace Go.Proofs.YtnlimfijepjliaaDoor
open Go.RowKit

/-- The cells of a list of pairs. -/
def flat (ps : List (Int × Int)) : List Value := ps.flatMap fun p => [.int .i64 p.1, .int .i64 p.2]
theorem flat_nil : flat [] = [] := rfl
theorem flat_cons (p : Int × Int) (ps : List (Int × Int)) : flat (p :: ps) = .int .i64 p.1 :: .int .i64 p.2 :: flat ps := rfl
theorem flat_len (ps : List (Int × Int)) : (flat ps).length = ps.length * 2 := by
  induction ps with
  | nil => rfl
  | cons p ps ih => rw [flat_cons]; simp only [List.length_cons, ih]; omega
theorem flat_get0 (ps : List (Int × Int)) (j : Nat) (h : j < ps.length) : (flat ps)[j * 2]? = some (.int .i64 (ps.getD j (0, 0)).1) := by
  induction ps generalizing j with
  | nil => simp at h
  | cons p ps ih =>
    rw [flat_cons]
    cases j with
    | zero => rfl
    | succ j =>
      rw [show (j + 1) * 2 = j * 2 + 1 + 1 by omega, List.getElem?_cons_succ, List.getElem?_cons_succ, ih j (by simpa using h)]
      rfl
theorem flat_get1 (ps : List (Int × Int)) (j : Nat) (h : j < ps.length) : (flat ps)[j * 2 + 1]? = some (.int .i64 (ps.getD j (0, 0)).2) := by
  induction ps generalizing j with
  | nil => simp at h
  | cons p ps ih =>
    rw [flat_cons]
    cases j with
    | zero => rfl
    | succ j =>
      rw [show (j + 1) * 2 + 1 = (j * 2 + 1) + 1 + 1 by omega, List.getElem?_cons_succ, List.getElem?_cons_succ, ih j (by simpa using h)]
      rfl
theorem flat_set (ps : List (Int × Int)) (j : Nat) (u v : Int) : ((flat ps).set (j * 2) (.int .i64 u)).set (j * 2 + 1) (.int .i64 v) = flat (ps.set j (u, v)) := by
  induction ps generalizing j with
  | nil => simp [flat_nil]
  | cons p ps ih =>
    rw [flat_cons]
    cases j with
    | zero => rfl
    | succ j =>
      rw [show (j + 1) * 2 + 1 = (j * 2 + 1) + 1 + 1 by omega, show (j + 1) * 2 = j * 2 + 1 + 1 by omega]
      simp only [List.set_cons_succ]
      rw [ih j, flat_cons]

/-- The slice with address ao reads as the pairs ps. -/
def ReadsP (w : World) (ao : Option Addr) (ps : List (Int × Int)) : Prop :=
  0 < ps.length → ∃ b off, ao = some ⟨b, off, none⟩ ∧ b < w.heap.size ∧ ∀ j, j < ps.length → w.cell? ⟨b, off + j * 2, none⟩ = some (.int .i64 (ps.getD j (0, 0)).1) ∧ w.cell? ⟨b, off + j * 2 + 1, none⟩ = some (.int .i64 (ps.getD j (0, 0)).2)
/-- An argument that is a slice of pairs. -/
def IsPairs (w : World) (a : Option Addr) (len _cap : Nat) (z : List (Int × Int)) : Prop := z.length = len ∧ len ≤ maxLen ∧ ReadsP w a z
/-- The slice value v owns the pairs ps, in a block from base on. -/
def OwnsP (w : World) (base : Nat) (v : Value) (ps : List (Int × Int)) : Prop := w.ownsRow base 70 2 v ps.length (flat ps)
theorem ReadsP.below {w w' : World} {ao : Option Addr} {ps : List (Int × Int)} (h : ReadsP w ao ps) (hb : Below w.heap.size w w') : ReadsP w' ao ps := fun hp => by
  obtain ⟨b, off, e, hlt, hc⟩ := h hp
  exact ⟨b, off, e, Nat.lt_of_lt_of_le hlt hb.size, fun j hj => ⟨(hb.cell (p := ⟨b, off + j * 2, none⟩) hlt).trans (hc j hj).1, (hb.cell (p := ⟨b, off + j * 2 + 1, none⟩) hlt).trans (hc j hj).2⟩⟩
theorem isPairs_nil {w : World} : IsPairs w none 0 0 [] := ⟨rfl, Nat.zero_le _, fun h => absurd h (by simp)⟩
theorem choose_list {α : Type} (n : Nat) (P : Nat → α → Prop) (d : α) (h : ∀ i, i < n → ∃ x, P i x) : ∃ l : List α, l.length = n ∧ ∀ i, i < n → P i (l.getD i d) := by
  induction n with
  | zero => exact ⟨[], rfl, by omega⟩
  | succ n ih =>
    obtain ⟨l, hl, hP⟩ := ih (fun i hi => h i (by omega))
    obtain ⟨x, hx⟩ := h n (by omega)
    refine ⟨l ++ [x], by simp [hl], fun i hi => ?_⟩
    rcases Nat.lt_succ_iff_lt_or_eq.1 hi with h1 | rfl
    · have := hP i h1
      rw [List.getD_eq_getElem?_getD, List.getElem?_append_left (by omega), ← List.getD_eq_getElem?_getD]
      exact this
    · rw [List.getD_eq_getElem?_getD, List.getElem?_append_right (by omega), hl]
      simpa using hx
theorem isPairs_of {w : World} {x : Addr} {len cap : Nat} (hl : len ≤ cap) (hm : cap ≤ maxLen)
    (h : ∀ i, i < len → ∃ n0 n1 : Int, w.cell? (x.add (i * 2)) = some (.int .i64 n0) ∧ w.cell? (x.add (i * 2 + 1)) = some (.int .i64 n1) ∧ (-9223372036854775808 ≤ n0 ∧ n0 ≤ 9223372036854775807) ∧ (-9223372036854775808 ≤ n1 ∧ n1 ≤ 9223372036854775807)) :
    ∃ z, IsPairs w (some x) len cap z := by
  obtain ⟨z, hz, hP⟩ := choose_list len (fun i (p : Int × Int) => w.cell? (x.add (i * 2)) = some (.int .i64 p.1) ∧ w.cell? (x.add (i * 2 + 1)) = some (.int .i64 p.2)) (0, 0) (fun i hi => by
    obtain ⟨n0, n1, h0, h1, _⟩ := h i hi
    exact ⟨(n0, n1), h0, h1⟩)
  refine ⟨z, hz, by omega, fun hp => ?_⟩
  obtain ⟨b, off, spot⟩ := x
  have hc := (hP 0 (by omega)).1
  have hspot : spot = none := by simpa [Addr.add] using World.cell?_spot hc
  subst hspot
  have hadd : ∀ n, (⟨b, off, none⟩ : Addr).add n = ⟨b, off + n, none⟩ := fun n => by unfold Addr.add; split <;> simp_all
  refine ⟨b, off, rfl, ?_, fun j hj => ?_⟩
  · have := World.block_lt_of_cell? w _ hc
    rw [hadd] at this
    exact this
  · have := hP j (by omega)
    rw [hadd, hadd] at this
    exact ⟨this.1, by rw [show off + j * 2 + 1 = off + (j * 2 + 1) by omega]; exact this.2⟩
section
variable {w w' : World} {base : Nat} {v : Value} {ps : List (Int × Int)}
theorem OwnsP.same {row : Option Nat} (h : OwnsP w base v ps) (hg : w.grownBy w' row) (hne : v.ownBlock = none ∨ v.ownBlock ≠ row) : OwnsP w' base v ps := World.ownsRow.kept h hg hne
theorem OwnsP.below (h : OwnsP w base v ps) (hb : Below w.heap.size w w') : OwnsP w' base v ps :=
  h.same (grown_of_below hb none) (by cases v.ownBlock <;> simp)
theorem OwnsP.lt (h : OwnsP w base v ps) : ∀ k, v.ownBlock = some k → base ≤ k ∧ k < w.heap.size := World.ownsRow.lt h
theorem OwnsP.form (h : OwnsP w base v ps) : (v = .slice none 0 0 ∧ ps = []) ∨ ∃ g cap, v = .slice (some ⟨g, 0, none⟩) ps.length cap ∧ base ≤ g ∧ g < w.heap.size ∧ ps.length ≤ cap ∧ cap ≤ maxLen := by
  rcases h.2 with ⟨h1, h2⟩ | ⟨g, cap, cur, h1, h2, h3, h4, h5, _⟩
  · exact .inl ⟨h1, List.eq_nil_of_length_eq_zero h2⟩
  · exact .inr ⟨g, cap, h1, h2, (Array.getElem?_eq_some_iff.1 h3).1, h4, h5⟩
theorem OwnsP.cell {g cap n : Nat} (h : OwnsP w base (.slice (some ⟨g, 0, none⟩) n cap) ps) (hn : n = ps.length) (j : Nat) (hj : j < ps.length) :
    w.cell? ⟨g, j * 2, none⟩ = some (.int .i64 (ps.getD j (0, 0)).1) ∧ w.cell? ⟨g, j * 2 + 1, none⟩ = some (.int .i64 (ps.getD j (0, 0)).2) := by
  subst hn
  exact ⟨(World.ownsRow.cellAt h (j * 2) (by omega)).trans (flat_get0 ps j hj), (World.ownsRow.cellAt h (j * 2 + 1) (by omega)).trans (flat_get1 ps j hj)⟩
theorem OwnsP.reads {ao : Option Addr} {n cap : Nat} (h : OwnsP w base (.slice ao n cap) ps) : ReadsP w ao ps := fun hp => by
  rcases h.form with ⟨_, h2⟩ | ⟨g, cap', h1, _, h3, _⟩
  · subst h2; simp at hp
  · simp only [Value.slice.injEq] at h1
    obtain ⟨rfl, rfl, rfl⟩ := h1
    refine ⟨g, 0, rfl, h3, fun j hj => ?_⟩
    have := h.cell rfl j hj
    simpa using this
theorem OwnsP.stored {g cap n : Nat} (h : OwnsP w base (.slice (some ⟨g, 0, none⟩) n cap) ps) (hn : n = ps.length) (j : Nat) (u x : Int) :
    OwnsP ((w.setCell ⟨g, j * 2, none⟩ (.int .i64 u)).setCell ⟨g, j * 2 + 1, none⟩ (.int .i64 x)) base (.slice (some ⟨g, 0, none⟩) n cap) (ps.set j (u, x)) ∧ w.grownBy ((w.setCell ⟨g, j * 2, none⟩ (.int .i64 u)).setCell ⟨g, j * 2 + 1, none⟩ (.int .i64 x)) (some g) := by
  subst hn
  have h1 := World.ownsRow.stored h (j * 2) (.int .i64 u)
  have h2 := World.ownsRow.stored h1.1 (j * 2 + 1) (.int .i64 x)
  refine ⟨?_, grown_step h1.2 h2.2⟩
  unfold OwnsP
  rw [List.length_set, ← flat_set]
  exact h2.1
theorem OwnsP.frozen {g cap n : Nat} (h : OwnsP w base (.slice (some ⟨g, 0, none⟩) n cap) ps) (hn : n = ps.length) (j : Nat) : w.frozen? ⟨g, j, none⟩ = false := by
  subst hn; exact World.ownsRow.frozenAt h j
end
def szP (n : Nat) (left : Int) : Int := if (n : Int) ≤ left then left - n else -1
theorem szPairS_any (ao : Option Addr) (n cap : Nat) (left : Int) (w : World) (hn : n ≤ maxLen) (hl : 0 ≤ left ∧ left ≤ 1048576) :
    Calls Tryd.prog 25 #[.slice ao n cap, .int .i64 left] w fun e w' => e = .returned (.int .i64 (szP n left)) ∧ w = w' := by
  unfold maxLen at hn
  by_cases h : (n : Int) ≤ left
  · have e : szP n left = left - n := by unfold szP; rw [if_pos h]
    rw [e]
    clear e
    go_enter Tryd.func25, Tryd.ntmps25
    go_wp2
    go_ret
    exact ⟨rfl, rfl⟩
  · have e : szP n left = -1 := by unfold szP; rw [if_neg h]
    rw [e]
    clear e
    go_enter Tryd.func25, Tryd.ntmps25
    go_wp2
    go_ret
    exact ⟨rfl, rfl⟩
end Go.Proofs.YtnlimfijepjliaaDoor
