/-
  The two sides of a train, reversing, pairing: contracts.
-/
import Derived.Test.YtnfllflifmijeaaTrainV
import Derived.Test.YtnfllflifmijeaaPairsA
import Derived.Test.YtnfllflifmijeaaInRows
import Derived.Test.YtnfllflifmijeaaShelf
import Derived.Sort.OwnSortedInts
import Derived.StillTailTactics
namespace Go.Proofs.Ytnfllflifmijeaa
open Go.RowKit Go.Sort

theorem OwnsI.mono_base {w : World} {B B' : Nat} {v : Value} {xs : List Int} (h : OwnsI w B v xs) (hb : B' ≤ B) : OwnsI w B' v xs := by
  refine ⟨h.1, ?_⟩
  rcases h.2 with h2 | ⟨g, cap, cur, h1, h2, h3⟩
  · exact .inl h2
  · exact .inr ⟨g, cap, cur, h1, Nat.le_trans hb h2, h3⟩
theorem ret_slice3 {ao : Option Addr} {n m c : Nat} (h : n = m) : Ending.returned (.slice ao n c) = .returned (.slice ao m c) := by rw [h]
/-- slices.Reverse at a row of int64 that the call owns. -/
theorem reverse_any (v : Value) (xs : List Int) (B : Nat) (w : World) (h : OwnsI w B v xs) :
    Calls Try.prog 57 #[v] w fun e w' => e = .returned (.tuple #[]) ∧ OwnsI w' B v xs.reverse ∧ w.grownBy w' v.ownBlock := by
  have hlen := h.len
  have h' := h
  rcases h'.2 with ⟨h1, h2⟩ | ⟨g, cap, cur, h1, h2, h3, h4, h5, h6, h7⟩
  · have hx : xs = [] := List.eq_nil_of_length_eq_zero h2
    subst h1; subst hx
    refine (Try.slices_Reverse_int_empty none 0 w).mono ?_
    rintro e w' ⟨rfl, rfl⟩
    exact ⟨rfl, h, World.grownBy.refl _ _⟩
  · subst h1
    unfold maxLen at hlen
    have hh : Holds (Value.int .i64) w g 0 xs.toArray := holds_of_blockI h3 (by simpa using h7)
    refine (Try.slices_Reverse_int g 0 cap xs w hh (by omega)).mono ?_
    rintro e w' ⟨rfl, n, rfl⟩
    refine ⟨rfl, ?_, ?_⟩
    · have := ownsRow_sortedI (os := #[]) (n := n) (ss := xs) (ts := xs.reverse) (by simp) h2 h3 h4 h5 (by simpa using h6)
      rw [grow_empty] at this
      unfold OwnsI
      rw [List.length_reverse]
      exact this
    · have := grownBy_sortedI (w := w) (g := g) (n := n) (os := #[]) xs.reverse.toArray
      rw [grow_empty] at this
      exact this
/-- wpList_appendI where the new element's block is told otherwise. -/
theorem wpList_appendI' {ops : Array Oper} {rest : List Oper} {o : Oper} {a : Act} {Q : Exit → Act → World → Prop} {w : World} (hgd : o.guard = none) (s x : Operand)
    (ho : o.op = .call { callee := .builtin .append, args := #[s, x], argTypes := #[40, 40] })
    (base : Nat) (v : Value) (xs : List Int) (hs : a.eval s = v) (hown : OwnsI w base v xs) (y : Int) (c m : Nat) (hx : a.eval x = .slice (some ⟨m, 0, none⟩) 1 c) (hm : m = w.heap.size)
    (hl : xs.length ≤ 1000000000000) (hbase : base ≤ w.heap.size)
    (h : ∀ ao cap w', OwnsI w' base (.slice ao (xs.length + 1) cap) (xs ++ [y]) → w.grownBy w' v.ownBlock → wpList Try.prog ops Q rest (a.put o.dst (.slice ao (xs.length + 1) cap)) w') :
    wpList Try.prog ops Q (o :: rest) a (w.alloc (.cells #[.int .i64 y] 2)) := by
  subst hm
  exact wpList_appendI hgd s x ho base v xs hs hown y c hx hl hbase h
theorem driversOf_any (ao : Option Addr) (ps : List (Int × Int)) (cap : Nat) (w : World) (h : ReadsP w ao ps) (hn : ps.length ≤ 1048576) :
    Calls Try.prog 55 #[.slice ao ps.length cap] w fun e w' => ∃ ao' cap', e = .returned (.slice ao' (ps.map (·.1)).length cap') ∧ OwnsI w' w.heap.size (.slice ao' (ps.map (·.1)).length cap') (ps.map (·.1)) ∧ Below w.heap.size w w' := by
  obtain ⟨n, hn'⟩ : ∃ n, n = ps.length := ⟨_, rfl⟩
  rw [← hn'] at hn ⊢
  have HN := hide hn'
  have HA := hide h
  clear hn' h
  go_enter Try.func55, Try.ntmps55
  go_wp2
  go_loopw [3, 8] (fun s i wr => ∃ (k : Nat) (ao' : Option Addr) (cap' : Nat) (acc : List Int), k ≤ n ∧ acc = (ps.take k).map (·.1) ∧ s = .slice ao' acc.length cap' ∧ i = .int .i64 k ∧ OwnsI wr w.heap.size (.slice ao' acc.length cap') acc ∧ Below w.heap.size w wr) (fun _ i _ => n - (intOf i).toNat)
  case atStart => exact ⟨0, none, 0, [], by omega, rfl, rfl, rfl, OwnsI.none_, Below.refl _ _⟩
  case round =>
    obtain ⟨k, ao', cap', acc, hk, hacc, rfl, rfl, hown, hbel⟩ := hrel
    have HBL := hide hbel
    have HO := hide hown
    have HAC := hide hacc
    have hsz := hbel.size
    have hal : acc.length ≤ n := by rw [hacc, List.length_map, List.length_take]; omega
    clear hacc hown
    by_cases hlt : k < n
    · obtain ⟨b1, off1, rfl, _, hc1⟩ := (HA.out.below hbel) (by have := HN.out; omega)
      obtain ⟨q1, q2⟩ := hc1 k (by have := HN.out; omega)
      obtain ⟨x, hx⟩ : ∃ x, x = ps.getD k (0, 0) := ⟨_, rfl⟩
      rw [← hx] at q1 q2
      have HX := hide hx
      obtain ⟨x1, x2⟩ := x
      simp only at q1 q2
      have HO2 := hide (HO.out.below (balloc (Below.refl _ _) (.cells #[.int .i64 x1, .int .i64 x2] 63)))
      have hsz2 : w.heap.size ≤ (wr.alloc (.cells #[.int .i64 x1, .int .i64 x2] 63)).heap.size := by simp; omega
      clear hx hc1 HA hbel
      go_wp2_with (at_builtin; refine wpList_appendI' rfl _ _ rfl w.heap.size _ acc rfl HO2.out x1 _ _ rfl (by simp) (by omega) hsz2 ?_; intro ao2 cap2 w2 hown2 hg2)
      go_roundw
      case rel =>
        refine ⟨k + 1, ao2, cap2, acc ++ [x1], by omega, ?_, by simp, by go_num, by simpa using hown2, (balloc HBL.out _).grown hg2 hsz2 (fun j hj => (HO.out.lt j hj).1)⟩
        rw [HAC.out]
        have e : k < ps.length := by have := HN.out; omega
        have e2 := HX.out
        rw [List.getD_eq_getElem?_getD, List.getElem?_eq_getElem e] at e2
        rw [List.take_succ_eq_append_getElem e, List.map_append]
        simp only [Option.getD_some] at e2
        simp [← e2]
      case measure => simp [intOf]; omega
    · have e : k = n := by omega
      have e2 : acc = ps.map (·.1) := by rw [HAC.out, e, HN.out, List.take_length]
      clear hbel
      go_wp2
      go_ret
      have ho := HO.out
      rw [e2] at ho
      exact ⟨ao', cap', ret_slice3 (by rw [e2]), ho, HBL.out⟩
theorem drivenOf_any (ao : Option Addr) (ps : List (Int × Int)) (cap : Nat) (w : World) (h : ReadsP w ao ps) (hn : ps.length ≤ 1048576) :
    Calls Try.prog 56 #[.slice ao ps.length cap] w fun e w' => ∃ ao' cap', e = .returned (.slice ao' (ps.map (·.2)).length cap') ∧ OwnsI w' w.heap.size (.slice ao' (ps.map (·.2)).length cap') (ps.map (·.2)) ∧ Below w.heap.size w w' := by
  obtain ⟨n, hn'⟩ : ∃ n, n = ps.length := ⟨_, rfl⟩
  rw [← hn'] at hn ⊢
  have HN := hide hn'
  have HA := hide h
  clear hn' h
  go_enter Try.func56, Try.ntmps56
  go_wp2
  go_loopw [3, 8] (fun s i wr => ∃ (k : Nat) (ao' : Option Addr) (cap' : Nat) (acc : List Int), k ≤ n ∧ acc = (ps.take k).map (·.2) ∧ s = .slice ao' acc.length cap' ∧ i = .int .i64 k ∧ OwnsI wr w.heap.size (.slice ao' acc.length cap') acc ∧ Below w.heap.size w wr) (fun _ i _ => n - (intOf i).toNat)
  case atStart => exact ⟨0, none, 0, [], by omega, rfl, rfl, rfl, OwnsI.none_, Below.refl _ _⟩
  case round =>
    obtain ⟨k, ao', cap', acc, hk, hacc, rfl, rfl, hown, hbel⟩ := hrel
    have HBL := hide hbel
    have HO := hide hown
    have HAC := hide hacc
    have hsz := hbel.size
    have hal : acc.length ≤ n := by rw [hacc, List.length_map, List.length_take]; omega
    clear hacc hown
    by_cases hlt : k < n
    · obtain ⟨b1, off1, rfl, _, hc1⟩ := (HA.out.below hbel) (by have := HN.out; omega)
      obtain ⟨q1, q2⟩ := hc1 k (by have := HN.out; omega)
      obtain ⟨x, hx⟩ : ∃ x, x = ps.getD k (0, 0) := ⟨_, rfl⟩
      rw [← hx] at q1 q2
      have HX := hide hx
      obtain ⟨x1, x2⟩ := x
      simp only at q1 q2
      have HO2 := hide (HO.out.below (balloc (Below.refl _ _) (.cells #[.int .i64 x1, .int .i64 x2] 63)))
      have hsz2 : w.heap.size ≤ (wr.alloc (.cells #[.int .i64 x1, .int .i64 x2] 63)).heap.size := by simp; omega
      clear hx hc1 HA hbel
      go_wp2_with (at_builtin; refine wpList_appendI' rfl _ _ rfl w.heap.size _ acc rfl HO2.out x2 _ _ rfl (by simp) (by omega) hsz2 ?_; intro ao2 cap2 w2 hown2 hg2)
      go_roundw
      case rel =>
        refine ⟨k + 1, ao2, cap2, acc ++ [x2], by omega, ?_, by simp, by go_num, by simpa using hown2, (balloc HBL.out _).grown hg2 hsz2 (fun j hj => (HO.out.lt j hj).1)⟩
        rw [HAC.out]
        have e : k < ps.length := by have := HN.out; omega
        have e2 := HX.out
        rw [List.getD_eq_getElem?_getD, List.getElem?_eq_getElem e] at e2
        rw [List.take_succ_eq_append_getElem e, List.map_append]
        simp only [Option.getD_some] at e2
        simp [← e2]
      case measure => simp [intOf]; omega
    · have e : k = n := by omega
      have e2 : acc = ps.map (·.2) := by rw [HAC.out, e, HN.out, List.take_length]
      clear hbel
      go_wp2
      go_ret
      have ho := HO.out
      rw [e2] at ho
      exact ⟨ao', cap', ret_slice3 (by rw [e2]), ho, HBL.out⟩
end Go.Proofs.Ytnfllflifmijeaa
