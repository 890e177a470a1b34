/-
  SplitWords: both walks, and the walk of the law.
-/
import Derived.Test.YtnlimfijepjliaaDoorSpl
import Derived.Test.YtnlimfijepjliaaDoorMkS
import Derived.Test.YtnlimfijepjliaaDoorMax
import Derived.Test.YtnlimfijepjliaaDoorShelf
import Derived.Test.YtnlimfijepjliaaDoorRows
import Derived.Shelf.Strings.Split
namespace Go.Proofs.YtnlimfijepjliaaDoor
open Go.RowKit

def notEmpty (x : ByteArray) : Bool := !x.toList.isEmpty
def wrdS (s : ByteArray) : List ByteArray := (splS 32 s).filter notEmpty
theorem filter_take {xs : List ByteArray} {k : Nat} (h : k < xs.length) : (xs.take (k + 1)).filter notEmpty = (xs.take k).filter notEmpty ++ (if notEmpty (xs.getD k ⟨#[]⟩) = true then [xs.getD k ⟨#[]⟩] else []) := by
  have e : xs.getD k ⟨#[]⟩ = xs[k] := by rw [List.getD_eq_getElem?_getD, List.getElem?_eq_getElem h]; rfl
  rw [List.take_succ_eq_append_getElem h, List.filter_append, e]
  congr 1
  rw [List.filter_cons]
  split <;> rfl
theorem splitBy_long (b : UInt8) : ∀ l : List UInt8, (splitBy b l).length ≤ l.length + 1
  | [] => by simp [splitBy]
  | c :: l => by
    have ih := splitBy_long b l
    rw [splitBy]
    split
    · simp; omega
    · cases h : splitBy b l with
      | nil => simp [consHead]
      | cons x y =>
        rw [h] at ih
        simp only [consHead, List.length_cons] at ih ⊢
        omega
theorem splS_long (b : UInt8) (s : ByteArray) : (splS b s).length ≤ s.size + 1 := by
  unfold splS
  rw [List.length_map, ← len_of]
  exact splitBy_long b _
theorem take_len_le (xs : List ByteArray) (k : Nat) : ((xs.take k).filter notEmpty).length ≤ xs.length := by
  have h1 := List.length_filter_le notEmpty (xs.take k)
  rw [List.length_take] at h1
  omega
theorem map_toBA_inj : ∀ {a : List ByteArray} {b : List (List UInt8)}, a.map (·.data.toList) = b → a = b.map toBA
  | [], b, h => by subst h; rfl
  | x :: a, b, h => by
    subst h
    rw [List.map_cons, List.map_cons, ← map_toBA_inj (a := a) rfl]
    congr 1
theorem splB_eq (s : ByteArray) : Lib.splitB ⟨#[32]⟩ 0 (Lib.countB s ⟨#[32]⟩) s = splS 32 s := by
  unfold splS
  apply map_toBA_inj
  rw [Lib.splitB_data, ← split_by]
  rfl
theorem map_filter_take (xs : List ByteArray) : (xs.take xs.length).filter notEmpty = xs.filter notEmpty := by rw [List.take_length]
set_option maxHeartbeats 1000000 in
theorem specSplitWords_any (s : ByteArray) (w : World) (hs : s.size ≤ 4294967280) :
    Calls Tryd.prog 18 #[.string s] w fun e w' => ∃ ao cap, e = .returned (.slice ao (wrdS s).length cap) ∧ OwnsS w' w.heap.size (.slice ao (wrdS s).length cap) (wrdS s) ∧ Below w.heap.size w w' := by
  have CS := hide (fun w => show Calls Tryd.prog 52 #[.string s, .int .u8 32] w fun e w' => ∃ ao cap, e = .returned (.slice ao (splS 32 s).length cap) ∧ OwnsS w' w.heap.size (.slice ao (splS 32 s).length cap) (splS 32 s) ∧ Below w.heap.size w w' from l01Split_any s 32 w hs)
  have hlong := splS_long 32 s
  obtain ⟨W, hW⟩ : ∃ W, W = wrdS s := ⟨_, rfl⟩
  rw [← hW]
  have hW2 : W = (splS 32 s).filter notEmpty := hW
  obtain ⟨xs, hxs⟩ : ∃ xs, xs = splS 32 s := ⟨_, rfl⟩
  rw [← hxs] at CS hW2 hlong
  have hne : xs.length ≠ 0 := by
    rw [hxs, splS, List.length_map]
    intro e
    exact splitBy_ne' 32 _ (List.eq_nil_of_length_eq_zero e)
  have HW := hide hW2
  clear hW hW2 hxs
  go_enter Tryd.func18, Tryd.ntmps18
  go_wp2_with fail
  refine (CS.out _).mono ?_
  rintro e w1 ⟨ao, cap, rfl, hown, hb1⟩
  rcases hown.form with ⟨_, h0⟩ | ⟨g, cap', e, hg1, hg2, _, _⟩
  · exact absurd (by rw [h0]; rfl) hne
  simp only [Value.slice.injEq] at e
  obtain ⟨rfl, e2, rfl⟩ := e
  clear e2
  have HC := hide (fun j hj => hown.cell rfl j hj)
  have B1 := hide hb1
  have HM := hide (OwnsS.made_ (w := w1))
  have hb1s := hb1.size
  clear hown hb1
  go_wp2_with fail
  go_loopw [4, 5] (fun s4 s5 wr => ∃ (k : Nat) (ws : List ByteArray) (ao : Option Addr) (p : Nat), k ≤ xs.length ∧ ws = (xs.take k).filter notEmpty ∧ s5 = .int .i64 (k : Int) ∧ s4 = .slice ao ws.length p ∧ OwnsS wr w1.heap.size (.slice ao ws.length p) ws ∧ Below w1.heap.size w1 wr) (fun _ s5 _ => xs.length - (intOf s5).toNat)
  case atStart => exact ⟨0, [], some ⟨w1.heap.size, 0, none⟩, 0, by omega, rfl, rfl, rfl, HM.out, balloc (Below.refl _ _) _⟩
  case round =>
    obtain ⟨k, ws, ao, p, hk, hws, rfl, rfl, hown, hbel⟩ := hrel
    have HO := hide hown
    have HB := hide hbel
    have HWS := hide hws
    have hsz := hbel.size
    have hwl : ws.length ≤ 5000000000 := by have := take_len_le xs k; rw [← hws] at this; omega
    clear hown hbel hws
    by_cases hlt : k < xs.length
    · have c0 := (HB.out.cell (p := ⟨g, k, none⟩) hg2).trans (HC.out k hlt)
      have hft := filter_take hlt
      rw [← HWS.out] at hft
      obtain ⟨x, hx⟩ : ∃ x, x = xs.getD k ⟨#[]⟩ := ⟨_, rfl⟩
      rw [← hx] at c0 hft
      clear hx
      cases he : x.toList.isEmpty
      · have hn : notEmpty x = true := by unfold notEmpty; rw [he]; rfl
        rw [if_pos hn] at hft
        have HF := hide hft
        have OX := hide (HO.out.below (balloc (Below.refl wr.heap.size wr) (.cells #[.string x] 9)))
        have BX := hide (balloc HB.out (.cells #[.string x] 9))
        have CX := hide (show (wr.alloc (.cells #[.string x] 9)).cell? ⟨wr.heap.size, 0, none⟩ = some (.string x) by simp [go_sem])
        have hsX := (balloc HB.out (.cells #[.string x] 9)).size
        clear hft hn
        go_wp2_with (at_builtin; refine wpList_appendS rfl (.tmp 20) (.tmp 25) rfl w1.heap.size _ ws rfl OX.out ⟨wr.heap.size, 0, none⟩ 1 1 [x] rfl rfl (fun j hj => ?_) (by omega) hsX fun v' w' r1 r2 _ => ?_)
        · obtain rfl : j = 0 := by omega
          exact CX.out
        · have B2 := hide (BX.out.grown r2 hsX (fun k hk => (OX.out.lt k hk).1))
          rcases r1.form with ⟨_, h0⟩ | ⟨g3, cap3, rfl, _⟩
          · simp at h0
          have O3 := hide r1
          clear r1 r2
          go_roundw
          case rel => exact ⟨k + 1, ws ++ [x], some ⟨g3, 0, none⟩, cap3, by omega, HF.out.symm, by first | rfl | go_num, rfl, O3.out, B2.out⟩
          case measure => simp only [intOf]; omega
      · have hn : ¬ notEmpty x = true := by unfold notEmpty; rw [he]; simp
        rw [if_neg hn, List.append_nil] at hft
        have HF := hide hft
        clear hft hn
        go_wp2_with fail
        go_roundw
        case rel => exact ⟨k + 1, ws, ao, p, by omega, HF.out.symm, by first | rfl | go_num, rfl, HO.out, HB.out⟩
        case measure => simp only [intOf]; omega
    · have hW : ws = W := by rw [HWS.out, HW.out, show k = xs.length by omega, List.take_length]
      have HWW := hide hW
      clear hW
      go_wp2_with fail
      go_ret
      have ho := HO.out.mono_base hb1s
      rw [HWW.out] at ho
      exact ⟨ao, p, ret_sliceS (by rw [HWW.out]), ho, bstep B1.out HB.out⟩
theorem split32_any (s : ByteArray) (w : World) (hs : s.size ≤ 4294967280) (hx : MaxB w) :
    Calls Tryd.prog 53 #[.string s, .string ⟨#[32]⟩] w fun e w' => e = .returned (.slice (some ⟨w.heap.size, 0, none⟩) (splS 32 s).length (splS 32 s).length) ∧ (∀ j, j < (splS 32 s).length → w'.cell? ⟨w.heap.size, j, none⟩ = some (.string ((splS 32 s).getD j ⟨#[]⟩))) ∧ Below w.heap.size w w' ∧ w.heap.size < w'.heap.size := by
  obtain ⟨m, hm⟩ := hx
  have hlen : (splS 32 s).length = Lib.countB s ⟨#[32]⟩ + 1 := by
    rw [← splB_eq]
    exact Lib.splitB_all ⟨#[32]⟩ (by decide) 0 _ s rfl
  refine (Any.strings_Split { Tryd.laysM146 with } Tryd.laysM146.i9 s ⟨#[32]⟩ m w (by omega) hm (by decide)).mono ?_
  rintro e w' ⟨rfl, rfl⟩
  refine ⟨by rw [hlen], fun j hj => ?_, balloc (Below.refl _ _) _, by simp⟩
  rw [splB_eq]
  obtain ⟨L, hL⟩ : ∃ L, L = splS 32 s := ⟨_, rfl⟩
  rw [← hL] at hj ⊢
  simp [go_sem, hj]
set_option maxHeartbeats 1000000 in
theorem implSplitWords_any (s : ByteArray) (w : World) (hs : s.size ≤ 4294967280) (hx : MaxB w) :
    Calls Tryd.prog 19 #[.string s] w fun e w' => ∃ ao cap, e = .returned (.slice ao (wrdS s).length cap) ∧ OwnsS w' w.heap.size (.slice ao (wrdS s).length cap) (wrdS s) ∧ Below w.heap.size w w' := by
  have CS := hide (split32_any s w hs hx)
  have hlong := splS_long 32 s
  obtain ⟨W, hW⟩ : ∃ W, W = wrdS s := ⟨_, rfl⟩
  rw [← hW]
  have hW2 : W = (splS 32 s).filter notEmpty := hW
  obtain ⟨xs, hxs⟩ : ∃ xs, xs = splS 32 s := ⟨_, rfl⟩
  rw [← hxs] at CS hW2 hlong
  have HW := hide hW2
  clear hW hW2 hxs hx
  go_enter Tryd.func19, Tryd.ntmps19
  go_wp2_with fail
  refine CS.out.mono ?_
  rintro e w1 ⟨rfl, hc, hb1, hg2⟩
  have HC := hide hc
  have B1 := hide hb1
  have hb1s := hb1.size
  clear hb1 hc
  go_wp2_with fail
  obtain ⟨g, hg⟩ : ∃ g, g = w.heap.size := ⟨_, rfl⟩
  rw [← hg] at HC hg2 ⊢
  have HG := hide hg
  clear hg
  go_loopw [3, 5, 9] (fun s3 _ s9 wr => ∃ (k : Nat) (ws : List ByteArray) (ao : Option Addr) (p : Nat), k ≤ xs.length ∧ ws = (xs.take k).filter notEmpty ∧ s9 = .int .i64 (k : Int) ∧ s3 = .slice ao ws.length p ∧ OwnsS wr w1.heap.size (.slice ao ws.length p) ws ∧ Below w1.heap.size w1 wr) (fun _ _ s9 _ => xs.length - (intOf s9).toNat)
  case atStart => exact ⟨0, [], none, 0, by omega, rfl, rfl, rfl, OwnsS.none_, Below.refl _ _⟩
  case round =>
    obtain ⟨k, ws, ao, p, hk, hws, rfl, rfl, hown, hbel⟩ := hrel
    have HO := hide hown
    have HB := hide hbel
    have HWS := hide hws
    have hsz := hbel.size
    have hwl : ws.length ≤ 5000000000 := by have := take_len_le xs k; rw [← hws] at this; omega
    clear hown hbel hws
    by_cases hlt : k < xs.length
    · have c0 := (HB.out.cell (p := ⟨g, k, none⟩) hg2).trans (HC.out k hlt)
      have hft := filter_take hlt
      rw [← HWS.out] at hft
      obtain ⟨x, hx⟩ : ∃ x, x = xs.getD k ⟨#[]⟩ := ⟨_, rfl⟩
      rw [← hx] at c0 hft
      clear hx
      cases he : x.toList.isEmpty
      · have hn : notEmpty x = true := by unfold notEmpty; rw [he]; rfl
        rw [if_pos hn] at hft
        have HF := hide hft
        have OX := hide (HO.out.below (balloc (Below.refl wr.heap.size wr) (.cells #[.string x] 9)))
        have BX := hide (balloc HB.out (.cells #[.string x] 9))
        have CX := hide (show (wr.alloc (.cells #[.string x] 9)).cell? ⟨wr.heap.size, 0, none⟩ = some (.string x) by simp [go_sem])
        have hsX := (balloc HB.out (.cells #[.string x] 9)).size
        clear hft hn
        go_wp2_with (at_builtin; refine wpList_appendS rfl (.tmp 15) (.tmp 17) rfl w1.heap.size _ ws rfl OX.out ⟨wr.heap.size, 0, none⟩ 1 1 [x] rfl rfl (fun j hj => ?_) (by omega) hsX fun v' w' r1 r2 _ => ?_)
        · obtain rfl : j = 0 := by omega
          exact CX.out
        · have B2 := hide (BX.out.grown r2 hsX (fun k hk => (OX.out.lt k hk).1))
          rcases r1.form with ⟨_, h0⟩ | ⟨g3, cap3, rfl, _⟩
          · simp at h0
          have O3 := hide r1
          clear r1 r2
          go_roundw
          case rel => exact ⟨k + 1, ws ++ [x], some ⟨g3, 0, none⟩, cap3, by omega, HF.out.symm, by first | rfl | go_num, rfl, O3.out, B2.out⟩
          case measure => simp only [intOf]; omega
      · have hn : ¬ notEmpty x = true := by unfold notEmpty; rw [he]; simp
        rw [if_neg hn, List.append_nil] at hft
        have HF := hide hft
        clear hft hn
        go_wp2_with fail
        go_roundw
        case rel => exact ⟨k + 1, ws, ao, p, by omega, HF.out.symm, by first | rfl | go_num, rfl, HO.out, HB.out⟩
        case measure => simp only [intOf]; omega
    · have hW : ws = W := by rw [HWS.out, HW.out, show k = xs.length by omega, List.take_length]
      have HWW := hide hW
      clear hW
      go_wp2_with fail
      go_ret
      have ho := HO.out.mono_base hb1s
      rw [HWW.out] at ho
      exact ⟨ao, p, ret_sliceS (by rw [HWW.out]), ho, bstep B1.out HB.out⟩
set_option maxHeartbeats 1000000 in
theorem walk_FnExactSplitWords (a0 : ByteArray) (w : World) (h0 : a0.size ≤ maxLen) (_hL : laidMetH Tryd.prog Rows.fnExactSplitWordsRow.laid w) (hS : w.ShapedOpen Tryd.prog) :
    Calls Tryd.prog 5 #[.string a0] w fun e w' => e = .returned (.bool true) ∧ Below w.heap.size w w' := by
  have hm : a0.size ≤ 9223372036854775807 := h0
  have HX := hide (maxB_of hS)
  clear _hL hS
  by_cases hl : a0.size ≤ 1048576
  · have C1 := hide (fun w => specSplitWords_any a0 w (by omega))
    have C2 := hide (fun w (h3 : MaxB w) => implSplitWords_any a0 w (by omega) h3)
    have hlen : (wrdS a0).length ≤ 100000000000 := by
      have h1 := List.length_filter_le notEmpty (splS 32 a0)
      have h2 := splS_long 32 a0
      unfold wrdS
      omega
    obtain ⟨ws, hws⟩ : ∃ ws, ws = wrdS a0 := ⟨_, rfl⟩
    rw [← hws] at C1 C2 hlen
    clear hws
    go_enter Tryd.func5, Tryd.ntmps5
    go_wp2_with fail
    refine (C1.out _).mono ?_
    rintro e w1 ⟨ao1, cap1, rfl, o1, b1⟩
    have O1 := hide o1
    have B1 := hide b1
    have HX1 := hide (HX.out.below b1)
    clear o1 b1
    go_wp2_with fail
    refine (C2.out _ HX1.out).mono ?_
    rintro e w2 ⟨ao2, cap2, rfl, o2, b2⟩
    have O12 := hide (O1.out.below b2)
    have O2 := hide o2
    have B2 := hide (bstep B1.out b2)
    clear o2 b2
    go_wp2_with fail
    refine (eqS_same _ _ ws _ _ _ O2.out O12.out).mono ?_
    rintro e w3 ⟨rfl, b3⟩
    have O13 := hide (O12.out.below b3)
    have O23 := hide (O2.out.below b3)
    have B3 := hide (bstep B2.out b3)
    clear b3
    go_wp2_with fail
    refine (markStringS_any _ ws _ _ O23.out hlen).mono ?_
    rintro e w4 ⟨rfl, o4, g4⟩
    have hne : (Value.slice ao1 ws.length cap1).ownBlock = none ∨ (Value.slice ao1 ws.length cap1).ownBlock ≠ (Value.slice ao2 ws.length cap2).ownBlock := by
      cases h : (Value.slice ao1 ws.length cap1).ownBlock with
      | none => exact .inl rfl
      | some k =>
        refine .inr fun e => ?_
        have h1 := O1.out.lt k h
        have h2 := O2.out.lt k e.symm
        omega
    have O14 := hide (O13.out.same g4 hne)
    have O24 := hide o4
    have B4 := hide (below_markS B3.out g4 O2.out B1.out.size)
    clear hne
    clear o4 g4
    go_wp2_with fail
    refine (heldStringS_any _ ws.length _ _ O24.out hlen).mono ?_
    rintro e w5 ⟨rfl, b5⟩
    have O15 := hide (O14.out.below b5)
    have O25 := hide (O24.out.below b5)
    have B5 := hide (bstep B4.out b5)
    have HX5 := hide (HX.out.below B5.out)
    clear b5
    have z1 : ¬ ((1 : Int) + (ws.length : Int) < 0) := by omega
    go_wp2_with fail
    refine (C2.out _ HX5.out).mono ?_
    rintro e w6 ⟨ao6, cap6, rfl, o6, b6⟩
    have O16 := hide (O15.out.below b6)
    have O26 := hide (O25.out.below b6)
    have O6 := hide o6
    have B6 := hide (bstep B5.out b6)
    clear o6 b6
    go_wp2_with fail
    refine (eqS_same _ _ ws _ _ _ O6.out O16.out).mono ?_
    rintro e w7 ⟨rfl, b7⟩
    have O27 := hide (O26.out.below b7)
    have B7 := hide (bstep B6.out b7)
    clear b7
    go_wp2_with fail
    refine (heldStringS_any _ ws.length _ _ O27.out hlen).mono ?_
    rintro e w8 ⟨rfl, b8⟩
    have B8 := hide (bstep B7.out b8)
    clear b8
    go_wp2_with fail
    go_ret
    exact ⟨rfl, B8.out⟩
  · go_enter Tryd.func5, Tryd.ntmps5
    go_wp2_with fail
    go_ret
    exact ⟨rfl, Below.refl _ _⟩
end Go.Proofs.YtnlimfijepjliaaDoor
