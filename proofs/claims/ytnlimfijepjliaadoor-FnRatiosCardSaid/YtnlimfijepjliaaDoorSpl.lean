/-
  A text cut at a byte: the reference's walk.
-/
import Derived.Test.YtnlimfijepjliaaDoorSplitP
import Derived.Test.YtnlimfijepjliaaDoorStrRow
import Derived.Test.YtnlimfijepjliaaDoorTxt
import Derived.Deep.Cut
namespace Go.Proofs.YtnlimfijepjliaaDoor
open Go.RowKit

def toBA (l : List UInt8) : ByteArray := ⟨l.toArray⟩
theorem toBA_list (l : List UInt8) : (toBA l).data.toList = l := rfl
theorem bext' {a b : ByteArray} (h : a.data.toList = b.data.toList) : a = b := by
  obtain ⟨⟨x⟩⟩ := a
  obtain ⟨⟨y⟩⟩ := b
  simp only at h
  rw [h]
/-- The parts of what is still to come, with an open part ahead. -/
def preH (cur : List UInt8) (L : List (List UInt8)) : List (List UInt8) := match L with
  | [] => [cur]
  | h :: t => (cur ++ h) :: t
theorem splitBy_ne' (b : UInt8) (l : List UInt8) : splitBy b l ≠ [] := by
  cases l with
  | nil => simp [splitBy]
  | cons c l =>
    rw [splitBy]
    split
    · simp
    · cases splitBy b l <;> simp [consHead]
theorem preH_nil (b : UInt8) (l : List UInt8) : preH [] (splitBy b l) = splitBy b l := by
  cases h : splitBy b l with
  | nil => exact absurd h (splitBy_ne' b l)
  | cons x y => rfl
theorem preH_sep (b : UInt8) (cur l : List UInt8) : preH cur (splitBy b (b :: l)) = cur :: preH [] (splitBy b l) := by
  rw [splitBy, if_pos rfl, preH_nil, preH, List.append_nil]
theorem preH_other {b c : UInt8} (h : ¬ c = b) (cur l : List UInt8) : preH cur (splitBy b (c :: l)) = preH (cur ++ [c]) (splitBy b l) := by
  rw [splitBy, if_neg h]
  cases splitBy b l with
  | nil => rfl
  | cons x y => simp [consHead, preH]
theorem preH_end (b : UInt8) (cur : List UInt8) : preH cur (splitBy b []) = [cur] := by
  rw [splitBy, preH, List.append_nil]
/-- The parts of a text between bytes b. -/
def splS (b : UInt8) (s : ByteArray) : List ByteArray := (splitBy b s.data.toList).map toBA
theorem extract_toBA (s : ByteArray) (f k : Nat) : toBA ((s.data.toList.drop f).take (k - f)) = s.extract f k := by
  apply bext'
  rw [Lib.extract_data]
  rfl
theorem ret_sliceS {ao : Option Addr} {n m c : Nat} (h : n = m) : Ending.returned (.slice ao n c) = .returned (.slice ao m c) := by rw [h]
set_option maxHeartbeats 1000000 in
theorem l01Split_any (s : ByteArray) (b : UInt8) (w : World) (hs : s.size ≤ 4294967280) :
    Calls Tryd.prog 52 #[.string s, .int .u8 (b.toNat : Int)] w fun e w' => ∃ ao cap, e = .returned (.slice ao (splS b s).length cap) ∧ OwnsS w' w.heap.size (.slice ao (splS b s).length cap) (splS b s) ∧ Below w.heap.size w w' := by
  obtain ⟨l, hl⟩ : ∃ l, l = s.data.toList := ⟨_, rfl⟩
  have hlen : l.length = s.size := by rw [hl]; exact len_of s
  have HL := hide hl
  have HLEN := hide hlen
  have HM := hide (OwnsS.made_ (w := w))
  have hbb : b.toNat < 256 := UInt8.toNat_lt b
  clear hl hlen
  go_enter Tryd.func52, Tryd.ntmps52
  go_wp2_with fail
  go_loopw [5, 6, 7] (fun s5 s6 s7 wr => ∃ (k f g cap : Nat) (ws : List ByteArray), f ≤ k ∧ k ≤ s.size ∧ ws.length ≤ k ∧ splS b s = ws ++ (preH ((l.drop f).take (k - f)) (splitBy b (l.drop k))).map toBA ∧ s6 = .int .i64 (f : Int) ∧ s7 = .int .i64 (k : Int) ∧ s5 = .slice (some ⟨g, 0, none⟩) ws.length cap ∧ OwnsS wr w.heap.size (.slice (some ⟨g, 0, none⟩) ws.length cap) ws ∧ Below w.heap.size w wr) (fun _ _ s7 _ => s.size - (intOf s7).toNat)
  case atStart => exact ⟨0, 0, w.heap.size, 0, [], by omega, by omega, by simp, by simp [splS, HL.out, preH_nil], rfl, rfl, rfl, HM.out, balloc (Below.refl _ _) _⟩
  case round =>
    obtain ⟨k, f, g, cap, ws, hfk, hk, hwk, hspl, rfl, rfl, rfl, hown, hbel⟩ := hrel
    have HO := hide hown
    have HB := hide hbel
    have HS := hide hspl
    have hsz := hbel.size
    clear hown hbel hspl
    have O1 := fun x : ByteArray => HO.out.below (balloc (Below.refl wr.heap.size wr) (.cells #[.string x] 9))
    have B1 := fun x : ByteArray => balloc HB.out (.cells #[.string x] 9)
    have CU : ∀ x : ByteArray, (wr.alloc (.cells #[.string x] 9)).cell? ⟨wr.heap.size, 0, none⟩ = some (.string x) := fun x => by simp [go_sem]
    by_cases hlt : k < s.size
    · have hll : k < s.data.toList.length := by rw [len_of]; exact hlt
      have hget : l.drop k = s[k] :: l.drop (k + 1) := by
        rw [HL.out, List.drop_eq_getElem_cons hll]
        congr 1
        all_goals exact get_of s k hlt hll
      have hcb : s[k].toNat < 256 := UInt8.toNat_lt s[k]
      have i0 : (0 : Int) ≤ (k : Int) := by omega
      have i1 : (k : Int) < (s.size : Int) := by omega
      by_cases hc : s[k] = b
      · have hz : ((s[k].toNat : Int) == (b.toNat : Int)) = true := by rw [hc]; simp
        have hst : splS b s = (ws ++ [s.extract f k]) ++ (preH ((l.drop (k + 1)).take (k + 1 - (k + 1))) (splitBy b (l.drop (k + 1)))).map toBA := by
          rw [HS.out, hget, hc, preH_sep, List.map_cons, Nat.sub_self, List.take_zero, List.append_assoc, HL.out, extract_toBA]
          rfl
        have HST := hide hst
        have OX := hide (O1 (s.extract f k))
        have BX := hide (B1 (s.extract f k))
        have CX := hide (CU (s.extract f k))
        have hsX := (B1 (s.extract f k)).size
        clear O1 B1 CU hget hst hc
        go_wp2_with (at_builtin; refine wpList_appendS rfl (.tmp 20) (.tmp 25) rfl w.heap.size _ ws rfl OX.out ⟨wr.heap.size, 0, none⟩ 1 1 [s.extract f k] rfl rfl (fun j hj => ?_) (by omega) hsX fun v' w' r1 r2 _ => ?_)
        · obtain rfl : j = 0 := by omega
          exact CX.out
        · have B2 := hide (BX.out.grown r2 hsX (fun k hk => (OX.out.lt k hk).1))
          rcases r1.form with ⟨_, h0⟩ | ⟨g3, cap3, rfl, _⟩
          · simp at h0
          have O3 := hide r1
          clear r1 r2
          go_roundw
          case rel => exact ⟨k + 1, k + 1, g3, cap3, ws ++ [s.extract f k], by omega, by omega, by simp; omega, HST.out, by first | rfl | go_num, by first | rfl | go_num, rfl, O3.out, B2.out⟩
          case measure => simp only [intOf]; omega
      · have hz : ((s[k].toNat : Int) == (b.toNat : Int)) = false := by
          simp only [beq_eq_false_iff_ne, ne_eq]
          intro e
          exact hc (UInt8.toNat_inj.mp (by omega))
        have hst : splS b s = ws ++ (preH ((l.drop f).take (k + 1 - f)) (splitBy b (l.drop (k + 1)))).map toBA := by
          rw [HS.out, hget, preH_other hc]
          congr 3
          have e1 : (l.drop f).drop (k - f) = s[k] :: l.drop (k + 1) := by rw [List.drop_drop, show f + (k - f) = k by omega, hget]
          rw [show k + 1 - f = (k - f) + 1 by omega, List.take_add_one]
          congr 1
          have e2 : (l.drop f)[k - f]? = some s[k] := by
            have := congrArg List.head? e1
            rw [List.head?_drop] at this
            exact this
          rw [e2]
          rfl
        have HST := hide hst
        clear O1 B1 CU hget hst hc
        go_wp2_with fail
        go_roundw
        case rel => exact ⟨k + 1, f, g, cap, ws, by omega, by omega, by omega, HST.out, rfl, by first | rfl | go_num, rfl, HO.out, HB.out⟩
        case measure => simp only [intOf]; omega
    · have hke : k = s.size := by omega
      have hst : splS b s = ws ++ [s.extract f s.size] := by
        rw [HS.out, hke, List.drop_eq_nil_of_le (show l.length ≤ s.size by rw [HLEN.out]; exact Nat.le_refl _), preH_end, List.map_cons, List.map_nil, HL.out, extract_toBA]
      have HST := hide hst
      have OX := hide (O1 (s.extract f s.size))
      have BX := hide (B1 (s.extract f s.size))
      have CX := hide (CU (s.extract f s.size))
      have hsX := (B1 (s.extract f s.size)).size
      have hfs : f ≤ s.size := by omega
      clear O1 B1 CU hst hke
      go_wp2_with (at_builtin; refine wpList_appendS rfl (.tmp 29) (.tmp 33) rfl w.heap.size _ ws rfl OX.out ⟨wr.heap.size, 0, none⟩ 1 1 [s.extract f s.size] rfl rfl (fun j hj => ?_) (by omega) hsX fun v' w' r1 r2 _ => ?_)
      · obtain rfl : j = 0 := by omega
        exact CX.out
      · have B2 := hide (BX.out.grown r2 hsX (fun k hk => (OX.out.lt k hk).1))
        rcases r1.form with ⟨_, h0⟩ | ⟨g3, cap3, rfl, _⟩
        · simp at h0
        have O3 := hide r1
        clear r1 r2
        go_wp2_with fail
        go_ret
        rw [HST.out]
        exact ⟨_, _, rfl, O3.out, B2.out⟩
end Go.Proofs.YtnlimfijepjliaaDoor
