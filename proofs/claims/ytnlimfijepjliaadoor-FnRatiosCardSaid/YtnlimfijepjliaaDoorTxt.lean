/-
  Strings as bytes: small facts; contracts of the digit's test and of the conversion to bytes.
-/
import Derived.Test.YtnlimfijepjliaaDoorInts
import Derived.Lib.ConvBytes
import Derived.Lib.Strings
namespace Go.Proofs.YtnlimfijepjliaaDoor
open Go.RowKit

theorem l01Digit_any (x : Int) (w : World) : Calls Tryd.prog 89 #[.int .u8 x] w fun e w' => e = .returned (.bool (inR x 48 57)) ∧ w = w' := by
  by_cases h1 : 48 ≤ x
  · by_cases h2 : x ≤ 57
    · have h : inR x 48 57 = true := inR_mk ⟨h1, h2⟩
      go_enter Tryd.func89, Tryd.ntmps89
      go_wp2
      go_ret
      exact ⟨by simp [h], rfl⟩
    · have h : inR x 48 57 = false := inR_no fun h => h2 h.2
      go_enter Tryd.func89, Tryd.ntmps89
      go_wp2
      go_ret
      exact ⟨by simp, rfl⟩
  · have h : inR x 48 57 = false := inR_no fun h => h1 h.1
    go_enter Tryd.func89, Tryd.ntmps89
    go_wp2
    go_ret
    exact ⟨by simp, rfl⟩
theorem isEmpty_of {s : ByteArray} (h : s.size ≠ 0) : s.toList.isEmpty = false := by
  rw [ByteArray.toList_eq]
  have : s.data.toList.length ≠ 0 := by simpa using h
  cases e : s.data.toList with
  | nil => simp [e] at this
  | cons a b => rfl
theorem isEmpty_yes {s : ByteArray} (h : s.size = 0) : s.toList.isEmpty = true := by
  rw [ByteArray.toList_eq]
  have : s.data.toList.length = 0 := by simpa using h
  cases e : s.data.toList with
  | nil => rfl
  | cons a b => simp [e] at this
theorem head_of (s : ByteArray) (h : 0 < s.size) : (s.data.toList.headD 0) = s[0] := by
  have hl : 0 < s.data.toList.length := by simpa using h
  cases e : s.data.toList with
  | nil => simp [e] at hl
  | cons a b =>
    have : s.data.toList[0] = a := by simp [e]
    exact this.symm
theorem len_of (s : ByteArray) : s.data.toList.length = s.size := by simp
theorem get_of (s : ByteArray) (k : Nat) (h : k < s.size) (h' : k < s.data.toList.length) : s.data.toList[k] = s[k] := by simp; rfl
theorem bytes_conv (w : World) (s : ByteArray) : ∃ w1 cap, (convert 9 47 (.string s)).run Tryd.prog w = .ok (.slice (some ⟨w.heap.size, 0, none⟩) s.size cap) w1 ∧ (∀ j, j < s.size → w1.cell? ⟨w.heap.size, j, none⟩ = some (.int .u8 (s.data.toList.getD j 0).toNat)) ∧ Below w.heap.size w w1 :=
  ⟨_, _, Lib.run_convert_string_bytes w 9 47 5 s Tryd.underlying9 Tryd.underlying47 Tryd.underlying5, fun j hj => Lib.bytesWorld_cell w _ s j hj,
    ⟨rfl, rfl, rfl, by rw [Lib.bytesWorld_size]; omega, fun k hk => Lib.bytesWorld_at_old w _ s k hk⟩⟩
theorem toList_data' (s : ByteArray) : s.toList = s.data.toList := ByteArray.toList_eq s
theorem extract1 (s : ByteArray) : (s.extract 1 s.size).data.toList = s.data.toList.drop 1 := by
  rw [Lib.extract_data, List.take_of_length_le]
  rw [List.length_drop, len_of]
  omega
theorem bsize_of (s : ByteArray) : s.size = s.data.toList.length := (len_of s).symm
end Go.Proofs.YtnlimfijepjliaaDoor
