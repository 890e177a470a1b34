/-
  Names and constants: IsName: contracts and the walks of their laws.
-/
import Derived.Test.YtmkhkojefjdbbaaInts
import Derived.Lib.ConvBytes
import Derived.WalkSpells
namespace Go.Proofs.Ytmkhkojefjdbbaa
open Go.RowKit

theorem walk_FnExactConstants (w : World) : Calls Try.prog 3 #[] w fun e w' => e = .returned (.bool true) ∧ Below w.heap.size w w' := by
  go_enter Try.func3, Try.ntmps3
  go_wp2
  go_ret
  exact ⟨rfl, Below.refl _ _⟩
theorem l01Small_any (x : Int) (w : World) : Calls Try.prog 47 #[.int .u8 x] w fun e w' => e = .returned (.bool (inR x 97 122)) ∧ w = w' := by
  by_cases h1 : 97 ≤ x
  · by_cases h2 : x ≤ 122
    · have h : inR x 97 122 = true := inR_mk ⟨h1, h2⟩
      go_enter Try.func47, Try.ntmps47
      go_wp2
      go_ret
      exact ⟨by simp [h], rfl⟩
    · have h : inR x 97 122 = false := inR_no fun h => h2 h.2
      go_enter Try.func47, Try.ntmps47
      go_wp2
      go_ret
      exact ⟨by simp, rfl⟩
  · have h : inR x 97 122 = false := inR_no fun h => h1 h.1
    go_enter Try.func47, Try.ntmps47
    go_wp2
    go_ret
    exact ⟨by simp, rfl⟩
theorem l01Digit_any (x : Int) (w : World) : Calls Try.prog 48 #[.int .u8 x] w fun e w' => e = .returned (.bool (inR x 48 57)) ∧ w = w' := by
  by_cases h1 : 48 ≤ x
  · by_cases h2 : x ≤ 57
    · have h : inR x 48 57 = true := inR_mk ⟨h1, h2⟩
      go_enter Try.func48, Try.ntmps48
      go_wp2
      go_ret
      exact ⟨by simp [h], rfl⟩
    · have h : inR x 48 57 = false := inR_no fun h => h2 h.2
      go_enter Try.func48, Try.ntmps48
      go_wp2
      go_ret
      exact ⟨by simp, rfl⟩
  · have h : inR x 48 57 = false := inR_no fun h => h1 h.1
    go_enter Try.func48, Try.ntmps48
    go_wp2
    go_ret
    exact ⟨by simp, rfl⟩
/-- A byte of a name. -/
def okc (x : Int) : Bool := inR x 97 122 || (inR x 48 57 || x == 45)
def nameOk (l : List UInt8) : Bool := decide (1 ≤ l.length ∧ l.length ≤ 12) && (inR (l.headD 0).toNat 97 122 && l.all fun c => okc c.toNat)
theorem nameOk_len {l : List UInt8} (h : ¬ (1 ≤ l.length ∧ l.length ≤ 12)) : nameOk l = false := by simp [nameOk, h]
theorem nameOk_head {l : List UInt8} (h : inR (l.headD 0).toNat 97 122 = false) : nameOk l = false := by unfold nameOk; rw [h]; simp
theorem nameOk_bad {l : List UInt8} {k : Nat} (hk : k < l.length) (h : okc l[k].toNat = false) : nameOk l = false := by
  unfold nameOk
  have : (l.all fun c => okc c.toNat) = false := by
    rw [List.all_eq_false]; exact ⟨l[k], List.getElem_mem hk, by simp [h]⟩
  rw [this]; simp
theorem nameOk_all {l : List UInt8} (h1 : 1 ≤ l.length ∧ l.length ≤ 12) (h2 : inR (l.headD 0).toNat 97 122 = true) (h3 : ∀ j, (h : j < l.length) → okc l[j].toNat = true) : nameOk l = true := by
  unfold nameOk
  have : (l.all fun c => okc c.toNat) = true := by
    rw [List.all_eq_true]; intro c hc; obtain ⟨j, hj, rfl⟩ := List.getElem_of_mem hc; exact h3 j hj
  rw [this, h2, decide_eq_true h1]; rfl
theorem ret_bool {a b : Bool} (h : a = b) : Ending.returned (.bool a) = .returned (.bool b) := by rw [h]
theorem isEmpty_of {s : ByteArray} (h : s.size ≠ 0) : s.toList.isEmpty = false := by
  rw [ByteArray.toList_eq]
  have : s.data.toList.length ≠ 0 := by simpa using h
  cases e : s.data.toList with
  | nil => simp [e] at this
  | cons a b => rfl
theorem isEmpty_yes {s : ByteArray} (h : s.size = 0) : s.toList.isEmpty = true := by
  rw [ByteArray.toList_eq]
  have : s.data.toList.length = 0 := by simpa using h
  cases e : s.data.toList with
  | nil => rfl
  | cons a b => simp [e] at this
theorem head_of (s : ByteArray) (h : 0 < s.size) : (s.data.toList.headD 0) = s[0] := by
  have hl : 0 < s.data.toList.length := by simpa using h
  cases e : s.data.toList with
  | nil => simp [e] at hl
  | cons a b =>
    have : s.data.toList[0] = a := by simp [e]
    exact this.symm
theorem len_of (s : ByteArray) : s.data.toList.length = s.size := by simp
theorem get_of (s : ByteArray) (k : Nat) (h : k < s.size) (h' : k < s.data.toList.length) : s.data.toList[k] = s[k] := by simp; rfl
set_option maxHeartbeats 1000000 in
theorem specIsName_any (s : ByteArray) (w : World) (hs : s.size ≤ maxLen) :
    Calls Try.prog 20 #[.string s] w fun e w' => e = .returned (.bool (nameOk s.data.toList)) ∧ Below w.heap.size w w' := by
  unfold maxLen at hs
  by_cases h0 : s.size = 0
  · have he : s.toList.isEmpty = true := isEmpty_yes h0
    go_enter Try.func20, Try.ntmps20
    go_wp2
    go_ret
    exact ⟨ret_bool (nameOk_len (by simp; omega)).symm, Below.refl _ _⟩
  · by_cases h12 : s.size ≤ 12
    · have he : s.toList.isEmpty = false := isEmpty_of h0
      have hp : 0 < s.size := by omega
      have hh := head_of s hp
      cases hd : inR (s[0].toNat : Int) 97 122
      · go_enter Try.func20, Try.ntmps20
        go_wp2_with (go_at_call 47; refine (l01Small_any _ _).mono ?_; rintro e w' ⟨rfl, rfl⟩)
        go_ret
        exact ⟨ret_bool (nameOk_head (by rw [hh]; exact hd)).symm, Below.refl _ _⟩
      · have HH := hide hh
        clear hh
        go_enter Try.func20, Try.ntmps20
        go_wp2_with (go_at_call 47; refine (l01Small_any _ _).mono ?_; rintro e w' ⟨rfl, rfl⟩)
        have HD := hide hd
        clear hd
        go_loop [3] (fun i => ∃ k : Nat, k ≤ s.size ∧ (∀ j, (h : j < s.size) → j < k → okc s[j].toNat = true) ∧ i = .int .i64 k) (fun i => s.size - (intOf i).toNat)
        case atStart => exact ⟨0, by omega, by omega, rfl⟩
        case round =>
          obtain ⟨k, hk, hall, rfl⟩ := hrel
          have HA := hide hall
          clear hall
          by_cases hlt : k < s.size
          · have step : okc s[k].toNat = true → ∀ j, (h : j < s.size) → j < k + 1 → okc s[j].toNat = true := fun h j hj hj' => by
              rcases Nat.lt_succ_iff_lt_or_eq.1 hj' with h1 | rfl
              · exact HA.out j hj h1
              · exact h
            have ST := hide step
            have bad : okc s[k].toNat = false → nameOk s.data.toList = false := fun h => nameOk_bad (k := k) (by simpa using hlt) (by rw [get_of s k hlt]; exact h)
            have BAD := hide bad
            clear step bad
            cases h1 : inR (s[k].toNat : Int) 97 122
            · cases h2 : inR (s[k].toNat : Int) 48 57
              · cases h3 : (s[k].toNat : Int) == 45
                · have h3' : ((s[k].toNat : Int) != 45) = true := by simpa using h3
                  have hk' := hide (show okc s[k].toNat = false by unfold okc; rw [h1, h2, h3]; rfl)
                  go_wp2_with (first | (go_at_call 47; refine (l01Small_any _ _).mono ?_; rintro e w' ⟨rfl, rfl⟩) | (go_at_call 48; refine (l01Digit_any _ _).mono ?_; rintro e w' ⟨rfl, rfl⟩))
                  go_ret
                  exact ⟨ret_bool (BAD.out hk'.out).symm, Below.refl _ _⟩
                · have h3' : ((s[k].toNat : Int) != 45) = false := by simpa using h3
                  have hk' := hide (show okc s[k].toNat = true by unfold okc; rw [h1, h2, h3]; rfl)
                  go_wp2_with (first | (go_at_call 47; refine (l01Small_any _ _).mono ?_; rintro e w' ⟨rfl, rfl⟩) | (go_at_call 48; refine (l01Digit_any _ _).mono ?_; rintro e w' ⟨rfl, rfl⟩))
                  go_round
                  case rel => exact ⟨k + 1, by omega, ST.out hk'.out, by go_num⟩
                  case measure => simp [intOf]; omega
              · have hk' := hide (show okc s[k].toNat = true by unfold okc; rw [h1, h2]; rfl)
                go_wp2_with (first | (go_at_call 47; refine (l01Small_any _ _).mono ?_; rintro e w' ⟨rfl, rfl⟩) | (go_at_call 48; refine (l01Digit_any _ _).mono ?_; rintro e w' ⟨rfl, rfl⟩))
                go_round
                case rel => exact ⟨k + 1, by omega, ST.out hk'.out, by go_num⟩
                case measure => simp [intOf]; omega
            · have hk' := hide (show okc s[k].toNat = true by unfold okc; rw [h1]; rfl)
              go_wp2_with (first | (go_at_call 47; refine (l01Small_any _ _).mono ?_; rintro e w' ⟨rfl, rfl⟩) | (go_at_call 48; refine (l01Digit_any _ _).mono ?_; rintro e w' ⟨rfl, rfl⟩))
              go_round
              case rel => exact ⟨k + 1, by omega, ST.out hk'.out, by go_num⟩
              case measure => simp [intOf]; omega
          · go_wp2
            go_ret
            refine ⟨ret_bool (nameOk_all (by simp; omega) (by rw [HH.out]; exact HD.out) ?_).symm, Below.refl _ _⟩
            intro j hj
            rw [get_of s j (by simpa using hj)]
            exact HA.out j (by simpa using hj) (by rw [len_of] at hj; omega)
    · have he : s.toList.isEmpty = false := isEmpty_of h0
      go_enter Try.func20, Try.ntmps20
      go_wp2
      go_ret
      exact ⟨ret_bool (nameOk_len (by simp; omega)).symm, Below.refl _ _⟩
theorem bytes_conv (w : World) (s : ByteArray) : ∃ w1 cap, (convert 9 36 (.string s)).run Try.prog w = .ok (.slice (some ⟨w.heap.size, 0, none⟩) s.size cap) w1 ∧ (∀ j, j < s.size → w1.cell? ⟨w.heap.size, j, none⟩ = some (.int .u8 (s.data.toList.getD j 0).toNat)) ∧ Below w.heap.size w w1 :=
  ⟨_, _, Lib.run_convert_string_bytes w 9 36 5 s Try.underlying9 Try.underlying36 Try.underlying5, fun j hj => Lib.bytesWorld_cell w _ s j hj,
    ⟨rfl, rfl, rfl, by rw [Lib.bytesWorld_size]; omega, fun k hk => Lib.bytesWorld_at_old w _ s k hk⟩⟩
theorem implIsName_any (s : ByteArray) (w : World) (hs : s.size ≤ maxLen) :
    Calls Try.prog 21 #[.string s] w fun e w' => e = .returned (.bool (nameOk s.data.toList)) ∧ Below w.heap.size w w' := by
  unfold maxLen at hs
  by_cases h0 : s.size = 0
  · go_enter Try.func21, Try.ntmps21
    go_wp2
    go_ret
    exact ⟨ret_bool (nameOk_len (by simp; omega)).symm, Below.refl _ _⟩
  · by_cases h12 : s.size ≤ 12
    · obtain ⟨w1, cap, hconv, hcell, hb1⟩ := bytes_conv w s
      have hh := head_of s (by omega)
      have HH := hide hh
      have HC := hide hcell
      clear hh hcell
      go_enter Try.func21, Try.ntmps21
      go_wp2
      go_loop [3, 4, 5, 6, 18] (fun _ _ _ _ i => ∃ k : Nat, k ≤ s.size ∧ (∀ j, (h : j < s.size) → j < k → okc s[j].toNat = true) ∧ (0 < k → inR (s.data.toList.headD 0).toNat 97 122 = true) ∧ i = .int .i64 k) (fun _ _ _ _ i => s.size - (intOf i).toNat)
      case atStart => exact ⟨0, by omega, by omega, by omega, rfl⟩
      case round =>
        obtain ⟨k, hk, hall, hhd, rfl⟩ := hrel
        have HA := hide hall
        have HD := hide hhd
        clear hall hhd hconv
        by_cases hlt : k < s.size
        · have hx0 : s.data.toList.getD k 0 = s[k] := by
            rw [List.getD_eq_getElem?_getD, List.getElem?_eq_getElem (by simpa using hlt)]
            exact get_of s k hlt (by simpa using hlt)
          have hc := HC.out k hlt
          rw [hx0] at hc
          obtain ⟨x, hx⟩ : ∃ x : Int, x = (s[k].toNat : Int) := ⟨_, rfl⟩
          rw [← hx] at hc
          have HX := hide hx
          clear hx hx0
          have step : okc x = true → ∀ j, (h : j < s.size) → j < k + 1 → okc s[j].toNat = true := fun h j hj hj' => by
            rcases Nat.lt_succ_iff_lt_or_eq.1 hj' with h1 | rfl
            · exact HA.out j hj h1
            · rw [← HX.out]; exact h
          have ST := hide step
          have bad : okc x = false → nameOk s.data.toList = false := fun h => nameOk_bad (k := k) (by simpa using hlt) (by rw [get_of s k hlt, ← HX.out]; exact h)
          have BAD := hide bad
          have hd1 : 0 < k ∨ inR x 97 122 = true → (0 < k + 1 → inR (s.data.toList.headD 0).toNat 97 122 = true) := fun h _ => by
            rcases h with h | h
            · exact HD.out h
            · rcases Nat.eq_zero_or_pos k with rfl | h0
              · rw [HH.out, ← HX.out]; exact h
              · exact HD.out h0
          have HD1 := hide hd1
          have bad0 : k = 0 → inR x 97 122 = false → nameOk s.data.toList = false := fun h0 h => nameOk_head (by subst h0; rw [HH.out, ← HX.out]; exact h)
          have BAD0 := hide bad0
          clear step bad hd1 bad0
          rcases (show x < 45 ∨ (45 < x ∧ x < 48) ∨ x = 45 ∨ (48 ≤ x ∧ x ≤ 57) ∨ (57 < x ∧ x < 97) ∨ (97 ≤ x ∧ x ≤ 122) ∨ 122 < x by omega) with h | h | h | h | h | h | h
          · have hn := hide (show inR x 97 122 = false from inR_no (by omega))
            have hk := hide (show okc x = false by unfold okc; rw [hn.out, inR_no (by omega)]; simp; omega)
            have h45 : (x == 45) = false := by simp; omega
            rcases Nat.eq_zero_or_pos k with h0k | h0k
            · subst h0k
              go_wp2
              go_ret
              exact ⟨ret_bool (BAD0.out (by simp) hn.out).symm, hb1⟩
            · have hk0 : ((k : Int) == 0) = false := by simp; omega
              go_wp2
              go_ret
              exact ⟨ret_bool (BAD.out hk.out).symm, hb1⟩
          · have hn := hide (show inR x 97 122 = false from inR_no (by omega))
            have hk := hide (show okc x = false by unfold okc; rw [hn.out, inR_no (by omega)]; simp; omega)
            have h45 : (x == 45) = false := by simp; omega
            rcases Nat.eq_zero_or_pos k with h0k | h0k
            · subst h0k
              go_wp2
              go_ret
              exact ⟨ret_bool (BAD0.out (by simp) hn.out).symm, hb1⟩
            · have hk0 : ((k : Int) == 0) = false := by simp; omega
              go_wp2
              go_ret
              exact ⟨ret_bool (BAD.out hk.out).symm, hb1⟩
          · have hn := hide (show inR x 97 122 = false from inR_no (by omega))
            have hk := hide (show okc x = true by unfold okc; rw [hn.out]; simp; first | (right; omega) | (left; exact inR_mk (by omega)))
            rcases Nat.eq_zero_or_pos k with h0k | h0k
            · subst h0k
              go_wp2
              go_ret
              exact ⟨ret_bool (BAD0.out (by simp) hn.out).symm, hb1⟩
            · have hk0 : ((k : Int) == 0) = false := by simp; omega
              go_wp2
              go_round
              case rel => exact ⟨k + 1, by omega, ST.out hk.out, HD1.out (.inl h0k), by go_num⟩
              case measure => simp [intOf]; omega
          · have hn := hide (show inR x 97 122 = false from inR_no (by omega))
            have hk := hide (show okc x = true by unfold okc; rw [hn.out]; simp; first | (right; omega) | (left; exact inR_mk (by omega)))
            rcases Nat.eq_zero_or_pos k with h0k | h0k
            · subst h0k
              go_wp2
              go_ret
              exact ⟨ret_bool (BAD0.out (by simp) hn.out).symm, hb1⟩
            · have hk0 : ((k : Int) == 0) = false := by simp; omega
              go_wp2
              go_round
              case rel => exact ⟨k + 1, by omega, ST.out hk.out, HD1.out (.inl h0k), by go_num⟩
              case measure => simp [intOf]; omega
          · have hn := hide (show inR x 97 122 = false from inR_no (by omega))
            have hk := hide (show okc x = false by unfold okc; rw [hn.out, inR_no (by omega)]; simp; omega)
            have h45 : (x == 45) = false := by simp; omega
            have h57 : decide (x ≤ 57) = false := by simp; omega
            rcases Nat.eq_zero_or_pos k with h0k | h0k
            · subst h0k
              go_wp2
              go_ret
              exact ⟨ret_bool (BAD0.out (by simp) hn.out).symm, hb1⟩
            · have hk0 : ((k : Int) == 0) = false := by simp; omega
              go_wp2
              go_ret
              exact ⟨ret_bool (BAD.out hk.out).symm, hb1⟩
          · have hl : inR x 97 122 = true := inR_mk h
            have hk := hide (show okc x = true by unfold okc; rw [hl]; rfl)
            have HL := hide hl
            clear hl
            go_wp2
            go_round
            case rel => exact ⟨k + 1, by omega, ST.out hk.out, HD1.out (.inr HL.out), by go_num⟩
            case measure => simp [intOf]; omega
          · have hn := hide (show inR x 97 122 = false from inR_no (by omega))
            have hk := hide (show okc x = false by unfold okc; rw [hn.out, inR_no (by omega)]; simp; omega)
            have h45 : (x == 45) = false := by simp; omega
            have h57 : decide (x ≤ 57) = false := by simp; omega
            have h122 : decide (x ≤ 122) = false := by simp; omega
            rcases Nat.eq_zero_or_pos k with h0k | h0k
            · subst h0k
              go_wp2
              go_ret
              exact ⟨ret_bool (BAD0.out (by simp) hn.out).symm, hb1⟩
            · have hk0 : ((k : Int) == 0) = false := by simp; omega
              go_wp2
              go_ret
              exact ⟨ret_bool (BAD.out hk.out).symm, hb1⟩
        · go_wp2
          go_ret
          refine ⟨ret_bool (nameOk_all (by simp; omega) (HD.out (by omega)) ?_).symm, hb1⟩
          intro j hj
          rw [get_of s j (by simpa using hj)]
          exact HA.out j (by simpa using hj) (by rw [len_of] at hj; omega)
    · go_enter Try.func21, Try.ntmps21
      go_wp2
      go_ret
      exact ⟨ret_bool (nameOk_len (by simp; omega)).symm, Below.refl _ _⟩
theorem walk_FnExactIsName (a0 : ByteArray) (w : World) (h0 : a0.size ≤ maxLen) :
    Calls Try.prog 6 #[.string a0] w fun e w' => e = .returned (.bool true) ∧ Below w.heap.size w w' := by
  have hm : a0.size ≤ 9223372036854775807 := h0
  by_cases hl : a0.size ≤ 1048576
  · go_enter Try.func6, Try.ntmps6
    go_wp2_with (first | (go_at_call 20; refine (specIsName_any _ _ h0).mono ?_; rintro e w1 ⟨rfl, hb1⟩) | (go_at_call 21; refine (implIsName_any _ _ h0).mono ?_; rintro e w2 ⟨rfl, hb2⟩))
    go_ret
    exact ⟨rfl, bstep hb1 hb2⟩
  · go_enter Try.func6, Try.ntmps6
    go_wp2_with fail
    go_ret
    exact ⟨rfl, Below.refl _ _⟩
end Go.Proofs.Ytmkhkojefjdbbaa
