/-
  ReadDecimal: contracts of both functions, and the walk of its law.
-/
import Derived.Test.YtnlimfijepjliaaDoorDecI
import Derived.Test.YtnlimfijepjliaaDoorRdV
import Derived.Deep.Cut
namespace Go.Proofs.YtnlimfijepjliaaDoor
open Go.RowKit

set_option maxHeartbeats 1000000 in
theorem l01Number_any (s : ByteArray) (w : World) (hs : s.size ≤ 4294967280) :
    Calls Tryd.prog 65 #[.string s] w fun e w' => e = .returned (rdV s.data.toList) ∧ Below w.heap.size w w' := by
  by_cases hc : 0 < s.size
  · have he : s.toList.isEmpty = false := isEmpty_of (by omega)
    obtain ⟨c0, hc0⟩ : ∃ c, c = s[0] := ⟨_, rfl⟩
    have hcons : s.data.toList = c0 :: s.data.toList.drop 1 := by
      have hl : 0 < s.data.toList.length := by rw [len_of]; exact hc
      have h := List.drop_eq_getElem_cons hl
      rw [List.drop_zero] at h
      rw [hc0, ← get_of s 0 hc hl]
      exact h
    have htrim := trimMinus c0 (s.data.toList.drop 1)
    rw [← hcons] at htrim
    by_cases h45 : c0 = 45
    · rw [if_pos h45] at htrim
      have hz : ((s[0].toNat : Int) == 45) = true := by rw [← hc0, h45]; rfl
      go_enter Tryd.func65, Tryd.ntmps65
      go_upto_region 4 with fail
      obtain ⟨t, ht⟩ : ∃ t, t = s.extract 1 s.size := ⟨_, rfl⟩
      have htl : t.data.toList = Lib.trimPrefix s.data.toList [45] := by rw [ht, extract1, htrim]
      have hneg : t.size < s.size := by rw [bsize_of t, htl, htrim, List.length_drop, len_of]; omega
      rw [← ht]
      clear ht htrim hcons hc0 h45 hz he
      obtain ⟨tl, htl2⟩ : ∃ tl, tl = t.data.toList := ⟨_, rfl⟩
      have hts : t.size = tl.length := by rw [htl2]; exact bsize_of t
      by_cases z0 : t.size < 1
      · have d0 : decide ((t.size : Int) < 1) = true := decide_eq_true (by omega)
        have HR := hide (numS_bad (l := s.data.toList) (by rw [← htl, ← htl2, ← hts]; exact .inl z0))
        have d0' : decide (t.size < 1) = true := decide_eq_true z0
        clear htl htl2 hts
        go_wp2_with fail
        go_ret2
        rw [HR.out]
        exact ⟨rfl, Below.refl _ _⟩
      · have d0 : decide ((t.size : Int) < 1) = false := decide_eq_false (by omega)
        by_cases z1 : 18 < t.size
        · have d1 : decide ((18 : Int) < (t.size : Int)) = true := decide_eq_true (by omega)
          have HR := hide (numS_bad (l := s.data.toList) (by rw [← htl, ← htl2, ← hts]; exact .inr z1))
          clear htl htl2 hts
          go_wp2_with fail
          go_ret2
          rw [HR.out]
          exact ⟨rfl, Below.refl _ _⟩
        · have d1 : decide ((18 : Int) < (t.size : Int)) = false := decide_eq_false (by omega)
          have HGD := hide (numS_good (l := s.data.toList) (by rw [← htl, ← htl2, ← hts]; omega))
          rw [← htl, ← htl2] at HGD
          have HTL := hide htl2
          have HTS := hide hts
          clear htl htl2 hts
          go_wp2_with fail
          go_loop [5, 6] (fun a i => ∃ (k u : Nat), k ≤ t.size ∧ Lib.decFrom 0 tl = Lib.decFrom u (tl.drop k) ∧ u < 10 ^ k ∧ a = .int .i64 (u : Int) ∧ i = .int .i64 (k : Int)) (fun _ i => t.size - (intOf i).toNat)
          case atStart => exact ⟨0, 0, by omega, rfl, by decide, rfl, rfl⟩
          case round =>
            obtain ⟨k, u, hk, hdf, hu, rfl, rfl⟩ := hrel
            have HDF := hide hdf
            have hp : 10 ^ k ≤ 10 ^ 18 := Nat.pow_le_pow_right (by decide) (by omega)
            have HU := hide hu
            have hu18 : u < 1000000000000000000 := Nat.lt_of_lt_of_le hu hp
            clear hdf hu hp
            by_cases hlt : k < t.size
            · have hp17 : 10 ^ k ≤ 10 ^ 17 := Nat.pow_le_pow_right (by decide) (by omega)
              have hu17 : u < 100000000000000000 := Nat.lt_of_lt_of_le HU.out hp17
              have hget : tl.drop k = t[k] :: tl.drop (k + 1) := by
                have hl : k < tl.length := by rw [← HTS.out]; exact hlt
                rw [List.drop_eq_getElem_cons hl]
                congr 1
                have := HTL.out
                subst this
                exact get_of t k hlt hl
              have hcb : t[k].toNat < 256 := UInt8.toNat_lt t[k]
              have i0 : (0 : Int) ≤ (k : Int) := by omega
              have i1 : (k : Int) < (t.size : Int) := by omega
              cases hd : inR (t[k].toNat : Int) 48 57
              · have hz : Lib.decFrom 0 tl = none := by
                  rw [HDF.out, hget, Lib.decFrom, Lib.digitVal, if_neg (by have := inR_false hd; omega)]
                have HZ := hide (HGD.out.1 hz)
                have HD := hide hd
                clear hget hz hd hp17 hu17
                go_wp2_with fail
                refine (l01Digit_any _ _).mono ?_
                rintro e w' ⟨rfl, rfl⟩
                rw [HD.out]
                go_wp2_with fail
                go_ret2
                rw [HZ.out]
                exact ⟨rfl, Below.refl _ _⟩
              · have hd2 := inR_true hd
                obtain ⟨d, hdd⟩ : ∃ d, d = t[k].toNat - 48 := ⟨_, rfl⟩
                have hst : Lib.decFrom 0 tl = Lib.decFrom (u * 10 + d) (tl.drop (k + 1)) := by
                  rw [HDF.out, hget, Lib.decFrom, Lib.digitVal, if_pos (by omega), hdd]
                have HST := hide hst
                have hun : u * 10 + d < 10 ^ (k + 1) := by
                  have := HU.out
                  rw [Nat.pow_succ]
                  omega
                have HUN := hide hun
                have HD := hide hd
                have q1 : IntKind.u8.wrap ((t[k].toNat : Int) - 48) = (d : Int) := (IntWalk.u8_in _ (by omega)).trans (by omega)
                have q1' : ((t[k].toNat : Int) - 48) % 256 = (d : Int) := by omega
                have q2 : IntKind.i64.wrap (d : Int) = (d : Int) := IntWalk.i64_in _ (by omega)
                have q3 : IntKind.i64.wrap (10 * (u : Int)) = 10 * (u : Int) := IntWalk.i64_in _ (by omega)
                have q4 : IntKind.i64.wrap (10 * (u : Int) + (d : Int)) = ((u * 10 + d : Nat) : Int) := (IntWalk.i64_in _ (by omega)).trans (by omega)
                clear hget hst hun hd hdd hp17 hu17
                go_wp2_with fail
                refine (l01Digit_any _ _).mono ?_
                rintro e w' ⟨rfl, rfl⟩
                rw [HD.out]
                go_wp2_with fail
                go_round
                case rel => exact ⟨k + 1, u * 10 + d, hlt, HST.out, HUN.out, by first | rfl | go_num, by first | rfl | go_num⟩
                case measure => simp only [intOf]; omega
            · have hend : Lib.decFrom 0 tl = some u := by
                rw [HDF.out, List.drop_eq_nil_of_le (by rw [← HTS.out]; omega)]; rfl
              have HN2 := hide (HGD.out.2 u hend)
              clear hend
              obtain ⟨n, hn⟩ : ∃ n : Int, n = -(u : Int) := ⟨_, rfl⟩
              have hlen : tl.length < s.data.toList.length := by rw [← HTS.out, len_of]; exact hneg
              have hv : rdV s.data.toList = if Lib.itoa n = s.data.toList then .tuple #[.int .i64 n, .bool true] else .tuple #[.int .i64 0, .bool false] := by
                have h := HN2.out
                rw [if_pos hlen] at h
                rw [hn]
                exact h
              have HV := hide hv
              have q0 : IntKind.i64.wrap (-(u : Int)) = n := (IntWalk.i64_in _ (by omega)).trans hn.symm
              have hnb : -9223372036854775808 ≤ n ∧ n ≤ 9223372036854775807 := by omega
              have d2 : decide ((t.size : Int) < (s.size : Int)) = true := decide_eq_true (by omega)
              have CD := hide (fun w => l01Dec_any n w hnb.1 hnb.2)
              have HTS2 := hide hn
              clear hv hlen
              by_cases hq : Lib.itoa n = s.data.toList
              · have hx : (⟨(Lib.itoa n).toArray⟩ : ByteArray) = s := by rw [hq]
                rw [hx] at CD
                have HV2 := hide (HV.out.trans (if_pos hq))
                clear hq hx
                go_wp2_with fail
                rw [← HTS2.out]
                refine (CD.out _).mono ?_
                rintro e w1 ⟨rfl, hb1⟩
                have HB1 := hide hb1
                clear hb1
                go_wp2_with fail
                go_ret2
                rw [HV2.out]
                exact ⟨by first | rfl | (rw [HTS2.out]; rfl), HB1.out⟩
              · have hx : ¬ (⟨(Lib.itoa n).toArray⟩ : ByteArray) = s := fun e => hq (by rw [← e])
                have HV2 := hide (HV.out.trans (if_neg hq))
                obtain ⟨x, hxx⟩ : ∃ x, x = (⟨(Lib.itoa n).toArray⟩ : ByteArray) := ⟨_, rfl⟩
                rw [← hxx] at CD hx
                have h1 : (x.toList == s.toList) = false := toList_ne hx
                have h2 : (x.toList != s.toList) = true := by rw [bne, h1]; rfl
                clear hq hxx
                go_wp2_with fail
                rw [← HTS2.out]
                refine (CD.out _).mono ?_
                rintro e w1 ⟨rfl, hb1⟩
                have HB1 := hide hb1
                clear hb1
                go_wp2_with fail
                go_ret2
                rw [HV2.out]
                exact ⟨by first | rfl | (rw [HTS2.out]; rfl), HB1.out⟩
    · rw [if_neg h45] at htrim
      have hz : ((s[0].toNat : Int) == 45) = false := by
        rw [← hc0]
        simp only [beq_eq_false_iff_ne, ne_eq]
        intro e
        exact h45 (u8_eq (n := 45) (by omega) (by decide))
      go_enter Tryd.func65, Tryd.ntmps65
      go_upto_region 4 with fail
      have htl : s.data.toList = Lib.trimPrefix s.data.toList [45] := htrim.symm
      have htl' := htl
      clear htl'
      clear htrim hcons hc0 h45 hz he
      have hts : s.size = s.data.toList.length := bsize_of s
      by_cases z0 : s.size < 1
      · have d0 : decide ((s.size : Int) < 1) = true := decide_eq_true (by omega)
        have HR := hide (numS_bad (l := s.data.toList) (by rw [← htl, ← hts]; exact .inl z0))
        have d0' : decide (s.size < 1) = true := decide_eq_true z0
        clear htl hts
        go_wp2_with fail
        go_ret2
        rw [HR.out]
        exact ⟨rfl, Below.refl _ _⟩
      · have d0 : decide ((s.size : Int) < 1) = false := decide_eq_false (by omega)
        by_cases z1 : 18 < s.size
        · have d1 : decide ((18 : Int) < (s.size : Int)) = true := decide_eq_true (by omega)
          have HR := hide (numS_bad (l := s.data.toList) (by rw [← htl, ← hts]; exact .inr z1))
          clear htl hts
          go_wp2_with fail
          go_ret2
          rw [HR.out]
          exact ⟨rfl, Below.refl _ _⟩
        · have d1 : decide ((18 : Int) < (s.size : Int)) = false := decide_eq_false (by omega)
          have HGD := hide (numS_good (l := s.data.toList) (by rw [← htl, ← hts]; omega))
          rw [← htl] at HGD
          have HTS := hide hts
          clear htl hts
          go_wp2_with fail
          go_loop [5, 6] (fun a i => ∃ (k u : Nat), k ≤ s.size ∧ Lib.decFrom 0 s.data.toList = Lib.decFrom u (s.data.toList.drop k) ∧ u < 10 ^ k ∧ a = .int .i64 (u : Int) ∧ i = .int .i64 (k : Int)) (fun _ i => s.size - (intOf i).toNat)
          case atStart => exact ⟨0, 0, by omega, rfl, by decide, rfl, rfl⟩
          case round =>
            obtain ⟨k, u, hk, hdf, hu, rfl, rfl⟩ := hrel
            have HDF := hide hdf
            have hp : 10 ^ k ≤ 10 ^ 18 := Nat.pow_le_pow_right (by decide) (by omega)
            have HU := hide hu
            have hu18 : u < 1000000000000000000 := Nat.lt_of_lt_of_le hu hp
            clear hdf hu hp
            by_cases hlt : k < s.size
            · have hp17 : 10 ^ k ≤ 10 ^ 17 := Nat.pow_le_pow_right (by decide) (by omega)
              have hu17 : u < 100000000000000000 := Nat.lt_of_lt_of_le HU.out hp17
              have hget : s.data.toList.drop k = s[k] :: s.data.toList.drop (k + 1) := by
                have hl : k < s.data.toList.length := by rw [← HTS.out]; exact hlt
                rw [List.drop_eq_getElem_cons hl]
                congr 1
                all_goals exact get_of s k hlt hl
              have hcb : s[k].toNat < 256 := UInt8.toNat_lt s[k]
              have i0 : (0 : Int) ≤ (k : Int) := by omega
              have i1 : (k : Int) < (s.size : Int) := by omega
              cases hd : inR (s[k].toNat : Int) 48 57
              · have hz : Lib.decFrom 0 s.data.toList = none := by
                  rw [HDF.out, hget, Lib.decFrom, Lib.digitVal, if_neg (by have := inR_false hd; omega)]
                have HZ := hide (HGD.out.1 hz)
                have HD := hide hd
                clear hget hz hd hp17 hu17
                go_wp2_with fail
                refine (l01Digit_any _ _).mono ?_
                rintro e w' ⟨rfl, rfl⟩
                rw [HD.out]
                go_wp2_with fail
                go_ret2
                rw [HZ.out]
                exact ⟨rfl, Below.refl _ _⟩
              · have hd2 := inR_true hd
                obtain ⟨d, hdd⟩ : ∃ d, d = s[k].toNat - 48 := ⟨_, rfl⟩
                have hst : Lib.decFrom 0 s.data.toList = Lib.decFrom (u * 10 + d) (s.data.toList.drop (k + 1)) := by
                  rw [HDF.out, hget, Lib.decFrom, Lib.digitVal, if_pos (by omega), hdd]
                have HST := hide hst
                have hun : u * 10 + d < 10 ^ (k + 1) := by
                  have := HU.out
                  rw [Nat.pow_succ]
                  omega
                have HUN := hide hun
                have HD := hide hd
                have q1 : IntKind.u8.wrap ((s[k].toNat : Int) - 48) = (d : Int) := (IntWalk.u8_in _ (by omega)).trans (by omega)
                have q1' : ((s[k].toNat : Int) - 48) % 256 = (d : Int) := by omega
                have q2 : IntKind.i64.wrap (d : Int) = (d : Int) := IntWalk.i64_in _ (by omega)
                have q3 : IntKind.i64.wrap (10 * (u : Int)) = 10 * (u : Int) := IntWalk.i64_in _ (by omega)
                have q4 : IntKind.i64.wrap (10 * (u : Int) + (d : Int)) = ((u * 10 + d : Nat) : Int) := (IntWalk.i64_in _ (by omega)).trans (by omega)
                clear hget hst hun hd hdd hp17 hu17
                go_wp2_with fail
                refine (l01Digit_any _ _).mono ?_
                rintro e w' ⟨rfl, rfl⟩
                rw [HD.out]
                go_wp2_with fail
                go_round
                case rel => exact ⟨k + 1, u * 10 + d, hlt, HST.out, HUN.out, by first | rfl | go_num, by first | rfl | go_num⟩
                case measure => simp only [intOf]; omega
            · have hend : Lib.decFrom 0 s.data.toList = some u := by
                rw [HDF.out, List.drop_eq_nil_of_le (by rw [← HTS.out]; omega)]; rfl
              have HN2 := hide (HGD.out.2 u hend)
              clear hend
              obtain ⟨n, hn⟩ : ∃ n : Int, n = (u : Int) := ⟨_, rfl⟩
              have hlen : ¬ s.data.toList.length < s.data.toList.length := by omega
              have hv : rdV s.data.toList = if Lib.itoa n = s.data.toList then .tuple #[.int .i64 n, .bool true] else .tuple #[.int .i64 0, .bool false] := by
                have h := HN2.out
                rw [if_neg hlen] at h
                rw [hn]
                exact h
              have HV := hide hv
              have q0 : IntKind.i64.wrap ((u : Int)) = n := (IntWalk.i64_in _ (by omega)).trans hn.symm
              have hnb : -9223372036854775808 ≤ n ∧ n ≤ 9223372036854775807 := by omega
              have d2 : decide ((s.size : Int) < (s.size : Int)) = false := decide_eq_false (by omega)
              have CD := hide (fun w => l01Dec_any n w hnb.1 hnb.2)
              have HTS2 := hide hn
              clear hv hlen
              by_cases hq : Lib.itoa n = s.data.toList
              · have hx : (⟨(Lib.itoa n).toArray⟩ : ByteArray) = s := by rw [hq]
                rw [hx] at CD
                have HV2 := hide (HV.out.trans (if_pos hq))
                clear hq hx
                go_wp2_with fail
                rw [← HTS2.out]
                refine (CD.out _).mono ?_
                rintro e w1 ⟨rfl, hb1⟩
                have HB1 := hide hb1
                clear hb1
                go_wp2_with fail
                go_ret2
                rw [HV2.out]
                exact ⟨by first | rfl | (rw [HTS2.out]; rfl), HB1.out⟩
              · have hx : ¬ (⟨(Lib.itoa n).toArray⟩ : ByteArray) = s := fun e => hq (by rw [← e])
                have HV2 := hide (HV.out.trans (if_neg hq))
                obtain ⟨x, hxx⟩ : ∃ x, x = (⟨(Lib.itoa n).toArray⟩ : ByteArray) := ⟨_, rfl⟩
                rw [← hxx] at CD hx
                have h1 : (x.toList == s.toList) = false := toList_ne hx
                have h2 : (x.toList != s.toList) = true := by rw [bne, h1]; rfl
                clear hq hxx
                go_wp2_with fail
                rw [← HTS2.out]
                refine (CD.out _).mono ?_
                rintro e w1 ⟨rfl, hb1⟩
                have HB1 := hide hb1
                clear hb1
                go_wp2_with fail
                go_ret2
                rw [HV2.out]
                exact ⟨by first | rfl | (rw [HTS2.out]; rfl), HB1.out⟩
  · have he : s.toList.isEmpty = true := isEmpty_yes (by omega)
    have hnil : s.data.toList = [] := List.eq_nil_of_length_eq_zero (by rw [len_of]; omega)
    have HR := hide (numS_bad (l := s.data.toList) (by rw [hnil]; left; decide))
    have d0 : decide ((s.size : Int) < 1) = true := decide_eq_true (by omega)
    clear hnil
    go_enter Tryd.func65, Tryd.ntmps65
    go_wp2_with fail
    go_ret2
    rw [HR.out]
    exact ⟨rfl, Below.refl _ _⟩
theorem specReadDecimal_any (s : ByteArray) (w : World) (hs : s.size ≤ 4294967280) :
    Calls Tryd.prog 30 #[.string s] w fun e w' => e = .returned (rdV s.data.toList) ∧ Below w.heap.size w w' := by
  have C := hide (l01Number_any s w hs)
  unfold rdV at C ⊢
  obtain ⟨n, hn⟩ : ∃ n, n = rdN s.data.toList := ⟨_, rfl⟩
  obtain ⟨b, hb⟩ : ∃ b, b = rdB s.data.toList := ⟨_, rfl⟩
  rw [← hn, ← hb] at C ⊢
  clear hn hb
  go_enter Tryd.func30, Tryd.ntmps30
  go_wp2_with fail
  refine C.out.mono ?_
  rintro e w1 ⟨rfl, hb1⟩
  go_wp2_with fail
  go_ret2
  exact ⟨rfl, hb1⟩
/-- The library's two sentinels lie as the library lays them. -/
def ErrB (w : World) : Prop := (∃ tp p, w.var? Tryd.prog "strconv.ErrRange" = some #[.iface tp p]) ∧ ∃ tp p, w.var? Tryd.prog "strconv.ErrSyntax" = some #[.iface tp p]
theorem var_below {w w' : World} {n : String} {cs : Array Value} (h : w.var? Tryd.prog n = some cs) (hb : Below w.heap.size w w') : w'.var? Tryd.prog n = some cs := by
  unfold World.var? at h ⊢
  cases hg : Tryd.prog.globalNamed n with
  | none => simp [hg] at h
  | some g =>
    simp only [hg, Option.bind_some] at h ⊢
    have hlt : g < w.heap.size := by
      rcases Nat.lt_or_ge g w.heap.size with h' | h'
      · exact h'
      · simp [Array.getElem?_eq_none h'] at h
    rw [hb.block g hlt]
    exact h
theorem ErrB.below {w w' : World} (h : ErrB w) (hb : Below w.heap.size w w') : ErrB w' := by
  obtain ⟨⟨a, b, h1⟩, c, d, h2⟩ := h
  exact ⟨⟨a, b, var_below h1 hb⟩, c, d, var_below h2 hb⟩
/-- ParseInt at base 10 of a text that is no int64: some number, and an error. -/
theorem parseErr_any (s : ByteArray) (hlim : s.size ≤ 281474976710656) (h : ∀ v, Lib.parseIntB 64 s.data.toList ≠ .ok v) (w : World) (he : ErrB w) :
    Calls Tryd.prog 67 #[.string s, .int .i64 10, .int .i64 64] w fun e w' => ∃ (v : Int) (tp : TypeId) (p : Value), e = .returned (.tuple #[.int .i64 v, .iface tp p]) ∧ Below w.heap.size w w' := by
  obtain ⟨⟨a, b, h1⟩, c, d, h2⟩ := he
  rcases hp : Lib.parseIntB 64 s.data.toList with v | _ | _
  · exact absurd hp (h v)
  · refine (Any.strconv_ParseInt_10_at64_syntax_var Tryd.laysC174 s hlim hp c d w h2).mono ?_
    rintro e w' ⟨N, rfl, _, _, hb⟩
    exact ⟨_, _, _, rfl, hb⟩
  · refine (Any.strconv_ParseInt_10_at64_range_var Tryd.laysC174 s hlim hp a b w h1).mono ?_
    rintro e w' ⟨N, rfl, _, _, hb⟩
    exact ⟨_, _, _, rfl, hb⟩
theorem parseOk_any (s : ByteArray) (hmax : s.size ≤ 4294967280) (v : Int) (h : Lib.parseIntB 64 s.data.toList = .ok v) (w : World) :
    Calls Tryd.prog 67 #[.string s, .int .i64 10, .int .i64 64] w fun e w' => e = .returned (.tuple #[.int .i64 v, .nilIface]) ∧ Below w.heap.size w w' := by
  refine (Tryd.strconv_ParseInt_10_at64_ok s (by omega) v h w).mono ?_
  rintro e w' ⟨rfl, h | ⟨t, h⟩⟩
  · subst h; exact ⟨rfl, Below.refl _ _⟩
  · subst h
    exact ⟨rfl, ⟨rfl, rfl, rfl, by rw [Lib.bytesWorld_size]; omega, fun k hk => Lib.bytesWorld_at_old w _ t k hk⟩⟩
theorem numL_val (l : List UInt8) : rdV l = match numL l with | some n => .tuple #[.int .i64 n, .bool true] | none => .tuple #[.int .i64 0, .bool false] := by
  rw [numL_numS]
  cases h : numS l with
  | none => exact rdV_none h
  | some n => exact rdV_some h
set_option maxHeartbeats 1000000 in
theorem implReadDecimal_any (s : ByteArray) (w : World) (hs : s.size ≤ 4294967280) (ht : TabB w) (he : ErrB w) :
    Calls Tryd.prog 31 #[.string s] w fun e w' => e = .returned (rdV s.data.toList) ∧ Below w.heap.size w w' := by
  have HT := hide ht
  have HE := hide he
  have hnv := numL_val s.data.toList
  unfold numL at hnv
  have CT := hide (Tryd.strings_TrimPrefix s ⟨#[45]⟩ w)
  obtain ⟨t, htt⟩ : ∃ t : ByteArray, t = ⟨(Lib.trimPrefix s.data.toList (⟨#[45]⟩ : ByteArray).data.toList).toArray⟩ := ⟨_, rfl⟩
  have htl : Lib.trimPrefix s.data.toList [45] = t.data.toList := by rw [htt]
  have hts : t.size = t.data.toList.length := bsize_of t
  rw [← htt] at CT
  rw [htl, ← hts] at hnv
  clear htt htl hts ht he
  by_cases z0 : t.size < 1
  · have d0 : decide ((t.size : Int) < 1) = true := decide_eq_true (by omega)
    rw [if_pos (.inl z0)] at hnv
    have HV := hide hnv
    clear hnv
    go_enter Tryd.func31, Tryd.ntmps31
    go_wp2_with fail
    refine CT.out.mono ?_
    rintro e w' ⟨rfl, rfl⟩
    go_wp2_with fail
    go_ret2
    rw [HV.out]
    exact ⟨rfl, Below.refl _ _⟩
  · have d0 : decide ((t.size : Int) < 1) = false := decide_eq_false (by omega)
    by_cases z1 : 18 < t.size
    · have d1 : decide ((18 : Int) < (t.size : Int)) = true := decide_eq_true (by omega)
      rw [if_pos (.inr z1)] at hnv
      have HV := hide hnv
      clear hnv
      go_enter Tryd.func31, Tryd.ntmps31
      go_wp2_with fail
      refine CT.out.mono ?_
      rintro e w' ⟨rfl, rfl⟩
      go_wp2_with fail
      go_ret2
      rw [HV.out]
      exact ⟨rfl, Below.refl _ _⟩
    · have d1 : decide ((18 : Int) < (t.size : Int)) = false := decide_eq_false (by omega)
      rw [if_neg (by omega)] at hnv
      rcases hp : Lib.parseIntB 64 s.data.toList with v | _ | _
      · rw [hp] at hnv
        simp only at hnv
        have CP := hide (fun w => parseOk_any s hs v hp w)
        obtain ⟨v1, v2⟩ := Lib.parseIntB_bounds hp
        have CD := hide (fun w (h : TabB w) => implDecimal_any v w (by omega) (by omega) h)
        clear hp v1 v2
        by_cases hq : Lib.itoa v = s.data.toList
        · have hx : (⟨(Lib.itoa v).toArray⟩ : ByteArray) = s := by rw [hq]
          rw [hx] at CD
          rw [if_pos hq] at hnv
          have HV := hide hnv
          clear hq hx hnv
          go_enter Tryd.func31, Tryd.ntmps31
          go_wp2_with fail
          refine CT.out.mono ?_
          rintro e w' ⟨rfl, rfl⟩
          go_wp2_with fail
          refine (CP.out _).mono ?_
          rintro e w1 ⟨rfl, hb1⟩
          have B1 := hide hb1
          have HT1 := hide (HT.out.below hb1)
          clear hb1
          go_wp2_with fail
          refine (CD.out _ HT1.out).mono ?_
          rintro e w2 ⟨rfl, hb2⟩
          have B2 := hide (bstep B1.out hb2)
          clear hb2
          go_wp2_with fail
          go_ret2
          rw [HV.out]
          exact ⟨rfl, B2.out⟩
        · have hx : ¬ (⟨(Lib.itoa v).toArray⟩ : ByteArray) = s := fun e => hq (by rw [← e])
          rw [if_neg hq] at hnv
          have HV := hide hnv
          obtain ⟨x, hxx⟩ : ∃ x, x = (⟨(Lib.itoa v).toArray⟩ : ByteArray) := ⟨_, rfl⟩
          rw [← hxx] at CD hx
          have h1 : (x.toList == s.toList) = false := toList_ne hx
          have h2 : (x.toList != s.toList) = true := by rw [bne, h1]; rfl
          clear hq hxx hnv
          go_enter Tryd.func31, Tryd.ntmps31
          go_wp2_with fail
          refine CT.out.mono ?_
          rintro e w' ⟨rfl, rfl⟩
          go_wp2_with fail
          refine (CP.out _).mono ?_
          rintro e w1 ⟨rfl, hb1⟩
          have B1 := hide hb1
          have HT1 := hide (HT.out.below hb1)
          clear hb1
          go_wp2_with fail
          refine (CD.out _ HT1.out).mono ?_
          rintro e w2 ⟨rfl, hb2⟩
          have B2 := hide (bstep B1.out hb2)
          clear hb2
          go_wp2_with fail
          go_ret2
          rw [HV.out]
          exact ⟨rfl, B2.out⟩
      all_goals
        rw [hp] at hnv
        simp only at hnv
        have CP := hide (fun w (h : ErrB w) => parseErr_any s (by omega) (by rw [hp]; intro v h; cases h) w h)
        have HV := hide hnv
        clear hp hnv
        go_enter Tryd.func31, Tryd.ntmps31
        go_wp2_with fail
        refine CT.out.mono ?_
        rintro e w' ⟨rfl, rfl⟩
        go_wp2_with fail
        refine (CP.out _ HE.out).mono ?_
        rintro e w1 ⟨v, tp, p, rfl, hb1⟩
        have B1 := hide hb1
        clear hb1
        go_wp2_with fail
        go_ret2
        rw [HV.out]
        exact ⟨rfl, B1.out⟩
theorem gErrR : Tryd.prog.globalNamed "strconv.ErrRange" = some 2 := by kernel_rfl
theorem tErrR : (Tryd.prog.globals[2]?).map (·.type) = some 76 := by kernel_rfl
theorem gErrS : Tryd.prog.globalNamed "strconv.ErrSyntax" = some 1 := by kernel_rfl
theorem tErrS : (Tryd.prog.globals[1]?).map (·.type) = some 76 := by kernel_rfl
theorem starE : "*" ++ "errors.errorString" = "*errors.errorString" := by decide
theorem rowE (u : TypeId) (h : Tryd.prog.typeName? 3 u = some "*errors.errorString") : u = 159 :=
  typeName_ptr_named (nm := "errors.errorString") (by rw [starE]; kernel_rfl) (by kernel_rfl) (by decide) u (by rw [starE]; exact h)
theorem errB_head {W : World} {rest : List (String × DataW Unit)} (h : laidMet Tryd.prog (("strconv.ErrRange", Rows.laid_strconv_ErrRange) :: ("strconv.ErrSyntax", Rows.laid_strconv_ErrSyntax) :: rest) W) : ErrB W := by
  obtain ⟨a, _, ha, _⟩ := laid_sentinel h gErrR tErrR Tryd.underlying76 rowE Tryd.underlying159 Tryd.underlying161 rfl rfl Tryd.underlying9 (by kernel_rfl) (by kernel_rfl)
  obtain ⟨b, _, hb, _⟩ := laid_sentinel h.tail gErrS tErrS Tryd.underlying76 rowE Tryd.underlying159 Tryd.underlying161 rfl rfl Tryd.underlying9 (by kernel_rfl) (by kernel_rfl)
  exact ⟨⟨_, _, ha⟩, _, _, hb⟩
theorem walk_FnExactReadDecimal (a0 : ByteArray) (w : World) (h0 : a0.size ≤ maxLen) (hL : laidMetH Tryd.prog Rows.fnExactReadDecimalRow.laid w) (_hS : w.ShapedOpen Tryd.prog) :
    Calls Tryd.prog 8 #[.string a0] w fun e w' => e = .returned (.bool true) ∧ Below w.heap.size w w' := by
  have hm : a0.size ≤ 9223372036854775807 := h0
  have h : laidMet Tryd.prog Rows.fnExactReadDecimalRow.laid w := by rwa [Go.MakeChecks.laidMetH_plain _ _ _ (by kernel_rfl)] at hL
  have HT := hide (show TabB w from tab_head h.tail.tail)
  have HE := hide (show ErrB w from errB_head h.tail.tail.tail)
  clear h hL _hS
  by_cases hl : a0.size ≤ 1048576
  · have C1 := hide (fun w => specReadDecimal_any a0 w (by omega))
    have C2 := hide (fun w (h1 : TabB w) (h2 : ErrB w) => implReadDecimal_any a0 w (by omega) h1 h2)
    unfold rdV at C1 C2
    obtain ⟨n, hn⟩ : ∃ n, n = rdN a0.data.toList := ⟨_, rfl⟩
    obtain ⟨b, hb⟩ : ∃ b, b = rdB a0.data.toList := ⟨_, rfl⟩
    rw [← hn, ← hb] at C1 C2
    clear hn hb
    go_enter Tryd.func8, Tryd.ntmps8
    go_wp2_with fail
    refine (C1.out _).mono ?_
    rintro e w1 ⟨rfl, hb1⟩
    have B1 := hide hb1
    clear hb1
    go_wp2_with fail
    refine (C2.out _ (HT.out.below B1.out) (HE.out.below B1.out)).mono ?_
    rintro e w2 ⟨rfl, hb2⟩
    have B2 := hide (bstep B1.out hb2)
    clear hb2
    cases b
    · go_wp2_with fail
      go_ret
      exact ⟨rfl, B2.out⟩
    · go_wp2_with fail
      go_ret
      exact ⟨rfl, B2.out⟩
  · go_enter Tryd.func8, Tryd.ntmps8
    go_wp2_with fail
    go_ret
    exact ⟨rfl, Below.refl _ _⟩
end Go.Proofs.YtnlimfijepjliaaDoor
