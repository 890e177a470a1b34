/-
  RatioOfPath: the reference's walk.
-/
import Derived.Test.YtnlimfijepjliaaDoorRopP
import Derived.Test.YtnlimfijepjliaaDoorTxt
import Derived.Test.YtnlimfijepjliaaDoorCell
import Derived.Deep.Cut
namespace Go.Proofs.YtnlimfijepjliaaDoor
open Go.RowKit

theorem lr_mem {l : List UInt8} (h : ∀ j, j < l.length → l.getD j 0 = 76 ∨ l.getD j 0 = 82) : lrOk l = true := by
  unfold lrOk
  rw [List.all_eq_true]
  intro x hx
  obtain ⟨j, hj, rfl⟩ := List.mem_iff_getElem.1 hx
  have := h j hj
  rw [List.getD_eq_getElem?_getD, List.getElem?_eq_getElem hj] at this
  simpa using this
theorem lr_bad {l : List UInt8} {j : Nat} (hj : j < l.length) (h1 : ¬ l.getD j 0 = 76) (h2 : ¬ l.getD j 0 = 82) : lrOk l = false := by
  cases h : lrOk l
  · rfl
  · unfold lrOk at h
    rw [List.all_eq_true] at h
    have h3 := h (l.getD j 0) (by rw [List.getD_eq_getElem?_getD, List.getElem?_eq_getElem hj]; exact List.getElem_mem hj)
    simp only [Bool.or_eq_true, beq_iff_eq] at h3
    rcases h3 with h3 | h3
    · exact absurd h3 h1
    · exact absurd h3 h2
theorem ropV_long {l : List UInt8} (h : 200 < l.length) : ropV l = .tuple #[.agg #[.int .i64 0, .int .i64 0], .int .i64 5] := by unfold ropV; rw [if_pos h]
theorem ropV_bad {l : List UInt8} (h : ¬ 200 < l.length) (h2 : lrOk l = false) : ropV l = .tuple #[.agg #[.int .i64 0, .int .i64 0], .int .i64 7] := by unfold ropV; rw [if_neg h, h2, if_neg (by simp)]
theorem ropV_some {l : List UInt8} {p q : Int} (h : ¬ 200 < l.length) (h2 : lrOk l = true) (h3 : rp l 0 1 1 0 = some (p, q)) : ropV l = .tuple #[.agg #[.int .i64 p, .int .i64 q], .int .i64 0] := by unfold ropV; rw [if_neg h, if_pos h2, h3]
theorem ropV_none {l : List UInt8} (h : ¬ 200 < l.length) (h2 : lrOk l = true) (h3 : rp l 0 1 1 0 = none) : ropV l = .tuple #[.agg #[.int .i64 0, .int .i64 0], .int .i64 2] := by unfold ropV; rw [if_neg h, if_pos h2, h3]
theorem rp_L {l : List UInt8} {a b c d : Int} : rp (76 :: l) a b c d = if a + (a + c) > 1000000000 ∨ b + (b + d) > 1000000000 then none else rp l a b (a + c) (b + d) := by rw [rp, if_pos rfl]
theorem rp_R {l : List UInt8} {a b c d : Int} {x : UInt8} (h : ¬ x = 76) : rp (x :: l) a b c d = if a + c + c > 1000000000 ∨ b + d + d > 1000000000 then none else rp l (a + c) (b + d) c d := by rw [rp, if_neg h]
theorem u8_ne {x : UInt8} {n : Nat} (hn : n < 256) (h : ¬ x = UInt8.ofNat n) : ((x.toNat : Int) != (n : Int)) = true ∧ ((x.toNat : Int) == (n : Int)) = false := by
  have h2 : ¬ x.toNat = n := fun e => h (by apply UInt8.toNat_inj.mp; rw [UInt8.toNat_ofNat', e]; omega)
  have h3 : ((x.toNat : Int) == (n : Int)) = false := by simp only [beq_eq_false_iff_ne, ne_eq]; omega
  exact ⟨by rw [bne, h3]; rfl, h3⟩
theorem u8_is {x : UInt8} {n : Nat} (hn : n < 256) (h : x = UInt8.ofNat n) : ((x.toNat : Int) != (n : Int)) = false ∧ ((x.toNat : Int) == (n : Int)) = true := by
  have h2 : x.toNat = n := by rw [h, UInt8.toNat_ofNat']; omega
  have h3 : ((x.toNat : Int) == (n : Int)) = true := by rw [h2]; simp
  exact ⟨by rw [bne, h3]; rfl, h3⟩
set_option maxHeartbeats 2000000 in
theorem specRop_any (s : ByteArray) (w : World) (hs : s.size ≤ 4294967280) :
    Calls Tryd.prog 43 #[.string s] w fun e w' => e = .returned (ropV s.data.toList) ∧ Below w.heap.size w w' := by
  have B0 := hide (balloc (Below.refl w.heap.size w) (.cells #[.int .i64 0, .int .i64 0] 27))
  have K0 := hide (cell2_new (w := w) (u := .int .i64 0) (v := .int .i64 0) 27)
  have hlen := len_of s
  obtain ⟨l, hl⟩ : ∃ l, l = s.data.toList := ⟨_, rfl⟩
  rw [← hl] at hlen ⊢
  obtain ⟨R, hR⟩ : ∃ R, R = ropV l := ⟨_, rfl⟩
  rw [← hR]
  have HR := hide hR
  have HL := hide hl
  have HLEN := hide hlen
  obtain ⟨k0, k1, k2, k3⟩ := K0.out
  clear hR hl hlen
  by_cases h200 : 200 < s.size
  · have HE := hide (HR.out.trans (ropV_long (by rw [HLEN.out]; exact h200)))
    clear k0 k1 k2 k3
    go_enter Tryd.func43, Tryd.ntmps43
    go_wp2_with fail
    refine bodyPost_ret (v := .tuple #[.agg #[.int .i64 0, .int .i64 0], .int .i64 5]) (by simp [results, Tryd.results43, go_sem]) rfl ⟨by rw [HE.out], ?_⟩
    repeat (first | exact B0.out | refine balloc ?_ _ | refine bset ?_ (by first | (simp; done) | (simp; omega)) _)
  · have H2 := hide (show ¬ 200 < l.length by rw [HLEN.out]; exact h200)
    go_enter Tryd.func43, Tryd.ntmps43
    go_wp2_with fail
    obtain ⟨w1, hw1⟩ : ∃ w1, w1 = w.alloc (.cells #[.int .i64 0, .int .i64 0] 27) := ⟨_, rfl⟩
    rw [← hw1] at B0 K0 k0 k1 k2 k3
    try rw [← hw1]
    have hg0 : w.heap.size < w1.heap.size := by rw [hw1]; simp
    clear hw1
    go_loop [4] (fun s4 => ∃ k : Nat, k ≤ s.size ∧ (∀ j, j < k → l.getD j 0 = 76 ∨ l.getD j 0 = 82) ∧ s4 = .int .i64 (k : Int)) (fun s4 => s.size - (intOf s4).toNat)
    case atStart => exact ⟨0, by omega, by omega, rfl⟩
    case round =>
      obtain ⟨k, hk, hall, rfl⟩ := hrel
      have HALL := hide hall
      clear hall
      by_cases hlt : k < s.size
      · have hget : l.getD k 0 = s[k]'hlt := by
          have hll : k < s.data.toList.length := by rw [len_of]; exact hlt
          rw [HL.out, List.getD_eq_getElem?_getD, List.getElem?_eq_getElem hll]
          exact get_of s k hlt hll
        have HG := hide hget
        have i0 : (0 : Int) ≤ (k : Int) := by omega
        have i1 : (k : Int) < (s.size : Int) := by omega
        clear hget
        by_cases x1 : s[k] = 76
        · obtain ⟨z1, _⟩ := u8_is (n := 76) (by decide) x1
          have z1' : ((s[k].toNat : Int) != 76) = false := z1
          have HX := hide x1
          clear x1 z1
          go_wp2_with fail
          go_round
          case rel =>
            refine ⟨k + 1, by omega, fun j hj => ?_, by first | rfl | go_num⟩
            rcases Nat.lt_succ_iff_lt_or_eq.1 hj with h1 | rfl
            · exact HALL.out j h1
            · exact .inl (by rw [HG.out, HX.out])
          case measure => simp only [intOf]; omega
        · obtain ⟨z1, _⟩ := u8_ne (n := 76) (by decide) x1
          have z1' : ((s[k].toNat : Int) != 76) = true := z1
          have HX := hide x1
          clear x1 z1
          by_cases x2 : s[k] = 82
          · obtain ⟨z2, _⟩ := u8_is (n := 82) (by decide) x2
            have z2' : ((s[k].toNat : Int) != 82) = false := z2
            have HX2 := hide x2
            clear x2 z2
            go_wp2_with fail
            go_round
            case rel =>
              refine ⟨k + 1, by omega, fun j hj => ?_, by first | rfl | go_num⟩
              rcases Nat.lt_succ_iff_lt_or_eq.1 hj with h1 | rfl
              · exact HALL.out j h1
              · exact .inr (by rw [HG.out, HX2.out])
            case measure => simp only [intOf]; omega
          · obtain ⟨z2, _⟩ := u8_ne (n := 82) (by decide) x2
            have z2' : ((s[k].toNat : Int) != 82) = true := z2
            have HE := hide (HR.out.trans (ropV_bad H2.out (lr_bad (j := k) (by rw [HLEN.out]; exact hlt) (by rw [HG.out]; exact HX.out) (by rw [HG.out]; exact x2))))
            clear x2 z2
            go_wp2_with fail
            refine bodyPost_ret (v := .tuple #[.agg #[.int .i64 0, .int .i64 0], .int .i64 7]) (by simp [results, Tryd.results43, go_sem, k0, k1]) rfl ⟨by rw [HE.out], ?_⟩
            repeat (first | exact B0.out | refine balloc ?_ _ | refine bset ?_ (by first | (simp; done) | (simp; omega)) _)
      · have HLR := hide (lr_mem (l := l) (fun j hj => HALL.out j (by have := HLEN.out; omega)))
        go_wp2_with fail
        go_loop [5, 6, 7, 8, 9] (fun s5 s6 s7 s8 s9 => ∃ (k : Nat) (a b c d : Int), k ≤ s.size ∧ (0 ≤ a ∧ 0 ≤ b ∧ 0 ≤ c ∧ 0 ≤ d) ∧ (a + c ≤ 1000000000 ∧ b + d ≤ 1000000000) ∧ rp l 0 1 1 0 = rp (l.drop k) a b c d ∧ s5 = .int .i64 a ∧ s6 = .int .i64 b ∧ s7 = .int .i64 c ∧ s8 = .int .i64 d ∧ s9 = .int .i64 (k : Int)) (fun _ _ _ _ s9 => s.size - (intOf s9).toNat)
        case atStart => exact ⟨0, 0, 1, 1, 0, by omega, by omega, by omega, rfl, rfl, rfl, rfl, rfl, rfl⟩
        case round =>
          obtain ⟨k, a, b, c, d, hk, hnn, hbd, hrp, rfl, rfl, rfl, rfl, rfl⟩ := hrel
          have HRP := hide hrp
          obtain ⟨a0, b0, c0, d0⟩ := hnn
          obtain ⟨ac, bd⟩ := hbd
          clear hrp
          by_cases hlt : k < s.size
          · have hget : l.drop k = s[k]'hlt :: l.drop (k + 1) := by
              have hll : k < s.data.toList.length := by rw [len_of]; exact hlt
              rw [HL.out, List.drop_eq_getElem_cons hll]
              congr 1
              all_goals exact get_of s k hlt hll
            have i0 : (0 : Int) ≤ (k : Int) := by omega
            have i1 : (k : Int) < (s.size : Int) := by omega
            by_cases x1 : s[k] = 76
            · obtain ⟨_, z1⟩ := u8_is (n := 76) (by decide) x1
              have z1' : ((s[k].toNat : Int) == 76) = true := z1
              have hst := HRP.out
              rw [hget, x1, rp_L, Int.add_comm a c, Int.add_comm b d] at hst
              clear x1 z1 hget
              by_cases g1 : 1000000000 < a + (c + a)
              · have HE := hide (HR.out.trans (ropV_none H2.out HLR.out (by rw [hst, if_pos (.inl g1)])))
                clear hst
                go_wp2_with fail
                refine bodyPost_ret (v := .tuple #[.agg #[.int .i64 0, .int .i64 0], .int .i64 2]) (by simp [results, Tryd.results43, go_sem, k0, k1]) rfl ⟨by rw [HE.out], ?_⟩
                repeat (first | exact B0.out | refine balloc ?_ _ | refine bset ?_ (by first | (simp; done) | (simp; omega)) _)
              · by_cases g2 : 1000000000 < b + (d + b)
                · have HE := hide (HR.out.trans (ropV_none H2.out HLR.out (by rw [hst, if_pos (.inr g2)])))
                  clear hst
                  go_wp2_with fail
                  refine bodyPost_ret (v := .tuple #[.agg #[.int .i64 0, .int .i64 0], .int .i64 2]) (by simp [results, Tryd.results43, go_sem, k0, k1]) rfl ⟨by rw [HE.out], ?_⟩
                  repeat (first | exact B0.out | refine balloc ?_ _ | refine bset ?_ (by first | (simp; done) | (simp; omega)) _)
                · rw [if_neg (by omega)] at hst
                  have HST := hide hst
                  clear hst
                  go_wp2_with fail
                  go_round
                  case rel => exact ⟨k + 1, a, b, c + a, d + b, by omega, by omega, by omega, HST.out, rfl, rfl, rfl, rfl, by first | rfl | go_num⟩
                  case measure => simp only [intOf]; omega
            · obtain ⟨_, z1⟩ := u8_ne (n := 76) (by decide) x1
              have z1' : ((s[k].toNat : Int) == 76) = false := z1
              have hst := HRP.out
              rw [hget, rp_R x1] at hst
              clear x1 z1 hget
              by_cases g1 : 1000000000 < a + c + c
              · have HE := hide (HR.out.trans (ropV_none H2.out HLR.out (by rw [hst, if_pos (.inl g1)])))
                clear hst
                go_wp2_with fail
                refine bodyPost_ret (v := .tuple #[.agg #[.int .i64 0, .int .i64 0], .int .i64 2]) (by simp [results, Tryd.results43, go_sem, k0, k1]) rfl ⟨by rw [HE.out], ?_⟩
                repeat (first | exact B0.out | refine balloc ?_ _ | refine bset ?_ (by first | (simp; done) | (simp; omega)) _)
              · by_cases g2 : 1000000000 < b + d + d
                · have HE := hide (HR.out.trans (ropV_none H2.out HLR.out (by rw [hst, if_pos (.inr g2)])))
                  clear hst
                  go_wp2_with fail
                  refine bodyPost_ret (v := .tuple #[.agg #[.int .i64 0, .int .i64 0], .int .i64 2]) (by simp [results, Tryd.results43, go_sem, k0, k1]) rfl ⟨by rw [HE.out], ?_⟩
                  repeat (first | exact B0.out | refine balloc ?_ _ | refine bset ?_ (by first | (simp; done) | (simp; omega)) _)
                · rw [if_neg (by omega)] at hst
                  have HST := hide hst
                  clear hst
                  go_wp2_with fail
                  go_round
                  case rel => exact ⟨k + 1, a + c, b + d, c, d, by omega, by omega, by omega, HST.out, rfl, rfl, rfl, rfl, by first | rfl | go_num⟩
                  case measure => simp only [intOf]; omega
          · have hend : rp l 0 1 1 0 = some (a + c, b + d) := by
              rw [HRP.out, List.drop_eq_nil_of_le (by have := HLEN.out; omega)]; rfl
            have HE := hide (HR.out.trans (ropV_some H2.out HLR.out hend))
            clear hend
            go_wp2_with fail
            refine bodyPost_ret (v := .tuple #[.agg #[.int .i64 (a + c), .int .i64 (b + d)], .int .i64 0]) (by simp [results, Tryd.results43, go_sem, k0, k1]) rfl ⟨by rw [HE.out], ?_⟩
            repeat (first | exact B0.out | refine balloc ?_ _ | refine bset ?_ (by first | (simp; done) | (simp; omega)) _)
end Go.Proofs.YtnlimfijepjliaaDoor
