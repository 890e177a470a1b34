/-
  The drawn number of a law: contracts of one, l04Number, A2Number.
-/
import Derived.Test.YthagogjklocmoaaDrawA
namespace Go.Proofs.Ythagogjklocmoaa
open Go.RowKit

theorem one_any (g : Nat) (ao : Option Addr) (n cap : Nat) (K N : Int) (w : World) (h : SrcS w g ao n cap K) (hn : n ≤ 1000000000000) (hK : K ≤ 1000000000) (hN : 1 < N ∧ N ≤ 1000000) :
    Calls Try.prog 30 #[.pointer (some ⟨g, 0, none⟩), .int .i64 N] w fun e w' => ∃ b : Bool, e = .returned (.bool b) ∧ SrcS w' g ao n cap (K + 2) ∧ w.grownBy w' (some g) := by
  have HS := hide h
  clear h
  go_enter Try.func30, Try.ntmps30
  go_wp2_with fail
  refine (pick_any g ao n cap K N _ HS.out hn hK hN).mono ?_
  rintro e w1 ⟨v, rfl, ⟨v0, v1⟩, hS1, hg1⟩
  have HS1 := hide hS1
  clear hS1
  go_wp2_with fail
  go_ret
  exact ⟨_, rfl, HS1.out, hg1⟩
set_option maxHeartbeats 1000000 in
theorem l04Number_any (g : Nat) (ao : Option Addr) (n cap : Nat) (K : Int) (w : World) (h : SrcS w g ao n cap K) (hn : n ≤ 1000000000000) (hK : 0 ≤ K ∧ K ≤ 1000000) :
    Calls Try.prog 17 #[.pointer (some ⟨g, 0, none⟩)] w fun e w' => ∃ v : Int, e = .returned (.int .i64 v) ∧ SrcS w' g ao n cap (K + 16) ∧ w.grownBy w' (some g) := by
  have HS := hide h
  clear h
  go_enter Try.func17, Try.ntmps17
  go_wp2_with fail
  refine (one_any g ao n cap K 10 _ HS.out hn (by omega) (by omega)).mono ?_
  rintro e w1 ⟨b, rfl, hS1, hg1⟩
  have HS1 := hide hS1
  have G1 := hide hg1
  clear hS1 hg1
  cases b
  · go_wp2_with fail
    refine (pick_any g ao n cap (K + 2) 6 _ HS1.out hn (by omega) (by omega)).mono ?_
    rintro e w2 ⟨u, rfl, ⟨u0, u1⟩, hS2, hg2⟩
    have HS2 := hide hS2
    have G2 := hide (gtr G1.out hg2)
    clear hS2 hg2
    go_wp2_with fail
    go_loopw [3, 4] (fun s1 s2 wr => ∃ (v k : Int), s1 = .int .i64 v ∧ s2 = .int .i64 k ∧ (0 ≤ k ∧ k ≤ 5) ∧ SrcS wr g ao n cap (K + 2 + 2 + 2 * (5 - k)) ∧ w.grownBy wr (some g)) (fun _ s2 _ => (intOf s2).toNat)
    case atStart => exact ⟨1, u, rfl, rfl, by omega, HS2.out.mono (by omega), G2.out⟩
    case round =>
      obtain ⟨v, k, rfl, rfl, ⟨k0, k1⟩, hS, hgr⟩ := hrel
      have HSR := hide hS
      have GR := hide hgr
      clear hS hgr
      by_cases hk : 0 < k
      · have q1 : IntKind.i64.wrap (k - 1) = k - 1 := IntWalk.i64_in _ (by omega)
        go_wp2_with fail
        refine (among_lit g ao n cap (K + 2 + 2 + 2 * (5 - k)) [2, 2, 3, 5, 7, 10, 12, 13, 24] 2 wr HSR.out hn (by omega) (by decide)).mono ?_
        rintro e w4 ⟨x, rfl, hx, hS4, hg4⟩
        have HS4 := hide hS4
        have G4 := hide (gtr GR.out hg4)
        clear hS4 hg4 hx
        go_wp2_with fail
        go_roundw
        case rel => exact ⟨_, k - 1, rfl, by first | rfl | go_num, by omega, HS4.out.mono (by omega), G4.out⟩
        case measure => simp only [intOf]; omega
      · go_wp2_with fail
        go_ret
        first | exact ⟨v, rfl, HSR.out.mono (by omega), GR.out⟩ | exact ⟨⟨v, rfl⟩, HSR.out.mono (by omega), GR.out⟩
  · go_wp2_with fail
    refine (among_lit g ao n cap (K + 2) [0, -1, 1000000000, 1000000001, 999999937, 1, -9223372036854775808] 2 w1 HS1.out hn (by omega) (by decide)).mono ?_
    rintro e w4 ⟨x, rfl, hx, hS4, hg4⟩
    have HS4 := hide hS4
    have G4 := hide (gtr G1.out hg4)
    clear hS4 hg4 hx
    go_wp2_with fail
    go_ret
    first | exact ⟨x, rfl, HS4.out.mono (by omega), G4.out⟩ | exact ⟨⟨x, rfl⟩, HS4.out.mono (by omega), G4.out⟩
set_option maxHeartbeats 1000000 in
theorem a2Number_any (ao : Option Addr) (n cap : Nat) (w : World) (hb : BytesR w ao n) (hn : n ≤ 1000000000000) :
    Calls Try.prog 7 #[.slice ao n cap] w fun e w' => ∃ v : Int, e = .returned (.int .i64 v) ∧ (1 ≤ v ∧ v ≤ 3000000) ∧ Below w.heap.size w w' := by
  have HB := hide hb
  clear hb
  go_enter Try.func7, Try.ntmps7
  go_wp2_with fail
  refine (l00From_any ao n cap _ HB.out).mono ?_
  rintro e w1 ⟨rfl, hS, hb1⟩
  have HS := hide hS
  have B1 := hide hb1
  obtain ⟨g, hg⟩ : ∃ g, g = w.heap.size := ⟨_, rfl⟩
  rw [← hg] at HS ⊢
  have hgl : w.heap.size ≤ g := by omega
  clear hS hb1 hg
  go_wp2_with fail
  refine (l04Number_any g ao n cap 0 _ HS.out hn (by omega)).mono ?_
  rintro e w2 ⟨v, rfl, hS2, hg2⟩
  have HS2 := hide hS2
  have B2 := hide (B1.out.grown hg2 B1.out.size (fun j hj => by simp at hj; omega))
  clear hS2 hg2
  go_wp2_with fail
  refine (l00In_any _ _ _ _).mono ?_
  rintro e w' ⟨rfl, rfl⟩
  cases hin : inR v 1 3000000
  · go_wp2_with fail
    refine (pick_any g ao n cap (0 + 16) 5000 _ HS2.out hn (by omega) (by omega)).mono ?_
    rintro e w3 ⟨u, rfl, ⟨u0, u1⟩, hS3, hg3⟩
    have B3 := hide (B2.out.grown hg3 B2.out.size (fun j hj => by simp at hj; omega))
    clear hS3 hg3
    go_wp2_with fail
    go_ret
    exact ⟨1 + u, by first | rfl | go_num, by omega, B3.out⟩
  · have h1 := inR_true hin
    go_wp2_with fail
    go_ret
    exact ⟨v, rfl, by omega, B2.out⟩
end Go.Proofs.Ythagogjklocmoaa
