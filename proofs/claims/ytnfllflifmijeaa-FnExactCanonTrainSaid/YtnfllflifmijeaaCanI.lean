/-
  CanonTrain: the program's function.
-/
import Derived.Test.YtnfllflifmijeaaRevW
import Derived.Test.YtnfllflifmijeaaDivI
namespace Go.Proofs.Ytnfllflifmijeaa
open Go.RowKit

/-- The rows sorted from the least. -/
def srt (xs : List Int) : List Int := xs.mergeSort fun x y => decide (x ≤ y)
theorem srt_len (xs : List Int) : (srt xs).length = xs.length := (List.mergeSort_perm xs _).length_eq
def canL (ps : List (Int × Int)) : List (Int × Int) := if validT ps then (srt (ps.map (·.1))).reverse.zip (srt (ps.map (·.2))) else []
theorem canL_t {ps : List (Int × Int)} (h : validT ps = true) : canL ps = (srt (ps.map (·.1))).reverse.zip (srt (ps.map (·.2))) ∧ trainC ps = 0 := by unfold canL trainC; rw [h]; exact ⟨rfl, rfl⟩
theorem canL_f {ps : List (Int × Int)} (h : validT ps = false) : canL ps = [] ∧ trainC ps = 1 := by unfold canL trainC; rw [h]; exact ⟨rfl, rfl⟩
set_option maxHeartbeats 1000000 in
theorem implCanonTrain_any (ao : Option Addr) (ps : List (Int × Int)) (cap : Nat) (w : World) (h : ReadsP w ao ps) (hn : ps.length ≤ 1048576) :
    Calls Try.prog 29 #[.slice ao ps.length cap] w fun e w' => ∃ ao' cap', e = .returned (.tuple #[.slice ao' (canL ps).length cap', .int .i64 (trainC ps)]) ∧ OwnsP w' w.heap.size (.slice ao' (canL ps).length cap') (canL ps) ∧ Below w.heap.size w w' := by
  have H := hide (implValidTrain_any ao ps cap w h hn)
  cases hv : validT ps
  · obtain ⟨e1, e2⟩ := canL_f hv
    have HV := hide hv
    rw [e1, e2]
    clear e1 e2 h hv
    go_enter Try.func29, Try.ntmps29
    go_wp2_with fail
    refine H.out.mono ?_
    rintro e w1 ⟨rfl, hb1⟩
    rw [HV.out]
    go_wp2_with fail
    go_ret2
    exact ⟨none, 0, rfl, OwnsP.none_, hb1⟩
  · obtain ⟨e1, e2⟩ := canL_t hv
    have HV := hide hv
    have hn5 := validT_len hv
    have HA := hide h
    rw [e1, e2]
    clear e1 e2 h hv
    go_enter Try.func29, Try.ntmps29
    go_wp2_with fail
    refine H.out.mono ?_
    rintro e w1 ⟨rfl, hb1⟩
    rw [HV.out]
    go_wp2_with fail
    refine (driversOf_any ao ps cap _ (HA.out.below hb1) (by omega)).mono ?_
    rintro e w2 ⟨a1, c1, rfl, o1, hb2⟩
    obtain ⟨dr, hdr⟩ : ∃ L, L = ps.map (·.1) := ⟨_, rfl⟩
    rw [← hdr] at o1 ⊢
    have l3 : dr.length = ps.length := by rw [hdr, List.length_map]
    have L3 := hide l3
    have HDR := hide hdr
    clear hdr l3
    have B2 := hide (bstep hb1 hb2)
    have w1s := hb1.size
    go_wp2_with fail
    refine (drivenOf_any ao ps cap _ (HA.out.below B2.out) (by omega)).mono ?_
    rintro e w3 ⟨a2, c2, rfl, o2, hb3⟩
    obtain ⟨dn, hdn⟩ : ∃ L, L = ps.map (·.2) := ⟨_, rfl⟩
    rw [← hdn] at o2 ⊢
    have l4 : dn.length = ps.length := by rw [hdn, List.length_map]
    have L4 := hide l4
    have HDN := hide hdn
    clear hdn l4
    have B3 := hide (bstep B2.out hb3)
    have o13 := o1.below hb3
    have w2s := B2.out.size
    clear hb1 hb2 hb3
    go_wp2_with fail
    refine (sort_any _ _ _ _ o13 (by have := L3.out; omega)).mono ?_
    rintro e w4 ⟨rfl, o14, g4⟩
    have o24 := o2.same g4 (own_ne_r o1 o2)
    have B4 := hide (B3.out.grown g4 B3.out.size (fun k hk => by have := o13.lt k hk; omega))
    go_wp2_with fail
    refine (reverse_any _ _ _ _ o14).mono ?_
    rintro e w5 ⟨rfl, o15, g5⟩
    have o25 := o24.same g5 (own_ne_r o1 o2)
    have B5 := hide (B4.out.grown g5 B4.out.size (fun k hk => by have := o14.lt k hk; omega))
    go_wp2_with fail
    refine (sort_any _ _ _ _ o25 (by have := L4.out; omega)).mono ?_
    rintro e w6 ⟨rfl, o26, g6⟩
    have o16 := o15.same g6 (own_ne o1 o2)
    have B6 := hide (B5.out.grown g6 B5.out.size (fun k hk => by have := o25.lt k hk; omega))
    have l1 : (srt dr).reverse.length = dr.length := by rw [List.length_reverse, srt_len]
    have l2 : (srt dn).length = dn.length := srt_len dn
    have HP := paired_any a1 a2 (srt dr).reverse (srt dn) c1 c2 w6 o16.reads o26.reads (by have := L3.out; have := L4.out; omega) (by have := L3.out; omega)
    rw [l1, l2] at HP
    have HPP := hide HP
    clear HP l1 l2
    go_wp2_with fail
    refine HPP.out.mono ?_
    rintro e w7 ⟨a3, c3, rfl, o3, hb7⟩
    obtain ⟨L, hL⟩ : ∃ L, L = (srt dr).reverse.zip (srt dn) := ⟨_, rfl⟩
    rw [← hL] at o3 ⊢
    have HL : Hid (L = (srt (ps.map (·.1))).reverse.zip (srt (ps.map (·.2)))) := hide (by rw [hL, HDR.out, HDN.out])
    clear hL
    go_wp2_with fail
    go_ret2
    rw [← HL.out]
    exact ⟨a3, c3, rfl, o3.mono_base B6.out.size, bstep B6.out hb7⟩
end Go.Proofs.Ytnfllflifmijeaa
