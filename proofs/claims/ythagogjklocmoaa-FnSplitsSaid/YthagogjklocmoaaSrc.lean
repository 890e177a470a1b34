/-
  The source of choices: contracts of its methods.
-/
import Derived.Test.YthagogjklocmoaaInts
import Derived.Test.YthagogjklocmoaaCell
import Derived.Deep.Draws
import Derived.OwnWalk
import Derived.Laws.OwnMore
import Derived.IntWalk
import Derived.Laws.Bits64b
namespace Go.Proofs.Ythagogjklocmoaa
open Go.RowKit

/-- Block g is a source over the bytes at ao, a of them read; its sequence stands at s. -/
def Src (w : World) (g : Nat) (ao : Option Addr) (n cap : Nat) (a s : Int) : Prop :=
  w.cell? ⟨g, 0, none⟩ = some (.slice ao n cap) ∧ w.cell? ⟨g, 1, none⟩ = some (.int .i64 a) ∧ w.cell? ⟨g, 2, none⟩ = some (.int .u64 s) ∧ w.frozen? ⟨g, 1, none⟩ = false ∧ w.frozen? ⟨g, 2, none⟩ = false
/-- The bytes at ao can be read. -/
def BytesR (w : World) (ao : Option Addr) (n : Nat) : Prop :=
  0 < n → ∃ b off, ao = some ⟨b, off, none⟩ ∧ b < w.heap.size ∧ ∀ j, j < n → ∃ v : Int, w.cell? ⟨b, off + j, none⟩ = some (.int .u8 v) ∧ 0 ≤ v ∧ v ≤ 255
theorem u64_bd (x : Int) : 0 ≤ IntKind.u64.wrap x ∧ IntKind.u64.wrap x ≤ 18446744073709551615 := by
  have e : IntKind.u64.wrap x = x % 18446744073709551616 := by simp [IntKind.wrap, IntKind.bits, IntKind.signed]
  rw [e]
  omega
theorem u64_low (x : Int) (h : 0 ≤ x ∧ x ≤ 18446744073709551615) : 0 ≤ wrap64 (bits .and .u64 (x / 1099511627776) 255) ∧ wrap64 (bits .and .u64 (x / 1099511627776) 255) ≤ 255 := by
  have hx : 0 ≤ x / 1099511627776 ∧ x / 1099511627776 ≤ 18446744073709551615 := by omega
  obtain ⟨k, hk⟩ := Int.eq_ofNat_of_zero_le hx.1
  rw [hk] at hx ⊢
  rw [show (255 : Int) = ((255 : Nat) : Int) from rfl, bits_and_u64_nat k 255 (by omega) (by decide)]
  have h2 : k &&& 255 ≤ 255 := Nat.and_le_right
  generalize k &&& 255 = m at h2
  have e : wrap64 (m : Int) = m := by unfold wrap64; omega
  rw [e]
  omega
theorem gsc (w : World) (g i : Nat) (u : Value) : w.grownBy (w.setCell ⟨g, i, none⟩ u) (some g) :=
  ⟨rfl, rfl, rfl, by simp, fun k _ hk => heap_setCell_other w ⟨g, i, none⟩ k u (fun e => hk (by rw [e]))⟩
theorem gdr {w w' : World} {r : Option Nat} (h : w.grownBy w' r) (j : Nat) : w.grownBy (w'.drewN j) r := ⟨h.os, h.tape, h.output, h.size, h.block⟩
theorem gtr {w w1 w2 : World} {r : Option Nat} (h : w.grownBy w1 r) (k : w1.grownBy w2 r) : w.grownBy w2 r :=
  ⟨k.os.trans h.os, k.tape.trans h.tape, k.output.trans h.output, Nat.le_trans h.size k.size, fun i hi hn => (k.block i (Nat.lt_of_lt_of_le hi h.size) hn).trans (h.block i hi hn)⟩
theorem src_next {w : World} {g n cap : Nat} {ao : Option Addr} {a s : Int} (h : Src w g ao n cap a s) (i j : Nat) (u : Int) :
    Src ((((w.drewN i).setCell ⟨g, 1, none⟩ (.int .i64 (a + 1))).setCell ⟨g, 2, none⟩ (.int .u64 u)).drewN j) g ao n cap (a + 1) u ∧ w.grownBy ((((w.drewN i).setCell ⟨g, 1, none⟩ (.int .i64 (a + 1))).setCell ⟨g, 2, none⟩ (.int .u64 u)).drewN j) (some g) := by
  obtain ⟨c0, c1, c2, f1, f2⟩ := h
  have d0 : (w.drewN i).cell? ⟨g, 0, none⟩ = some (.slice ao n cap) := by simpa [go_sem] using c0
  have d1 : (w.drewN i).cell? ⟨g, 1, none⟩ = some (.int .i64 a) := by simpa [go_sem] using c1
  have d2 : (w.drewN i).cell? ⟨g, 2, none⟩ = some (.int .u64 s) := by simpa [go_sem] using c2
  refine ⟨⟨?_, ?_, ?_, ?_, ?_⟩, ?_⟩
  · have : (((w.drewN i).setCell ⟨g, 1, none⟩ (.int .i64 (a + 1))).setCell ⟨g, 2, none⟩ (.int .u64 u)).cell? ⟨g, 0, none⟩ = some (.slice ao n cap) := by
      rw [World.cell?_setCell_other _ _ _ _ (fun e => by cases e), World.cell?_setCell_other _ _ _ _ (fun e => by cases e)]; exact d0
    simpa [go_sem] using this
  · have : (((w.drewN i).setCell ⟨g, 1, none⟩ (.int .i64 (a + 1))).setCell ⟨g, 2, none⟩ (.int .u64 u)).cell? ⟨g, 1, none⟩ = some (.int .i64 (a + 1)) := by
      rw [World.cell?_setCell_other _ _ _ _ (fun e => by cases e)]; exact World.cell?_setCell_same _ _ _ d1
    simpa [go_sem] using this
  · have h1 : ((w.drewN i).setCell ⟨g, 1, none⟩ (.int .i64 (a + 1))).cell? ⟨g, 2, none⟩ = some (.int .u64 s) := by
      rw [World.cell?_setCell_other _ _ _ _ (fun e => by cases e)]; exact d2
    have : (((w.drewN i).setCell ⟨g, 1, none⟩ (.int .i64 (a + 1))).setCell ⟨g, 2, none⟩ (.int .u64 u)).cell? ⟨g, 2, none⟩ = some (.int .u64 u) := World.cell?_setCell_same _ _ _ h1
    simpa [go_sem] using this
  · simpa [go_sem] using f1
  · simpa [go_sem] using f2
  · exact gdr (gtr (gdr (World.grownBy.refl w (some g)) i) (gtr (gsc _ g 1 _) (gsc _ g 2 _))) j
theorem ret_ex {v : Int} : Ending.returned (.int .i64 v) = .returned (.int .i64 v) := rfl
set_option maxHeartbeats 1000000 in
theorem next_any (g : Nat) (ao : Option Addr) (n cap : Nat) (a s : Int) (w : World) (hs : Src w g ao n cap a s) (hb : BytesR w ao n) (hn : n ≤ 1000000000000) (ha : 0 ≤ a ∧ a ≤ 1000000000000) (hss : 0 ≤ s ∧ s ≤ 18446744073709551615) (hne : 0 < n → ∀ x : Addr, ao = some x → x.block ≠ g) :
    Calls Try.prog 32 #[.pointer (some ⟨g, 0, none⟩)] w fun e w' => ∃ v s' : Int, e = .returned (.int .i64 v) ∧ (0 ≤ v ∧ v ≤ 255) ∧ (0 ≤ s' ∧ s' ≤ 18446744073709551615) ∧ Src w' g ao n cap (a + 1) s' ∧ w.grownBy w' (some g) := by
  have HS := hide hs
  obtain ⟨c0, c1, c2, f1, f2⟩ := hs
  have wa := IntWalk.i64_in (a + 1) (by omega)
  by_cases hlt : a < n
  · obtain ⟨b, off, rfl, hbl, hc⟩ := hb (by omega)
    obtain ⟨v, hv, v0, v1⟩ := hc a.toNat (by omega)
    have hbg : b ≠ g := hne (by omega) _ rfl
    clear hc hb hne
    go_enter Try.func32, Try.ntmps32
    go_wp2_with fail
    go_quiet (fail)
    go_wp2_with fail
    go_quiet (fail)
    go_wp2_with fail
    go_quiet (fail)
    go_wp2_with fail
    go_ret
    obtain ⟨h1, h2⟩ := src_next HS.out _ _ _
    exact ⟨v, _, rfl, ⟨v0, v1⟩, u64_bd _, h1, h2⟩
  · go_enter Try.func32, Try.ntmps32
    go_wp2_with fail
    go_quiet (fail)
    go_wp2_with fail
    go_quiet (fail)
    go_wp2_with fail
    go_ret
    obtain ⟨h1, h2⟩ := src_next HS.out _ _ _
    exact ⟨_, _, rfl, u64_low _ (u64_bd _), u64_bd _, h1, h2⟩
/-- Block g is a source of which at most K bytes are read. -/
def SrcS (w : World) (g : Nat) (ao : Option Addr) (n cap : Nat) (K : Int) : Prop :=
  (∃ a s : Int, (0 ≤ a ∧ a ≤ K) ∧ (0 ≤ s ∧ s ≤ 18446744073709551615) ∧ Src w g ao n cap a s) ∧ BytesR w ao n ∧ (0 < n → ∀ x : Addr, ao = some x → x.block ≠ g)
theorem BytesR.grown {w w' : World} {ao : Option Addr} {n : Nat} {r : Option Nat} (h : BytesR w ao n) (hg : w.grownBy w' r) (hne : 0 < n → ∀ x : Addr, ao = some x → some x.block ≠ r) : BytesR w' ao n := fun hp => by
  obtain ⟨b, off, e, hlt, hc⟩ := h hp
  have hb := hg.block b hlt (hne hp _ e)
  refine ⟨b, off, e, Nat.lt_of_lt_of_le hlt hg.size, fun j hj => ?_⟩
  obtain ⟨v, hv, h0⟩ := hc j hj
  exact ⟨v, (World.cell?_of_block (a := ⟨b, off + j, none⟩) hb).trans hv, h0⟩
theorem SrcS.mono {w : World} {g : Nat} {ao : Option Addr} {n cap : Nat} {K K' : Int} (h : SrcS w g ao n cap K) (hk : K ≤ K') : SrcS w g ao n cap K' := by
  obtain ⟨⟨a, s, h1, h2, h3⟩, h4, h5⟩ := h
  exact ⟨⟨a, s, by omega, h2, h3⟩, h4, h5⟩
theorem SrcS.below {w w' : World} {g : Nat} {ao : Option Addr} {n cap : Nat} {K : Int} (h : SrcS w g ao n cap K) (hb : Below w.heap.size w w') : SrcS w' g ao n cap K := by
  obtain ⟨⟨a, s, h1, h2, c0, c1, c2, f1, f2⟩, h4, h5⟩ := h
  have hg : g < w.heap.size := World.block_lt_of_cell? w _ c0
  refine ⟨⟨a, s, h1, h2, (hb.cell hg).trans c0, (hb.cell hg).trans c1, (hb.cell hg).trans c2, (hb.frozen hg).trans f1, (hb.frozen hg).trans f2⟩, fun hp => ?_, h5⟩
  obtain ⟨b, off, e, hlt, hc⟩ := h4 hp
  refine ⟨b, off, e, Nat.lt_of_lt_of_le hlt hb.size, fun j hj => ?_⟩
  obtain ⟨v, hv, h0⟩ := hc j hj
  exact ⟨v, (hb.cell (p := ⟨b, off + j, none⟩) hlt).trans hv, h0⟩
theorem nextS_any (g : Nat) (ao : Option Addr) (n cap : Nat) (K : Int) (w : World) (h : SrcS w g ao n cap K) (hn : n ≤ 1000000000000) (hK : K ≤ 1000000000000) :
    Calls Try.prog 32 #[.pointer (some ⟨g, 0, none⟩)] w fun e w' => ∃ v : Int, e = .returned (.int .i64 v) ∧ (0 ≤ v ∧ v ≤ 255) ∧ SrcS w' g ao n cap (K + 1) ∧ w.grownBy w' (some g) := by
  obtain ⟨⟨a, s, h1, h2, h3⟩, h4, h5⟩ := h
  refine (next_any g ao n cap a s w h3 h4 hn (by omega) h2 h5).mono ?_
  rintro e w' ⟨v, s', rfl, hv, hs', hS, hg⟩
  exact ⟨v, rfl, hv, ⟨⟨a + 1, s', by omega, hs', hS⟩, h4.grown hg (fun hp x hx => by have := h5 hp x hx; simpa using this), h5⟩, hg⟩
theorem pick_any (g : Nat) (ao : Option Addr) (n cap : Nat) (K N : Int) (w : World) (h : SrcS w g ao n cap K) (hn : n ≤ 1000000000000) (hK : K ≤ 1000000000) (hN : 1 < N ∧ N ≤ 1000000) :
    Calls Try.prog 19 #[.pointer (some ⟨g, 0, none⟩), .int .i64 N] w fun e w' => ∃ v : Int, e = .returned (.int .i64 v) ∧ (0 ≤ v ∧ v < N) ∧ SrcS w' g ao n cap (K + 2) ∧ w.grownBy w' (some g) := by
  have HS := hide h
  clear h
  by_cases h2 : 200 < N
  · go_enter Try.func19, Try.ntmps19
    go_wp2_with fail
    refine (nextS_any g ao n cap K _ HS.out hn (by omega)).mono ?_
    rintro e w1 ⟨v, rfl, ⟨v0, v1⟩, hS1, hg1⟩
    have HS1 := hide hS1
    clear hS1
    go_wp2_with fail
    refine (nextS_any g ao n cap (K + 1) _ HS1.out hn (by omega)).mono ?_
    rintro e w2 ⟨u, rfl, ⟨u0, u1⟩, hS2, hg2⟩
    have HS2 := hide hS2
    clear hS2
    have r0 := Int.emod_nonneg (v * 256 + u) (by omega : N ≠ 0)
    have r1 := Int.emod_lt_of_pos (v * 256 + u) (by omega : 0 < N)
    go_wp2_with fail
    go_ret
    exact ⟨(v * 256 + u) % N, rfl, ⟨r0, r1⟩, HS2.out.mono (by omega), gtr hg1 hg2⟩
  · go_enter Try.func19, Try.ntmps19
    go_wp2_with fail
    refine (nextS_any g ao n cap K _ HS.out hn (by omega)).mono ?_
    rintro e w1 ⟨v, rfl, ⟨v0, v1⟩, hS1, hg1⟩
    have HS1 := hide hS1
    clear hS1
    have r0 := Int.emod_nonneg v (by omega : N ≠ 0)
    have r1 := Int.emod_lt_of_pos v (by omega : 0 < N)
    go_wp2_with fail
    go_ret
    exact ⟨v % N, rfl, ⟨r0, r1⟩, HS1.out.mono (by omega), hg1⟩
theorem among_any (g : Nat) (ao : Option Addr) (n cap : Nat) (K : Int) (b : Nat) (vs : List Int) (c : Nat) (w : World) (h : SrcS w g ao n cap K) (hn : n ≤ 1000000000000) (hK : K ≤ 1000000000) (hl : 1 < vs.length ∧ vs.length ≤ 1000)
    (hb : ∀ j, j < vs.length → w.cell? ⟨b, j, none⟩ = some (.int .i64 (vs.getD j 0))) (hbg : b ≠ g) (hbl : b < w.heap.size) :
    Calls Try.prog 31 #[.pointer (some ⟨g, 0, none⟩), .slice (some ⟨b, 0, none⟩) vs.length c] w fun e w' => ∃ v : Int, e = .returned (.int .i64 v) ∧ v ∈ vs ∧ SrcS w' g ao n cap (K + 2) ∧ w.grownBy w' (some g) := by
  have HS := hide h
  have HB := hide hb
  obtain ⟨m, hm⟩ : ∃ m, m = vs.length := ⟨_, rfl⟩
  have HM := hide hm
  rw [← hm] at hl ⊢
  clear h hb hm
  go_enter Try.func31, Try.ntmps31
  go_wp2_with fail
  refine (pick_any g ao n cap K m _ HS.out hn hK (by omega)).mono ?_
  rintro e w1 ⟨v, rfl, ⟨v0, v1⟩, hS1, hg1⟩
  obtain ⟨j, rfl⟩ := Int.eq_ofNat_of_zero_le v0
  have q := (World.cell?_of_block (a := ⟨b, j, none⟩) (hg1.block b hbl (by simpa using hbg))).trans (HB.out j (by have := HM.out; omega))
  have hmem : vs.getD j 0 ∈ vs := by
    have e : j < vs.length := by have := HM.out; omega
    rw [List.getD_eq_getElem?_getD, List.getElem?_eq_getElem e]
    exact List.getElem_mem e
  have HMM := hide hmem
  have HS1 := hide hS1
  clear hS1 hmem
  obtain ⟨x, hx⟩ : ∃ x, x = vs.getD j 0 := ⟨_, rfl⟩
  rw [← hx] at q HMM
  clear hx
  go_wp2_with fail
  go_ret
  exact ⟨x, rfl, HMM.out, HS1.out, hg1⟩
end Go.Proofs.Ythagogjklocmoaa
