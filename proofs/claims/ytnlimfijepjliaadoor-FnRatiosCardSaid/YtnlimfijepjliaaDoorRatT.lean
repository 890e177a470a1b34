/-
  RatioText: contracts of both functions, and the walk of its law.
-/
import Derived.Test.YtnlimfijepjliaaDoorDecI
import Derived.Test.YtnlimfijepjliaaDoorRatioX
import Derived.Lib.QuietBelow
import Derived.BigQuiet
import Derived.Deep.Cut
namespace Go.Proofs.YtnlimfijepjliaaDoor
open Go.RowKit

/-- A number's decimal text. -/
def itoaB (n : Int) : ByteArray := ⟨(Lib.itoa n).toArray⟩
theorem itoaB_size (n : Int) (h1 : -9223372036854775808 ≤ n) (h2 : n ≤ 9223372036854775807) : (itoaB n).size ≤ 21 := by
  have h := Lib.itoa_length_le n h1 h2
  have e : (itoaB n).size = (Lib.itoa n).length := rfl
  omega
/-- A valid ratio's text. -/
def ratS (a b : Int) : ByteArray := if b = 1 then itoaB a else itoaB a ++ ⟨#[47]⟩ ++ itoaB b
theorem ratS_one {a b : Int} (h : b = 1) : ratS a b = itoaB a := by unfold ratS; rw [if_pos h]
theorem ratS_two {a b : Int} (h : ¬ b = 1) : ratS a b = itoaB a ++ ⟨#[47]⟩ ++ itoaB b := by unfold ratS; rw [if_neg h]
def ratV (a b : Int) : ByteArray := if validR a b then ratS a b else ⟨#[]⟩
theorem cells_two {w : World} (u v : Value) (t : TypeId) : (w.alloc (.cells #[u, v] t)).cell? ⟨w.heap.size, 0, none⟩ = some u ∧ (w.alloc (.cells #[u, v] t)).cell? ⟨w.heap.size, 1, none⟩ = some v := by
  constructor <;> simp [go_sem]
set_option maxHeartbeats 1000000 in
set_option maxRecDepth 100000 in
theorem l02Text_any (a b : Int) (w : World) (ha : -9223372036854775808 ≤ a ∧ a ≤ 9223372036854775807) (hb : -9223372036854775808 ≤ b ∧ b ≤ 9223372036854775807) :
    Calls Tryd.prog 50 #[.agg #[.int .i64 a, .int .i64 b]] w fun e w' => e = .returned (.string (ratS a b)) ∧ Below w.heap.size w w' := by
  have CA := hide (fun w => show Calls Tryd.prog 47 #[.int .i64 a] w fun e w' => e = .returned (.string (itoaB a)) ∧ Below w.heap.size w w' from l01Dec_any a w ha.1 ha.2)
  have CB := hide (fun w => show Calls Tryd.prog 47 #[.int .i64 b] w fun e w' => e = .returned (.string (itoaB b)) ∧ Below w.heap.size w w' from l01Dec_any b w hb.1 hb.2)
  have za := itoaB_size a ha.1 ha.2
  have zb := itoaB_size b hb.1 hb.2
  obtain ⟨sa, hsa⟩ : ∃ s, s = itoaB a := ⟨_, rfl⟩
  obtain ⟨sb, hsb⟩ : ∃ s, s = itoaB b := ⟨_, rfl⟩
  have HSA := hide hsa
  have HSB := hide hsb
  rw [← hsa] at za CA
  rw [← hsb] at zb CB
  have B0 := hide (balloc (Below.refl w.heap.size w) (.cells #[.int .i64 a, .int .i64 b] 27))
  clear hsa hsb ha hb
  by_cases h1 : b = 1
  · rw [ratS_one h1, ← HSA.out]
    have hz : (b == 1) = true := by simpa using h1
    clear h1
    go_enter Tryd.func50, Tryd.ntmps50
    go_wp2_with fail
    refine (CA.out _).mono ?_
    rintro e w1 ⟨rfl, hb1⟩
    have B1 := hide (bstep B0.out hb1)
    clear hb1
    go_wp2_with fail
    go_ret
    exact ⟨rfl, B1.out⟩
  · rw [ratS_two h1, ← HSA.out, ← HSB.out]
    have hz : (b == 1) = false := by simpa using h1
    have n1 : ¬ 9223372036854775807 < sa.size + 1 := by omega
    have n2 : ¬ 9223372036854775807 < sa.size + 1 + sb.size := by omega
    clear h1
    go_enter Tryd.func50, Tryd.ntmps50
    go_upto_region 3 with fail
    obtain ⟨c0, c1⟩ := cells_two (w := w) (.int .i64 a) (.int .i64 b) 27
    obtain ⟨wb, hwb⟩ : ∃ wb, wb = w.alloc (.cells #[.int .i64 a, .int .i64 b] 27) := ⟨_, rfl⟩
    rw [← hwb] at c0 c1 B0 ⊢
    clear hwb
    have k0 := cell_regrown c0
    have k1 := cell_regrown c1
    have cA := fun d os => Calls.regrown_of (w := wb) (d := d) (os := os) (CA.out _)
    have cB := fun d os => Calls.regrown_of (w := wb) (d := d) (os := os) (CB.out _)
    refine wp_region_quiet_below (by kernel_rfl) (by kernel_rfl) ?_
    repeat (go_big_quiet_step (first | with_reducible exact cA _ _ | with_reducible exact cB _ _))
    refine wpQuiet_nil ?_
    intro _ hw'
    obtain ⟨⟨dq, osq⟩, hw''⟩ := hw'
    subst hw''
    have B1 := hide (bstep B0.out (below_regrown _ dq osq))
    clear cA cB k0 k1 c0 c1
    go_wp2_with fail
    go_ret
    exact ⟨rfl, B1.out⟩
theorem specRatioText_any (a b : Int) (w : World) :
    Calls Tryd.prog 15 #[.agg #[.int .i64 a, .int .i64 b]] w fun e w' => e = .returned (.string (ratV a b)) ∧ Below w.heap.size w w' := by
  cases hv : validR a b
  · have e : ratV a b = ⟨#[]⟩ := by unfold ratV; rw [hv]; rfl
    have CV := hide (fun w => show Calls Tryd.prog 49 #[.agg #[.int .i64 a, .int .i64 b]] w fun e w' => e = .returned (.bool false) ∧ Below w.heap.size w w' from hv ▸ l02Ok_any a b w)
    rw [e]
    clear e hv
    go_enter Tryd.func15, Tryd.ntmps15
    go_wp2_with fail
    refine (CV.out _).mono ?_
    rintro e w1 ⟨rfl, hb1⟩
    have B1 := hide (bstep (balloc (Below.refl w.heap.size w) (.cells #[.int .i64 a, .int .i64 b] 27)) hb1)
    clear hb1
    go_wp2_with fail
    go_ret
    exact ⟨rfl, B1.out⟩
  · have e : ratV a b = ratS a b := by unfold ratV; rw [hv]; rfl
    have hbd := validR_true hv
    have CV := hide (fun w => show Calls Tryd.prog 49 #[.agg #[.int .i64 a, .int .i64 b]] w fun e w' => e = .returned (.bool true) ∧ Below w.heap.size w w' from hv ▸ l02Ok_any a b w)
    have CT := hide (fun w => l02Text_any a b w (by omega) (by omega))
    rw [e]
    obtain ⟨s, hs⟩ : ∃ s, s = ratS a b := ⟨_, rfl⟩
    rw [← hs] at CT ⊢
    clear e hv hbd hs
    go_enter Tryd.func15, Tryd.ntmps15
    go_wp2_with fail
    refine (CV.out _).mono ?_
    rintro e w1 ⟨rfl, hb1⟩
    have B1 := hide (bstep (balloc (Below.refl w.heap.size w) (.cells #[.int .i64 a, .int .i64 b] 27)) hb1)
    obtain ⟨c0, c1⟩ := cells_two (w := w) (.int .i64 a) (.int .i64 b) 27
    have d0 := (hb1.cell (p := ⟨w.heap.size, 0, none⟩) (by simp)).trans c0
    have d1 := (hb1.cell (p := ⟨w.heap.size, 1, none⟩) (by simp)).trans c1
    clear hb1 c0 c1
    go_wp2_with fail
    refine (CT.out _).mono ?_
    rintro e w2 ⟨rfl, hb2⟩
    have B2 := hide (bstep B1.out hb2)
    clear hb2
    go_wp2_with fail
    go_ret
    exact ⟨rfl, B2.out⟩
set_option maxHeartbeats 1000000 in
set_option maxRecDepth 100000 in
theorem implRatioText_any (a b : Int) (w : World) (ht : TabB w) :
    Calls Tryd.prog 17 #[.agg #[.int .i64 a, .int .i64 b]] w fun e w' => e = .returned (.string (ratV a b)) ∧ Below w.heap.size w w' := by
  cases hv : validR a b
  · have e : ratV a b = ⟨#[]⟩ := by unfold ratV; rw [hv]; rfl
    have CV := hide (fun w => show Calls Tryd.prog 51 #[.agg #[.int .i64 a, .int .i64 b]] w fun e w' => e = .returned (.bool false) ∧ Below w.heap.size w w' from hv ▸ implValidRatio_any a b w)
    rw [e]
    clear e hv ht
    go_enter Tryd.func17, Tryd.ntmps17
    go_wp2_with fail
    refine (CV.out _).mono ?_
    rintro e w1 ⟨rfl, hb1⟩
    have B1 := hide (bstep (balloc (Below.refl w.heap.size w) (.cells #[.int .i64 a, .int .i64 b] 27)) hb1)
    clear hb1
    go_wp2_with fail
    go_ret
    exact ⟨rfl, B1.out⟩
  · have e : ratV a b = ratS a b := by unfold ratV; rw [hv]; rfl
    obtain ⟨hbd, had, _⟩ := validR_true hv
    have CV := hide (fun w => show Calls Tryd.prog 51 #[.agg #[.int .i64 a, .int .i64 b]] w fun e w' => e = .returned (.bool true) ∧ Below w.heap.size w w' from hv ▸ implValidRatio_any a b w)
    have HT := hide ht
    have CA := hide (fun w (h : TabB w) => show Calls Tryd.prog 14 #[.int .i64 a] w fun e w' => e = .returned (.string (itoaB a)) ∧ Below w.heap.size w w' from implDecimal_any a w (by omega) (by omega) h)
    have CB := hide (fun w (h : TabB w) => show Calls Tryd.prog 14 #[.int .i64 b] w fun e w' => e = .returned (.string (itoaB b)) ∧ Below w.heap.size w w' from implDecimal_any b w (by omega) (by omega) h)
    have za := itoaB_size a (by omega) (by omega)
    have zb := itoaB_size b (by omega) (by omega)
    obtain ⟨sa, hsa⟩ : ∃ s, s = itoaB a := ⟨_, rfl⟩
    obtain ⟨sb, hsb⟩ : ∃ s, s = itoaB b := ⟨_, rfl⟩
    have HSA := hide hsa
    have HSB := hide hsb
    rw [e]
    rw [← hsa] at za CA
    rw [← hsb] at zb CB
    clear e hv hsa hsb ht
    by_cases h1 : b = 1
    · rw [ratS_one h1, ← HSA.out]
      have hz : (b == 1) = true := by simpa using h1
      clear h1 CB hbd had
      go_enter Tryd.func17, Tryd.ntmps17
      go_wp2_with fail
      refine (CV.out _).mono ?_
      rintro e w1 ⟨rfl, hb1⟩
      have B1 := hide (bstep (balloc (Below.refl w.heap.size w) (.cells #[.int .i64 a, .int .i64 b] 27)) hb1)
      have HT1 := hide (HT.out.below B1.out)
      obtain ⟨c0, c1⟩ := cells_two (w := w) (.int .i64 a) (.int .i64 b) 27
      have d0 := (hb1.cell (p := ⟨w.heap.size, 0, none⟩) (by simp)).trans c0
      have d1 := (hb1.cell (p := ⟨w.heap.size, 1, none⟩) (by simp)).trans c1
      clear hb1 c0 c1
      go_wp2_with fail
      refine (CA.out _ HT1.out).mono ?_
      rintro e w2 ⟨rfl, hb2⟩
      have B2 := hide (bstep B1.out hb2)
      clear hb2
      go_wp2_with fail
      go_ret
      exact ⟨rfl, B2.out⟩
    · rw [ratS_two h1, ← HSA.out, ← HSB.out]
      have hz : (b == 1) = false := by simpa using h1
      have n1 : ¬ 9223372036854775807 < sa.size + 1 := by omega
      have n2 : ¬ 9223372036854775807 < sa.size + 1 + sb.size := by omega
      clear h1 hbd had
      go_enter Tryd.func17, Tryd.ntmps17
      go_wp2_with fail
      refine (CV.out _).mono ?_
      rintro e w1 ⟨rfl, hb1⟩
      have B1 := hide (bstep (balloc (Below.refl w.heap.size w) (.cells #[.int .i64 a, .int .i64 b] 27)) hb1)
      have HT1 := hide (HT.out.below B1.out)
      obtain ⟨c0, c1⟩ := cells_two (w := w) (.int .i64 a) (.int .i64 b) 27
      have d0 := (hb1.cell (p := ⟨w.heap.size, 0, none⟩) (by simp)).trans c0
      have d1 := (hb1.cell (p := ⟨w.heap.size, 1, none⟩) (by simp)).trans c1
      clear hb1 c0 c1
      go_upto_region 5 with fail
      have k0 := cell_regrown d0
      have k1 := cell_regrown d1
      have cA := fun d os => Calls.regrown_of (w := w1) (d := d) (os := os) (CA.out _ (HT1.out.below (below_regrown w1 d os)))
      have cB := fun d os => Calls.regrown_of (w := w1) (d := d) (os := os) (CB.out _ (HT1.out.below (below_regrown w1 d os)))
      refine wp_region_quiet_below (by kernel_rfl) (by kernel_rfl) ?_
      repeat (go_big_quiet_step (first | with_reducible exact cA _ _ | with_reducible exact cB _ _))
      refine wpQuiet_nil ?_
      intro _ hw'
      obtain ⟨⟨dq, osq⟩, hw''⟩ := hw'
      subst hw''
      have B2 := hide (bstep B1.out (below_regrown _ dq osq))
      clear cA cB k0 k1 d0 d1
      go_wp2_with fail
      go_ret
      exact ⟨rfl, B2.out⟩
theorem walk_FnExactRatioText (a b : Int) (w : World) (_ha : -9223372036854775808 ≤ a ∧ a ≤ 9223372036854775807) (_hb : -9223372036854775808 ≤ b ∧ b ≤ 9223372036854775807) (hL : laidMetH Tryd.prog Rows.fnExactRatioTextRow.laid w) :
    Calls Tryd.prog 4 #[.agg #[.int .i64 a, .int .i64 b]] w fun e w' => e = .returned (.bool true) ∧ Below w.heap.size w w' := by
  have hT : TabB w := by
    have h : laidMet Tryd.prog Rows.fnExactRatioTextRow.laid w := by rwa [Go.MakeChecks.laidMetH_plain _ _ _ (by kernel_rfl)] at hL
    exact tab_head h.tail.tail
  have HT := hide hT
  have C1 := hide (fun w => specRatioText_any a b w)
  have C2 := hide (fun w (h : TabB w) => implRatioText_any a b w h)
  obtain ⟨s, hs⟩ : ∃ s, s = ratV a b := ⟨_, rfl⟩
  rw [← hs] at C1 C2
  clear hT hL hs _ha _hb
  go_enter Tryd.func4, Tryd.ntmps4
  go_wp2_with fail
  refine (toRatio_any a b _).mono ?_
  rintro e w1 ⟨rfl, hb1⟩
  have B1 := hide (bstep (balloc (Below.refl w.heap.size w) (.cells #[.int .i64 a, .int .i64 b] 25)) hb1)
  obtain ⟨c0, c1⟩ := cells_two (w := w) (.int .i64 a) (.int .i64 b) 25
  have D0 := hide ((hb1.cell (p := ⟨w.heap.size, 0, none⟩) (by simp)).trans c0)
  have D1 := hide ((hb1.cell (p := ⟨w.heap.size, 1, none⟩) (by simp)).trans c1)
  have l1 : w.heap.size < w1.heap.size := by have := hb1.size; simp at this; omega
  clear hb1 c0 c1
  go_wp2_with fail
  refine (C1.out _).mono ?_
  rintro e w2 ⟨rfl, hb2⟩
  have B2 := hide (bstep B1.out hb2)
  have d0 := (hb2.cell (p := ⟨w.heap.size, 0, none⟩) l1).trans D0.out
  have d1 := (hb2.cell (p := ⟨w.heap.size, 1, none⟩) l1).trans D1.out
  clear hb2
  go_wp2_with fail
  refine (toRatio_any a b _).mono ?_
  rintro e w3 ⟨rfl, hb3⟩
  have B3 := hide (bstep B2.out hb3)
  have HT3 := hide (HT.out.below B3.out)
  clear hb3 d0 d1
  go_wp2_with fail
  refine (C2.out _ HT3.out).mono ?_
  rintro e w4 ⟨rfl, hb4⟩
  have B4 := hide (bstep B3.out hb4)
  clear hb4
  go_wp2_with fail
  go_ret
  exact ⟨rfl, B4.out⟩
end Go.Proofs.YtnlimfijepjliaaDoor
