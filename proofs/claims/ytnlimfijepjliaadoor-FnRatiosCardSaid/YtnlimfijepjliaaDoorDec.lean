/-
  Rows of bytes that the call owns; the reference's decimal text.
-/
import Derived.Test.YtnlimfijepjliaaDoorInts
import Derived.Lib.ItoaLen
import Derived.Lib.UnsafeStr
import Derived.Laws.IdiomStrings
import Derived.OwnWalk
import Derived.IntWalk
namespace Go.Proofs.YtnlimfijepjliaaDoor
open Go.RowKit

theorem infoB : (Tryd.prog.info? 5).map (fun i => (i.zero, i.size, i.bytes)) = some (some (.int .u8 0), 1, 1) := by kernel_rfl
def OwnsB (w : World) (base : Nat) (v : Value) (xs : List UInt8) : Prop := w.ownsRow base 5 1 v xs.length (Lib.byteCells xs)
theorem addr_add (g j : Nat) : (⟨g, 0, none⟩ : Addr).add j = ⟨g, j, none⟩ := by simp [Addr.add]; omega
section
variable {w w' : World} {base : Nat} {v : Value} {xs : List UInt8}
theorem OwnsB.none_ : OwnsB w base (.slice none 0 0) [] := World.ownsRow_nil _ _ _ _
theorem OwnsB.made_ : OwnsB (w.alloc (.cells #[] 5)) w.heap.size (.slice (some ⟨w.heap.size, 0, none⟩) 0 0) [] := World.ownsRow_lit w #[] 0 (Nat.le_refl _) (Nat.zero_le _) rfl
theorem OwnsB.one_ (b : UInt8) : OwnsB (w.alloc (.cells #[.int .u8 b.toNat] 5)) w.heap.size (.slice (some ⟨w.heap.size, 0, none⟩) 1 1) [b] := World.ownsRow_lit w #[.int .u8 b.toNat] 1 (Nat.le_refl _) (by decide) rfl
theorem OwnsB.form (h : OwnsB w base v xs) : (v = .slice none 0 0 ∧ xs = []) ∨ ∃ g cap, v = .slice (some ⟨g, 0, none⟩) xs.length cap ∧ base ≤ g ∧ g < w.heap.size ∧ xs.length ≤ cap ∧ cap ≤ maxLen := by
  rcases h.2 with ⟨h1, h2⟩ | ⟨g, cap, cur, h1, h2, h3, h4, h5, _⟩
  · exact .inl ⟨h1, List.eq_nil_of_length_eq_zero h2⟩
  · exact .inr ⟨g, cap, h1, h2, (Array.getElem?_eq_some_iff.1 h3).1, h4, h5⟩
theorem OwnsB.same {row : Option Nat} (h : OwnsB w base v xs) (hg : w.grownBy w' row) (hne : v.ownBlock = none ∨ v.ownBlock ≠ row) : OwnsB w' base v xs := World.ownsRow.kept h hg hne
theorem grown_of_belowB {a w : World} (h : Below a.heap.size a w) (row : Option Nat) : a.grownBy w row := ⟨h.os, h.tape, h.output, h.size, fun i hi _ => h.block i hi⟩
theorem OwnsB.below (h : OwnsB w base v xs) (hb : Below w.heap.size w w') : OwnsB w' base v xs :=
  h.same (grown_of_belowB hb none) (by cases v.ownBlock <;> simp)
theorem OwnsB.lt (h : OwnsB w base v xs) : ∀ k, v.ownBlock = some k → base ≤ k ∧ k < w.heap.size := World.ownsRow.lt h
theorem OwnsB.mono_base {B' : Nat} (h : OwnsB w base v xs) (hb : B' ≤ base) : OwnsB w B' v xs := by
  refine ⟨h.1, ?_⟩
  rcases h.2 with h2 | ⟨g, cap, cur, h1, h2, h3⟩
  · exact .inl h2
  · exact .inr ⟨g, cap, cur, h1, Nat.le_trans hb h2, h3⟩
theorem OwnsB.at_ {g cap n : Nat} (h : OwnsB w base (.slice (some ⟨g, 0, none⟩) n cap) xs) (j : Nat) (hj : j < xs.length) : w.cell? ⟨g, j, none⟩ = some (.int .u8 ((xs.getD j 0).toNat : Int)) := by
  have hn : n = xs.length := by
    rcases h.form with ⟨e, _⟩ | ⟨_, _, e, _⟩
    · simp at e
    · simp only [Value.slice.injEq] at e; exact e.2.1
  subst hn
  have := World.ownsRow.cells h (g := g) rfl j (.int .u8 ((xs.getD j 0).toNat : Int)) (by simp [Lib.byteCells, List.getD_eq_getElem?_getD, List.getElem?_eq_getElem hj])
  rw [addr_add] at this
  exact this
end
/-- run_append_own, and where the new row lies. -/
theorem run_appendB (w : World) (ty : TypeId) (base : Nat) (v : Value) (xs : List UInt8) (hown : OwnsB w base v xs) (ad : Addr) (m c : Nat) (ys : List UInt8) (hl : ys.length = m)
    (hnews : ∀ j, j < m → w.cell? (ad.add j) = some (.int .u8 ((ys.getD j 0).toNat : Int))) (hx : xs.length + m ≤ 1000000000000) (hbase : base ≤ w.heap.size) :
    ∃ v' w', (Builtin.append_ #[47, 47] ty #[v, .slice (some ad) m c]).run Tryd.prog w = .ok v' w' ∧ OwnsB w' base v' (xs ++ ys) ∧ w.grownBy w' v.ownBlock ∧
      (v' = .slice none 0 0 ↔ v = .slice none 0 0 ∧ m = 0) ∧ (v'.ownBlock = v.ownBlock ∨ v'.ownBlock = some w.heap.size) := by
  obtain ⟨i0, hi, hz0, hz1, hz2⟩ := info_parts infoB
  have hnl : (Lib.byteCells ys).length = m * 1 := by simp [Lib.byteCells, hl]
  have hnn : ∀ j u, (Lib.byteCells ys)[j]? = some u → w.cell? (ad.add j) = some u := fun j u hj => by
    unfold Lib.byteCells at hj
    rw [List.getElem?_map] at hj
    cases h : ys[j]? with
    | none => rw [h] at hj; simp at hj
    | some y =>
      rw [h] at hj
      simp at hj
      subst hj
      have hlt : j < ys.length := (List.getElem?_eq_some_iff.1 h).1
      rw [hnews j (by omega), List.getD_eq_getElem?_getD, h]; rfl
  have h1 : ∀ u ∈ Lib.byteCells ys, u.oneCell' = true := fun u hu => by
    obtain ⟨y, _, rfl⟩ := List.mem_map.1 (by simpa [Lib.byteCells] using hu)
    rfl
  have hu : Tryd.prog.underlying 47 = some (.slice 5) := by rw [Tryd.underlying47]
  obtain ⟨v', w', hr, h2, h3, h4⟩ := run_append_own (P := Tryd.prog) w base 47 ty 5 i0 (.int .u8 0) 1 1 hu hi hz0 hz1 hz2 rfl (by decide) v xs.length (Lib.byteCells xs) hown ad m c (Lib.byteCells ys) hnl hnn h1 (by unfold maxLen; omega) (by omega) hbase
  refine ⟨v', w', hr, ?_, h3, h4, ?_⟩
  · unfold OwnsB
    rw [List.length_append, Lib.byteCells_append, hl]
    exact h2
  · have hz1' : i0.size = 1 := hz1
    rcases hown.2 with ⟨rfl, h0⟩ | ⟨g, cap, cur, rfl, hbg, hg, hnc, hcm, hcs, htake⟩
    · by_cases hm : m = 0
      · left
        rw [h4.2 ⟨rfl, hm⟩]
      · right
        have hr2 := run_append_nil (P := Tryd.prog) w 47 ty 5 i0 (.int .u8 0) hu hi hz0 ad m c (Lib.byteCells ys) (by rw [hz1']; exact hnl) hnn (by omega) (by omega) (by rw [hz2]; omega)
        rw [hr2] at hr
        cases hr
        rfl
    · by_cases hroom : xs.length + m ≤ cap
      · left
        have hr2 := run_append_room (P := Tryd.prog) w 47 ty 5 i0 hu hi g xs.length cap cur hg ad m c (Lib.byteCells ys) (by rw [hz1']; exact hnl) hnn h1 hroom (by rw [hz1', hnl, hcs]; omega)
        rw [hr2] at hr
        cases hr
        rfl
      · right
        have holds : ∀ j u, (Lib.byteCells xs)[j]? = some u → w.cell? ((⟨g, 0, none⟩ : Addr).add j) = some u := World.ownsRow.cells hown (g := g) rfl
        have hr2 := run_append_grow (P := Tryd.prog) w 47 ty 5 i0 (.int .u8 0) hu hi hz0 ⟨g, 0, none⟩ xs.length cap (Lib.byteCells xs) (by rw [hz1']; simp [Lib.byteCells]) holds ad m c (Lib.byteCells ys) (by rw [hz1']; exact hnl) hnn (by omega) (by omega) (growslice_fits (by omega) (by rw [hz2]; omega))
        rw [hr2] at hr
        cases hr
        rfl
/-- 'out = append(out, ys...)': a row of the call's own, a source whose cells are known. -/
theorem wpList_appendB {ops : Array Oper} {rest : List Oper} {o : Oper} {a : Act} {Q : Exit → Act → World → Prop} {w : World} (hgd : o.guard = none) (s x : Operand)
    (ho : o.op = .call { callee := .builtin .append, args := #[s, x], argTypes := #[47, 47] })
    (base : Nat) (v : Value) (xs : List UInt8) (hs : a.eval s = v) (hown : OwnsB w base v xs) (ad : Addr) (m c : Nat) (ys : List UInt8) (hx : a.eval x = .slice (some ad) m c) (hm : ys.length = m)
    (hnews : ∀ j, j < m → w.cell? (ad.add j) = some (.int .u8 ((ys.getD j 0).toNat : Int)))
    (hl : xs.length + m ≤ 1000000000000) (hbase : base ≤ w.heap.size)
    (h : ∀ v' w', OwnsB w' base v' (xs ++ ys) → w.grownBy w' v.ownBlock → (v'.ownBlock = v.ownBlock ∨ v'.ownBlock = some w.heap.size) → wpList Tryd.prog ops Q rest (a.put o.dst v') w') :
    wpList Tryd.prog ops Q (o :: rest) a w := by
  refine wpList_plain hgd fun _ hK => ?_
  obtain ⟨v', w', hr, h2, h3, _, h4⟩ := run_appendB w o.type base v xs hown ad m c ys hm hnews hl hbase
  unfold Oper.wp execOp
  simp only [ho, resolve, invoke, builtin, Sem.run_bind, Sem.run_pure, Result.andThen_ok, List.map_toArray, List.map_cons, List.map_nil, hs, hx, hr]
  exact hK _ _ (h v' w' h2 h3 h4)

/-- The digits of a number; none for 0. -/
def dd (u : Nat) : List UInt8 := if u = 0 then [] else Lib.decDigits u
theorem dd_step {u : Nat} (h : u ≠ 0) : dd u = dd (u / 10) ++ [UInt8.ofNat (48 + u % 10)] := by
  unfold dd
  rw [if_neg h, Lib.decDigits]
  by_cases h1 : u < 10
  · rw [dif_pos h1, if_pos (by omega), List.nil_append, Nat.mod_eq_of_lt h1]
  · rw [dif_neg h1, if_neg (by omega)]
theorem itoa_zero : Lib.itoa 0 = [48] := by decide +kernel
theorem itoa_neg {n : Int} (h : n < 0) : Lib.itoa n = 45 :: dd n.natAbs := by
  unfold Lib.itoa dd
  rw [if_pos h, if_neg (by omega)]
theorem itoa_pos {n : Int} (h : 0 < n) : Lib.itoa n = dd n.natAbs := by
  unfold Lib.itoa dd
  rw [if_neg (by omega), if_neg (by omega)]
  congr 1
  omega
theorem dd_len (n : Int) (h1 : -9223372036854775808 ≤ n) (h2 : n ≤ 9223372036854775807) : (dd n.natAbs).length ≤ 21 := by
  have h := Lib.itoa_length_le n h1 h2
  rcases Int.lt_trichotomy n 0 with s | s | s
  · rw [itoa_neg s, List.length_cons] at h; omega
  · subst s; decide
  · rw [itoa_pos s] at h; omega
theorem dig_byte (u : Nat) : ((UInt8.ofNat (48 + u % 10)).toNat : Int) = 48 + ((u % 10 : Nat) : Int) := by
  have : u % 10 < 10 := Nat.mod_lt _ (by decide)
  rw [UInt8.toNat_ofNat']
  omega
set_option maxHeartbeats 1000000 in
theorem l01Dec_any (n : Int) (w : World) (h1 : -9223372036854775808 ≤ n) (h2 : n ≤ 9223372036854775807) :
    Calls Tryd.prog 47 #[.int .i64 n] w fun e w' => e = .returned (.string ⟨(Lib.itoa n).toArray⟩) ∧ Below w.heap.size w w' := by
  have HM := hide (OwnsB.made_ (w := w))
  go_enter Tryd.func47, Tryd.ntmps47
  go_wp2_with fail
  go_loopw [3, 4] (fun s3 s4 wr => ∃ (k : Int) (l : List UInt8) (g p : Nat), s4 = .int .i64 k ∧ s3 = .slice (some ⟨g, 0, none⟩) l.length p ∧ OwnsB wr w.heap.size (.slice (some ⟨g, 0, none⟩) l.length p) l ∧ dd k.natAbs ++ l = dd n.natAbs ∧ -9223372036854775808 ≤ k ∧ k ≤ 9223372036854775807 ∧ Below w.heap.size w wr) (fun _ s4 _ => (intOf s4).natAbs)
  case atStart => exact ⟨n, [], w.heap.size, 0, rfl, rfl, HM.out, by simp, h1, h2, balloc (Below.refl _ _) _⟩
  case round =>
    obtain ⟨k, l, g, p, rfl, rfl, hown, hdd, k1, k2, hbel⟩ := hrel
    have HO := hide hown
    have HD := hide hdd
    have HB := hide hbel
    have hsz := hbel.size
    have hll : l.length ≤ 21 := by have := dd_len n h1 h2; rw [← hdd, List.length_append] at this; omega
    clear hown hdd hbel
    by_cases hk : k = 0
    · subst hk
      have hl : l = dd n.natAbs := by have h := HD.out; simpa [dd] using h
      by_cases hn : n = 0
      · subst hn
        have hl0 : l = [] := by rw [hl]; rfl
        subst hl0
        clear hl
        go_wp2_with fail
        go_ret
        exact ⟨by rw [itoa_zero]; rfl, HB.out⟩
      · have hne : l ≠ [] := by
          rw [hl, dd_step (by omega)]; simp
        have hlz : ((l.length : Int) == 0) = false := by
          have : 0 < l.length := List.length_pos_iff.mpr hne
          simp; omega
        have hlz2 : (l.length == 0) = false := by
          have : 0 < l.length := List.length_pos_iff.mpr hne
          simp; omega
        have hcv := run_convert_bytes_back (P := Tryd.prog) wr 47 9 5 ⟨g, 0, none⟩ p l Tryd.underlying47 Tryd.underlying5 Tryd.underlying9 (fun j hj => World.ownsRow.cells HO.out (g := g) rfl j _ (by simp [Lib.byteCells, hj]))
        have HL := hide hl
        have HNE := hide hne
        clear hl hne
        by_cases hneg : n < 0
        · go_wp2_with fail
          go_ret
          refine ⟨?_, HB.out⟩
          rw [itoa_neg hneg, ← HL.out]
          first | rfl | (congr 2; simp)
        · go_wp2_with fail
          go_ret
          refine ⟨?_, HB.out⟩
          rw [itoa_pos (by omega), ← HL.out]; rfl
    · have hz : (k != 0) = true := by simpa using hk
      obtain ⟨t, ht⟩ : ∃ t, t = k.tmod 10 := ⟨_, rfl⟩
      obtain ⟨q, hq⟩ : ∃ q, q = k.tdiv 10 := ⟨_, rfl⟩
      obtain ⟨u, hu⟩ : ∃ u, u = k.natAbs % 10 := ⟨_, rfl⟩
      have ta : t.natAbs = u := by rw [ht, Int.natAbs_tmod, hu]; rfl
      have qa : q.natAbs = k.natAbs / 10 := by rw [hq, Int.natAbs_tdiv]; rfl
      have hu10 : u < 10 := by rw [hu]; exact Nat.mod_lt _ (by decide)
      obtain ⟨b, hb⟩ : ∃ b, b = UInt8.ofNat (48 + u) := ⟨_, rfl⟩
      have hbn : (b.toNat : Int) = 48 + (u : Int) := by rw [hb, UInt8.toNat_ofNat']; omega
      have hst := dd_step (u := k.natAbs) (by omega)
      rw [← hu, ← hb, ← qa] at hst
      have HST := hide hst
      have f1 : k.tmod 10 = t := ht.symm
      have f2 : IntKind.i64.wrap t = t := IntWalk.i64_in _ (by omega)
      have f3 : k.tdiv 10 = q := hq.symm
      have f4 : IntKind.i64.wrap q = q := IntWalk.i64_in _ (by omega)
      have f5 : IntKind.i64.wrap (48 + (u : Int)) = (b.toNat : Int) := (IntWalk.i64_in _ (by omega)).trans hbn.symm
      have f6 : IntKind.u8.wrap (b.toNat : Int) = (b.toNat : Int) := IntWalk.u8_in _ (by omega)
      have O1 := hide ((OwnsB.one_ (w := wr) b).mono_base hsz)
      have HC := hide (HO.out.below (balloc (Below.refl _ _) (.cells #[.int .u8 b.toNat] 5)))
      have B1 := hide (balloc HB.out (.cells #[.int .u8 b.toNat] 5))
      have hs1 : w.heap.size ≤ (wr.alloc (.cells #[.int .u8 b.toNat] 5)).heap.size := B1.out.size
      have HQA := hide qa
      have HB2 := hide (show q.natAbs < k.natAbs by omega)
      have hqb : -9223372036854775808 ≤ q ∧ q ≤ 9223372036854775807 := by omega
      clear ht hq hu hb hbn hst qa
      rcases Int.lt_or_le t 0 with hs | hs
      · have f7 : IntKind.i64.wrap (-t) = (u : Int) := (IntWalk.i64_in _ (by omega)).trans (by omega)
        have d1 : decide (t < 0) = true := by simp; omega
        clear ta
        go_wp2_with (at_builtin; refine wpList_appendB rfl (.tmp 21) (.tmp 22) rfl w.heap.size _ [b] rfl O1.out ⟨g, 0, none⟩ l.length p l rfl rfl (fun j hj => ?_) (by rw [List.length_singleton]; omega) hs1 fun v' w' r1 r2 _ => ?_)
        · have h := HC.out.at_ j hj
          rw [show (⟨g, 0, none⟩ : Addr).add j = ⟨g, j, none⟩ from addr_add g j]
          exact h
        · have B2 := hide (B1.out.grown r2 hs1 (fun k hk => (O1.out.lt k hk).1))
          rcases r1.form with ⟨_, h0⟩ | ⟨g3, cap3, rfl, _⟩
          · simp at h0
          have O3 := hide r1
          clear r1 r2
          go_roundw
          case rel => exact ⟨q, [b] ++ l, g3, cap3, rfl, rfl, O3.out, by rw [← HD.out, HST.out, List.append_assoc], hqb.1, hqb.2, B2.out⟩
          case measure => simp only [intOf]; exact HB2.out
      · have htu : t = (u : Int) := by omega
        subst htu
        have d1 : decide ((u : Int) < 0) = false := decide_eq_false (by omega)
        clear ta
        go_wp2_with (at_builtin; refine wpList_appendB rfl (.tmp 21) (.tmp 22) rfl w.heap.size _ [b] rfl O1.out ⟨g, 0, none⟩ l.length p l rfl rfl (fun j hj => ?_) (by rw [List.length_singleton]; omega) hs1 fun v' w' r1 r2 _ => ?_)
        · have h := HC.out.at_ j hj
          rw [show (⟨g, 0, none⟩ : Addr).add j = ⟨g, j, none⟩ from addr_add g j]
          exact h
        · have B2 := hide (B1.out.grown r2 hs1 (fun k hk => (O1.out.lt k hk).1))
          rcases r1.form with ⟨_, h0⟩ | ⟨g3, cap3, rfl, _⟩
          · simp at h0
          have O3 := hide r1
          clear r1 r2
          go_roundw
          case rel => exact ⟨q, [b] ++ l, g3, cap3, rfl, rfl, O3.out, by rw [← HD.out, HST.out, List.append_assoc], hqb.1, hqb.2, B2.out⟩
          case measure => simp only [intOf]; exact HB2.out
end Go.Proofs.YtnlimfijepjliaaDoor
