/-
  The program's list of splits: its contract.
-/
import Derived.Test.YthagogjklocmoaaSplsD
import Derived.Test.YthagogjklocmoaaSplM
import Derived.Lib.SliceRun
namespace Go.Proofs.Ythagogjklocmoaa
open Go.RowKit Go.Sort Go.Shelf Go.Lib

theorem closS_gives (lo hi x : Int) (B1 B2 : Nat) (W : World) (h1 : W.cell? ⟨B1, 0, none⟩ = some (.int .i64 lo)) (h2 : W.cell? ⟨B2, 0, none⟩ = some (.int .i64 hi)) :
    FnGives Try.prog 36 #[.pointer (some ⟨B1, 0, none⟩), .pointer (some ⟨B2, 0, none⟩)] #[.int .i64 x] (.bool (!inR x lo hi)) W := by
  show Calls Try.prog 36 #[.int .i64 x, .pointer (some ⟨B1, 0, none⟩), .pointer (some ⟨B2, 0, none⟩)] W _
  go_enter Try.func36, Try.ntmps36
  go_wp2_with (go_at_call 33; refine (within_any _ _ _ _).mono ?_; rintro e w' ⟨rfl, rfl⟩)
  go_ret
  exact ⟨rfl, 0, rfl⟩
theorem closS_pred (lo hi : Int) (B1 B2 : Nat) (w : World) (l1 : B1 < w.heap.size) (l2 : B2 < w.heap.size) (h1 : w.cell? ⟨B1, 0, none⟩ = some (.int .i64 lo)) (h2 : w.cell? ⟨B2, 0, none⟩ = some (.int .i64 hi)) :
    PredAt Try.prog 36 #[.pointer (some ⟨B1, 0, none⟩), .pointer (some ⟨B2, 0, none⟩)] (Value.int .i64) (fun x => !inR x lo hi) w :=
  fun W x hb => closS_gives lo hi x B1 B2 W ((hb.cell (p := ⟨B1, 0, none⟩) l1).trans h1) ((hb.cell (p := ⟨B2, 0, none⟩) l2).trans h2)
theorem closS_over (lo hi : Int) (B1 B2 blk off size : Nat) (w : World) (l1 : B1 < w.heap.size) (l2 : B2 < w.heap.size) (n1 : B1 ≠ blk) (n2 : B2 ≠ blk) (h1 : w.cell? ⟨B1, 0, none⟩ = some (.int .i64 lo)) (h2 : w.cell? ⟨B2, 0, none⟩ = some (.int .i64 hi)) :
    PredOver Try.prog 36 #[.pointer (some ⟨B1, 0, none⟩), .pointer (some ⟨B2, 0, none⟩)] (Value.int .i64) (fun x => !inR x lo hi) blk off size w :=
  fun n os dk x _ => by
    have key : ∀ (B : Nat) (v : Value), B < w.heap.size → B ≠ blk → w.cell? ⟨B, 0, none⟩ = some v → (sortWorld (Value.int .i64) w blk off n dk os).cell? ⟨B, 0, none⟩ = some v := fun B v hB hne hc => by
      unfold sortWorld
      rw [cell?_grow _ _ _ (by show B < (putRow _ _ _ _ _).heap.size; rw [size_putRow]; exact hB), cell?_putRow_other _ _ blk off _ _ (Or.inl hne)]
      exact hc
    exact closS_gives lo hi x B1 B2 _ (key B1 _ l1 n1 h1) (key B2 _ l2 n2 h2)
theorem deleteS_any (xs : List Int) (lo hi : Int) (B g cap n B1 B2 : Nat) (w : World) (h : OwnsI w B (.slice (some ⟨g, 0, none⟩) n cap) xs) (hn : n = xs.length) (hl : xs.length ≤ 1000000000)
    (l1 : B1 < w.heap.size) (l2 : B2 < w.heap.size) (n1 : B1 ≠ g) (n2 : B2 ≠ g) (h1 : w.cell? ⟨B1, 0, none⟩ = some (.int .i64 lo)) (h2 : w.cell? ⟨B2, 0, none⟩ = some (.int .i64 hi)) :
    Calls Try.prog 34 #[.slice (some ⟨g, 0, none⟩) n cap, .func (.func 36) #[] #[.pointer (some ⟨B1, 0, none⟩), .pointer (some ⟨B2, 0, none⟩)]] w fun e w' =>
      e = .returned (.slice (some ⟨g, 0, none⟩) (xs.filter fun x => inR x lo hi).length cap) ∧ OwnsI w' B (.slice (some ⟨g, 0, none⟩) (xs.filter fun x => inR x lo hi).length cap) (xs.filter fun x => inR x lo hi) ∧ w.grownBy w' (some g) := by
  subst hn
  rcases h.2 with ⟨h0, _⟩ | ⟨g', cap', cur, h0, k2, k3, k4, k5, k6, k7⟩
  · cases h0
  · cases h0
    have hh : Holds (Value.int .i64) w g 0 xs.toArray := holds_of_blockI k3 (by simpa using k7)
    have eg : ∀ args w, (callFunc 36 args).run Try.prog w = .ok (.enter 36 args) w := enters_of Try.func36 (by kernel_rfl) rfl
    have zr : ∀ w, (zeroValue 2).run Try.prog w = .ok (.int .i64 0) w := fun w => by kernel_rfl
    have hcon := Try.slices_DeleteFunc (Value.int .i64) (fun _ => rfl) (fun x => !inR x lo hi) 36 #[.pointer (some ⟨B1, 0, none⟩), .pointer (some ⟨B2, 0, none⟩)] eg 0 zr g 0 cap xs.toArray w
      (closS_pred lo hi B1 B2 w l1 l2 h1 h2) (closS_over lo hi B1 B2 g 0 _ w l1 l2 n1 n2 h1 h2) hh (by simp; omega) (by simpa using k4)
    simp only [Bool.not_not, List.size_toArray] at hcon
    refine hcon.mono ?_
    rintro e w' ⟨rfl, q, rfl⟩
    have hfl := List.length_filter_le (fun x => inR x lo hi) xs
    have hlen : ((xs.filter fun x => inR x lo hi) ++ List.replicate (xs.length - (xs.filter fun x => inR x lo hi).length) 0).length = xs.length := by simp; omega
    refine ⟨rfl, ?_, ?_⟩
    · have := ownsRow_sortedI (os := #[]) (n := q) (ss := xs) (ts := (xs.filter fun x => inR x lo hi) ++ List.replicate (xs.length - (xs.filter fun x => inR x lo hi).length) 0) hlen k2 k3 k4 k5 (by simpa using k6)
      rw [grow_empty] at this
      refine OwnsI.cutR (n := xs.length) (ys := List.replicate (xs.length - (xs.filter fun x => inR x lo hi).length) 0) ?_
      unfold OwnsI
      rw [hlen]
      exact this
    · have := grownBy_sortedI (w := w) (g := g) (n := q) (os := #[]) ((xs.filter fun x => inR x lo hi) ++ List.replicate (xs.length - (xs.filter fun x => inR x lo hi).length) 0).toArray
      rw [grow_empty] at this
      exact this
set_option maxHeartbeats 2000000 in
theorem splitsOf_any (n low high : Int) (c T : Nat) (w : World) (hn : 1 ≤ n ∧ n ≤ 1000000000) (hc : c ≤ 3) (hT : 1 ≤ T ∧ T ≤ 1000) :
    Calls Try.prog 21 #[.int .i64 n, .int .i64 low, .int .i64 high, .int .i64 ((c + 1 : Nat) : Int), .int .i64 (T : Int)] w (SplsPost w (spl T n low high (c + 1))) := by
  have hp := divsL_some hn.1
  have hlen := divsL_len hn
  have HD := hide (divisorsOfF_any n)
  have HR := hide (divsF_rise hn (fun x => inR x low high))
  have HF := hide (spl_filter T n low high (c + 1))
  obtain ⟨L, hL⟩ : ∃ L, L = divsL n := ⟨_, rfl⟩
  rw [← hL] at hp hlen HD HR HF
  clear hL
  obtain ⟨m, hm2⟩ : ∃ m, m = L.length := ⟨_, rfl⟩
  have HM := hide hm2
  rw [← hm2] at hp hlen HD
  obtain ⟨F, hFe⟩ : ∃ F, F = L.filter fun x => inR x low high := ⟨_, rfl⟩
  have hFl : F.length ≤ 100000 := by
    have h2 := List.length_filter_le (fun x => inR x low high) L
    rw [hFe]; omega
  have HFE := hide hFe
  rw [← hFe] at HR HF
  obtain ⟨cc, hcc⟩ : ∃ cc, cc = c + 1 := ⟨_, rfl⟩
  rw [← hcc] at HF ⊢
  have HCALL := hide (fun (W : World) (b g B cap : Nat) (hst : FindSt W b g B F cap high T (.slice none 0 0) [] []) => show Calls Try.prog 37 #[.pointer (some ⟨b, 0, none⟩), .slice none 0 0, .int .i64 n, .int .i64 low, .int .i64 (cc : Int)] W fun e w' => e = .returned (.tuple #[]) ∧ SplPost W b g B F cap high T (.slice none 0 0) [] 0 (.slice none 0 0) [] (spl T n low high cc) w' from by
    have h := splitC_any c (by omega) n low [] (.slice none 0 0) 0 b g B F cap high T (.slice none 0 0) [] [] W hT.2 (by simp; omega) (by simp; omega) hn HR.out (by omega) hst OwnsI.none_ (Nat.zero_le _) (fun k hk => by cases hk)
    rw [← hcc, HF.out] at h
    exact h)
  obtain ⟨rows, hrows⟩ : ∃ rows, rows = spl T n low high cc := ⟨_, rfl⟩
  rw [← hrows] at HCALL ⊢
  clear hm2 hcc hrows HF hFe
  go_enter Try.func21, Try.ntmps21
  go_wp2_with fail
  refine (HD.out _ hn).mono ?_
  rintro e w1 ⟨ao, cap, rfl, hown, hb⟩
  obtain ⟨g, rfl⟩ : ∃ g, ao = some ⟨g, 0, none⟩ := by
    rcases hown.form with ⟨hx, h0⟩ | ⟨g', cap', hx, _⟩
    · rw [h0] at HM; have := HM.out; simp at this; omega
    · cases hx; exact ⟨g', rfl⟩
  have hg := (hown.lt g (by simp [Value.ownBlock])).1
  simp at hg
  have c1 : w1.cell? ⟨w.heap.size, 0, none⟩ = some (.int .i64 low) := by rw [hb.cell (by simp; omega)]; simp [go_sem, World.cell?_alloc_past]
  have c2 : w1.cell? ⟨w.heap.size + 1, 0, none⟩ = some (.int .i64 high) := by rw [hb.cell (by simp)]; simp [go_sem, World.cell?_alloc_past]
  have hsz : w.heap.size + 1 < w1.heap.size := by have := hb.size; simp at this; omega
  have HDEL := hide (deleteS_any L low high _ g cap m w.heap.size (w.heap.size + 1) w1 hown HM.out (by have := HM.out; omega) (by omega) hsz (by omega) (by omega) c1 c2)
  rw [← HFE.out] at HDEL
  have B1 := hide (bstep (balloc (balloc (Below.refl w.heap.size w) _) _) hb)
  have C1 := hide c1
  have C2 := hide c2
  clear hown hb c1 c2
  go_wp2_with fail
  refine HDEL.out.mono ?_
  rintro e w2 ⟨rfl, o2, g2⟩
  have c1 : w2.cell? ⟨w.heap.size, 0, none⟩ = some (.int .i64 low) := (World.cell?_of_block (a := ⟨w.heap.size, 0, none⟩) (g2.block w.heap.size (by omega) (by simp; omega))).trans C1.out
  have c2 : w2.cell? ⟨w.heap.size + 1, 0, none⟩ = some (.int .i64 high) := (World.cell?_of_block (a := ⟨w.heap.size + 1, 0, none⟩) (g2.block (w.heap.size + 1) (by omega) (by simp; omega))).trans C2.out
  have hsz2 : w.heap.size + 1 < w2.heap.size := Nat.lt_of_lt_of_le hsz g2.size
  have hgl : g < w2.heap.size := (o2.lt g (by simp [Value.ownBlock])).2
  have HB2 := hide (B1.out.grown g2 B1.out.size (fun k hk => by cases hk; omega))
  have HST := hide (findSt_new (w := w2) (gd := g) (D := F) (dcap := cap) (high := high) (most := T) 53 (fun j hj => o2.cell rfl j hj) hgl)
  obtain ⟨fl, hfl⟩ : ∃ fl, fl = F.length := ⟨_, rfl⟩
  rw [← hfl] at HST ⊢
  have HB := hide (balloc HB2.out (.cells #[.slice (some ⟨g, 0, none⟩) fl cap, .int .i64 high, .int .i64 (T : Int), .slice none 0 0] 53))
  have c1' : (w2.alloc (.cells #[.slice (some ⟨g, 0, none⟩) fl cap, .int .i64 high, .int .i64 (T : Int), .slice none 0 0] 53)).cell? ⟨w.heap.size, 0, none⟩ = some (.int .i64 low) := ((balloc (Below.refl w2.heap.size w2) _).cell (p := ⟨w.heap.size, 0, none⟩) (by show w.heap.size < w2.heap.size; omega)).trans c1
  clear o2 g2 hg hgl hfl HDEL
  go_wp2_with fail
  refine (HCALL.out _ _ _ _ _ HST.out).mono ?_
  rintro e w3 ⟨rfl, v3, es3, f1, f2, f3⟩
  have HO3 := hide f1.2.2.1
  have HB3 := hide (below_fr HB.out f2 (Nat.le_refl _) (show w.heap.size ≤ w2.heap.size by omega) (fun k hk => by cases hk) (fun k hk => by cases hk))
  have k3 := f1.1.2.2.2.1
  obtain ⟨ao3, cap3, rfl⟩ := f1.2.2.1.form
  clear f1 f2 f3 HST c1' c1 c2
  go_wp2_with fail
  go_ret
  exact ⟨ao3, cap3, es3, rfl, HO3.out.mono (by omega), HB3.out⟩
end Go.Proofs.Ythagogjklocmoaa
