/-
  A row's copy: the contract of l00Own.
-/
import Derived.Test.YthagogjklocmoaaTwoRows
import Derived.Test.YthagogjklocmoaaInRows
import Derived.Test.YthagogjklocmoaaCell
namespace Go.Proofs.Ythagogjklocmoaa
open Go.RowKit

/-- 'append(out, y)' at a step of a region that draws its order, onto a row of int64 that is owned at the step's own world. -/
theorem step_appendJ {ops : Array Oper} {o : Oper} {a : Act} {K : Act → World → Prop} {Q : Exit → Act → World → Prop} {E : Prop} {w : World} (hgd : o.guard = none) (s x : Operand)
    (ho : o.op = .call { callee := .builtin .append, args := #[s, x], argTypes := #[29, 29] })
    (base : Nat) (v : Value) (xs : List Int) (hs : a.eval s = v) (hown : OwnsI w base v xs) (y : Int) (c m : Nat) (hx : a.eval x = .slice (some ⟨m, 0, none⟩) 1 c)
    (h0 : w.cell? ⟨m, 0, none⟩ = some (.int .i64 y)) (hl : xs.length ≤ 1000000000) (hbase : base ≤ w.heap.size)
    (h : ∀ v' w', OwnsI w' base v' (xs ++ [y]) → w.grownBy w' v.ownBlock → K (a.put o.dst v') w') :
    if Region.wanted o (yielded ops a.tmps) = true then Oper.wp Try.prog o a w K Q else E := by
  have hw : Region.wanted o (yielded ops a.tmps) = true := by simp [Region.wanted, hgd]
  rw [if_pos hw]
  obtain ⟨v', w', hr, h2, h3, _, _⟩ := run_appendI w o.type base v xs hown ⟨m, 0, none⟩ 1 c [y] rfl (fun j hj => by
    have e : j = 0 := by omega
    subst e; simpa [Addr.add] using h0) (by omega) hbase
  unfold Oper.wp execOp
  simp only [ho, resolve, invoke, builtin, Sem.run_bind, Sem.run_pure, Result.andThen_ok, List.map_toArray, List.map_cons, List.map_nil, hs, hx, hr]
  exact h v' w' h2 h3
set_option maxHeartbeats 1000000 in
theorem l00Own_any (g : Nat) (xs : List Int) (cap : Nat) (w : World) (h : ∀ j, j < xs.length → w.cell? ⟨g, j, none⟩ = some (.int .i64 (xs.getD j 0))) (hn : xs.length ≤ 1000000000) :
    Calls Try.prog 44 #[.slice (some ⟨g, 0, none⟩) xs.length cap] w fun e w' => ∃ v, e = .returned v ∧ OwnsI w' w.heap.size v xs ∧ Below w.heap.size w w' := by
  obtain ⟨n, hn'⟩ : ∃ n, n = xs.length := ⟨_, rfl⟩
  rw [← hn'] at hn h ⊢
  have HN := hide hn'
  have H := hide h
  clear hn' h
  have HE := hide (OwnsI.made_ (w := w))
  go_enter Try.func44, Try.ntmps44
  go_wp2_with (at_builtin; refine wpList_appendR rfl (.tmp 3) (.tmp 4) rfl w.heap.size _ [] rfl HE.out ⟨g, 0, none⟩ n cap xs rfl HN.out.symm (fun j hj => ?_) (by simp; omega) (by simp) fun v' w' h1 h2 _ => ?_)
  · have h := H.out j hj
    rw [show (⟨g, 0, none⟩ : Addr).add j = ⟨g, j, none⟩ by simp [Addr.add]; omega]
    exact ((balloc (Below.refl w.heap.size w) _).cell (World.block_lt_of_cell? w _ h)).trans h
  · have HB := hide ((balloc (Below.refl w.heap.size w) (.cells #[] 2)).grown h2 (balloc (Below.refl w.heap.size w) (.cells #[] 2)).size (fun k hk => (HE.out.lt k hk).1))
    clear h2
    go_wp2
    go_ret
    exact ⟨v', rfl, h1, HB.out⟩
theorem l00Own_n (g : Nat) (xs : List Int) (n cap : Nat) (w : World) (hl : n = xs.length) (h : ∀ j, j < n → w.cell? ⟨g, j, none⟩ = some (.int .i64 (xs.getD j 0))) (hn : n ≤ 1000000000) :
    Calls Try.prog 44 #[.slice (some ⟨g, 0, none⟩) n cap] w fun e w' => ∃ v, e = .returned v ∧ OwnsI w' w.heap.size v xs ∧ Below w.heap.size w w' := by
  subst hl
  exact l00Own_any g xs cap w h hn
end Go.Proofs.Ythagogjklocmoaa
