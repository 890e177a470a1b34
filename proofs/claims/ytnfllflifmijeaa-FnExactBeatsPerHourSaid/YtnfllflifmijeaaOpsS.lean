/-
  Contracts of the reference's operations on two ratios.
-/
import Derived.Test.YtnfllflifmijeaaOps
namespace Go.Proofs.Ytnfllflifmijeaa
open Go.RowKit

theorem l02Mul_any (a b c d : Int) (w : World) (va : -1000000000 ≤ a ∧ a ≤ 1000000000) (vb : 1 ≤ b ∧ b ≤ 1000000000) (vc : -1000000000 ≤ c ∧ c ≤ 1000000000) (vd : 1 ≤ d ∧ d ≤ 1000000000) :
    Calls Try.prog 64 #[.agg #[.int .i64 a, .int .i64 b], .agg #[.int .i64 c, .int .i64 d]] w fun e w' => e = .returned (.tuple #[.agg #[.int .i64 (mkN (a * c) (b * d)), .int .i64 (mkD (a * c) (b * d))], .bool (mkOk (a * c) (b * d))]) ∧ Below w.heap.size w w' := by
  have m1 := mulB a c va vc
  have m3 := mulB b d (by omega) (by omega)
  have hne := (hide (mulNe b d (by omega) (by omega)))
  go_enter Try.func64, Try.ntmps64
  go_wp2_with fail
  refine (l02Make_any (a * c) (b * d) _ (by omega) (by omega) hne.out).mono ?_
  rintro e w1 ⟨rfl, hb1⟩
  have hz1 : w.heap.size + 2 < w1.heap.size := by have := hb1.size; simp at this; omega
  obtain ⟨hc1, hf1⟩ := bcell hb1
  go_wp2_with fail
  refine bodyPost_ret (v := .tuple #[.agg #[.int .i64 (mkN (a * c) (b * d)), .int .i64 (mkD (a * c) (b * d))], .bool (mkOk (a * c) (b * d))]) (by simp [results, Try.results64, go_sem, hc1, hz1]) rfl ⟨rfl, ?_⟩
  repeat (first | exact Below.refl _ _ | refine balloc ?_ _ | refine bset ?_ (by first | (simp; done) | (simp; omega)) _ | refine bstep ?_ hb1)
end Go.Proofs.Ytnfllflifmijeaa
