/-
  CodeName: contracts and the walk of its law.
-/
import Derived.Test.YtmkhkojefjdbbaaInts
namespace Go.Proofs.Ytmkhkojefjdbbaa
open Go.RowKit

def codeNames : List ByteArray := [⟨#[111, 107]⟩, ⟨#[105, 110, 118, 97, 108, 105, 100]⟩, ⟨#[114, 97, 110, 103, 101]⟩, ⟨#[110, 111, 116, 45, 102, 111, 117, 110, 100]⟩, ⟨#[101, 120, 105, 115, 116, 115]⟩, ⟨#[102, 117, 108, 108]⟩, ⟨#[115, 116, 97, 116, 101]⟩, ⟨#[115, 121, 110, 116, 97, 120]⟩, ⟨#[102, 111, 114, 109, 97, 116]⟩, ⟨#[108, 111, 111, 112]⟩, ⟨#[98, 114, 111, 107, 101, 110]⟩]
def codeName (c : Int) : ByteArray := if 0 ≤ c ∧ c ≤ 10 then codeNames.getD c.toNat ⟨#[]⟩ else ⟨#[]⟩
theorem codeName_out {c : Int} (h : ¬ (0 ≤ c ∧ c ≤ 10)) : codeName c = ⟨#[]⟩ := if_neg h
theorem code_cases (c : Int) : c < 0 ∨ 10 < c ∨ c = 0 ∨ c = 1 ∨ c = 2 ∨ c = 3 ∨ c = 4 ∨ c = 5 ∨ c = 6 ∨ c = 7 ∨ c = 8 ∨ c = 9 ∨ c = 10 := by omega
set_option maxHeartbeats 2000000 in
theorem implCodeName_any (c : Int) (w : World) :
    Calls Try.prog 19 #[.int .i64 c] w fun e w' => e = .returned (.string (codeName c)) ∧ Below w.heap.size w w' := by
  rcases code_cases c with h | h | h | h | h | h | h | h | h | h | h | h | h
  · go_enter Try.func19, Try.ntmps19
    go_wp2
    go_ret
    exact ⟨by rw [codeName_out (by omega)]; rfl, balloc (Below.refl _ _) _⟩
  · go_enter Try.func19, Try.ntmps19
    go_wp2
    go_ret
    exact ⟨by rw [codeName_out (by omega)]; rfl, balloc (Below.refl _ _) _⟩
  all_goals
    subst h
    go_enter Try.func19, Try.ntmps19
    go_wp2
    go_ret
    exact ⟨rfl, balloc (Below.refl _ _) _⟩
set_option maxHeartbeats 2000000 in
theorem specCodeName_any (c : Int) (w : World) :
    Calls Try.prog 18 #[.int .i64 c] w fun e w' => e = .returned (.string (codeName c)) ∧ Below w.heap.size w w' := by
  rcases code_cases c with h | h | h | h | h | h | h | h | h | h | h | h | h
  · have hi : inR c 0 10 = false := inR_no (by omega)
    go_enter Try.func18, Try.ntmps18
    go_wp2_with (go_at_call 46; refine (l00In_any _ _ _ _).mono ?_; rintro e w' ⟨rfl, rfl⟩)
    go_ret
    exact ⟨by rw [codeName_out (by omega)]; rfl, balloc (Below.refl _ _) _⟩
  · have hi : inR c 0 10 = false := inR_no (by omega)
    go_enter Try.func18, Try.ntmps18
    go_wp2_with (go_at_call 46; refine (l00In_any _ _ _ _).mono ?_; rintro e w' ⟨rfl, rfl⟩)
    go_ret
    exact ⟨by rw [codeName_out (by omega)]; rfl, balloc (Below.refl _ _) _⟩
  all_goals
    have hi : inR c 0 10 = true := inR_mk (by omega)
    subst h
    go_enter Try.func18, Try.ntmps18
    go_wp2_with (go_at_call 46; refine (l00In_any _ _ _ _).mono ?_; rintro e w' ⟨rfl, rfl⟩)
    go_ret
    exact ⟨rfl, balloc (Below.refl _ _) _⟩
theorem walk_FnExactCodeName (a0 : Int) (w : World) (_h0 : -9223372036854775808 ≤ a0 ∧ a0 ≤ 9223372036854775807) :
    Calls Try.prog 5 #[.int .i64 a0] w fun e w' => e = .returned (.bool true) ∧ Below w.heap.size w w' := by
  go_enter Try.func5, Try.ntmps5
  go_wp2_with (first | (go_at_call 18; refine (specCodeName_any _ _).mono ?_; rintro e w1 ⟨rfl, hb1⟩) | (go_at_call 19; refine (implCodeName_any _ _).mono ?_; rintro e w2 ⟨rfl, hb2⟩))
  go_ret
  exact ⟨rfl, bstep hb1 hb2⟩
end Go.Proofs.Ytmkhkojefjdbbaa
