/-
  RatioOfPath: the walk down the tree, in plain Lean.
-/
import Derived.Test.YtnlimfijepjliaaDoorRatio
import Derived.Lib.SlTrimSet
namespace Go.Proofs.YtnlimfijepjliaaDoor
open Go.RowKit

/-- The walk: low a / b, high c / d; none where a part grows beyond the limit. -/
def rp : List UInt8 → Int → Int → Int → Int → Option (Int × Int)
  | [], a, b, c, d => some (a + c, b + d)
  | x :: l, a, b, c, d =>
    if x = 76 then (if a + (a + c) > 1000000000 ∨ b + (b + d) > 1000000000 then none else rp l a b (a + c) (b + d))
    else (if a + c + c > 1000000000 ∨ b + d + d > 1000000000 then none else rp l (a + c) (b + d) c d)
def lrOk (l : List UInt8) : Bool := l.all fun x => x == 76 || x == 82
/-- RatioOfPath: the parts and the code. -/
def ropV (l : List UInt8) : Value :=
  if 200 < l.length then .tuple #[.agg #[.int .i64 0, .int .i64 0], .int .i64 5]
  else if lrOk l = true then (match rp l 0 1 1 0 with
    | some (p, q) => .tuple #[.agg #[.int .i64 p, .int .i64 q], .int .i64 0]
    | none => .tuple #[.agg #[.int .i64 0, .int .i64 0], .int .i64 2])
  else .tuple #[.agg #[.int .i64 0, .int .i64 0], .int .i64 7]
theorem dropWhile_mem {p : UInt8 → Bool} {x : UInt8} (hx : p x = false) : ∀ {l : List UInt8}, x ∈ l → x ∈ l.dropWhile p
  | [], h => by simp at h
  | y :: l, h => by
    rw [List.dropWhile_cons]
    cases hy : p y
    · simpa using h
    · simp only [if_true]
      rcases List.mem_cons.1 h with rfl | h
      · rw [hx] at hy; cases hy
      · exact dropWhile_mem hx h
theorem dropWhile_all {p : UInt8 → Bool} : ∀ {l : List UInt8}, (∀ x ∈ l, p x = true) → l.dropWhile p = []
  | [], _ => rfl
  | y :: l, h => by
    rw [List.dropWhile_cons, h y (by simp)]
    simp only [if_true]
    exact dropWhile_all fun x hx => h x (by simp [hx])
theorem has_lr (x : UInt8) : ([76, 82] : List UInt8).contains x = (x == 76 || x == 82) := by
  simp only [List.contains, List.elem]
  cases (x == 76) <;> cases (x == 82) <;> rfl
theorem trim_yes {l : List UInt8} (h : lrOk l = true) : Lib.trimS l [76, 82] = [] := by
  unfold lrOk at h
  have h2 : ∀ x ∈ l, ([76, 82] : List UInt8).contains x = true := fun x hx => by
    rw [has_lr]
    exact List.all_eq_true.1 h x hx
  unfold Lib.trimS Lib.trimRightS Lib.trimLeftS
  rw [dropWhile_all (p := fun x => ([76, 82] : List UInt8).contains x) (l := l.reverse) (fun x hx => h2 x (by simpa using hx))]
  rfl
theorem trim_no {l : List UInt8} (h : lrOk l = false) : Lib.trimS l [76, 82] ≠ [] := by
  unfold lrOk at h
  obtain ⟨x, hx, hp⟩ : ∃ x ∈ l, ([76, 82] : List UInt8).contains x = false := by
    have h3 : ¬ ∀ x ∈ l, (x == 76 || x == 82) = true := fun h4 => by
      rw [List.all_eq_true.2 h4] at h; cases h
    obtain ⟨x, hx⟩ := Classical.not_forall.1 h3
    obtain ⟨hm, hx⟩ := Classical.not_imp.1 hx
    exact ⟨x, hm, by rw [has_lr]; simpa using hx⟩
  unfold Lib.trimS Lib.trimRightS Lib.trimLeftS
  have h1 : x ∈ (l.reverse.dropWhile fun x => ([76, 82] : List UInt8).contains x) := dropWhile_mem (p := fun x => ([76, 82] : List UInt8).contains x) hp (by simpa using hx)
  have h2 := dropWhile_mem (p := fun x => ([76, 82] : List UInt8).contains x) (l := (l.reverse.dropWhile fun x => ([76, 82] : List UInt8).contains x).reverse) hp (by simpa using h1)
  exact List.ne_nil_of_mem h2
/-- The walk without the limit. -/
def ru : List UInt8 → Int → Int → Int → Int → Int × Int
  | [], a, b, c, d => (a + c, b + d)
  | x :: l, a, b, c, d => if x = 76 then ru l a b (a + c) (b + d) else ru l (a + c) (b + d) c d
theorem ru_ge : ∀ (l : List UInt8) (a b c d : Int), 0 ≤ a → 0 ≤ b → 0 ≤ c → 0 ≤ d → a + c ≤ (ru l a b c d).1 ∧ b + d ≤ (ru l a b c d).2
  | [], a, b, c, d, _, _, _, _ => ⟨Int.le_refl _, Int.le_refl _⟩
  | x :: l, a, b, c, d, ha, hb, hc, hd => by
    rw [ru]
    by_cases h : x = 76
    · rw [if_pos h]
      have := ru_ge l a b (a + c) (b + d) ha hb (by omega) (by omega)
      omega
    · rw [if_neg h]
      have := ru_ge l (a + c) (b + d) c d (by omega) (by omega) hc hd
      omega
theorem rp_ru : ∀ (l : List UInt8) (a b c d : Int), 0 ≤ a → 0 ≤ b → 0 ≤ c → 0 ≤ d → (ru l a b c d).1 ≤ 1000000000 → (ru l a b c d).2 ≤ 1000000000 → rp l a b c d = some (ru l a b c d)
  | [], a, b, c, d, _, _, _, _, _, _ => rfl
  | x :: l, a, b, c, d, ha, hb, hc, hd, h1, h2 => by
    rw [ru] at h1 h2 ⊢
    rw [rp]
    by_cases h : x = 76
    · rw [if_pos h] at h1 h2 ⊢
      have hg := ru_ge l a b (a + c) (b + d) ha hb (by omega) (by omega)
      rw [if_pos h, if_neg (by omega)]
      exact rp_ru l _ _ _ _ ha hb (by omega) (by omega) h1 h2
    · rw [if_neg h] at h1 h2 ⊢
      have hg := ru_ge l (a + c) (b + d) c d (by omega) (by omega) hc hd
      rw [if_neg h, if_neg (by omega)]
      exact rp_ru l _ _ _ _ (by omega) (by omega) hc hd h1 h2
theorem ru_R : ∀ (t : Nat) (l : List UInt8) (a b c d : Int), ru (List.replicate t 82 ++ l) a b c d = ru l (a + t * c) (b + t * d) c d
  | 0, l, a, b, c, d => by simp
  | t + 1, l, a, b, c, d => by
    rw [List.replicate_succ, List.cons_append, ru, if_neg (by decide), ru_R t l]
    congr 1 <;> rw [Int.natCast_succ, Int.add_mul] <;> omega
theorem ru_L : ∀ (t : Nat) (l : List UInt8) (a b c d : Int), ru (List.replicate t 76 ++ l) a b c d = ru l a b (c + t * a) (d + t * b)
  | 0, l, a, b, c, d => by simp
  | t + 1, l, a, b, c, d => by
    rw [List.replicate_succ, List.cons_append, ru, if_pos rfl, ru_L t l]
    congr 1 <;> rw [Int.natCast_succ, Int.add_mul] <;> omega
/-- L and R exchanged. -/
def flipL (l : List UInt8) : List UInt8 := l.map fun x => if x = 76 then 82 else 76
theorem ru_flip : ∀ (l : List UInt8) (a b c d : Int), (∀ x ∈ l, x = 76 ∨ x = 82) → ru (flipL l) a b c d = ((ru l d c b a).2, (ru l d c b a).1)
  | [], a, b, c, d, _ => by
    show (a + c, b + d) = (c + a, d + b)
    rw [Int.add_comm a, Int.add_comm b]
  | x :: l, a, b, c, d, h => by
    have ih := fun a b c d => ru_flip l a b c d (fun y hy => h y (by simp [hy]))
    show ru ((if x = 76 then 82 else 76) :: flipL l) a b c d = _
    rcases h x (by simp) with rfl | rfl
    · rw [if_pos rfl, ru, if_neg (by decide), ih, ru, if_pos rfl, Int.add_comm c a, Int.add_comm d b]
    · rw [if_neg (by decide), ru, if_pos rfl, ih, ru, if_neg (by decide), Int.add_comm c a, Int.add_comm d b]
end Go.Proofs.YtnlimfijepjliaaDoor
