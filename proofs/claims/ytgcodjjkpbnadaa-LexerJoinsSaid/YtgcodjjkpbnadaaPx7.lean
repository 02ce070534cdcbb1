-- PRINTED by print.py (a twelfth state) out of the translation. Not trusted: Lean checks it.
import Derived.Test.YtgcodjjkpbnadaaPx0
import Derived.Test.YtgcodjjkpbnadaaPx4
import Derived.Test.YtgcodjjkpbnadaaPx5
import Derived.Test.YtgcodjjkpbnadaaPx6
namespace Go.Proofs.Ytgcodjjkpbnadaa.P
open Go.RowKit Go.Proofs.YtgcodjjkpbnadaaW.PrintWords Go.Proofs.YtgcodjjkpbnadaaW.PrintLast Go.Proofs.YtgcodjjkpbnadaaW.PrintMore
attribute [local go_sem] max2_int min2_int max_two min_two max_three min_three max_four min_four   -- for this text's walks alone
set_option linter.unusedVariables false
set_option linter.unusedSimpArgs false

/-! ### lexer_lexer_next: function 13 -/
def lexer_lexer_run.l0 (g : Int → Bool) (s : ByteArray) : Nat → Int → Option Int
  | 0, _ => none
  | k + 1, x => if x < (s.size : Int) then (if 0 ≤ x then (if g (bt s x) = true then lexer_lexer_run.l0 g s k (wrap64 (x + 1)) else some x) else none) else some x
def lexer_lexer_run.f (k : Nat) (g : Int → Bool) (s : ByteArray) (x kind : Int) : Option (S29 × Int) :=
  (lexer_lexer_run.l0 g s k (wrap64 (x + 1))).bind fun y => if 0 ≤ x then (if x ≤ y then (if y ≤ (s.size : Int) then some (⟨kind, x, s.extract x.toNat y.toNat⟩, y) else none) else none) else none
theorem lexer_lexer_run.mono_l (g : Int → Bool) (s : ByteArray) : ∀ k x, LeO (lexer_lexer_run.l0 g s k x) (lexer_lexer_run.l0 g s (k + 1) x)
  | 0, _ => fun r h => by simp [lexer_lexer_run.l0] at h
  | k + 1, x => by
    have ih := lexer_lexer_run.mono_l g s k
    unfold lexer_lexer_run.l0
    repeat' first
      | exact ih _
      | exact LeO.refl _
      | exact LeO.none _
      | refine LeO.ite ?_ ?_
theorem lexer_lexer_run.mono (g : Int → Bool) (s : ByteArray) (x kind : Int) (k : Nat) : LeO (lexer_lexer_run.f k g s x kind) (lexer_lexer_run.f (k + 1) g s x kind) := by
  unfold lexer_lexer_run.f
  exact LeO.bind (lexer_lexer_run.mono_l g s k _) (fun _ => LeO.refl _)
theorem run_parts {x y kind r2 : Int} {s : ByteArray} {r1 : S29} (h : (if 0 ≤ x then (if x ≤ y then (if y ≤ (s.size : Int) then some ((⟨kind, x, s.extract x.toNat y.toNat⟩ : S29), y) else none) else none) else none) = some (r1, r2)) : 0 ≤ x ∧ x ≤ y ∧ y ≤ (s.size : Int) ∧ (⟨kind, x, s.extract x.toNat y.toNat⟩ : S29) = r1 ∧ y = r2 := by
  by_cases a : 0 ≤ x
  · by_cases b : x ≤ y
    · by_cases c : y ≤ (s.size : Int)
      · rw [if_pos a, if_pos b, if_pos c] at h
        simp only [Option.some.injEq, Prod.mk.injEq] at h
        exact ⟨a, b, c, h.1, h.2⟩
      · rw [if_pos a, if_pos b, if_neg c] at h
        cases h
    · rw [if_pos a, if_neg b] at h
      cases h
  · rw [if_neg a] at h
    cases h
def letterB (c : Int) : Bool := if c ≥ 97 then (if c ≤ 122 then true else false) else (if c ≥ 65 then decide (c ≤ 90) else false)
def digitB (c : Int) : Bool := if c ≥ 48 then decide (c ≤ 57) else false
def inWordB (c : Int) : Bool := if letterB c = true then true else if digitB c = true then true else (c == 45)
def inNumberB (c : Int) : Bool := if digitB c = true then true else if c = 46 then true else if c = 45 then true else if c = 47 then true else (c == 37)
def noneB (_ : Int) : Bool := false
theorem letterB_some (c : Int) : lexer_letter.f c = some (letterB c) := by
  unfold lexer_letter.f letterB
  by_cases h1 : c ≥ 97
  · rw [if_pos h1, if_pos h1]
    by_cases h2 : c ≤ 122
    · rw [if_pos h2, if_pos h2]
    · rw [if_neg h2, if_neg h2, if_pos (by omega), decide_eq_false (by omega)]
  · rw [if_neg h1, if_neg h1]
    by_cases h3 : c ≥ 65
    · rw [if_pos h3, if_pos h3]
    · rw [if_neg h3, if_neg h3]
theorem digitB_some (c : Int) : lexer_digit.f c = some (digitB c) := by
  unfold lexer_digit.f digitB
  by_cases h1 : c ≥ 48
  · rw [if_pos h1, if_pos h1]
  · rw [if_neg h1, if_neg h1]
theorem inWordB_some (c : Int) : lexer_inWord.f c = some (inWordB c) := by
  unfold lexer_inWord.f inWordB
  rw [letterB_some, digitB_some]
  cases letterB c <;> cases digitB c <;> simp
theorem inNumberB_some (c : Int) : lexer_inNumber.f c = some (inNumberB c) := by
  unfold lexer_inNumber.f inNumberB
  rw [digitB_some]
  cases digitB c <;> by_cases h1 : c = 46 <;> by_cases h2 : c = 45 <;> by_cases h3 : c = 47 <;> simp_all
theorem noneB_some (c : Int) : lexer_lexer_next_1.f c = some (noneB c) := by
  unfold lexer_lexer_next_1.f noneB
  rfl
theorem letterB_q (c : Int) (W : World) : Calls Try.prog 19 #[.int .u8 c] W fun e w' => e = .returned (.bool (letterB c)) ∧ Drawn0 W w' := lexer_letter.calls c _ _ (letterB_some c)
theorem digitB_q (c : Int) (W : World) : Calls Try.prog 22 #[.int .u8 c] W fun e w' => e = .returned (.bool (digitB c)) ∧ Drawn0 W w' := lexer_digit.calls c _ _ (digitB_some c)


end Go.Proofs.Ytgcodjjkpbnadaa.P
