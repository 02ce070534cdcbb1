-- PRINTED by print.py (a twelfth state) out of the translation. Not trusted: Lean checks it.
import Derived.Test.YtgcodjjkpbnadaaPx0
import Derived.Test.YtgcodjjkpbnadaaPx3
import Derived.Test.YtgcodjjkpbnadaaPx7
import Derived.Test.YtgcodjjkpbnadaaPx11
import Derived.Test.YtgcodjjkpbnadaaPx12
import Derived.Test.YtgcodjjkpbnadaaPx13
namespace Go.Proofs.Ytgcodjjkpbnadaa.P
open Go.RowKit Go.Proofs.YtgcodjjkpbnadaaW.PrintWords Go.Proofs.YtgcodjjkpbnadaaW.PrintLast Go.Proofs.YtgcodjjkpbnadaaW.PrintMore
attribute [local go_sem] max2_int min2_int max_two min_two max_three min_three max_four min_four   -- for this text's walks alone
set_option linter.unusedVariables false
set_option linter.unusedSimpArgs false

theorem next_ok (k g : Nat) (s : ByteArray) (x y : Int) (t : S29) (w0 w : World) (hs : s.size ≤ 20000) (hI : IsS38 w0 w g s x) (hB : Below w0.heap.size w0 w) (h : lexer_lexer_next.f k s x = some (some t, y)) :
    Calls Try.prog 13 #[.pointer (some ⟨g, 0, none⟩)] w fun e w' => e = .returned (.agg #[.int .i64 t.f0, .int .i64 t.f1, .string t.f2]) ∧ IsS38 w0 w' g s y ∧ Below w0.heap.size w0 w' ∧ KeepBut w w' g none := by
  unfold lexer_lexer_next.f at h
  obtain ⟨⟨s', p⟩, hp, h⟩ := Option.bind_eq_some_iff.mp h
  obtain rfl := pass_text _ _ _ _ _ _ hp
  simp only at h
  have run_ : ∀ {g : Int → Bool} {q : Int}, ((lexer_lexer_run.f k g s' p q).bind fun q => some (some q.1, q.2)) = some (some t, y) → lexer_lexer_run.f k g s' p q = some (t, y) := by
    intro g q h
    obtain ⟨⟨a, b⟩, ha, hb⟩ := Option.bind_eq_some_iff.mp h
    simp only [Option.some.injEq, Prod.mk.injEq] at hb
    rw [ha, hb.1, hb.2]
  by_cases hpe : p = (s'.size : Int)
  · rw [if_pos hpe] at h
    simp only [Option.some.injEq, Prod.mk.injEq] at h
    obtain ⟨rfl, rfl⟩ := h
    exact next_end k g s' x p w0 w hs hI hB hp hpe
  rw [if_neg hpe] at h
  by_cases hp0 : ¬ 0 ≤ p
  · rw [if_neg hp0] at h
    cases h
  replace hp0 := Decidable.not_not.mp hp0
  rw [if_pos hp0] at h
  by_cases hp1 : ¬ p < (s'.size : Int)
  · rw [if_neg hp1] at h
    cases h
  replace hp1 := Decidable.not_not.mp hp1
  rw [if_pos hp1] at h
  by_cases hl : letterB (bt s' p) = true
  · rw [if_pos hl] at h
    exact next_letter k g s' x p w0 w hs hI hB hp hp0 hp1 hl t y (run_ h)
  rw [if_neg hl] at h
  replace hl := Bool.eq_false_iff.mpr hl
  by_cases hd : digitB (bt s' p) = true
  · rw [if_pos hd] at h
    exact next_digit k g s' x p w0 w hs hI hB hp hp0 hp1 hl hd t y (run_ h)
  rw [if_neg hd] at h
  replace hd := Bool.eq_false_iff.mpr hd
  by_cases hm : bt s' p = 45 ∧ p + 1 < (s'.size : Int) ∧ digitB (bt s' (p + 1)) = true
  · rw [if_pos hm] at h
    exact next_minus k g s' x p w0 w hs hI hB hp hp0 hp1 hl hd hm.1 hm.2.1 hm.2.2 t y (run_ h)
  rw [if_neg hm] at h
  by_cases hsg : bt s' p = 123 ∨ bt s' p = 125 ∨ bt s' p = 59
  · rw [if_pos hsg] at h
    rcases hsg with hc | hc | hc
    · exact next_sign_a k g s' x p w0 w hs hI hB hp hp0 hp1 hl hd hc t y (run_ h)
    · exact next_sign_b k g s' x p w0 w hs hI hB hp hp0 hp1 hl hd hc t y (run_ h)
    · exact next_sign_c k g s' x p w0 w hs hI hB hp hp0 hp1 hl hd hc t y (run_ h)
  rw [if_neg hsg] at h
  simp at h
theorem next_bad (k g : Nat) (s : ByteArray) (x y : Int) (w0 w : World) (hs : s.size ≤ 20000) (hI : IsS38 w0 w g s x) (hB : Below w0.heap.size w0 w) (h : lexer_lexer_next.f k s x = some (none, y)) :
    Calls Try.prog 13 #[.pointer (some ⟨g, 0, none⟩)] w fun e w' => e = .panicked [{ v := .iface 35 (.agg #[.int .i64 y, .int .i64 6]), recovered := false }] ∧ IsS38 w0 w' g s y ∧ Below w0.heap.size w0 w' ∧ KeepBut w w' g none := by
  unfold lexer_lexer_next.f at h
  obtain ⟨⟨s', p⟩, hp, h⟩ := Option.bind_eq_some_iff.mp h
  obtain rfl := pass_text _ _ _ _ _ _ hp
  simp only at h
  have run_ : ∀ {g : Int → Bool} {q : Int}, ¬ ((lexer_lexer_run.f k g s' p q).bind fun q => some (some q.1, q.2)) = some (none, y) := by
    intro g q h
    obtain ⟨⟨a, b⟩, ha, hb⟩ := Option.bind_eq_some_iff.mp h
    simp at hb
  by_cases hpe : p = (s'.size : Int)
  · rw [if_pos hpe] at h
    simp at h
  rw [if_neg hpe] at h
  by_cases hp0 : ¬ 0 ≤ p
  · rw [if_neg hp0] at h
    cases h
  replace hp0 := Decidable.not_not.mp hp0
  rw [if_pos hp0] at h
  by_cases hp1 : ¬ p < (s'.size : Int)
  · rw [if_neg hp1] at h
    cases h
  replace hp1 := Decidable.not_not.mp hp1
  rw [if_pos hp1] at h
  by_cases hl : letterB (bt s' p) = true
  · rw [if_pos hl] at h
    exact absurd h run_
  rw [if_neg hl] at h
  replace hl := Bool.eq_false_iff.mpr hl
  by_cases hd : digitB (bt s' p) = true
  · rw [if_pos hd] at h
    exact absurd h run_
  rw [if_neg hd] at h
  replace hd := Bool.eq_false_iff.mpr hd
  by_cases hm : bt s' p = 45 ∧ p + 1 < (s'.size : Int) ∧ digitB (bt s' (p + 1)) = true
  · rw [if_pos hm] at h
    exact absurd h run_
  rw [if_neg hm] at h
  by_cases hsg : bt s' p = 123 ∨ bt s' p = 125 ∨ bt s' p = 59
  · rw [if_pos hsg] at h
    exact absurd h run_
  rw [if_neg hsg] at h
  simp only [Option.some.injEq, Prod.mk.injEq, true_and] at h
  subst h
  have n1 : bt s' p ≠ 123 := fun e => hsg (.inl e)
  have n2 : bt s' p ≠ 125 := fun e => hsg (.inr (.inl e))
  have n3 : bt s' p ≠ 59 := fun e => hsg (.inr (.inr e))
  by_cases hc : bt s' p = 45
  · by_cases h1 : p + 1 < (s'.size : Int)
    · exact next_bad_c k g s' x p w0 w hs hI hB hp hp0 hp1 hl hd hc h1 (Bool.eq_false_iff.mpr fun e => hm ⟨hc, h1, e⟩) n1 n2 n3
    · exact next_bad_b k g s' x p w0 w hs hI hB hp hp0 hp1 hl hd hc h1 n1 n2 n3
  · exact next_bad_a k g s' x p w0 w hs hI hB hp hp0 hp1 hl hd hc n1 n2 n3


end Go.Proofs.Ytgcodjjkpbnadaa.P
