/- For every text: the program's signs, place and error are the reference's. No condition beyond the statement's own. -/
import Derived.Test.YtgcodjjkpbnadaaLex
import Derived.Test.YtgcodjjkpbnadaaPx24
namespace Go.Proofs.Ytgcodjjkpbnadaa.Pure
open Go.RowKit Go.Proofs.Ytgcodjjkpbnadaa.P Go.Proofs.YtgcodjjkpbnadaaW.PrintWords Go.Proofs.YtgcodjjkpbnadaaW.PrintLast

theorem LexerTells : quittancelaw07_LexerTells.Pure := by
  intro s _
  refine ⟨200000, ?_⟩
  unfold quittancelaw07_LexerTells.f
  rw [awake_eq 200000 (by decide)]
  by_cases h : (s.size : Int) > 20005
  · rw [if_pos h]
    rfl
  rw [if_neg h]
  by_cases hs : s.size ≤ 20000
  · rw [All_eq s hs 200000 (by omega), AllR_eq s hs 200000 (by omega)]
    have hl := toks_len s s.size (skip s false 0) (by omega)
    unfold T
    cases (toksP s (skip s false 0)).2 with
    | none =>
      simp only [Option.bind_some, if_true, List.nil_append]
      rw [plain_refl _ (by omega) _ (by omega)]
      simp
    | some p =>
      simp only [Option.bind_some, if_true]
      rw [plain_refl [] (by simp) _ (by decide)]
      simp
  · rw [All_long s hs, AllR_long s hs]
    simp only [Option.bind_some, if_true]
    rw [plain_refl [] (by simp) _ (by decide)]
    simp
end Go.Proofs.Ytgcodjjkpbnadaa.Pure
