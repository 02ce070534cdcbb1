/- The law TopExact: whatever the product, the amount and the days, the law answers true, and what it was handed reads as it did; the tables of the library that its road lists are tied to the program's text. -/
import Derived.Test.YtnnoplgabnfdiaaGreatDoorN27
import Derived.Test.YtnnoplgabnfdiaaGreatDoorCards
import Derived.Test.YtnnoplgabnfdiaaGreatDoorTie
import Derived.SevenTiedAt
/- The law TopExact. -/
namespace Go.Proofs.YtnnoplgabnfdiaaGreatDoor.Sh
open Go Go.RowKit Go.ChangeShapes Go.WideShapes Go.ChangeAt
set_option linter.unusedVariables false
set_option linter.unusedSimpArgs false
set_option maxRecDepth 100000
namespace topExact
theorem lifted (os : Os) (started : os.Started) (H : Type) (enc : TypeId × Value → H) :
    ReturnsInHanded {} Tryz.checked os 5 .any (fun w args => (Rows.topExactSpec.pre enc Tryz.prog Tryz.f5 Rows.topExactRow.domain false w args ∧ laidMetH Tryz.prog laidL w) ∧ sizedMet enc Tryz.prog Tryz.f5 (OpenSpec.ofChange Rows.topExactSpec) false w args) (Rows.topExactSpec.post enc Tryz.prog Tryz.f5 false true false false) := by
  refine ret_shaped (C := Tryz.checked) (X := fun w _ => laidMetH Tryz.prog laidL w) own started (by kernel_rfl) Tryz.func5
    (ChangeSpec.witness_at (enc := enc) (C := Tryz.checked) (os := os) (X := fun w _ => laidMetH Tryz.prog laidL w) false (laidWorld os) #[.agg #[.string ⟨#[]⟩, .int .i64 0, .int .i64 0, .int .i64 0, .int .i64 0, .int .i64 0, .int .i64 0, .int .i64 0, .slice none 0 0, .int .i64 0, .int .i64 0, .int .i64 0, .int .i64 0, .int .i64 0, .int .i64 0, .slice none 0 0, .int .i64 0, .int .i64 0, .slice none 0 0], .int .i64 0, .int .i64 0] 8 rfl (by kernel_rfl) (by kernel_rfl) (by kernel_rfl) (by kernel_rfl) (by kernel_rfl) (laidWorld_met os _)) ?_
  intro W base args ds gs before hsh hval0 hW
  have hval : ∀ (j : Nat) t v, Tryz.f5.params[j]? = some t → args[j]? = some v → Value.okWide Tryz.prog W .any base t v := hval0
  have hW' := hW
  obtain ⟨p, q, hA0, hV, rfl, hfz, hnd⟩ := hW
  have hA : DataW.TrodAll enc Tryz.prog W 0 (fun _ => true) true Tryz.f5.params.toList args.toList ds p := hA0
  rw [Tryz.params5] at hA hval
  have hlt := DataW.TrodAll.lt hA
  obtain ⟨v0, vs0, d0, ds0, p0, q0, hargs, rfl, rfl, h0, r0⟩ := trodAll_cons hA
  obtain ⟨v1, vs1, d1, ds1, p1, q1, rfl, rfl, rfl, h1, r1⟩ := trodAll_cons r0
  obtain ⟨v2, vs2, d2, ds2, p2, q2, rfl, rfl, rfl, h2, r2⟩ := trodAll_cons r1
  obtain ⟨rfl, rfl, rfl⟩ := trodAll_nil r2
  obtain rfl : args = #[v0, v1, v2] := by cases args; simp_all
  obtain ⟨rfl, rfl⟩ := trodVars_none hV
  obtain ⟨x0, k0, g0⟩ := prod_arg (hval 0 27 v0 rfl rfl) h0
  obtain ⟨x1, k1, g1⟩ := int_arg Tryz.underlying2 (hval 1 2 v1 rfl rfl) h1
  obtain ⟨x2, k2, g2⟩ := int_arg Tryz.underlying3 (hval 2 3 v2 rfl rfl) h2
  have hS : SCall Tryz.prog 5 [.agg x0.pa.cells, .int .i64 x1, .int .i64 x2] [] (Told (.bool true)) := top5 x0.pa x1 x2 (near6 x0 k0) awake9
  refine (law_call (args := #[v0, v1, v2]) Tryz.func5 (by kernel_rfl) (by rfl) hS (gl_of hsh) rfl (fun i hi => match i, hi with | 0, _ => g0 | 1, _ => g1 | 2, _ => g2)).mono fun e W' ⟨he, bel⟩ => ?_
  subst he
  exact ⟨_, rfl, _, _, _, [], _, [], hW', trodAll_mk1 (shut_bool Tryz.underlying4 _), (trodAll_cons_mk (Below.trod laidOut (by kernel_rfl) (of_decide_eq_true (by kernel_rfl)) h0 bel (fun x hx => hlt x (by simp [hx]))) (trodAll_cons_mk (Below.trod laidOut (by kernel_rfl) (of_decide_eq_true (by kernel_rfl)) h1 bel (fun x hx => hlt x (by simp [hx]))) (trodAll_mk1 (Below.trod laidOut (by kernel_rfl) (of_decide_eq_true (by kernel_rfl)) h2 bel (fun x hx => hlt x (by simp [hx])))))), rfl, bel.frame _, fun h => by cases h⟩
theorem facts : joinedFacts Tryz.prog 5 Tryz.f5 Rows.topExactSpec Rows.topExactRow = true := by kernel_rfl
theorem named : Tryz.prog.funcNamed Rows.topExactRow.func = some 5 := by kernel_rfl
theorem inst : Tryz.f5.isInstance Tryz.prog Rows.topExactRow.origin Rows.topExactRow.targs := of_decide_eq_true (by kernel_rfl)
theorem wrap : Tryz.f5.isWrapper Tryz.prog Rows.topExactRow.wrapper Rows.topExactRow.mainSum := by unfold Func.isWrapper; first | (rw [if_pos (by decide +kernel)]; kernel_rfl) | (rw [if_neg (by decide +kernel)]; exact ⟨rfl, rfl⟩)
theorem preEq (H : Type) (enc : TypeId × Value → H) : Rows.topExactRow.pre enc Tryz.pinned.checked.prog Tryz.f5 (OpenSpec.ofChange Rows.topExactSpec) = (fun w args => (Rows.topExactSpec.pre enc Tryz.prog Tryz.f5 Rows.topExactRow.domain false w args ∧ laidMetH Tryz.prog laidL w) ∧ sizedMet enc Tryz.prog Tryz.f5 (OpenSpec.ofChange Rows.topExactSpec) false w args) := rfl
theorem over : Rows.topExactRow.holds Tryz.pinned (OpenSpec.ofChange Rows.topExactSpec) := by
  refine OpenClaim.holds_of_wide (p := Tryz.pinned) (s := Rows.topExactSpec) (c := Rows.topExactRow) 5 Tryz.f5 rfl rfl rfl rfl rfl rfl rfl ⟨rfl, rfl, rfl, rfl, rfl⟩ rfl rfl rfl rfl rfl named Tryz.func5 facts inst wrap (fun os started H enc _ => ?_)
  rw [preEq]
  exact lifted os started H enc
end topExact
end Go.Proofs.YtnnoplgabnfdiaaGreatDoor.Sh
/- The law TopExact: whatever the product, the amount and the days, the law answers true, and what it was handed reads as it did; the tables of the library that its road lists are tied to the program's text. -/
namespace Go.Proofs.YtnnoplgabnfdiaaGreatDoor
open Go
set_option linter.unusedVariables false
/-- The row. -/
theorem topExact_holds : Rows.TopExactSaid := Sh.topExact.over
/-- The card: the row, and its tie. -/
theorem topExactCard_holds : Rows.TopExactCardSaid :=
  Claim7.holds_tied_plain_at .later [] [.data, .data, .data] true (true, "caeebf6526edc4ae4ac629fabc697ad0e486d4d5cf093f78a72a4a78a99ca1c7") true
    topExact_holds (fun _ h => by cases h) (by kernel_rfl) (fun _ h => by cases h) topExact_row_tie rfl ⟨rfl, rfl⟩ (by kernel_rfl) rfl
    (fun f fn hf hfn => by
      obtain rfl : f = 5 := Option.some.inj ((show Tryz.prog.funcNamed "quittance/quittancetop.TopExact" = some 5 by kernel_rfl).symm.trans hf) |>.symm
      obtain rfl : fn = Tryz.f5 := (Option.some.inj (Tryz.func5.symm.trans hfn)).symm
      exact ⟨by kernel_rfl, fun j t ht => by
        rw [Tryz.params5] at ht
        have h3 : t = 27 ∨ t = 2 ∨ t = 3 := by
          match j with
          | 0 => exact .inl (by simpa using ht.symm)
          | 1 => exact .inr (.inl (by simpa using ht.symm))
          | 2 => exact .inr (.inr (by simpa using ht.symm))
          | j + 3 => simp at ht
        rcases h3 with rfl | rfl | rfl
        · exact (show Tryz.prog.wantsStandIn 27 = false by kernel_rfl)
        · exact (show Tryz.prog.wantsStandIn 2 = false by kernel_rfl)
        · exact (show Tryz.prog.wantsStandIn 3 = false by kernel_rfl)⟩)
    (by kernel_rfl)
#print axioms topExactCard_holds
end Go.Proofs.YtnnoplgabnfdiaaGreatDoor
