/- The law PostingSums. -/
import Derived.Test.YtepbibbeifbokaaShV
import Derived.Test.YtepbibbeifbokaaShN
namespace Go.Proofs.Ytepbibbeifbokaa.Sh
open Go Go.RowKit Go.ChangeShapes Go.WideShapes Go.ChangeAt
set_option linter.unusedVariables false
set_option linter.unusedSimpArgs false
set_option maxRecDepth 100000
namespace postingSums
theorem lifted (os : Os) (started : os.Started) (H : Type) (enc : TypeId × Value → H) :
    ReturnsInHanded {} Try.checked os 9 .any (Rows.postingSumsSpec.pre6 enc Try.prog Try.f9 Rows.postingSumsRow.domain false) (Rows.postingSumsSpec.post enc Try.prog Try.f9 false true false false) := by
  refine returnsInHanded_of_change (C := Try.checked) own started (by kernel_rfl) Try.func9
    (ChangeSpec.witness6 (enc := enc) (C := Try.checked) false ⟨#[], #[.slice none 0 0, .int .i64 0, .bool false], []⟩ 8 (by kernel_rfl) (by kernel_rfl) (by kernel_rfl) (by kernel_rfl)) ?_
  intro W base args ds gs before hval0 hW hcnd _
  have hval : ∀ (j : Nat) t v, Try.f9.params[j]? = some t → args[j]? = some v → Value.okWide Try.prog W .any base t v := hval0
  have hW' := hW
  obtain ⟨p, q, hA0, hV, rfl, hfz, hnd⟩ := hW
  have hA : DataW.TrodAll enc Try.prog W 0 (fun _ => true) true Try.f9.params.toList args.toList ds p := hA0
  rw [Try.params9] at hA hval
  have hlt := DataW.TrodAll.lt hA
  obtain ⟨v0, vs0, d0, ds0, p0, q0, hargs, rfl, rfl, h0, r0⟩ := trodAll_cons hA
  obtain ⟨v1, vs1, d1, ds1, p1, q1, rfl, rfl, rfl, h1, r1⟩ := trodAll_cons r0
  obtain ⟨v2, vs2, d2, ds2, p2, q2, rfl, rfl, rfl, h2, r2⟩ := trodAll_cons r1
  obtain ⟨rfl, rfl, rfl⟩ := trodAll_nil r2
  obtain rfl : args = #[v0, v1, v2] := by cases args; simp_all
  obtain ⟨rfl, rfl⟩ := trodVars_none hV
  obtain ⟨x0, k0, g0⟩ := posts_arg (hval 0 43 v0 rfl rfl) h0
  obtain ⟨x1, k1, g1⟩ := int_arg Try.underlying3 (hval 1 3 v1 rfl rfl) h1
  obtain ⟨x2, k2, g2⟩ := bool_arg Try.underlying4 (hval 2 4 v2 rfl rfl) h2
  have hS : SCall Try.prog 9 [postsAV x0, .int .i64 x1, .bool x2] [] (Told (.bool true)) := sums9 x0 x1 x2 k0
  refine (law_call hS rfl (fun i hi => match i, hi with | 0, _ => g0 | 1, _ => g1 | 2, _ => g2)).mono fun e W' ⟨he, bel⟩ => ?_
  subst he
  exact ⟨_, rfl, _, _, _, [], _, [], hW', trodAll_mk1 (shut_bool Try.underlying4 _), (trodAll_cons_mk (Below.trod laidOut (by kernel_rfl) (of_decide_eq_true (by kernel_rfl)) h0 bel (fun x hx => hlt x (by simp [hx]))) (trodAll_cons_mk (Below.trod laidOut (by kernel_rfl) (of_decide_eq_true (by kernel_rfl)) h1 bel (fun x hx => hlt x (by simp [hx]))) (trodAll_mk1 (Below.trod laidOut (by kernel_rfl) (of_decide_eq_true (by kernel_rfl)) h2 bel (fun x hx => hlt x (by simp [hx])))))), rfl, bel.frame _, fun h => by cases h⟩
theorem over : Rows.postingSumsRow.holds Try.pinned (OpenSpec.ofChange Rows.postingSumsSpec) :=
  OpenClaim.holds_of_wide 9 Try.f9 rfl rfl rfl rfl rfl rfl rfl ⟨rfl, rfl, rfl, rfl, rfl⟩ rfl rfl rfl rfl rfl (by kernel_rfl) Try.func9 (by kernel_rfl)
    (of_decide_eq_true (by kernel_rfl)) (by unfold Func.isWrapper; first | (rw [if_pos (by decide +kernel)]; kernel_rfl) | (rw [if_neg (by decide +kernel)]; exact ⟨rfl, rfl⟩))
    (fun os started H enc _ => lifted os started H enc)
end postingSums
end Go.Proofs.Ytepbibbeifbokaa.Sh
namespace Go.Proofs.Ytepbibbeifbokaa
/-- The row, under a short name, for the claim. -/
theorem postingSums_holds : Rows.PostingSumsSaid := Sh.postingSums.over
#print axioms postingSums_holds
end Go.Proofs.Ytepbibbeifbokaa
