/- The law BucketsSum. -/
import Derived.Test.YtepbibbeifbokaaShL
namespace Go.Proofs.Ytepbibbeifbokaa.Sh
open Go Go.RowKit Go.ChangeShapes Go.WideShapes Go.ChangeAt
set_option linter.unusedVariables false
set_option linter.unusedSimpArgs false
set_option maxRecDepth 100000
theorem own : ownKnob Try.prog.godebug = none := by kernel_rfl
theorem laidOut : laidOutB Try.prog = true := by kernel_rfl
/-- A law, called with what reads as it should, is true and leaves all old memory. -/
theorem law_call {f : FuncId} {vs : List AV} (H : SCall Try.prog f vs [] (Told (.bool true))) {W : World} {args : Array Value} (hl : vs.length = args.size) (hv : ∀ i, i < vs.length → VR W (fun b => b < W.heap.size) (fun _ => none) (nth .top vs i) (args.getD i undef)) :
    Calls Try.prog f args W fun e W' => e = .returned (.bool true) ∧ Below W.heap.size W W' := by
  have H0 : HR W.heap.size W W (fun b => b < W.heap.size) (fun _ => none) [] := ⟨Below.refl _ _, Nat.le_refl _, fun _ h => h, fun _ _ => rfl, fun o ho => absurd ho (by simp), fun o b ho => absurd ho (by simp), fun o _ b ho => absurd ho (by simp)⟩
  refine (H.2 _ _ _ _ _ args H0 hl hv).mono fun e w' ⟨r, c, h', Fz', g', h1, h2, h3, h4, h5⟩ => ?_
  have hr := h2.2 _ _ _ _ (freezeR_vr (g' := g') (F2 := fun _ => True) h4 (fun _ _ => trivial) (fun _ _ _ _ => trivial) h2.1 h3)
  rw [inv_bool hr] at h1
  exact ⟨h1, h4.below⟩
namespace bucketsSum
theorem lifted (os : Os) (started : os.Started) (H : Type) (enc : TypeId × Value → H) :
    ReturnsInHanded {} Try.checked os 5 .any (Rows.bucketsSumSpec.pre6 enc Try.prog Try.f5 Rows.bucketsSumRow.domain false) (Rows.bucketsSumSpec.post enc Try.prog Try.f5 false true false false) := by
  refine returnsInHanded_of_change (C := Try.checked) own started (by kernel_rfl) Try.func5
    (ChangeSpec.witness6 (enc := enc) (C := Try.checked) false ⟨#[], #[.agg #[.int .i64 0, .int .i64 0, .slice none 0 0, .int .i64 0, .int .i64 0, .int .i64 0, .int .i64 0, .int .i64 0, .int .i64 0, .int .i64 0]], []⟩ 8 (by kernel_rfl) (by kernel_rfl) (by kernel_rfl) (by kernel_rfl)) ?_
  intro W base args ds gs before hval0 hW hcnd _
  have hval : ∀ (j : Nat) t v, Try.f5.params[j]? = some t → args[j]? = some v → Value.okWide Try.prog W .any base t v := hval0
  have hW' := hW
  obtain ⟨p, q, hA0, hV, rfl, hfz, hnd⟩ := hW
  have hA : DataW.TrodAll enc Try.prog W 0 (fun _ => true) true Try.f5.params.toList args.toList ds p := hA0
  rw [Try.params5] at hA hval
  have hlt := DataW.TrodAll.lt hA
  obtain ⟨v0, vs0, d0, ds0, p0, q0, hargs, rfl, rfl, h0, r0⟩ := trodAll_cons hA
  obtain ⟨rfl, rfl, rfl⟩ := trodAll_nil r0
  obtain rfl : args = #[v0] := by cases args; simp_all
  obtain ⟨rfl, rfl⟩ := trodVars_none hV
  obtain ⟨cs, rfl, _⟩ := okWide_struct Try.underlying24 (hval 0 24 v0 rfl rfl)
  have h0' := h0
  obtain ⟨fuel, hd⟩ := h0
  obtain ⟨m, hlen, hm⟩ := money_read hd
  have hS : SCall Try.prog 5 [moneyAV m] [] (Told (.bool true)) := sum5 [moneyAV m] _ _ rfl (isDues_m hlen)
  refine (law_call hS rfl (fun i hi => match i, hi with | 0, _ => hm)).mono fun e W' ⟨he, bel⟩ => ?_
  subst he
  exact ⟨_, rfl, _, _, _, [], _, [], hW', trodAll_mk1 (shut_bool Try.underlying4 _), trodAll_mk1 (Below.trod laidOut (by kernel_rfl) (of_decide_eq_true (by kernel_rfl)) h0' bel (fun x hx => hlt x (by simp [hx]))), rfl, bel.frame _, fun h => by cases h⟩
theorem over : Rows.bucketsSumRow.holds Try.pinned (OpenSpec.ofChange Rows.bucketsSumSpec) :=
  OpenClaim.holds_of_wide 5 Try.f5 rfl rfl rfl rfl rfl rfl rfl ⟨rfl, rfl, rfl, rfl, rfl⟩ rfl rfl rfl rfl rfl (by kernel_rfl) Try.func5 (by kernel_rfl)
    (of_decide_eq_true (by kernel_rfl)) (by unfold Func.isWrapper; first | (rw [if_pos (by decide +kernel)]; kernel_rfl) | (rw [if_neg (by decide +kernel)]; exact ⟨rfl, rfl⟩))
    (fun os started H enc _ => lifted os started H enc)
end bucketsSum
end Go.Proofs.Ytepbibbeifbokaa.Sh
namespace Go.Proofs.Ytepbibbeifbokaa
/-- The row, under a short name, for the claim. -/
theorem bucketsSum_holds : Rows.BucketsSumSaid := Sh.bucketsSum.over
#print axioms bucketsSum_holds
end Go.Proofs.Ytepbibbeifbokaa
