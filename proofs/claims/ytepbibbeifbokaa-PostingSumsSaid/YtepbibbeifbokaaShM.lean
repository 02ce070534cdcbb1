/- The shadow machine over this program: each kind of argument that a law is handed. -/
import Derived.Test.YtepbibbeifbokaaShL
namespace Go.Proofs.Ytepbibbeifbokaa.Sh
open Go Go.RowKit Go.ChangeShapes Go.WideShapes Go.ChangeAt
set_option linter.unusedVariables false
set_option linter.unusedSimpArgs false
set_option maxRecDepth 100000
theorem own : ownKnob Try.prog.godebug = none := by kernel_rfl
theorem laidOut : laidOutB Try.prog = true := by kernel_rfl
/-- A law, called with what reads as it should, is true and leaves all old memory. -/
theorem law_call {f : FuncId} {vs : List AV} (H : SCall Try.prog f vs [] (Told (.bool true))) {W : World} {args : Array Value} (hl : vs.length = args.size) (hv : ∀ i, i < vs.length → VR W (fun b => b < W.heap.size) (fun _ => none) (nth .top vs i) (args.getD i undef)) :
    Calls Try.prog f args W fun e W' => e = .returned (.bool true) ∧ Below W.heap.size W W' := by
  have H0 : HR W.heap.size W W (fun b => b < W.heap.size) (fun _ => none) [] := ⟨Below.refl _ _, Nat.le_refl _, fun _ h => h, fun _ _ => rfl, fun o ho => absurd ho (by simp), fun o b ho => absurd ho (by simp), fun o _ b ho => absurd ho (by simp)⟩
  refine (H.2 _ _ _ _ _ args H0 hl hv).mono fun e w' ⟨r, c, h', Fz', g', h1, h2, h3, h4, h5⟩ => ?_
  have hr := h2.2 _ _ _ _ (freezeR_vr (g' := g') (F2 := fun _ => True) h4 (fun _ _ => trivial) (fun _ _ _ _ => trivial) h2.1 h3)
  rw [inv_bool hr] at h1
  exact ⟨h1, h4.below⟩
section
variable {H : Type} {enc : TypeId × Value → H} {W : World} {base b0 : Nat} {spare : Nat → Bool} {held : Bool} {r : Reach} {v : Value} {d : DataW H} {p : List MemPlace}
abbrev Got (W : World) := VR W (fun b => b < W.heap.size) (fun _ => none)
theorem money_arg (hval : Value.okWide Try.prog W r b0 24 v) (h : DataW.Trod enc Try.prog W base spare held 24 v d p) : ∃ m : M, m.dues.length ≤ 9223372036854775807 ∧ Got W (moneyAV m) v := by
  obtain ⟨cs, rfl, _⟩ := okWide_struct Try.underlying24 hval
  obtain ⟨fuel, hd⟩ := h
  exact money_read hd
theorem int_arg {t : TypeId} {k : IntKind} (ht : Try.prog.underlying t = some (.int k)) (hval : Value.okWide Try.prog W r b0 t v) (h : DataW.Trod enc Try.prog W base spare held t v d p) : ∃ n : Int, (Lit.int k n).wf = true ∧ Got W (.int k n) v := by
  obtain ⟨n, rfl, _, _, hw⟩ := open_int ht hval h
  exact ⟨n, hw, .int _ _⟩
theorem bool_arg {t : TypeId} (ht : Try.prog.underlying t = some .bool) (hval : Value.okWide Try.prog W r b0 t v) (h : DataW.Trod enc Try.prog W base spare held t v d p) : ∃ b : Bool, True ∧ Got W (.bool b) v := by
  obtain ⟨b, rfl, _, _⟩ := open_bool ht hval h
  exact ⟨b, trivial, .bool _⟩
end
end Go.Proofs.Ytepbibbeifbokaa.Sh
