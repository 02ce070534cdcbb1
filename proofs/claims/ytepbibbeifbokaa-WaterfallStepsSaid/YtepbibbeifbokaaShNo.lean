/- The shadow machine over this program: an order that a law is handed. -/
import Derived.Test.YtepbibbeifbokaaShM
import Derived.Test.YtepbibbeifbokaaShWa
namespace Go.Proofs.Ytepbibbeifbokaa.Sh
open Go Go.RowKit Go.ChangeShapes Go.WideShapes Go.ChangeAt
set_option linter.unusedVariables false
set_option linter.unusedSimpArgs false
set_option maxRecDepth 100000
section
variable {H : Type} {enc : TypeId × Value → H} {W : World} {base b0 : Nat} {spare : Nat → Bool} {held : Bool} {r : Reach} {v : Value} {d : DataW H} {p : List MemPlace}
theorem order_read {fuel : Nat} {cs : List Value} {x : DataW H × List MemPlace} (h : DataW.trod enc Try.prog W base spare held fuel 25 cs = some x) : ∃ o : O, cs = [.int .i64 o.a, .int .i64 o.b, .int .i64 o.c, .int .i64 o.d] := by
  obtain ⟨xs, n, _, _, hl, hlen, hf⟩ := DataW.trod_array Try.underlying25 h
  rw [show Try.prog.cellsOf 25 = 4 by kernel_rfl] at hl
  rw [show Try.prog.cellsOf 3 = 1 by kernel_rfl] at hf
  obtain ⟨a, b, c, d, rfl⟩ := len4 hl
  obtain ⟨y0, g0⟩ := some_at hlen (show 0 < 4 by decide)
  obtain ⟨y1, g1⟩ := some_at hlen (show 1 < 4 by decide)
  obtain ⟨y2, g2⟩ := some_at hlen (show 2 < 4 by decide)
  obtain ⟨y3, g3⟩ := some_at hlen (show 3 < 4 by decide)
  obtain ⟨n0, q0⟩ := int_read Try.underlying3 ((hf 0 (by decide)).trans g0)
  obtain ⟨n1, q1⟩ := int_read Try.underlying3 ((hf 1 (by decide)).trans g1)
  obtain ⟨n2, q2⟩ := int_read Try.underlying3 ((hf 2 (by decide)).trans g2)
  obtain ⟨n3, q3⟩ := int_read Try.underlying3 ((hf 3 (by decide)).trans g3)
  simp at q0 q1 q2 q3
  exact ⟨⟨n0, n1, n2, n3⟩, by simp [q0, q1, q2, q3]⟩
theorem order_arg (hval : Value.okWide Try.prog W r b0 25 v) (h : DataW.Trod enc Try.prog W base spare held 25 v d p) : ∃ o : O, True ∧ Got W (orderAV o) v := by
  obtain ⟨cs, rfl, _⟩ : ∃ cs, v = .agg cs ∧ cs.size = Try.prog.cellsOf 25 := by
    simp only [Value.okWide, Try.underlying25] at hval
    obtain ⟨cs, h1, h2, _⟩ := hval
    exact ⟨cs, h1, h2⟩
  obtain ⟨fuel, hd⟩ := h
  obtain ⟨o, ho⟩ := order_read hd
  refine ⟨o, trivial, ?_⟩
  have hc : cs = #[.int .i64 o.a, .int .i64 o.b, .int .i64 o.c, .int .i64 o.d] := by
    have : cs.toList = [.int .i64 o.a, .int .i64 o.b, .int .i64 o.c, .int .i64 o.d] := ho
    rw [← Array.toList_inj]
    exact this
  subst hc
  refine .agg _ _ rfl fun i hi => ?_
  match i, hi with
  | 0, _ => exact .int _ _
  | 1, _ => exact .int _ _
  | 2, _ => exact .int _ _
  | 3, _ => exact .int _ _
end
end Go.Proofs.Ytepbibbeifbokaa.Sh
