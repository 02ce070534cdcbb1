/- The shadow machine over this program: what a law is handed. -/
import Derived.Test.YtepbibbeifbokaaShD
import Derived.Test.YtepbibbeifbokaaRows
import Derived.WalkKit
import Derived.ProofKit
import Derived.OpenShut
import Derived.ChangeOld
import Derived.Below
namespace Go.Proofs.Ytepbibbeifbokaa.Sh
open Go Go.RowKit Go.ChangeShapes Go.WideShapes Go.ChangeAt
set_option linter.unusedVariables false
set_option linter.unusedSimpArgs false
set_option maxRecDepth 100000
section
variable {H : Type} {enc : TypeId × Value → H} {W : World} {base : Nat} {spare : Nat → Bool} {held : Bool} {fuel : Nat} {cs : List Value} {x : DataW H × List MemPlace}
theorem int_read {t : TypeId} {k : IntKind} (ht : Try.prog.underlying t = some (.int k)) (h : DataW.trod enc Try.prog W base spare held fuel t cs = some x) : ∃ n, cs = [.int k n] := by
  obtain ⟨n, h1, _⟩ := DataW.trod_int ht h
  exact ⟨n, h1⟩
theorem len4 {cs : List Value} (h : cs.length = 4) : ∃ a b c d, cs = [a, b, c, d] := by
  match cs, h with
  | [a, b, c, d], _ => exact ⟨a, b, c, d, rfl⟩
theorem some_at {α : Type} {l : List α} {n i : Nat} (h : l.length = n) (hi : i < n) : ∃ y, l[i]? = some y := ⟨l[i]'(by omega), List.getElem?_eq_getElem (by omega)⟩
def dueVals (d : D) : List Value := [.int .i64 d.n, .int .i64 d.day, .int .i64 d.i, .int .i64 d.p]
theorem due_read (h : DataW.trod enc Try.prog W base spare held fuel 39 cs = some x) : ∃ d : D, cs = dueVals d := by
  obtain ⟨xs, n, _, _, hl, hlen, hf⟩ := DataW.trod_struct Try.underlying39 h
  rw [show Try.prog.cellsOf 39 = 4 by kernel_rfl] at hl
  have e3 : Try.prog.cellsOf 3 = 1 := by kernel_rfl
  have e2 : Try.prog.cellsOf 2 = 1 := by kernel_rfl
  obtain ⟨a, b, c, d, rfl⟩ := len4 hl
  obtain ⟨y0, g0⟩ := some_at hlen (show 0 < 4 by decide)
  obtain ⟨y1, g1⟩ := some_at hlen (show 1 < 4 by decide)
  obtain ⟨y2, g2⟩ := some_at hlen (show 2 < 4 by decide)
  obtain ⟨y3, g3⟩ := some_at hlen (show 3 < 4 by decide)
  have h0 := hf 0 _ rfl
  have h1 := hf 1 _ rfl
  have h2 := hf 2 _ rfl
  have h3 := hf 3 _ rfl
  rw [g0] at h0
  rw [g1] at h1
  rw [g2] at h2
  rw [g3] at h3
  obtain ⟨n0, q0⟩ := int_read Try.underlying3 h0
  obtain ⟨n1, q1⟩ := int_read Try.underlying3 h1
  obtain ⟨n2, q2⟩ := int_read Try.underlying2 h2
  obtain ⟨n3, q3⟩ := int_read Try.underlying2 h3
  simp [e3, e2] at q0 q1 q2 q3
  exact ⟨⟨n0, n1, n2, n3⟩, by simp [dueVals, q0, q1, q2, q3]⟩
theorem dues_read {v : Value} (h : DataW.trod enc Try.prog W base spare held fuel 22 [v] = some x) : ∃ xs : List D, xs.length ≤ 9223372036854775807 ∧ VR W (fun b => b < W.heap.size) (fun _ => none) (duesAV xs) v := by
  rcases DataW.trod_slice Try.underlying22 h with ⟨e, _⟩ | ⟨a, len, cap, elems, rest, n, _, e, _, hb, hlc, hcap, hel, hi, _⟩
  · simp only [List.cons.injEq, and_true] at e
    subst e
    exact ⟨[], by simp, .ro 4 0 none (dueRow []) _ (.ro 4 0 none (dueRow []) none 0 (fun _ _ => undef) (Nat.le_refl _) (fun n hn => by cases hn) (fun i hi => absurd hi (by simp)) (fun i hi => absurd hi (by simp)))⟩
  · simp only [List.cons.injEq, and_true] at e
    subst e
    rw [show Try.prog.cellsOf 39 = 4 by kernel_rfl] at hi
    have hd : ∀ i, i < len → ∃ d : D, W.cells? base (a.add (i * 4)) 4 = some (dueVals d) := fun i hlt => by
      obtain ⟨y, hy⟩ := some_at hel hlt
      have := hi i hlt
      rw [hy, Option.bind_eq_some_iff] at this
      obtain ⟨cs, h1, h2⟩ := this
      obtain ⟨d, rfl⟩ := due_read h2
      exact ⟨d, h1⟩
    have hch : ∃ f : Nat → D, ∀ i, i < len → W.cells? base (a.add (i * 4)) 4 = some (dueVals (f i)) := ⟨fun i => if h : i < len then (hd i h).choose else default, fun i hlt => by simp only [dif_pos hlt]; exact (hd i hlt).choose_spec⟩
    obtain ⟨f, hf⟩ := hch
    have hx : ∀ i, i < len → ix ((List.range len).map f) i = f i := fun i hlt => by simp [ix, List.getD_eq_getElem?_getD, hlt]
    refine ⟨(List.range len).map f, by simp; unfold maxLen at hcap; omega, ?_⟩
    unfold duesAV
    have hlx : ((List.range len).map f).length = len := by simp
    rw [hlx]
    refine .ro _ _ _ _ _ (RR.ro 4 len none (dueRow ((List.range len).map f)) (some a) cap (fun i j => (dueVals (f i)).getD j undef) hlc (fun n hn => nomatch hn) (fun i hlt j hj => ?_) (fun i hlt j hj => ?_))
    · have hlt' : i < len := by simpa using hlt
      obtain ⟨_, c1, c2⟩ := World.cells?_some (hf i hlt')
      have hblk := World.cells?_block (hf i hlt') (by decide)
      refine ⟨a, rfl, by rwa [add_block] at hblk, ?_⟩
      have := c2 j hj
      rw [Addr.add_add] at this
      rw [this]
      match j, hj with
      | 0, _ => rfl
      | 1, _ => rfl
      | 2, _ => rfl
      | 3, _ => rfl
    · have hlt' : i < len := by simpa using hlt
      simp only [dueRow, hx i hlt']
      match j, hj with
      | 0, _ => exact .int _ _
      | 1, _ => exact .int _ _
      | 2, _ => exact .int _ _
      | 3, _ => exact .int _ _
theorem len10 {cs : List Value} (h : cs.length = 10) : ∃ a b c d e f g i j k, cs = [a, b, c, d, e, f, g, i, j, k] := by
  match cs, h with
  | [a, b, c, d, e, f, g, i, j, k], _ => exact ⟨a, b, c, d, e, f, g, i, j, k, rfl⟩
theorem money_read (h : DataW.trod enc Try.prog W base spare held fuel 24 cs = some x) : ∃ m : M, m.dues.length ≤ 9223372036854775807 ∧ VR W (fun b => b < W.heap.size) (fun _ => none) (moneyAV m) (.agg cs.toArray) := by
  obtain ⟨xs, n, _, _, hl, hlen, hf⟩ := DataW.trod_struct Try.underlying24 h
  rw [show Try.prog.cellsOf 24 = 10 by kernel_rfl] at hl
  have e22 : Try.prog.cellsOf 22 = 1 := by kernel_rfl
  have e2 : Try.prog.cellsOf 2 = 1 := by kernel_rfl
  obtain ⟨c0, c1, c2, c3, c4, c5, c6, c7, c8, c9, rfl⟩ := len10 hl
  have at_ : ∀ i, i < 10 → ∃ y, xs[i]? = some y := fun i hi => some_at hlen hi
  obtain ⟨y0, g0⟩ := at_ 0 (by decide)
  obtain ⟨y1, g1⟩ := at_ 1 (by decide)
  obtain ⟨y2, g2⟩ := at_ 2 (by decide)
  obtain ⟨y3, g3⟩ := at_ 3 (by decide)
  obtain ⟨y4, g4⟩ := at_ 4 (by decide)
  obtain ⟨y5, g5⟩ := at_ 5 (by decide)
  obtain ⟨y6, g6⟩ := at_ 6 (by decide)
  obtain ⟨y7, g7⟩ := at_ 7 (by decide)
  obtain ⟨y8, g8⟩ := at_ 8 (by decide)
  obtain ⟨y9, g9⟩ := at_ 9 (by decide)
  obtain ⟨n0, q0⟩ := int_read Try.underlying2 ((hf 0 _ rfl).trans g0)
  obtain ⟨n1, q1⟩ := int_read Try.underlying2 ((hf 1 _ rfl).trans g1)
  obtain ⟨n3, q3⟩ := int_read Try.underlying2 ((hf 3 _ rfl).trans g3)
  obtain ⟨n4, q4⟩ := int_read Try.underlying2 ((hf 4 _ rfl).trans g4)
  obtain ⟨n5, q5⟩ := int_read Try.underlying2 ((hf 5 _ rfl).trans g5)
  obtain ⟨n6, q6⟩ := int_read Try.underlying2 ((hf 6 _ rfl).trans g6)
  obtain ⟨n7, q7⟩ := int_read Try.underlying2 ((hf 7 _ rfl).trans g7)
  obtain ⟨n8, q8⟩ := int_read Try.underlying2 ((hf 8 _ rfl).trans g8)
  obtain ⟨n9, q9⟩ := int_read Try.underlying2 ((hf 9 _ rfl).trans g9)
  have h2 := (hf 2 _ rfl).trans g2
  simp [e2] at q0 q1 q3 q4 q5 q6 q7 q8 q9
  simp [e22] at h2
  obtain ⟨ds, hd1, hd2⟩ := dues_read h2
  subst q0 q1 q3 q4 q5 q6 q7 q8 q9
  refine ⟨⟨n0, n1, ds, n3, n4, n5, n6, n7, n8, n9⟩, hd1, .agg _ _ rfl fun i hi => ?_⟩
  match i, hi with
  | 0, _ => exact .int _ _
  | 1, _ => exact .int _ _
  | 2, _ => exact hd2
  | 3, _ => exact .int _ _
  | 4, _ => exact .int _ _
  | 5, _ => exact .int _ _
  | 6, _ => exact .int _ _
  | 7, _ => exact .int _ _
  | 8, _ => exact .int _ _
  | 9, _ => exact .int _ _
end
end Go.Proofs.Ytepbibbeifbokaa.Sh
