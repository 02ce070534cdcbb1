/- The shadow machine: what an operation does on abstract values, the machine does. -/
import Derived.Test.YtepbibbeifbokaaSh2
import Derived.WalkKit
namespace Go.Proofs.Ytepbibbeifbokaa.Sh
open Go Go.RowKit
set_option linter.unusedVariables false
set_option linter.unusedSimpArgs false

/-! ### The tables are right -/
def kOK (d : TypeDesc) : TK → Prop
  | .int k => d = .int k
  | .bool => d = .bool
  | .str => d = .string
  | .ptr e => d = .pointer e
  | .slice e => d = .slice e
  | .arr n e => d = .array n e
  | .struct fs => ∃ F : Array Field, d = .struct F ∧ F.toList.map (fun f => (f.offset, f.type)) = fs
  | .func => match d with | .func .. => True | _ => False
  | .iface => match d with | .interface _ => True | _ => False
  | .other => False
structure TIOK (P : Program) (t : Nat) (ti : TI) : Prop where
  info : ∃ i z, P.info? t = some i ∧ i.size = ti.size ∧ i.bytes = ti.bytes ∧ i.zero = some z ∧ (∀ w Fz g, VR w Fz g ti.zero z) ∧ cellsOk ti.zero = true ∧ ti.zero.cells.length = ti.size
  und : ∃ d, P.underlying t = some d ∧ kOK d ti.k
def TabOK (P : Program) (T : Tab) : Prop := ∀ t ti, T.get t = some ti → TIOK P t ti

section
variable {P : Program} {T : Tab} {w : World}
theorem TabOK.und (hT : TabOK P T) {t : Nat} {ti : TI} (h : T.get t = some ti) : ∃ d, (underlying t).run P w = .ok d w ∧ kOK d ti.k := by
  obtain ⟨d, h1, h2⟩ := (hT t ti h).und
  exact ⟨d, run_underlying h1 w, h2⟩
theorem TabOK.size (hT : TabOK P T) {t : Nat} {ti : TI} (h : T.get t = some ti) : (sizeOf t).run P w = .ok ti.size w := by
  obtain ⟨i, z, h1, h2, _⟩ := (hT t ti h).info
  simp [sizeOf, typeInfo, h1, h2]
theorem TabOK.zero (hT : TabOK P T) {t : Nat} {ti : TI} (h : T.get t = some ti) : ∃ z, (zeroValue t).run P w = .ok z w ∧ (∀ w Fz g, VR w Fz g ti.zero z) ∧ cellsOk ti.zero = true ∧ ti.zero.cells.length = ti.size := by
  obtain ⟨i, z, h1, h2, h3, h4, h5, h6, h7⟩ := (hT t ti h).info
  exact ⟨z, by simp [zeroValue, typeInfo, h1, h4], h5, h6, h7⟩
theorem TabOK.agg (hT : TabOK P T) {t : Nat} {ti : TI} (h : T.get t = some ti) : (isAgg t).run P w = .ok ti.agg w := by
  obtain ⟨d, h1, h2⟩ := hT.und (w := w) h
  simp only [isAgg, Sem.run_bind, h1, Result.andThen_ok]
  unfold TI.agg
  cases hk : ti.k <;> rw [hk] at h2 <;> simp only [kOK] at h2
  case struct fs => obtain ⟨F, e, _⟩ := h2; subst e; rfl
  case func => cases d <;> first | exact h2.elim | rfl
  case iface => cases d <;> first | exact h2.elim | rfl
  all_goals (subst h2; rfl)
end

/-! ### Frames -/
/-- A slot: told under a guard, or for good. -/
def SR (w : World) (Fz : Nat → Prop) (g : Gh) (a : Act) : AV → Value → Prop
  | .when d b v, c => (a.tmps.getD d undef = .bool b ∧ VR w Fz g v c) ∨ (c = undef ∧ a.tmps.getD d undef ≠ .bool b)
  | v, c => VR w Fz g v c
structure FR (w : World) (Fz : Nat → Prop) (g : Gh) (ts : List AV) (a : Act) : Prop where
  defers : a.defers = []
  size : ts.length = a.tmps.size
  slots : ∀ i, i < ts.length → SR w Fz g a (nth .top ts i) (a.tmps.getD i undef)

/-- How the world may have gone on. -/
structure On (w w' : World) (Fz Fz' : Nat → Prop) (g g' : Gh) : Prop where
  same : Same Fz w w'
  fz : ∀ b, Fz b → Fz' b
  gh : ∀ o x, g o = some x → g' o = some x
  new : ∀ b, Fz' b → Fz b ∨ w.heap.size ≤ b
  size : w.heap.size ≤ w'.heap.size
theorem On.refl (w : World) (Fz : Nat → Prop) (g : Gh) : On w w Fz Fz g g := ⟨Same.refl _ _, fun _ x => x, fun _ _ x => x, fun _ x => .inl x, Nat.le_refl _⟩
theorem On.trans {w1 w2 w3 : World} {F1 F2 F3 : Nat → Prop} {g1 g2 g3 : Gh} (h : On w1 w2 F1 F2 g1 g2) (k : On w2 w3 F2 F3 g2 g3) : On w1 w3 F1 F3 g1 g3 :=
  ⟨fun b hb => (k.same b (h.fz b hb)).trans (h.same b hb), fun b hb => k.fz b (h.fz b hb), fun o x hx => k.gh o x (h.gh o x hx),
    fun b hb => (k.new b hb).elim (fun x => h.new b x) (fun x => .inr (Nat.le_trans h.size x)), Nat.le_trans h.size k.size⟩
section
variable {w w' : World} {Fz Fz' : Nat → Prop} {g g' : Gh}
theorem On.vr (h : On w w' Fz Fz' g g') {v : AV} {c : Value} (hv : VR w Fz g v c) : VR w' Fz' g' v c := hv.mono h.same h.fz h.gh
theorem On.sr (h : On w w' Fz Fz' g g') {a : Act} {v : AV} {c : Value} (hv : SR w Fz g a v c) : SR w' Fz' g' a v c := by
  cases v <;> first
    | exact h.vr hv
    | exact hv.imp (fun x => ⟨x.1, h.vr x.2⟩) id
theorem On.fr (h : On w w' Fz Fz' g g') {ts : List AV} {a : Act} (F : FR w Fz g ts a) : FR w' Fz' g' ts a := ⟨F.defers, F.size, fun i hi => h.sr (F.slots i hi)⟩
theorem SR.of {a : Act} {v : AV} {c : Value} (h : VR w Fz g v c) : SR w Fz g a v c := by
  cases v <;> first | exact h | cases h
/-- What a slot holds that is not told under a guard. -/
theorem SR.vr {a : Act} {v : AV} {c : Value} (h : SR w Fz g a v c) (hv : ∀ d b x, v ≠ .when d b x) : VR w Fz g v c := by
  cases v <;> first | exact h | exact absurd rfl (hv _ _ _)
def Chained (ch : List (Nat × Bool)) (a : Act) : Prop := ∀ d b, inChain ch d b = true → a.tmps.getD d undef = .bool b
theorem Chained.nil (a : Act) : Chained [] a := fun d b h => by simp [inChain] at h
theorem Chained.cons {ch : List (Nat × Bool)} {a : Act} {d : Nat} {b : Bool} (h : Chained ch a) (hd : a.tmps.getD d undef = .bool b) : Chained ((d, b) :: ch) a := fun d' b' h' => by
  simp only [inChain, Bool.or_eq_true, Bool.and_eq_true, beq_iff_eq] at h'
  rcases h' with ⟨e1, e2⟩ | h'
  · rw [← e1, ← e2]; exact hd
  · exact h d' b' h'
theorem strip_vr {ch : List (Nat × Bool)} {a : Act} {v : AV} {c : Value} (hch : Chained ch a) (h : SR w Fz g a v c) : VR w Fz g (strip ch v) c := by
  cases v <;> first | exact h | skip
  rename_i d b v
  simp only [strip]
  cases hi : inChain ch d b with
  | false => exact .top _
  | true =>
    rcases h with h | h
    · exact h.2
    · exact absurd (hch d b hi) h.2
theorem constAV_vr (v : Value) : VR w Fz g (constAV v) v := by
  unfold constAV
  split <;> constructor
theorem FR.get {ts : List AV} {a : Act} (F : FR w Fz g ts a) (t : Nat) : SR w Fz g a (nth .top ts t) (a.tmps.getD t undef) := by
  by_cases h : t < ts.length
  · exact F.slots t h
  · rw [nth_ge _ _ _ (by omega)]; exact .top _
theorem ev_vr {ch : List (Nat × Bool)} {s : AState} {a : Act} (F : FR w Fz g s.tmps a) (hch : Chained ch a) (x : Operand) : VR w Fz g (ev ch s x) (a.eval x) := by
  cases x with
  | tmp t => exact strip_vr hch (F.get t)
  | const v => exact constAV_vr v
  | global n => exact .top _
  | func f => exact .fn f [] [] #[] #[] rfl rfl (fun i hi => absurd hi (by simp)) (fun i hi => absurd hi (by simp))
end

/-! ### Operations -/
/-- The operation goes on: with such a value, and such memory. -/
def Goes (P : Program) (B0 : Nat) (w0 w : World) (Fz : Nat → Prop) (g : Gh) (a : Act) (o : Oper) (val : AV) (h' : List AO) : Prop :=
  ∀ (K : Act → World → Prop) (Q : Exit → Act → World → Prop), (∀ c w' Fz' g', VR w' Fz' g' val c → HR B0 w0 w' Fz' g' h' → On w w' Fz Fz' g g' → K (a.put o.dst c) w') → o.wp P a w K Q
section
variable {P : Program} {B0 : Nat} {w0 w : World} {Fz : Nat → Prop} {g : Gh} {a : Act} {o : Oper} {val : AV} {h h' : List AO}
theorem goes_value {c : Value} (hr : (execOp a.eval o).run P w = .ok (.value c) w) (hv : VR w Fz g val c) (H : HR B0 w0 w Fz g h) : Goes P B0 w0 w Fz g a o val h := fun K Q hK => by
  unfold Oper.wp
  rw [hr, Oper.upon_value]
  exact hK c w Fz g hv H (On.refl _ _ _)
theorem goes_to {c : Value} {w' : World} {g' : Gh} (hr : (execOp a.eval o).run P w = .ok (.value c) w') (hv : VR w' Fz g' val c) (H : HR B0 w0 w' Fz g' h') (hon : On w w' Fz Fz g g') : Goes P B0 w0 w Fz g a o val h' := fun K Q hK => by
  unfold Oper.wp
  rw [hr, Oper.upon_value]
  exact hK c w' Fz g' hv H hon
theorem goes_skip {w' : World} (hr : (execOp a.eval o).run P w = .ok .skip w') (H : HR B0 w0 w' Fz g h') (hon : On w w' Fz Fz g g) : Goes P B0 w0 w Fz g a o .top h' := fun K Q hK => by
  unfold Oper.wp
  rw [hr, Oper.upon_skip]
  exact hK undef w' Fz g (.top _) H hon
end
end Go.Proofs.Ytepbibbeifbokaa.Sh
