/- The shadow machine: one operation, whatever it is. -/
import Derived.Test.YtepbibbeifbokaaSh13
namespace Go.Proofs.Ytepbibbeifbokaa.Sh
open Go Go.RowKit
set_option linter.unusedVariables false
set_option linter.unusedSimpArgs false
section
variable {P : Program} {T : Tab} {B0 : Nat} {w0 w w' : World} {Fz F2 : Nat → Prop} {g g' : Gh} {h : List AO} {a : Act} {o : Oper} {ob : List Prop} {val : AV} {upd : List (Nat × AO)}
variable {G : Env} {eqs : List Nat} {base nid : Nat} {ch : List (Nat × Bool)} {s : AState} {kl : Option Nat}

theorem core_goes (hT : TabOK P T) (hE : EqOK P T eqs) (hG : EnvOK P G) (F : FR w Fz g s.tmps a) (H : HR B0 w0 w Fz g s.heap) (hch : Chained ch a) (hn : nid ≤ s.heap.length) (hfree : nth .free s.heap nid = .free)
    (hc : core G T eqs base o.op ch s nid = some ⟨ob, val, upd, kl⟩) (hob : conj ob) :
    (kl = none → Goes P B0 w0 w Fz g a o val (apply upd s.heap)) ∧ ∀ k, kl = some k → base ≤ k ∧ k < s.heap.length ∧ GoesK P B0 w0 w Fz g a o k val (apply upd (s.heap.map (killO k))) := by
  have fin : (Goes P B0 w0 w Fz g a o val (apply upd s.heap) ∧ kl = none) → (kl = none → Goes P B0 w0 w Fz g a o val (apply upd s.heap)) ∧ ∀ k, kl = some k → base ≤ k ∧ k < s.heap.length ∧ GoesK P B0 w0 w Fz g a o k val (apply upd (s.heap.map (killO k))) := fun ⟨h1, h2⟩ => ⟨fun _ => h1, fun k hk => by rw [h2] at hk; cases hk⟩
  cases hop : o.op with
  | move x => rw [hop] at hc; simp only [core, Option.some.injEq, Out.mk.injEq] at hc; obtain ⟨_, rfl, rfl, rfl⟩ := hc; exact fin ⟨go_move F H hch (.inl hop), rfl⟩
  | assign x => rw [hop] at hc; simp only [core, Option.some.injEq, Out.mk.injEq] at hc; obtain ⟨_, rfl, rfl, rfl⟩ := hc; exact fin ⟨go_move F H hch (.inr hop), rfl⟩
  | pick c x y => rw [hop] at hc; exact fin (go_pick F H hch hop hc)
  | alloc t => rw [hop] at hc; exact fin (go_alloc H hT hn hfree hop hc)
  | box t x => rw [hop] at hc; exact fin (go_box F H hch hn hfree hop hc)
  | build t ps => rw [hop] at hc; exact fin (go_build F H hch hT hop hc)
  | buildSlice t n ps => rw [hop] at hc; exact fin (go_buildSlice F H hch hT hn hfree hop hc)
  | load t x => rw [hop] at hc; exact fin (go_load F H hch hob hT hop hc)
  | store t x y => rw [hop] at hc; exact fin (go_store F H hch hob hT hop hc)
  | nilCheck x => rw [hop] at hc; exact fin (go_nilCheck F H hch hop hc)
  | binOp op t x y u => rw [hop] at hc; exact fin (go_binOp F H hch hob hT hE hop hc)
  | unOp op t x => rw [hop] at hc; exact fin (go_unOp F H hch hop hc)
  | convert t u x => rw [hop] at hc; exact fin (go_convert F H hch hT hop hc)
  | makeInterface t x => rw [hop] at hc; exact fin (go_makeInterface F H hch hT hop hc)
  | makeFunc f xs ys => rw [hop] at hc; exact fin (go_makeFunc F H hch hop hc)
  | makeSlice t x y => rw [hop] at hc; exact fin (go_makeSlice F H hch hob hT hn hfree hop hc)
  | slice t x lo hi mx =>
    rw [hop] at hc
    cases mx with
    | none => exact fin (go_slice F H hch hob hT hop hc)
    | some m => exact fin (go_sliceMax F H hch hob hT hop hc)
  | fieldAddr t x f => rw [hop] at hc; exact fin (go_fieldAddr F H hch hT hop hc)
  | field t x f => rw [hop] at hc; exact fin (go_field F H hch hT hop hc)
  | indexAddr t x y => rw [hop] at hc; exact fin (go_indexAddr F H hch hob hT hop hc)
  | index t x y => rw [hop] at hc; exact fin (go_index F H hch hob hT hop hc)
  | extract x i => rw [hop] at hc; exact fin (go_extract F H hch hop hc)
  | call c =>
    rw [hop] at hc
    simp only [core] at hc
    split at hc
    · rename_i hcal
      split at hc
      · rename_i x y t t' hargs hty
        cases hb : (t == t') with
        | false => rw [hb] at hc; simp at hc
        | true =>
          rw [hb] at hc
          have htt : t = t' := by simpa using hb
          subst htt
          obtain ⟨X, Y, hXY, rfl, rfl⟩ := args_two hargs
          exact go_append F H hch hT hn hfree hop hcal hXY (types_two hty) hc hob
      · simp at hc
    · rename_i hcal
      split at hc
      · rename_i x t r hargs hty
        obtain ⟨l, hl⟩ : ∃ l, c.args.toList = l := ⟨_, rfl⟩
        have hX : ∃ X, c.args = #[X] ∧ ev ch s X = x := by
          rw [hl] at hargs
          match l, hargs with
          | [X], h => simp only [List.map_cons, List.map_nil, List.cons.injEq, and_true] at h; exact ⟨X, by rw [← Array.toArray_toList (xs := c.args), hl], h⟩
        obtain ⟨X, hX, rfl⟩ := hX
        have := go_clear (out := ⟨ob, val, upd, kl⟩) F H hch hT hop hcal hX hty hc hob
        exact fin this
      · simp at hc
    · rename_i b hna hnc hcal
      have := go_builtin (out := ⟨ob, val, upd, kl⟩) F H hch hT hop hcal hc
      exact fin this
    · rename_i f hcal
      split at hc
      · rename_i q first caps hf
        have hfv := ev_vr F hch f
        rw [hf] at hfv
        obtain ⟨us, vs, hF, ha, hb, h1, h2⟩ := inv_fn hfv
        obtain ⟨l1, v1⟩ := args_vr F hch c.args
        obtain ⟨l2, v2⟩ := nth_append_vr ha l1 h1 v1
        obtain ⟨l3, v3⟩ := nth_append_vr l2 hb v2 h2
        obtain ⟨rfl, rfl, hEnt, hcall⟩ := quiet_calls hG H hc hob l3 v3
        refine fin ⟨fun K Q hK => ?_, rfl⟩
        unfold Oper.wp
        rw [call_value hop hcal hF hEnt, Oper.upon_enter]
        refine hcall.mono fun e w' ⟨r, F2, he, hv, hH, hon⟩ => ?_
        subst he
        exact hK r w' F2 g hv hH hon
      · simp at hc
    · simp at hc
  | _ => rw [hop] at hc; simp [core] at hc
end
end Go.Proofs.Ytepbibbeifbokaa.Sh
