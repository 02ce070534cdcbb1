/- The shadow machine: every operation that it takes. -/
import Derived.Test.YtepbibbeifbokaaSh12
namespace Go.Proofs.Ytepbibbeifbokaa.Sh
open Go Go.RowKit
set_option linter.unusedVariables false
set_option linter.unusedSimpArgs false
section
variable {P : Program} {T : Tab} {B0 : Nat} {w0 w w' : World} {Fz F2 : Nat → Prop} {g g' : Gh} {h : List AO} {a : Act} {o : Oper} {ob : List Prop} {val : AV} {upd : List (Nat × AO)}
variable {G : Env} {eqs : List Nat} {base nid : Nat} {ch : List (Nat × Bool)} {s : AState} {kl : Option Nat}

theorem enters {f : FuncId} (hE : Ent P f) (args : Array Value) (w : World) : (callFunc f args).run P w = .ok (.enter f args) w := by
  obtain ⟨fn, hf, hname, hb⟩ := hE
  have h1 : fn.name ≠ "runtime.NumGoroutine" := by simpa using hname
  obtain ⟨c, hc⟩ := Option.isSome_iff_exists.1 hb
  simp [callFunc, hf, h1, hc]
theorem nth_append_vr {xs ys : List AV} {us vs : Array Value} (h1 : xs.length = us.size) (h2 : ys.length = vs.size) (v1 : ∀ i, i < xs.length → VR w Fz g (nth .top xs i) (us.getD i undef)) (v2 : ∀ i, i < ys.length → VR w Fz g (nth .top ys i) (vs.getD i undef)) :
    (xs ++ ys).length = (us ++ vs).size ∧ ∀ i, i < (xs ++ ys).length → VR w Fz g (nth .top (xs ++ ys) i) ((us ++ vs).getD i undef) := by
  refine ⟨by simp [h1, h2], fun i hi => ?_⟩
  rw [nth_append]
  simp only [List.length_append] at hi
  by_cases hc : i < xs.length
  · rw [if_pos hc]
    have : (us ++ vs).getD i undef = us.getD i undef := by
      simp only [Array.getD_eq_getD_getElem?]; rw [Array.getElem?_append_left (by omega)]
    rw [this]; exact v1 i hc
  · rw [if_neg hc]
    have : (us ++ vs).getD i undef = vs.getD (i - xs.length) undef := by
      simp only [Array.getD_eq_getD_getElem?]; rw [Array.getElem?_append_right (by omega), h1]
    rw [this]; exact v2 _ (by omega)
theorem args_vr (F : FR w Fz g s.tmps a) (hch : Chained ch a) (xs : Array Operand) : (xs.toList.map (ev ch s)).length = (xs.map a.eval).size ∧ ∀ i, i < (xs.toList.map (ev ch s)).length → VR w Fz g (nth .top (xs.toList.map (ev ch s)) i) ((xs.map a.eval).getD i undef) := by
  refine ⟨by simp, fun i hi => ?_⟩
  have hi' : i < xs.size := by simpa using hi
  have : nth .top (xs.toList.map (ev ch s)) i = ev ch s xs[i] := by rw [nth_get]; simp [List.getD_eq_getElem?_getD, hi']
  rw [this]; simp [Array.getD, hi']; exact ev_vr F hch _
/-- A call of a function's value. -/
theorem call_value {c : Call} {f : Operand} {q : FuncId} {us vs : Array Value} (hop : o.op = .call c) (hcal : c.callee = .value f) (hf : a.eval f = .func (.func q) us vs) (hE : Ent P q) : (execOp a.eval o).run P w = .ok (.enter q (us ++ c.args.map a.eval ++ vs)) w := by
  have he := enters hE (us ++ c.args.map a.eval ++ vs) w
  rw [Array.append_assoc] at he ⊢
  simp [execOp, hop, resolve, hcal, Deferred.ofValue, invoke, hf, he]
theorem go_builtin {c : Call} {b : Builtin} (F : FR w Fz g s.tmps a) (H : HR B0 w0 w Fz g s.heap) (hch : Chained ch a) (hT : TabOK P T) (hop : o.op = .call c) (hcal : c.callee = .builtin b) {out : Out} (hc : builtinOp T b c.argTypes.toList (c.args.toList.map (ev ch s)) = some out) : Goes P B0 w0 w Fz g a o out.val (apply out.upd s.heap) ∧ out.kill = none := by
  have one : ∀ {x : AV}, c.args.toList.map (ev ch s) = [x] → ∃ X, c.args = #[X] ∧ ev ch s X = x := fun {x} h => by
    obtain ⟨l, hl⟩ : ∃ l, c.args.toList = l := ⟨_, rfl⟩
    rw [hl] at h
    match l, h with
    | [X], h => simp only [List.map_cons, List.map_nil, List.cons.injEq, and_true] at h; exact ⟨X, by rw [← Array.toArray_toList (xs := c.args), hl], h⟩
  have ty0 : ∀ {t r}, c.argTypes.toList = t :: r → c.argTypes[0]? = some t := fun {t r} h => by rw [← Array.toArray_toList (xs := c.argTypes), h]; simp
  unfold builtinOp at hc
  split at hc
  · rename_i t r x hty hargs
    obtain ⟨X, hX, rfl⟩ := one hargs
    have hx := ev_vr F hch X
    have ht := ty0 hty
    split at hc
    · rename_i e sz by_ z e0
      obtain ⟨d, hd, hk⟩ := hT.und (w := w) e0
      simp only [kOK] at hk; subst hk
      have fin : ∀ A n cc v, a.eval X = .slice A n cc → VR w Fz g v (.int .i64 (n : Int)) → Goes P B0 w0 w Fz g a o v s.heap := fun A n cc v h1 h2 => goes_to (c := .int .i64 (n : Int)) (w' := w) (g' := g) (call_builtin hop hcal fun consts => by rw [hX]; simp [builtin, Builtin.len_, ht, h1, hd, goInt]) h2 H (On.refl _ _ _)
      cases hv : ev ch s X <;> rw [hv] at hc hx <;> simp [lenOf?] at hc <;> subst hc
      · have h1 : a.eval X = .slice none 0 0 := by generalize a.eval X = q at hx; cases hx; rfl
        exact ⟨fin _ _ _ _ h1 (.cint _ _), rfl⟩
      · obtain ⟨b, κ, _, _, _, h3⟩ := inv_sl hx
        rcases h3 with h3 | ⟨h4, _, A, h3⟩
        · exact ⟨fin _ _ _ _ h3 (.int _ _), rfl⟩
        · subst h4; exact ⟨fin _ _ _ _ h3 (.int _ _), rfl⟩
      · obtain ⟨A, cc, h3, _⟩ := inv_ro hx
        exact ⟨fin _ _ _ _ h3 (.int _ _), rfl⟩
    · rename_i sz by_ z st e0 hv
      simp only [Option.some.injEq] at hc; subst hc
      obtain ⟨d, hd, hk⟩ := hT.und (w := w) e0
      simp only [kOK] at hk; subst hk
      rw [hv] at hx
      have h1 : a.eval X = .string st := by generalize a.eval X = q at hx; cases hx; rfl
      exact ⟨goes_to (c := .int .i64 (st.size : Int)) (w' := w) (g' := g) (call_builtin hop hcal fun consts => by rw [hX]; simp [builtin, Builtin.len_, ht, h1, hd, goInt]) (.int _ _) H (On.refl _ _ _), rfl⟩
    · simp at hc
  · rename_i t r x hty hargs
    obtain ⟨X, hX, rfl⟩ := one hargs
    have hx := ev_vr F hch X
    have ht := ty0 hty
    split at hc
    · rename_i e sz by_ z e0
      obtain ⟨d, hd, hk⟩ := hT.und (w := w) e0
      simp only [kOK] at hk; subst hk
      have fin : ∀ A n cc v, a.eval X = .slice A n cc → VR w Fz g v (.int .i64 (cc : Int)) → Goes P B0 w0 w Fz g a o v s.heap := fun A n cc v h1 h2 => goes_to (c := .int .i64 (cc : Int)) (w' := w) (g' := g) (call_builtin hop hcal fun consts => by rw [hX]; simp [builtin, Builtin.cap_, ht, h1, hd, goInt]) h2 H (On.refl _ _ _)
      cases hv : ev ch s X with
      | nilsl =>
        rw [hv] at hc hx; simp [capOf?] at hc; subst hc
        have h1 : a.eval X = .slice none 0 0 := by generalize a.eval X = q at hx; cases hx; rfl
        exact ⟨fin _ _ _ _ h1 (.cint _ _), rfl⟩
      | sl oo st off len cap =>
        rw [hv] at hc hx
        cases cap with
        | none => simp [capOf?] at hc
        | some n =>
          simp [capOf?] at hc; subst hc
          obtain ⟨b, κ, _, _, h2, h3⟩ := inv_sl hx
          have hn := h2 n rfl
          rcases h3 with h3 | ⟨h4, h5, A, h3⟩
          · exact ⟨fin _ _ _ _ h3 (by rw [hn]; exact .int _ _), rfl⟩
          · have : n = 0 := by omega
            subst this
            exact ⟨fin _ _ _ _ h3 (.int _ _), rfl⟩
      | ro st len cap row =>
        rw [hv] at hc hx
        cases cap with
        | none => simp [capOf?] at hc
        | some n =>
          simp [capOf?] at hc; subst hc
          obtain ⟨A, cc, h3, _, h2, _⟩ := inv_ro hx
          exact ⟨fin _ _ _ _ h3 (by rw [h2 n rfl]; exact .int _ _), rfl⟩
      | _ => rw [hv] at hc; simp [capOf?] at hc
    · simp at hc
  · rename_i x y hargs
    obtain ⟨X, Y, hXY, rfl, rfl⟩ := args_two hargs
    have hx := ev_vr F hch X
    have hy := ev_vr F hch Y
    split at hc
    · rename_i k p k' q e1 e2
      simp only [Option.some.injEq] at hc; subst hc
      have h1 := intOf_vr e1 hx
      have h2 := intOf_vr e2 hy
      exact ⟨goes_to (c := .int k (if q < p then q else p)) (w' := w) (g' := g) (call_builtin hop hcal fun consts => by rw [hXY]; simp [builtin, Builtin.min_, h1, h2, Builtin.min2]) (.int _ _) H (On.refl _ _ _), rfl⟩
    · simp at hc
  · rename_i x y hargs
    obtain ⟨X, Y, hXY, rfl, rfl⟩ := args_two hargs
    have hx := ev_vr F hch X
    have hy := ev_vr F hch Y
    split at hc
    · rename_i k p k' q e1 e2
      simp only [Option.some.injEq] at hc; subst hc
      have h1 := intOf_vr e1 hx
      have h2 := intOf_vr e2 hy
      exact ⟨goes_to (c := .int k (if p < q then q else p)) (w' := w) (g' := g) (call_builtin hop hcal fun consts => by rw [hXY]; simp [builtin, Builtin.max_, h1, h2, Builtin.max2]) (.int _ _) H (On.refl _ _ _), rfl⟩
    · simp at hc
  · simp at hc
/-- An append, of whatever kind. -/
theorem go_append {c : Call} {X Y : Operand} {t : TypeId} (F : FR w Fz g s.tmps a) (H : HR B0 w0 w Fz g s.heap) (hch : Chained ch a) (hT : TabOK P T) (hn : nid ≤ s.heap.length) (hfree : nth .free s.heap nid = .free) (hop : o.op = .call c) (hcal : c.callee = .builtin .append) (hargs : c.args = #[X, Y]) (hty : c.argTypes = #[t, t])
    (hc : appendOp T base (fun o => nth .free s.heap o) t (ev ch s X) (ev ch s Y) nid = some ⟨ob, val, upd, kl⟩) (hob : conj ob) :
    (kl = none → Goes P B0 w0 w Fz g a o val (apply upd s.heap)) ∧ ∀ k, kl = some k → base ≤ k ∧ k < s.heap.length ∧ GoesK P B0 w0 w Fz g a o k val (apply upd (s.heap.map (killO k))) := by
  have hx := ev_vr F hch X
  have hy := ev_vr F hch Y
  unfold appendOp at hc
  split at hc
  · rename_i e sz by_ z e0
    split at hc
    · rename_i ei e1
      cases hb : (Nat.blt 0 ei.size && Nat.blt 0 ei.bytes) with
      | false => rw [hb] at hc; simp at hc
      | true =>
        rw [hb] at hc
        simp only [cond_true] at hc
        rw [Bool.and_eq_true] at hb
        have hz := blt_lt hb.1; have hby := blt_lt hb.2
        split at hc
        · rename_i pr m r hs
          have fresh : ∀ A, a.eval X = .slice A 0 0 → conj pr → m * ei.bytes ≤ 140737488355328 → Goes P B0 w0 w Fz g a o (.sl nid ei.size 0 m none) (apply [(nid, .rows ei.size m r)] s.heap) := fun A hA h1 h2 => by
            obtain ⟨v, w', g', hr, hv, hH, hon⟩ := append_fresh (A := A) hT H hn hfree e0 e1 hz hby hs h1 hy h2 o.type
            exact goes_to (call_append hop hcal hargs hty (by rw [hA]; exact hr)) hv hH hon
          split at hc
          · rename_i hxv
            simp only [Option.some.injEq, Out.mk.injEq] at hc; obtain ⟨rfl, rfl, rfl, rfl⟩ := hc
            rw [conj_append] at hob
            rw [hxv] at hx
            exact ⟨fun _ => fresh none (by generalize a.eval X = q at hx; cases hx; rfl) hob.1 hob.2, fun k hk => by cases hk⟩
          · rename_i st row hxv
            simp only [Option.some.injEq, Out.mk.injEq] at hc; obtain ⟨rfl, rfl, rfl, rfl⟩ := hc
            rw [conj_append] at hob
            rw [hxv] at hx
            obtain ⟨A, cc, hX, _, h2, _⟩ := inv_ro hx
            have : cc = 0 := h2 0 rfl
            subst this
            exact ⟨fun _ => fresh A hX hob.1 hob.2, fun k hk => by cases hk⟩
          · rename_i oo st len cp hxv
            split at hc
            · rename_i s' n row hoo
              replace hoo : nth .free s.heap oo = .rows s' n row := hoo
              cases hb2 : (st == s' && st == ei.size) with
              | false => rw [hb2] at hc; simp at hc
              | true =>
                rw [hb2] at hc
                simp only [cond_true, Option.some.injEq, Out.mk.injEq] at hc; obtain ⟨rfl, rfl, rfl, rfl⟩ := hc
                rw [Bool.and_eq_true] at hb2
                have q1 : st = s' := by simpa using hb2.1
                have q2 : st = ei.size := by simpa using hb2.2
                subst q1; subst q2
                rw [conj_append] at hob
                obtain ⟨h1, h2, h3, h4, h5⟩ := hob
                rw [hxv] at hx
                obtain ⟨v, w', hr, hv, hH, hS, hsz⟩ := append_inplace hT H e0 e1 hz hs h1 hy hx hoo h2 h3 h5 o.type
                exact ⟨fun _ => goes_to (call_append hop hcal hargs hty hr) hv hH ⟨hS, fun _ x => x, fun _ _ x => x, fun _ x => .inl x, hsz⟩, fun k hk => by cases hk⟩
            · simp at hc
          · rename_i oo st len hxv
            split at hc
            · rename_i s' n row hoo
              replace hoo : nth .free s.heap oo = .rows s' n row := hoo
              cases hb2 : (st == s' && (st == ei.size && Nat.ble base oo)) with
              | false => rw [hb2] at hc; simp at hc
              | true =>
                rw [hb2] at hc
                simp only [cond_true, Option.some.injEq, Out.mk.injEq] at hc; obtain ⟨rfl, rfl, rfl, rfl⟩ := hc
                rw [Bool.and_eq_true, Bool.and_eq_true] at hb2
                have q1 : st = s' := by simpa using hb2.1
                have q2 : st = ei.size := by simpa using hb2.2.1
                subst q1; subst q2
                rw [conj_append] at hob
                obtain ⟨h1, h2, h3, h4⟩ := hob
                subst h2
                rw [hxv] at hx
                obtain ⟨v, w', b', κ', hr, hv, hH, hS, hsz⟩ := append_grow hT H e0 e1 hz hby hs h1 hy hx hoo h3 h4 o.type
                obtain ⟨b, κ, hg, _⟩ := inv_sl hx
                refine ⟨(fun hk => by cases hk), fun k hk => ?_⟩
                simp only [Option.some.injEq] at hk; subst hk
                exact ⟨ble_le hb2.2.2, lt_of_gh H hg, goesK_to (call_append hop hcal hargs hty hr) hv hH hS hsz (fun o' x e hx => by simp [ext, e, hx])⟩
            · simp at hc
          · simp at hc
        · simp at hc
    · simp at hc
  · simp at hc
end
end Go.Proofs.Ytepbibbeifbokaa.Sh
