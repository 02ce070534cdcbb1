/- Part 7 of a proof over the shadow machine. -/
import Derived.Test.YtnnoplgabnfdiaaGreatDoorN06
import Derived.Laws.Strings
import Derived.Lib.ConvBytes
/- The shadow machine: every operation that it takes. -/
namespace Go.Proofs.YtnnoplgabnfdiaaGreatDoor.Sh
open Go Go.RowKit
set_option linter.unusedVariables false
set_option linter.unusedSimpArgs false
section
variable {D : List Deferred} {P : Program} {T : Tab} {B0 : Nat} {w0 w w' : World} {Fz F2 : Nat → Prop} {g g' : Gh} {h : List AO} {a : Act} {o : Oper} {ob : List Prop} {val : AV} {upd : List (Nat × AO)}
variable {G : Env} {eqs : List Nat} {base nid : Nat} {ch : List (Nat × Bool)} {s : AState} {kl : Option Nat}

theorem enters {f : FuncId} (hE : Ent P f) (args : Array Value) (w : World) : (callFunc f args).run P w = .ok (.enter f args) w := by
  obtain ⟨fn, hf, hname, hb⟩ := hE
  have h1 : fn.name ≠ "runtime.NumGoroutine" := by simpa using hname
  obtain ⟨c, hc⟩ := Option.isSome_iff_exists.1 hb
  simp [callFunc, hf, h1, hc]
theorem nth_append_vr {xs ys : List AV} {us vs : Array Value} (h1 : xs.length = us.size) (h2 : ys.length = vs.size) (v1 : ∀ i, i < xs.length → VR w Fz g (nth .top xs i) (us.getD i undef)) (v2 : ∀ i, i < ys.length → VR w Fz g (nth .top ys i) (vs.getD i undef)) :
    (xs ++ ys).length = (us ++ vs).size ∧ ∀ i, i < (xs ++ ys).length → VR w Fz g (nth .top (xs ++ ys) i) ((us ++ vs).getD i undef) := by
  refine ⟨by simp [h1, h2], fun i hi => ?_⟩
  rw [nth_append]
  simp only [List.length_append] at hi
  by_cases hc : i < xs.length
  · rw [if_pos hc]
    have : (us ++ vs).getD i undef = us.getD i undef := by
      simp only [Array.getD_eq_getD_getElem?]; rw [Array.getElem?_append_left (by omega)]
    rw [this]; exact v1 i hc
  · rw [if_neg hc]
    have : (us ++ vs).getD i undef = vs.getD (i - xs.length) undef := by
      simp only [Array.getD_eq_getD_getElem?]; rw [Array.getElem?_append_right (by omega), h1]
    rw [this]; exact v2 _ (by omega)
theorem args_vr (F : FR D w Fz g s.tmps a) (hch : Chained ch a) (xs : Array Operand) : (xs.toList.map (ev ch s)).length = (xs.map a.eval).size ∧ ∀ i, i < (xs.toList.map (ev ch s)).length → VR w Fz g (nth .top (xs.toList.map (ev ch s)) i) ((xs.map a.eval).getD i undef) := by
  refine ⟨by simp, fun i hi => ?_⟩
  have hi' : i < xs.size := by simpa using hi
  have : nth .top (xs.toList.map (ev ch s)) i = ev ch s xs[i] := by rw [nth_get]; simp [List.getD_eq_getElem?_getD, hi']
  rw [this]; simp [Array.getD, hi']; exact ev_vr F hch _
/-- A call of a function's value. -/
theorem call_value {c : Call} {f : Operand} {q : FuncId} {us vs : Array Value} (hop : o.op = .call c) (hcal : c.callee = .value f) (hf : a.eval f = .func (.func q) us vs) (hE : Ent P q) : (execOp a.eval o).run P w = .ok (.enter q (us ++ c.args.map a.eval ++ vs)) w := by
  have he := enters hE (us ++ c.args.map a.eval ++ vs) w
  rw [Array.append_assoc] at he ⊢
  simp [execOp, hop, resolve, hcal, Deferred.ofValue, invoke, hf, he]
theorem call_any {c : Call} {f : Operand} {q : FuncId} {us vs : Array Value} {x : Next} (hop : o.op = .call c) (hcal : c.callee = .value f) (hf : a.eval f = .func (.func q) us vs) (he : (callFunc q (us ++ c.args.map a.eval ++ vs)).run P w = .ok x w') : (execOp a.eval o).run P w = .ok x w' := by
  rw [Array.append_assoc] at he
  simp [execOp, hop, resolve, hcal, Deferred.ofValue, invoke, hf, he]
/-- Functions that write to one object. -/
def MkOK (P : Program) : Prop := ∀ f, mkF.elem f = true → ∀ (b : Nat) (w : World), w.heap[b]? = some (.map #[] 0) → Reach P f #[.map (some b)] w fun e w' => e = .returned (.map (some w.heap.size)) ∧ w' = w.alloc (.map #[] 0)
def SOK (P : Program) (S : SEnv) : Prop := MkOK P ∧ (∀ f N o w run, S.get f = some ⟨N, o, w, run⟩ → ∀ (vs : List AV) (h : List AO) (ob : List Prop) (r : AV) (x : AO), h.length = N → o < N → run vs (nth .free h o) ((exR f).map fun q => nth .free h q) = some (ob, r, x) → conj ob → (SCall P f vs h fun r' h' => r' = .ret r ∧ h' = bif w then setNth h o x else h)) ∧ ∀ f o w run, S.get f = some ⟨0, o, w, run⟩ → ∀ (vs : List AV) (h : List AO) (ob : List Prop) (r : AV) (x : AO), run vs .free [] = some (ob, r, x) → conj ob → SCall P f vs h fun r' h' => r' = .ret r ∧ h' = h
/-- A call that is told, as an operation. -/
theorem wp_reach {next : Act → World → Prop} {Q : Exit → Act → World → Prop} {c : Call} {f : Operand} {q : FuncId} {us vs : Array Value} (hop : o.op = .call c) (hcal : c.callee = .value f) (hf : a.eval f = .func (.func q) us vs)
    (hR : Reach P q (us ++ c.args.map a.eval ++ vs) w fun
      | .returned v, w'' => next (a.put o.dst v) w''
      | .panicked chain, w'' => Q (.panic chain) a w''
      | .outgrown, _ => LetsOut Q) : o.wp P a w next Q := by
  unfold Oper.wp
  rcases hR with ⟨hE, hC⟩ | ⟨v, w1, h1, h2⟩
  · rw [call_any hop hcal hf (enters hE _ w), Oper.upon_enter]; exact hC
  · rw [call_any hop hcal hf h1, Oper.upon_value]; exact h2
theorem go_builtin {c : Call} {b : Builtin} (F : FR D w Fz g s.tmps a) (H : HR B0 w0 w Fz g s.heap) (hch : Chained ch a) (hT : TabOK P T) (hop : o.op = .call c) (hcal : c.callee = .builtin b) {out : Out} (hc : builtinOp T b c.argTypes.toList (c.args.toList.map (ev ch s)) = some out) : Goes P B0 w0 w Fz g a o out.val (apply out.upd s.heap) ∧ out.kill = none := by
  have one : ∀ {x : AV}, c.args.toList.map (ev ch s) = [x] → ∃ X, c.args = #[X] ∧ ev ch s X = x := fun {x} h => by
    obtain ⟨l, hl⟩ : ∃ l, c.args.toList = l := ⟨_, rfl⟩
    rw [hl] at h
    match l, h with
    | [X], h => simp only [List.map_cons, List.map_nil, List.cons.injEq, and_true] at h; exact ⟨X, by rw [← Array.toArray_toList (xs := c.args), hl], h⟩
  have ty0 : ∀ {t r}, c.argTypes.toList = t :: r → c.argTypes[0]? = some t := fun {t r} h => by rw [← Array.toArray_toList (xs := c.argTypes), h]; simp
  unfold builtinOp at hc
  split at hc
  · rename_i t r x hty hargs
    obtain ⟨X, hX, rfl⟩ := one hargs
    have hx := ev_vr F hch X
    have ht := ty0 hty
    split at hc
    · rename_i e sz by_ z e0
      obtain ⟨d, hd, hk⟩ := hT.und (w := w) e0
      simp only [kOK] at hk; subst hk
      have fin : ∀ A n cc v, a.eval X = .slice A n cc → VR w Fz g v (.int .i64 (n : Int)) → Goes P B0 w0 w Fz g a o v s.heap := fun A n cc v h1 h2 => goes_to (c := .int .i64 (n : Int)) (w' := w) (g' := g) (call_builtin hop hcal fun consts => by rw [hX]; simp [builtin, Builtin.len_, ht, h1, hd, goInt]) h2 H (On.refl _ _ _)
      cases hv : ev ch s X <;> rw [hv] at hc hx <;> simp [lenOf?] at hc <;> subst hc
      · have h1 : a.eval X = .slice none 0 0 := by generalize a.eval X = q at hx; cases hx; rfl
        exact ⟨fin _ _ _ _ h1 (.cint _ _), rfl⟩
      · obtain ⟨b, κ, _, _, _, h3⟩ := inv_sl hx
        rcases h3 with h3 | ⟨h4, _, A, h3⟩
        · exact ⟨fin _ _ _ _ h3 (.int _ _), rfl⟩
        · subst h4; exact ⟨fin _ _ _ _ h3 (.int _ _), rfl⟩
      · obtain ⟨A, cc, h3, _⟩ := inv_ro hx
        exact ⟨fin _ _ _ _ h3 (.int _ _), rfl⟩
    · rename_i sz by_ z st e0 hv
      simp only [Option.some.injEq] at hc; subst hc
      obtain ⟨d, hd, hk⟩ := hT.und (w := w) e0
      simp only [kOK] at hk; subst hk
      rw [hv] at hx
      have h1 : a.eval X = .string st := by generalize a.eval X = q at hx; cases hx; rfl
      exact ⟨goes_to (c := .int .i64 (st.size : Int)) (w' := w) (g' := g) (call_builtin hop hcal fun consts => by rw [hX]; simp [builtin, Builtin.len_, ht, h1, hd, goInt]) (.int _ _) H (On.refl _ _ _), rfl⟩
    · simp at hc
  · rename_i t r x hty hargs
    obtain ⟨X, hX, rfl⟩ := one hargs
    have hx := ev_vr F hch X
    have ht := ty0 hty
    split at hc
    · rename_i e sz by_ z e0
      obtain ⟨d, hd, hk⟩ := hT.und (w := w) e0
      simp only [kOK] at hk; subst hk
      have fin : ∀ A n cc v, a.eval X = .slice A n cc → VR w Fz g v (.int .i64 (cc : Int)) → Goes P B0 w0 w Fz g a o v s.heap := fun A n cc v h1 h2 => goes_to (c := .int .i64 (cc : Int)) (w' := w) (g' := g) (call_builtin hop hcal fun consts => by rw [hX]; simp [builtin, Builtin.cap_, ht, h1, hd, goInt]) h2 H (On.refl _ _ _)
      cases hv : ev ch s X with
      | nilsl =>
        rw [hv] at hc hx; simp [capOf?] at hc; subst hc
        have h1 : a.eval X = .slice none 0 0 := by generalize a.eval X = q at hx; cases hx; rfl
        exact ⟨fin _ _ _ _ h1 (.cint _ _), rfl⟩
      | sl oo st off len cap =>
        rw [hv] at hc hx
        cases cap with
        | none => simp [capOf?] at hc
        | some n =>
          simp [capOf?] at hc; subst hc
          obtain ⟨b, κ, _, _, h2, h3⟩ := inv_sl hx
          have hn := h2 n rfl
          rcases h3 with h3 | ⟨h4, h5, A, h3⟩
          · exact ⟨fin _ _ _ _ h3 (by rw [hn]; exact .int _ _), rfl⟩
          · have : n = 0 := by omega
            subst this
            exact ⟨fin _ _ _ _ h3 (.int _ _), rfl⟩
      | ro st len cap row =>
        rw [hv] at hc hx
        cases cap with
        | none => simp [capOf?] at hc
        | some n =>
          simp [capOf?] at hc; subst hc
          obtain ⟨A, cc, h3, _, h2, _⟩ := inv_ro hx
          exact ⟨fin _ _ _ _ h3 (by rw [h2 n rfl]; exact .int _ _), rfl⟩
      | _ => rw [hv] at hc; simp [capOf?] at hc
    · simp at hc
  · rename_i x y hargs
    obtain ⟨X, Y, hXY, rfl, rfl⟩ := args_two hargs
    have hx := ev_vr F hch X
    have hy := ev_vr F hch Y
    split at hc
    · rename_i k p k' q e1 e2
      simp only [Option.some.injEq] at hc; subst hc
      have h1 := intOf_vr e1 hx
      have h2 := intOf_vr e2 hy
      exact ⟨goes_to (c := .int k (if q < p then q else p)) (w' := w) (g' := g) (call_builtin hop hcal fun consts => by rw [hXY]; simp [builtin, Builtin.min_, h1, h2, Builtin.min2]) (.int _ _) H (On.refl _ _ _), rfl⟩
    · simp at hc
  · rename_i x y hargs
    obtain ⟨X, Y, hXY, rfl, rfl⟩ := args_two hargs
    have hx := ev_vr F hch X
    have hy := ev_vr F hch Y
    split at hc
    · rename_i k p k' q e1 e2
      simp only [Option.some.injEq] at hc; subst hc
      have h1 := intOf_vr e1 hx
      have h2 := intOf_vr e2 hy
      exact ⟨goes_to (c := .int k (if p < q then q else p)) (w' := w) (g' := g) (call_builtin hop hcal fun consts => by rw [hXY]; simp [builtin, Builtin.max_, h1, h2, Builtin.max2]) (.int _ _) H (On.refl _ _ _), rfl⟩
    · simp at hc
  · simp at hc
/-- An append, of whatever kind. -/
theorem go_append {c : Call} {X Y : Operand} {t : TypeId} (F : FR D w Fz g s.tmps a) (H : HR B0 w0 w Fz g s.heap) (hch : Chained ch a) (hT : TabOK P T) (hn : nid ≤ s.heap.length) (hfree : nth .free s.heap nid = .free) (hop : o.op = .call c) (hcal : c.callee = .builtin .append) (hargs : c.args = #[X, Y]) (hty : c.argTypes = #[t, t])
    (hc : appendOp T base (fun o => nth .free s.heap o) t (ev ch s X) (ev ch s Y) nid = some ⟨ob, val, upd, kl⟩) (hob : conj ob) :
    (kl = none → Goes P B0 w0 w Fz g a o val (apply upd s.heap)) ∧ ∀ k, kl = some k → base ≤ k ∧ k < s.heap.length ∧ GoesK P B0 w0 w Fz g a o k val (apply upd (s.heap.map (killO k))) := by
  have hx := ev_vr F hch X
  have hy := ev_vr F hch Y
  unfold appendOp at hc
  split at hc
  · rename_i e sz by_ z e0
    split at hc
    · rename_i ei e1
      cases hb : (Nat.blt 0 ei.size && Nat.blt 0 ei.bytes) with
      | false => rw [hb] at hc; simp at hc
      | true =>
        rw [hb] at hc
        simp only [cond_true] at hc
        rw [Bool.and_eq_true] at hb
        have hz := blt_lt hb.1; have hby := blt_lt hb.2
        split at hc
        · rename_i pr m r hs
          have fresh : ∀ A, a.eval X = .slice A 0 0 → conj pr → m * ei.bytes ≤ 140737488355328 → Goes P B0 w0 w Fz g a o (.sl nid ei.size 0 m none) (apply [(nid, .rows ei.size m r)] s.heap) := fun A hA h1 h2 => by
            obtain ⟨v, w', g', hr, hv, hH, hon⟩ := append_fresh (A := A) hT H hn hfree e0 e1 hz hby hs h1 hy h2 o.type
            exact goes_to (call_append hop hcal hargs hty (by rw [hA]; exact hr)) hv hH hon
          split at hc
          · rename_i hxv
            simp only [Option.some.injEq, Out.mk.injEq] at hc; obtain ⟨rfl, rfl, rfl, rfl⟩ := hc
            rw [conj_append] at hob
            rw [hxv] at hx
            exact ⟨fun _ => fresh none (by generalize a.eval X = q at hx; cases hx; rfl) hob.1 hob.2, fun k hk => by cases hk⟩
          · rename_i st row hxv
            simp only [Option.some.injEq, Out.mk.injEq] at hc; obtain ⟨rfl, rfl, rfl, rfl⟩ := hc
            rw [conj_append] at hob
            rw [hxv] at hx
            obtain ⟨A, cc, hX, _, h2, _⟩ := inv_ro hx
            have : cc = 0 := h2 0 rfl
            subst this
            exact ⟨fun _ => fresh A hX hob.1 hob.2, fun k hk => by cases hk⟩
          · rename_i oo st len cp hxv
            split at hc
            · rename_i s' n row hoo
              replace hoo : nth .free s.heap oo = .rows s' n row := hoo
              cases hb2 : (st == s' && st == ei.size) with
              | false => rw [hb2] at hc; simp at hc
              | true =>
                rw [hb2] at hc
                simp only [cond_true, Option.some.injEq, Out.mk.injEq] at hc; obtain ⟨rfl, rfl, rfl, rfl⟩ := hc
                rw [Bool.and_eq_true] at hb2
                have q1 : st = s' := by simpa using hb2.1
                have q2 : st = ei.size := by simpa using hb2.2
                subst q1; subst q2
                rw [conj_append] at hob
                obtain ⟨h1, h2, h3, h4, h5⟩ := hob
                rw [hxv] at hx
                obtain ⟨v, w', hr, hv, hH, hS, hsz⟩ := append_inplace hT H e0 e1 hz hs h1 hy hx hoo h2 h3 h5 o.type
                exact ⟨fun _ => goes_to (call_append hop hcal hargs hty hr) hv hH ⟨hS, fun _ x => x, fun _ _ x => x, fun _ x => .inl x, hsz, fun _ _ _ x => .inl x⟩, fun k hk => by cases hk⟩
            · simp at hc
          · rename_i oo st len hxv
            split at hc
            · rename_i s' n row hoo
              replace hoo : nth .free s.heap oo = .rows s' n row := hoo
              cases hb2 : (st == s' && (st == ei.size && Nat.ble base oo)) with
              | false => rw [hb2] at hc; simp at hc
              | true =>
                rw [hb2] at hc
                simp only [cond_true, Option.some.injEq, Out.mk.injEq] at hc; obtain ⟨rfl, rfl, rfl, rfl⟩ := hc
                rw [Bool.and_eq_true, Bool.and_eq_true] at hb2
                have q1 : st = s' := by simpa using hb2.1
                have q2 : st = ei.size := by simpa using hb2.2.1
                subst q1; subst q2
                rw [conj_append] at hob
                obtain ⟨h1, h2, h3, h4⟩ := hob
                subst h2
                rw [hxv] at hx
                obtain ⟨v, w', b', κ', hr, hv, hH, hS, hsz, hnb⟩ := append_grow hT H e0 e1 hz hby hs h1 hy hx hoo h3 h4 o.type
                obtain ⟨b, κ, hg, _⟩ := inv_sl hx
                refine ⟨(fun hk => by cases hk), fun k hk => ?_⟩
                simp only [Option.some.injEq] at hk; subst hk
                exact ⟨ble_le hb2.2.2, lt_of_gh H hg, goesK_to (call_append hop hcal hargs hty hr) hv hH hS hsz (fun o' x e hx => by simp [ext, e, hx]) (fun o' b₂ κ₂ hb₂ => by
                  by_cases e : o' = oo
                  · subst e
                    simp [ext] at hb₂
                    obtain ⟨rfl, rfl⟩ := hb₂
                    exact hnb.imp id .inl
                  · simp [ext, e] at hb₂; exact .inl hb₂)⟩
            · simp at hc
          · simp at hc
        · simp at hc
    · simp at hc
  · simp at hc
end
end Go.Proofs.YtnnoplgabnfdiaaGreatDoor.Sh
/- The shadow machine: more operations: maps that are empty, texts, nil, type assertions. -/
namespace Go.Proofs.YtnnoplgabnfdiaaGreatDoor.Sh
open Go Go.RowKit
set_option linter.unusedVariables false
set_option linter.unusedSimpArgs false
section
variable {D : List Deferred} {P : Program} {T : Tab} {B0 : Nat} {w0 w w' : World} {Fz F2 : Nat → Prop} {g g' : Gh} {h : List AO} {a : Act} {o : Oper} {ob : List Prop} {val : AV} {upd : List (Nat × AO)}
variable {G : Env} {eqs : List Nat} {base nid : Nat} {ch : List (Nat × Bool)} {s : AState} {kl : Option Nat}

theorem equalIn_ptr (n : Nat) {t e : TypeId} (hd : (underlying t).run P w = .ok (.pointer e) w) (x y : Option Addr) (h : x = none ∨ y = none) : (Op.equalIn (n + 1) t (.pointer x) (.pointer y)).run P w = .ok (x.isNone && y.isNone) w := by
  rcases h with h | h
  · subst h; simp only [Op.equalIn, Sem.run_bind, hd, Result.andThen_ok, Sem.run_pure, Option.isNone_none, Bool.true_and]
  · subst h
    cases x with
    | none => simp only [Op.equalIn, Sem.run_bind, hd, Result.andThen_ok, Sem.run_pure, Option.isNone_none, Bool.true_and]
    | some x => simp only [Op.equalIn, Sem.run_bind, hd, Result.andThen_ok, Sem.run_pure, Option.isNone_some, Bool.false_and]
def isFn : Value → Bool
  | .func .. | .nilFunc => true
  | _ => false
theorem equalIn_fn (n : Nat) {t : TypeId} {d : TypeDesc} (hd : (underlying t).run P w = .ok d w) (hk : kOK d .func) (f : Fn) (u v : Array Value) :
    (Op.equalIn (n + 1) t (.func f u v) .nilFunc).run P w = .ok false w ∧ (Op.equalIn (n + 1) t .nilFunc (.func f u v)).run P w = .ok false w ∧ (Op.equalIn (n + 1) t .nilFunc .nilFunc).run P w = .ok true w := by
  cases d <;> simp only [kOK] at hk
  refine ⟨?_, ?_, ?_⟩ <;> simp only [Op.equalIn, Sem.run_bind, hd, Result.andThen_ok, Sem.run_pure]
theorem equalIn_iface (n : Nat) {t : TypeId} {d : TypeDesc} (hd : (underlying t).run P w = .ok d w) (hk : kOK d .iface) (u : TypeId) (v : Value) :
    (Op.equalIn (n + 1) t (.iface u v) .nilIface).run P w = .ok false w ∧ (Op.equalIn (n + 1) t .nilIface (.iface u v)).run P w = .ok false w := by
  cases d <;> simp only [kOK] at hk
  refine ⟨?_, ?_⟩ <;> simp only [Op.equalIn, Sem.run_bind, hd, Result.andThen_ok, Sem.run_pure]
theorem equalIn_nilif (n : Nat) {t : TypeId} {d : TypeDesc} (hd : (underlying t).run P w = .ok d w) (hk : kOK d .iface) : (Op.equalIn (n + 1) t .nilIface .nilIface).run P w = .ok true w := by
  cases d <;> simp only [kOK] at hk
  simp only [Op.equalIn, Sem.run_bind, hd, Result.andThen_ok, Sem.run_pure]
theorem eql_run {op : BinOp} {t : TypeId} {c d : Value} {b : Bool} {r : Out} {X Y : Operand} (h : eqlOr op b = some r) (hg : ∀ op, (eqGuard op t X Y c d).run P w = .ok () w)
    (he : (binOp .eql t c d).run P w = .ok (.bool b) w) (hn : (binOp .neq t c d).run P w = .ok (.bool (!b)) w) :
    ∃ e, (do eqGuard op t X Y c d; binOp op t c d : Sem Value).run P w = .ok e w ∧ VR w Fz g r.val e ∧ r.upd = [] ∧ r.kill = none := by
  cases op <;> simp [eqlOr] at h <;> subst h
  · exact ⟨_, by simp only [Sem.run_bind, hg, Result.andThen_ok, he], .bool _, rfl, rfl⟩
  · exact ⟨_, by simp only [Sem.run_bind, hg, Result.andThen_ok, hn], .bool _, rfl, rfl⟩
theorem guard_ptr {op : BinOp} {t : TypeId} {X Y : Operand} {x y : Option Addr} : (eqGuard op t X Y (.pointer x) (.pointer y)).run P w = .ok () w := by
  cases op <;> simp [eqGuard]
theorem bin_ptr {t e : TypeId} {x y : Option Addr} (hd : (underlying t).run P w = .ok (.pointer e) w) (h : x = none ∨ y = none) : (binOp .eql t (.pointer x) (.pointer y)).run P w = .ok (.bool (x.isNone && y.isNone)) w ∧ (binOp .neq t (.pointer x) (.pointer y)).run P w = .ok (.bool (!(x.isNone && y.isNone))) w := by
  have := equalIn_ptr (P := P) (w := w) 9999 hd x y h
  refine ⟨?_, ?_⟩ <;> (simp only [binOp, Sem.run_bind, Op.equal, Op.maxDepth, this, Result.andThen_ok, Sem.run_pure])
theorem binop2_run (hT : TabOK P T) {op : BinOp} {t : TypeId} {x y : AV} {r : Out} {c d : Value} (X Y : Operand) (h : binop2 T op t x y = some r) (hob : conj r.ob) (hx : VR w Fz g x c) (hy : VR w Fz g y d) :
    ∃ e, (do eqGuard op t X Y c d; binOp op t c d : Sem Value).run P w = .ok e w ∧ VR w Fz g r.val e ∧ r.upd = [] ∧ r.kill = none := by
  have ptr : ∀ {b : Bool} {x y : Option Addr}, (match T.get t with | some ⟨.ptr _, _, _, _⟩ => eqlOr op b | _ => none) = some r → (x = none ∨ y = none) → (x.isNone && y.isNone) = b → c = .pointer x → d = .pointer y → ∃ e, (do eqGuard op t X Y c d; binOp op t c d : Sem Value).run P w = .ok e w ∧ VR w Fz g r.val e ∧ r.upd = [] ∧ r.kill = none := fun {b x y} h hxy hb hc hd => by
    subst hc; subst hd
    split at h
    · rename_i e0 sz by_ z heq
      obtain ⟨dd, hd, hk⟩ := hT.und (w := w) heq
      simp only [kOK] at hk; subst hk
      have := bin_ptr (P := P) (w := w) hd hxy
      rw [hb] at this
      exact eql_run h (fun _ => guard_ptr) this.1 this.2
    · simp at h
  have fnn : ∀ {b : Bool}, (match T.get t with | some ⟨.func, _, _, _⟩ => eqlOr op b | _ => none) = some r → isFn c = true → isFn d = true → (b = true → c = .nilFunc ∧ d = .nilFunc) → (b = false → ¬ (c = .nilFunc ∧ d = .nilFunc)) → (c = .nilFunc ∨ d = .nilFunc) → ∃ e, (do eqGuard op t X Y c d; binOp op t c d : Sem Value).run P w = .ok e w ∧ VR w Fz g r.val e ∧ r.upd = [] ∧ r.kill = none := fun {b} h hc hd hb1 hb2 hor => by
    split at h
    · rename_i sz by_ z heq
      obtain ⟨dd, hu, hk⟩ := hT.und (w := w) heq
      have heq3 := fun f u v => equalIn_fn (P := P) (w := w) 9999 hu hk f u v
      have hbin : ∀ b', (Op.equal t c d).run P w = .ok b' w → b' = b → ∃ e, (do eqGuard op t X Y c d; binOp op t c d : Sem Value).run P w = .ok e w ∧ VR w Fz g r.val e ∧ r.upd = [] ∧ r.kill = none := fun b' he hbb => by
        subst hbb
        refine eql_run h (fun op => ?_) ?_ ?_
        · cases c <;> simp [isFn] at hc <;> cases d <;> simp [isFn] at hd <;> cases op <;> simp [eqGuard]
        · cases c <;> simp [isFn] at hc <;> cases d <;> simp [isFn] at hd <;> simp only [binOp, Sem.run_bind, he, Result.andThen_ok, Sem.run_pure]
        · cases c <;> simp [isFn] at hc <;> cases d <;> simp [isFn] at hd <;> simp only [binOp, Sem.run_bind, he, Result.andThen_ok, Sem.run_pure]
      cases c <;> simp [isFn] at hc <;> cases d <;> simp [isFn] at hd
      · rcases hor with h | h <;> cases h
      · refine hbin false (heq3 _ _ _).1 ?_
        cases b with
        | false => rfl
        | true => obtain ⟨h, _⟩ := hb1 rfl; cases h
      · refine hbin false (heq3 _ _ _).2.1 ?_
        cases b with
        | false => rfl
        | true => obtain ⟨_, h⟩ := hb1 rfl; cases h
      · refine hbin true (heq3 (.func 0) #[] #[]).2.2 ?_
        cases b with
        | true => rfl
        | false => exact (hb2 rfl ⟨rfl, rfl⟩).elim
    · simp at h
  have pv : ∀ {o N s i j : Nat} {c : Value}, VR w Fz g (.ptr o N s i j) c → ∃ ad, c = .pointer (some ad) := fun h => by cases h; exact ⟨_, rfl⟩
  have rv : ∀ {s : Nat} {row : Nat → List RV} {i j : Nat} {c : Value}, VR w Fz g (.rp s row i j) c → ∃ ad, c = .pointer (some ad) := fun h => by cases h; exact ⟨_, rfl⟩
  have fv : ∀ {f : FuncId} {us vs : List AV} {c : Value}, VR w Fz g (.fn f us vs) c → isFn c = true ∧ c ≠ .nilFunc := fun h => by cases h; exact ⟨rfl, by simp⟩
  have nv : ∀ {c : Value}, VR w Fz g .nilp c → c = .pointer none := fun h => by cases h; rfl
  have nf : ∀ {c : Value}, VR w Fz g .nilfn c → c = .nilFunc := fun h => by cases h; rfl
  unfold binop2 at h
  split at h
  · rename_i p q
    cases hx; cases hy
    split at h
    · simp only [Option.some.injEq] at h
      subst h
      have hsz : p.size + q.size ≤ 9223372036854775807 := hob
      have hm : IntKind.i64.max = 9223372036854775807 := rfl
      exact ⟨.string (p ++ q), by simp [eqGuard, binOp, Op.stringOp, hm]; omega, .str _, rfl, rfl⟩
    · refine eql_run h (fun op => by cases op <;> simp [eqGuard]) ?_ ?_
      · simp [binOp, Op.stringOp, ByteArray.toList_eq]
      · simp [binOp, Op.stringOp, ByteArray.toList_eq]
  · obtain ⟨ad, e1⟩ := pv hx; exact ptr h (.inr rfl) rfl e1 (nv hy)
  · obtain ⟨ad, e1⟩ := pv hy; exact ptr h (.inl rfl) rfl (nv hx) e1
  · obtain ⟨ad, e1⟩ := rv hx; exact ptr h (.inr rfl) rfl e1 (nv hy)
  · obtain ⟨ad, e1⟩ := rv hy; exact ptr h (.inl rfl) rfl (nv hx) e1
  · exact ptr h (.inl rfl) rfl (nv hx) (nv hy)
  · obtain ⟨e1, e2⟩ := fv hx
    have e3 := nf hy
    exact fnn h e1 (by rw [e3]; rfl) (fun e => by cases e) (fun _ hh => e2 hh.1) (.inr e3)
  · obtain ⟨e1, e2⟩ := fv hy
    have e3 := nf hx
    exact fnn h (by rw [e3]; rfl) e1 (fun e => by cases e) (fun _ hh => e2 hh.2) (.inl e3)
  · have e3 := nf hx; have e4 := nf hy
    exact fnn h (by rw [e3]; rfl) (by rw [e4]; rfl) (fun _ => ⟨e3, e4⟩) (fun e => by cases e) (.inl e3)
  · rename_i tt v
    have e2 : d = .nilIface := by cases hy; rfl
    obtain ⟨vv, e1, _⟩ := inv_iface hx
    subst e1; subst e2
    split at h
    · rename_i sz by_ z heq
      obtain ⟨dd, hu, hk⟩ := hT.und (w := w) heq
      have := (equalIn_iface (P := P) (w := w) 9999 hu hk tt vv).1
      exact eql_run h (fun op => by cases op <;> simp [eqGuard]) (by simp only [binOp, Sem.run_bind, Op.equal, Op.maxDepth, this, Result.andThen_ok, Sem.run_pure]) (by simp only [binOp, Sem.run_bind, Op.equal, Op.maxDepth, this, Result.andThen_ok, Sem.run_pure])
    · simp at h
  · rename_i tt v
    have e2 : c = .nilIface := by cases hx; rfl
    obtain ⟨vv, e1, _⟩ := inv_iface hy
    subst e1; subst e2
    split at h
    · rename_i sz by_ z heq
      obtain ⟨dd, hu, hk⟩ := hT.und (w := w) heq
      have := (equalIn_iface (P := P) (w := w) 9999 hu hk tt vv).2
      exact eql_run h (fun op => by cases op <;> simp [eqGuard]) (by simp only [binOp, Sem.run_bind, Op.equal, Op.maxDepth, this, Result.andThen_ok, Sem.run_pure]) (by simp only [binOp, Sem.run_bind, Op.equal, Op.maxDepth, this, Result.andThen_ok, Sem.run_pure])
    · simp at h
  · simp at h
theorem extract_data (s : ByteArray) (i : Nat) (h : i < s.size) : s[i]? = some (s.data.toList.getD i 0) := by
  have h' : i < s.data.size := h
  rw [getElem?_pos s i h]
  show some s.data[i] = _
  simp [List.getD_eq_getElem?_getD]
  rw [Array.getElem?_eq_getElem h']; rfl
theorem getObj_run {b : Nat} {es : Array MapEntry} {n : Nat} (h : w.heap[b]? = some (.map es n)) : (getObj b).run P w = .ok (.map es n) w := by
  simp [getObj, Sem.run, h]
theorem checkKey_run (n : Nat) {k : TypeId} {d : TypeDesc} (hd : (underlying k).run P w = .ok d w) (h1 : ∀ m, d ≠ .interface m) (h2 : ∀ m e, d ≠ .array m e) (h3 : ∀ f, d ≠ .struct f) {e : Bool} {v : Value} : (Instr.checkKey e (n + 1) k v).run P w = .ok () w := by
  simp only [Instr.checkKey, Sem.run_bind, hd, Result.andThen_ok]
  cases d <;> first | (exact (h1 _ rfl).elim) | (exact (h2 _ _ rfl).elim) | (exact (h3 _ rfl).elim) | (cases v <;> simp)
theorem setMap_run {b : Nat} {es : Array MapEntry} {n : Nat} {x : Obj} (h : w.heap[b]? = some (.map es n)) : (setObj b x).run P w = .ok () { w with heap := w.heap.setIfInBounds b x } := by
  simp [setObj, Sem.run, h]
theorem HR.setMap {oo b : Nat} {es : Array MapEntry} {n : Nat} (H : HR B0 w0 w Fz g h) (ho : oo < h.length) (hb : Has g oo (nth .free h oo) b) (hgo : ∃ κ, g oo = some (b, κ)) :
    HR B0 w0 { w with heap := w.heap.setIfInBounds b (.map es n) } Fz g (put1 oo .xmap h) ∧ Same Fz w { w with heap := w.heap.setIfInBounds b (.map es n) } := by
  obtain ⟨h1, h2, h3⟩ := H.own oo b ho hb
  have hother : ∀ k, k ≠ b → (w.heap.setIfInBounds b (.map es n))[k]? = w.heap[k]? := fun k hk => by
    rw [Array.getElem?_setIfInBounds, if_neg (by omega)]
  have hFs : Same Fz w { w with heap := w.heap.setIfInBounds b (.map es n) } := fun k hk => hother k (fun e => h3 (e ▸ hk))
  have hbel : Below B0 w { w with heap := w.heap.setIfInBounds b (.map es n) } := ⟨rfl, rfl, rfl, by simp, fun k hk => hother k (by omega)⟩
  obtain ⟨κ, hg⟩ := hgo
  refine ⟨H.change (H.below.trans hbel) (by simp) (Nat.le_of_lt ho) (fun k hk hc => ?_) (fun _ _ => rfl) (fun _ x => x) ⟨b, κ, es, n, hg, ?_⟩ (fun b' hb' => ?_), hFs⟩
  · rcases hc with hc | ⟨o', e, hl, hh'⟩
    · exact hFs k hc
    · exact hother k (fun ek => e (H.sep o' oo b hl ho (ek ▸ hh') hb))
  · show (w.heap.setIfInBounds b (.map es n))[b]? = _
    rw [Array.getElem?_setIfInBounds, if_pos rfl, if_pos h2]
  · obtain ⟨κ', e⟩ := hb'
    rw [hg] at e
    simp only [Option.some.injEq, Prod.mk.injEq] at e
    rw [← e.1]
    exact ⟨h1, by simpa using h2, h3, fun o' e hl hh' => e (H.sep o' oo b hl ho hh' hb)⟩
theorem keyOk_check {k : TypeId} {ki : TI} (hT : TabOK P T) (h0 : T.get k = some ki) (hk : keyOk ki.k = true) (e : Bool) (v : Value) : (Instr.checkKey e 10000 k v).run P w = .ok () w ∧ ∃ d, (underlying k).run P w = .ok d w := by
  obtain ⟨d, hd, hkk⟩ := hT.und (w := w) h0
  refine ⟨?_, d, hd⟩
  cases hq : ki.k <;> rw [hq] at hk hkk <;> simp [keyOk] at hk <;> simp only [kOK] at hkk <;> subst hkk
  · exact checkKey_run 9999 hd (fun _ => by simp) (fun _ _ => by simp) (fun _ => by simp)
  · exact checkKey_run 9999 hd (fun _ => by simp) (fun _ _ => by simp) (fun _ => by simp)
theorem map_obj (H : HR B0 w0 w Fz g h) {o b κ : Nat} (hg : g o = some (b, κ)) (ho : nth .free h o = .emap) : w.heap[b]? = some (.map #[] 0) ∧ o < h.length ∧ Has g o (nth .free h o) b := by
  have hl : o < h.length := by
    rcases Nat.lt_or_ge o h.length with e | e
    · exact e
    · rw [H.free o e] at hg; cases hg
  have := H.objs o hl
  rw [ho] at this
  obtain ⟨b', κ', e1, e2⟩ := this
  rw [hg] at e1
  obtain ⟨rfl, rfl⟩ : b = b' ∧ κ = κ' := by simpa using e1
  exact ⟨e2, hl, by rw [ho]; exact ⟨κ, hg⟩⟩
theorem und_some {t : TypeId} {d : TypeDesc} (h : (underlying t).run P w = .ok d w) : P.underlying t = some d := by
  cases hu : P.underlying t with
  | none => simp [underlying, hu, stuck] at h
  | some d' => rw [run_underlying hu] at h; simp at h; rw [h]
/-- A text's bytes, that stay. -/
theorem bytes_goes {h : List AO} (H : HR B0 w0 w Fz g h) {t u e : TypeId} {x : Operand} {bs : ByteArray} (hx : execOp a.eval o = (do pure (Next.value (← convert t u (a.eval x))))) (hX : a.eval x = .string bs)
    (h1 : P.underlying t = some .string) (h2 : P.underlying u = some (.slice e)) (h3 : P.underlying e = some (.int .u8)) : Goes P B0 w0 w Fz g a o (.ro 1 bs.size none fun i => [.int .u8 (byteAt bs i)]) h := fun K Q hK => by
  have hr : (execOp a.eval o).run P w = .ok (.value (.slice (some ⟨w.heap.size, 0, none⟩) bs.size (grownCap w bs.size 0 e))) (Lib.bytesWorld w e bs) := by
    rw [hx, hX]
    simp [Lib.run_convert_string_bytes w t u e bs h1 h2 h3]
  unfold Oper.wp
  rw [hr, Oper.upon_value]
  have hold : ∀ b, b < w.heap.size → (Lib.bytesWorld w e bs).heap[b]? = w.heap[b]? := fun b hb => Lib.bytesWorld_at_old w e bs b hb
  have hsz : w.heap.size ≤ (Lib.bytesWorld w e bs).heap.size := by rw [Lib.bytesWorld_size]; omega
  have hB : Below B0 w0 (Lib.bytesWorld w e bs) := ((H.below.drew).alloc H.base (.cells (Lib.bytesCells w e bs) e)).trans ⟨rfl, rfl, rfl, by simp [World.freeze, Lib.bytesWorld], fun k hk => by
    have : w.heap.size ≠ k := by have := H.base; omega
    simp [Lib.bytesWorld, World.freeze, Array.getElem?_modify, this]⟩
  have hn : ∀ b, (Fz b ∨ b = w.heap.size) → Fz b ∨ w.heap.size ≤ b := fun b hb => hb.imp id (fun e => by omega)
  have hlt : ∀ b, (Fz b ∨ b = w.heap.size) → b < (Lib.bytesWorld w e bs).heap.size := fun b hb => by
    rw [Lib.bytesWorld_size]
    rcases hb with hb | hb
    · have := H.fz b hb; omega
    · omega
  refine hK _ _ (fun b => Fz b ∨ b = w.heap.size) g ?_ (H.stillF hB hsz hold (fun b hb => .inl hb) hn hlt) ⟨fun b hb => hold b (H.fz b hb), fun b hb => .inl hb, fun _ _ x => x, hn, hsz, fun _ _ _ x => .inl x⟩
  refine .ro _ _ _ _ _ (.ro _ _ _ _ _ _ (fun i j => .int .u8 (bs.data.toList.getD i 0).toNat) (grownCap_ge _ _ _ _) (fun n hn => by cases hn) (fun i hi j hj => ?_) (fun i hi j hj => ?_))
  · have hi' : i < bs.size := hi
    have hj' : j = 0 := by omega
    subst hj'
    refine ⟨_, rfl, .inr rfl, ?_⟩
    rw [add_mk, show 0 + (i * 1 + 0) = i by omega]
    exact Lib.bytesWorld_cell w e bs i hi'
  · have hj' : j = 0 := by omega
    subst hj'
    exact .int _ _
section ops
variable (F : FR D w Fz g s.tmps a) (H : HR B0 w0 w Fz g s.heap) (hch : Chained ch a)
include F H hch
theorem core2_goes (hob : conj ob) (hT : TabOK P T) (hn : nid ≤ s.heap.length) (hfree : nth .free s.heap nid = .free) (hc : core2 T o.op ch s nid = some ⟨ob, val, upd, kl⟩) : Goes P B0 w0 w Fz g a o val (apply upd s.heap) ∧ kl = none := by
  have hgn : g nid = none := by
    by_cases e : nid < s.heap.length
    · have := H.objs nid e; rw [hfree] at this; exact this
    · exact H.free nid (by omega)
  unfold core2 at hc
  split at hc
  · rename_i op t x y u hop
    split at hc
    · rename_i q ex ey
      have hX : a.eval x = .nilIface := by have := ev_vr F hch x; rw [ex] at this; generalize a.eval x = c at this; cases this; rfl
      have hY : a.eval (.const q) = .nilIface := by have := ev_vr F hch (.const q); rw [ey] at this; generalize a.eval (.const q) = c at this; cases this; rfl
      split at hc
      · rename_i sz by_ z heq
        obtain ⟨dd, hu, hk⟩ := hT.und (w := w) heq
        have he : (Op.equal t .nilIface .nilIface).run P w = .ok true w := by
          exact equalIn_nilif 9999 hu hk
        obtain ⟨e, hr, hv, hup, hkl⟩ := eql_run (P := P) (w := w) (Fz := Fz) (g := g) (t := t) (c := .nilIface) (d := .nilIface) (X := x) (Y := .const q) hc (fun op => by cases op <;> simp [eqGuard]) (by simp only [binOp, Sem.run_bind, he, Result.andThen_ok, Sem.run_pure]) (by simp only [binOp, Sem.run_bind, he, Result.andThen_ok, Sem.run_pure])
        simp only at hup hkl hv
        subst hup; subst hkl
        exact ⟨goes_sem (e := do eqGuard op t x (.const q) (a.eval x) (a.eval (.const q)); binOp op t (a.eval x) (a.eval (.const q))) (by simp only [execOp, hop]) (by rw [hX, hY]; exact hr) hv H, rfl⟩
      · simp at hc
    rename_i yy q1 q2 q3 q4
    obtain ⟨e, hr, hv, hu, hk⟩ := binop2_run (P := P) (w := w) (Fz := Fz) (g := g) hT x yy hc hob (ev_vr F hch x) (ev_vr F hch yy)
    simp only at hu hk hv
    subst hu; subst hk
    exact ⟨goes_sem (by simp only [execOp, hop]) hr hv H, rfl⟩
  · rename_i t hop
    split at hc
    · rename_i k e sz by_ z e0
      simp only [Option.some.injEq, Out.mk.injEq] at hc; obtain ⟨_, rfl, rfl, rfl⟩ := hc
      have hnew : (w.alloc (.map #[] 0)).heap[w.heap.size]? = some (.map #[] 0) := by
        show (w.heap.push _)[w.heap.size]? = _; simp
      have hFs : ∀ b, Fz b → (w.alloc (.map #[] 0)).heap[b]? = w.heap[b]? := fun b hb => Below.heap_alloc _ _ _ (H.fz b hb)
      have hsz : w.heap.size ≤ (w.alloc (.map #[] 0)).heap.size := by show w.heap.size ≤ (w.heap.push _).size; simp
      have hle : ∀ o x, g o = some x → ext g nid (w.heap.size, 0) o = some x := fun o x hx => by
        by_cases e : o = nid
        · subst e; rw [hgn] at hx; cases hx
        · simp [ext, e, hx]
      have H' : HR B0 w0 (w.alloc (.map #[] 0)) Fz (ext g nid (w.heap.size, 0)) (put1 nid .emap s.heap) :=
        H.change (H.below.alloc H.base _) hsz hn (fun b hb _ => Below.heap_alloc _ _ _ hb) (fun o' e => by simp [ext, e]) (fun x hx => by rw [hgn] at hx; cases hx) ⟨w.heap.size, 0, by simp [ext], hnew⟩ (fun b hb => by
          obtain ⟨κ', e⟩ := hb
          simp [ext] at e
          rw [← e.1]
          exact ⟨H.base, by show w.heap.size < (w.heap.push _).size; simp, fun hf => Nat.lt_irrefl _ (H.fz _ hf), fun o' e hl hh => Nat.lt_irrefl _ (H.own o' _ hl hh).2.1⟩)
      refine ⟨goes_semTo (e := Instr.makeMap t none) (c := .map (some w.heap.size)) (w' := w.alloc (.map #[] 0)) (by simp only [execOp, hop, Option.map_none]) ?_ (.mp nid w.heap.size 0 (by simp [ext])) H' ⟨hFs, fun _ x => x, hle, fun _ x => .inl x, hsz, ext_newg⟩, rfl⟩
      simp [Instr.makeMap]
    · simp at hc
  · rename_i t x ix ok hop
    split at hc
    · rename_i k e sz by_ z oo e0 e1
      split at hc
      · rename_i ki ei e2 e3 e4
        cases hk : keyOk ki.k with
        | false => rw [hk] at hc; simp at hc
        | true =>
          rw [hk] at hc
          simp only [cond_true, Option.some.injEq, Out.mk.injEq] at hc; obtain ⟨_, rfl, rfl, rfl⟩ := hc
          have hx := ev_vr F hch x
          rw [e1] at hx
          generalize hX : a.eval x = X at hx
          cases hx with | mp _ b κ hg =>
          obtain ⟨q1, q2, q3⟩ := map_obj H hg e2
          obtain ⟨d, hd, hkk⟩ := hT.und (w := w) e0
          simp only [kOK] at hkk; subst hkk
          obtain ⟨zv, hz, hzv, _, _⟩ := hT.zero (w := w) e4
          obtain ⟨c1, dk, c2⟩ := keyOk_check (P := P) (w := w) hT e3 hk true (a.eval ix)
          have hrun : (Instr.lookup t (.map (some b)) (a.eval ix) ok).run P w = .ok (if ok then .tuple #[zv, .bool false] else zv) w := by
            simp only [Instr.lookup, Sem.run_bind, hd, Result.andThen_ok, getObj_run q1, Sem.run_pure, Instr.findKey, Instr.findNow, hz, c2, Array.isEmpty_empty, c1]
          refine ⟨goes_sem (e := Instr.lookup t (a.eval x) (a.eval ix) ok) (by simp only [execOp, hop]) (by rw [hX]; exact hrun) ?_ H, rfl⟩
          cases ok with
          | false => exact hzv _ _ _
          | true =>
            refine .tup _ _ rfl fun i hi => ?_
            match i, hi with
            | 0, _ => exact hzv _ _ _
            | 1, _ => exact .bool _
      · simp at hc
    · simp at hc
  · rename_i t m k x hop
    split at hc
    · rename_i kt e sz by_ z oo e0 e1
      split at hc
      · rename_i ki e2 e3
        cases hk : keyOk ki.k with
        | false => rw [hk] at hc; simp at hc
        | true =>
          rw [hk] at hc
          simp only [cond_true, Option.some.injEq, Out.mk.injEq] at hc; obtain ⟨_, rfl, rfl, rfl⟩ := hc
          have hx := ev_vr F hch m
          rw [e1] at hx
          generalize hX : a.eval m = X at hx
          cases hx with | mp _ b κ hg =>
          obtain ⟨q1, q2, q3⟩ := map_obj H hg e2
          obtain ⟨d, hd, hkk⟩ := hT.und (w := w) e0
          simp only [kOK] at hkk; subst hkk
          obtain ⟨c1, dk, c2⟩ := keyOk_check (P := P) (w := w) hT e3 hk false (a.eval k)
          obtain ⟨r1, r2⟩ := H.setMap (es := #[{ key := a.eval k, val := a.eval x, born := 0 }]) (n := 1) q2 q3 ⟨κ, hg⟩
          refine ⟨goes_skip (w' := { w with heap := w.heap.setIfInBounds b (.map #[{ key := a.eval k, val := a.eval x, born := 0 }] 1) }) ?_ r1 ⟨r2, fun _ x => x, fun _ _ x => x, fun _ x => .inl x, by simp, fun _ _ _ x => .inl x⟩, rfl⟩
          have hrun : (Instr.mapUpdate t (.map (some b)) (a.eval k) (a.eval x)).run P w = .ok () { w with heap := w.heap.setIfInBounds b (.map #[{ key := a.eval k, val := a.eval x, born := 0 }] 1) } := by
            simp only [Instr.mapUpdate, Sem.run_bind, hd, Result.andThen_ok, getObj_run q1, Sem.run_pure, Instr.findKey, Instr.findNow, c2, c1]
            exact setMap_run q1
          simp only [execOp, hop, hX, Sem.run_bind, hrun, Result.andThen_ok, Sem.run_pure]
      · simp at hc
    · simp at hc
  · rename_i t x ix hop
    split at hc
    · rename_i sz by_ z bs kk q e0 e1 e2
      simp only [Option.some.injEq, Out.mk.injEq] at hc; obtain ⟨rfl, rfl, rfl, rfl⟩ := hc
      obtain ⟨d, hd, hkk⟩ := hT.und (w := w) e0
      simp only [kOK] at hkk; subst hkk
      have hx := ev_vr F hch x
      rw [e1] at hx
      have hX : a.eval x = .string bs := by generalize a.eval x = c at hx; cases hx; rfl
      have hI := intOf_vr e2 (ev_vr F hch ix)
      obtain ⟨h0, h1⟩ : 0 ≤ q ∧ q < bs.size := hob
      refine ⟨goes_sem (e := Instr.index t (a.eval x) (a.eval ix)) (c := .int .u8 (byteAt bs q.toNat)) (by simp only [execOp, hop]) ?_ (.int _ _) H, rfl⟩
      simp [Instr.index, hX, hI, asIntOf, hd, h0, extract_data bs q.toNat (by omega), byteAt]
    · simp at hc
  · rename_i t x lo hi hop
    have hx := ev_vr F hch x
    have hbv : ∀ (q : Option Operand) y, q.map (ev ch s) = some y → ∃ u, q.map a.eval = some u ∧ VR w Fz g y u := fun q y hy => by
      cases q with
      | none => cases hy
      | some q => simp only [Option.map_some, Option.some.injEq] at hy; subst hy; exact ⟨_, rfl, ev_vr F hch q⟩
    have hbn : ∀ (q : Option Operand), q.map (ev ch s) = none → q.map a.eval = none := fun q hq => by cases q <;> simp_all
    have hexec : execOp a.eval o = (do pure (Next.value (← Instr.sliceAt t (a.eval x) (lo.map a.eval) (hi.map a.eval) none))) := by simp only [execOp, hop, Option.map_none]
    split at hc
    · rename_i sz by_ z bs e0 e1
      split at hc
      · rename_i hb hh lb l e3 e4
        simp only [Option.some.injEq, Out.mk.injEq] at hc; obtain ⟨rfl, rfl, rfl, rfl⟩ := hc
        obtain ⟨hob1, hob2⟩ : loOk hb bs.size ∧ loOk lb hh := hob
        rw [e1] at hx
        have hX : a.eval x = .string bs := by generalize a.eval x = c at hx; cases hx; rfl
        obtain ⟨r1, r2, r3⟩ := bound_run (P := P) (w := w) (code := .sliceAlen) e3 (hbv hi) (hbn hi) hob1
        obtain ⟨s1, s2, s3⟩ := bound_run (P := P) (w := w) (code := .sliceB) e4 (hbv lo) (hbn lo) hob2
        obtain ⟨d, hd, hkk⟩ := hT.und (w := w) e0
        simp only [kOK] at hkk; subst hkk
        have hsb : (Instr.sliceBounds false bs.size bs.size (lo.map a.eval) (hi.map a.eval) none).run P w = .ok (l, hh, bs.size) w := by
          generalize lo.map a.eval = lo' at s1
          generalize hi.map a.eval = hi' at r1
          cases hi' <;> cases lo' <;> simp only at r1 s1 <;> simp [Instr.sliceBounds, r1, s1]
          all_goals first
            | (simp at r1 s1; omega)
            | (simp at r1; subst r1; simp [s1])
        refine ⟨goes_sem hexec (c := .string (bs.extract l hh)) ?_ (.str _) H, rfl⟩
        rw [hX]
        simp [Instr.sliceAt, Instr.slice, hd, hsb]
      · simp at hc
    · simp at hc
  · rename_i t u x hop
    split at hc
    · rename_i sz by_ z sz' by' z' bs e0 e1 e2
      simp only [Option.some.injEq, Out.mk.injEq] at hc; obtain ⟨_, rfl, rfl, rfl⟩ := hc
      obtain ⟨d, hd, hkk⟩ := hT.und (w := w) e0
      obtain ⟨d', hd', hkk'⟩ := hT.und (w := w) e1
      simp only [kOK] at hkk hkk'; subst hkk; subst hkk'
      have hx := ev_vr F hch x
      rw [e2] at hx
      have hX : a.eval x = .string bs := by generalize a.eval x = c at hx; cases hx; rfl
      exact ⟨goes_sem (e := convert t u (a.eval x)) (c := .string bs) (by simp only [execOp, hop]) (by simp [convert, hd, hd', hX]) (.str _) H, rfl⟩
    · rename_i sz by_ z e sz' by' z' bs e0 e1 e2
      split at hc
      · rename_i sz2 by2 z2 e3
        simp only [Option.some.injEq, Out.mk.injEq] at hc; obtain ⟨_, rfl, rfl, rfl⟩ := hc
        obtain ⟨d, hd, hkk⟩ := hT.und (w := w) e0
        obtain ⟨d', hd', hkk'⟩ := hT.und (w := w) e1
        obtain ⟨d2, hd2, hkk2⟩ := hT.und (w := w) e3
        simp only [kOK] at hkk hkk' hkk2; subst hkk; subst hkk'; subst hkk2
        have hx := ev_vr F hch x
        rw [e2] at hx
        have hX : a.eval x = .string bs := by generalize a.eval x = c at hx; cases hx; rfl
        exact ⟨bytes_goes H (by simp only [execOp, hop]) hX (und_some hd) (und_some hd') (und_some hd2), rfl⟩
      · simp at hc
    · simp at hc
  · rename_i x t u ok hop
    have hx := ev_vr F hch x
    split at hc
    · rename_i ui e0
      obtain ⟨d, hd, hkk⟩ := hT.und (w := w) e0
      obtain ⟨zv, hz, hzv, _, _⟩ := hT.zero (w := w) e0
      have hni : ui.k ≠ .iface → ∀ m, d ≠ .interface m := fun hne m e => by
        subst e
        cases hq : ui.k <;> rw [hq] at hkk <;> simp [kOK] at hkk
        exact hne hq
      split at hc
      · simp at hc
      · rename_i hne
        have hni := hni (by simpa using hne)
        have tup : ∀ (v : AV) (c : Value) (b : Bool), VR w Fz g v c → VR w Fz g (.tup [v, .bool b]) (.tuple #[c, .bool b]) := fun v c b hv => .tup _ _ rfl fun i hi => by
          match i, hi with
          | 0, _ => exact hv
          | 1, _ => exact .bool _
        split at hc
        · rename_i t' v ex
          rw [ex] at hx
          obtain ⟨vv, hX, hv⟩ := inv_iface hx
          cases hb : Nat.beq t' u with
          | true =>
            rw [hb] at hc
            simp only [cond_true, Option.some.injEq, Out.mk.injEq] at hc; obtain ⟨_, rfl, rfl, rfl⟩ := hc
            have := beq_eq hb
            subst this
            refine ⟨goes_sem (e := Instr.typeAssert (a.eval x) t t' true) (by simp only [execOp, hop]) ?_ (tup _ _ true hv) H, rfl⟩
            cases d <;> first | (exact (hni _ rfl).elim) | simp [Instr.typeAssert, hd, hX]
          | false =>
            rw [hb] at hc
            simp only [cond_false, Option.some.injEq, Out.mk.injEq] at hc; obtain ⟨_, rfl, rfl, rfl⟩ := hc
            have hne' : ¬ t' = u := fun e => by subst e; simp at hb
            refine ⟨goes_sem (e := Instr.typeAssert (a.eval x) t u true) (by simp only [execOp, hop]) ?_ (tup _ _ false (hzv _ _ _)) H, rfl⟩
            cases d <;> first | (exact (hni _ rfl).elim) | simp [Instr.typeAssert, hd, hX, hne', hz]
        · rename_i t' v ex
          rw [ex] at hx
          obtain ⟨vv, hX, hv⟩ := inv_iface hx
          cases hb : Nat.beq t' u with
          | true =>
            rw [hb] at hc
            simp only [cond_true, Option.some.injEq, Out.mk.injEq] at hc; obtain ⟨_, rfl, rfl, rfl⟩ := hc
            have := beq_eq hb
            subst this
            refine ⟨goes_sem (e := Instr.typeAssert (a.eval x) t t' false) (by simp only [execOp, hop]) ?_ hv H, rfl⟩
            cases d <;> first | (exact (hni _ rfl).elim) | simp [Instr.typeAssert, hd, hX]
          | false => rw [hb] at hc; simp at hc
        · rename_i ex
          rw [ex] at hx
          have hX : a.eval x = .nilIface := by generalize a.eval x = c at hx; cases hx; rfl
          simp only [Option.some.injEq, Out.mk.injEq] at hc; obtain ⟨_, rfl, rfl, rfl⟩ := hc
          refine ⟨goes_sem (e := Instr.typeAssert (a.eval x) t u true) (by simp only [execOp, hop]) ?_ (tup _ _ false (hzv _ _ _)) H, rfl⟩
          cases d <;> first | (exact (hni _ rfl).elim) | simp [Instr.typeAssert, hd, hX, hz]
        · simp at hc
    · simp at hc
  · simp at hc
end ops
end
end Go.Proofs.YtnnoplgabnfdiaaGreatDoor.Sh
