/- Part 8 of a proof over the shadow machine. -/
import Derived.Test.YtnnoplgabnfdiaaGreatDoorN07
/- The shadow machine: one operation, whatever it is. -/
namespace Go.Proofs.YtnnoplgabnfdiaaGreatDoor.Sh
open Go Go.RowKit
set_option linter.unusedVariables false
set_option linter.unusedSimpArgs false
section
variable {D : List Deferred} {P : Program} {T : Tab} {B0 : Nat} {w0 w w' : World} {Fz F2 : Nat → Prop} {g g' : Gh} {h : List AO} {a : Act} {o : Oper} {ob : List Prop} {val : AV} {upd : List (Nat × AO)}
variable {G : Env} {eqs : XE} {base nid : Nat} {ch : List (Nat × Bool)} {s : AState} {kl : Option Nat}

theorem core3_goes {S : SEnv} (hSt : SOK P S) (F : FR D w Fz g s.tmps a) (H : HR B0 w0 w Fz g s.heap) (hch : Chained ch a) (hob : conj ob) (hn : nid ≤ s.heap.length) (hfree : nth .free s.heap nid = .free) (hc : core3 S o.op ch s nid = some ⟨ob, val, upd, kl⟩) : Goes P B0 w0 w Fz g a o val (apply upd s.heap) ∧ kl = none := by
  unfold core3 at hc
  split at hc
  · rename_i c hop
    split at hc
    · rename_i f hcal
      split at hc
      · rename_i N k wf run hS
        cases h0 : Nat.beq N 0 with
        | true =>
          rw [h0] at hc
          simp only [cond_true] at hc
          have e0 := beq_eq h0
          subst e0
          split at hc
          · rename_i ob' r x hrun
            simp only [Option.some.injEq, Out.mk.injEq] at hc
            obtain ⟨rfl, rfl, rfl, rfl⟩ := hc
            have hC := hSt.2.2 f k wf run hS _ s.heap _ _ _ hrun hob
            obtain ⟨l1, v1⟩ := args_vr F hch c.args
            have hF : a.eval (.func f) = .func (.func f) #[] #[] := rfl
            refine ⟨fun K Q hK => ?_, rfl⟩
            refine wp_reach hop hcal hF ?_
            have := hC B0 w0 w Fz g (c.args.map a.eval) H l1 v1
            rw [show (#[] ++ c.args.map a.eval ++ #[] : Array Value) = c.args.map a.eval by simp]
            refine this.mono fun e w' ⟨r', cc, h', Fz', g', he, ⟨q1, q2⟩, hv, hH, hon⟩ => ?_
            subst q1; subst q2; subst he
            exact hK cc w' Fz' g' hv hH hon
          · simp at hc
        | false =>
        rw [h0] at hc
        simp only [cond_false] at hc
        cases hb : (Nat.beq s.heap.length N && (Nat.blt k N && ((c.args.toList.map (ev ch s)).flatMap touch).elem k)) with
        | false => rw [hb] at hc; simp at hc
        | true =>
          rw [hb] at hc
          simp only [cond_true] at hc
          rw [Bool.and_eq_true, Bool.and_eq_true] at hb
          have e1 := beq_eq hb.1
          have e2 := blt_lt hb.2.1
          split at hc
          · rename_i ob' r x hrun
            simp only [Option.some.injEq, Out.mk.injEq] at hc
            obtain ⟨rfl, rfl, rfl, rfl⟩ := hc
            have hC := hSt.2.1 f N k wf run hS _ s.heap _ _ _ e1 e2 hrun hob
            obtain ⟨l1, v1⟩ := args_vr F hch c.args
            have hF : a.eval (.func f) = .func (.func f) #[] #[] := rfl
            refine ⟨fun K Q hK => ?_, rfl⟩
            refine wp_reach hop hcal hF ?_
            have := hC B0 w0 w Fz g (c.args.map a.eval) H l1 v1
            rw [show (#[] ++ c.args.map a.eval ++ #[] : Array Value) = c.args.map a.eval by simp]
            refine this.mono fun e w' ⟨r', cc, h', Fz', g', he, ⟨q1, q2⟩, hv, hH, hon⟩ => ?_
            subst q1; subst q2; subst he
            refine hK cc w' Fz' g' hv ?_ hon
            cases wf with
            | false => exact hH
            | true =>
              have : apply [(k, x)] s.heap = setNth s.heap k x := by
                show (bif Nat.blt k s.heap.length then setNth s.heap k x else s.heap ++ [x]) = _
                rw [blt_t (by omega)]; rfl
              show HR B0 w0 w' Fz' g' (apply [(k, x)] s.heap)
              rw [this]; exact hH
          · simp at hc
      · cases hm : mkF.elem f with
        | false => rw [hm] at hc; simp at hc
        | true =>
          rw [hm] at hc
          simp only [cond_true] at hc
          split at hc
          · rename_i k harg
            split at hc
            · rename_i hk
              simp only [Option.some.injEq, Out.mk.injEq] at hc
              obtain ⟨rfl, rfl, rfl, rfl⟩ := hc
              obtain ⟨l1, v1⟩ := args_vr F hch c.args
              rw [harg] at l1 v1
              have v0 := v1 0 (by simp)
              have hkl : k < s.heap.length := by
                rcases Nat.lt_or_ge k s.heap.length with e | e
                · exact e
                · rw [nth_ge _ _ _ e] at hk; cases hk
              have hOb := H.objs k hkl
              rw [hk] at hOb
              obtain ⟨b, κ, hb1, hb2⟩ := hOb
              have hargs : c.args.map a.eval = #[.map (some b)] := by
                have hs : (c.args.map a.eval).size = 1 := l1.symm
                apply Array.ext
                · rw [hs]; rfl
                · intro i h1 h2
                  have : i = 0 := by omega
                  subst this
                  have e0 : (c.args.map a.eval).getD 0 undef = (c.args.map a.eval)[0] := by
                    unfold Array.getD; rw [dif_pos h1]; rfl
                  rw [e0] at v0
                  generalize hq : (c.args.map a.eval)[0] = q at v0
                  cases v0 with
                  | mp _ b' κ' e => rw [hb1] at e; cases e; rfl
              have hF : a.eval (.func f) = .func (.func f) #[] #[] := rfl
              refine ⟨fun K Q hK => ?_, rfl⟩
              refine wp_reach hop hcal hF ?_
              rw [show (#[] ++ c.args.map a.eval ++ #[] : Array Value) = c.args.map a.eval by simp, hargs]
              refine (hSt.1 f hm b w hb2).mono fun e w' ⟨q1, q2⟩ => ?_
              subst q1; subst q2
              have hgn : g nid = none := by
                by_cases e : nid < s.heap.length
                · have := H.objs nid e; rw [hfree] at this; exact this
                · exact H.free nid (by omega)
              have hnew : (w.alloc (.map #[] 0)).heap[w.heap.size]? = some (.map #[] 0) := by
                show (w.heap.push _)[w.heap.size]? = _; simp
              have hFs : ∀ b, Fz b → (w.alloc (.map #[] 0)).heap[b]? = w.heap[b]? := fun b hb => Below.heap_alloc _ _ _ (H.fz b hb)
              have hsz : w.heap.size ≤ (w.alloc (.map #[] 0)).heap.size := by show w.heap.size ≤ (w.heap.push _).size; simp
              have hle : ∀ o x, g o = some x → ext g nid (w.heap.size, 0) o = some x := fun o x hx => by
                by_cases e : o = nid
                · subst e; rw [hgn] at hx; cases hx
                · simp [ext, e, hx]
              have H' : HR B0 w0 (w.alloc (.map #[] 0)) Fz (ext g nid (w.heap.size, 0)) (put1 nid .emap s.heap) :=
                H.change (H.below.alloc H.base _) hsz hn (fun b hb _ => Below.heap_alloc _ _ _ hb) (fun o' e => by simp [ext, e]) (fun x hx => by rw [hgn] at hx; cases hx) ⟨w.heap.size, 0, by simp [ext], hnew⟩ (fun b hb => by
                  obtain ⟨κ', e⟩ := hb
                  simp [ext] at e
                  rw [← e.1]
                  exact ⟨H.base, by show w.heap.size < (w.heap.push _).size; simp, fun hf => Nat.lt_irrefl _ (H.fz _ hf), fun o' e hl hh => Nat.lt_irrefl _ (H.own o' _ hl hh).2.1⟩)
              exact hK _ _ _ _ (.mp nid w.heap.size 0 (by simp [ext])) H' ⟨hFs, fun _ x => x, hle, fun _ x => .inl x, hsz, ext_newg⟩
            · simp at hc
          · simp at hc
    · simp at hc
  · simp at hc
theorem core_goes (hT : TabOK P T) (hE : EqOK P T eqs.l) (hSt : SOK P eqs.S) (hG : EnvOK P G) (F : FR D w Fz g s.tmps a) (H : HR B0 w0 w Fz g s.heap) (hch : Chained ch a) (hn : nid ≤ s.heap.length) (hfree : nth .free s.heap nid = .free)
    (hc' : core G T eqs base o.op ch s nid = some ⟨ob, val, upd, kl⟩) (hob : conj ob) :
    (kl = none → Goes P B0 w0 w Fz g a o val (apply upd s.heap)) ∧ ∀ k, kl = some k → base ≤ k ∧ k < s.heap.length ∧ GoesK P B0 w0 w Fz g a o k val (apply upd (s.heap.map (killO k))) := by
  have fin : (Goes P B0 w0 w Fz g a o val (apply upd s.heap) ∧ kl = none) → (kl = none → Goes P B0 w0 w Fz g a o val (apply upd s.heap)) ∧ ∀ k, kl = some k → base ≤ k ∧ k < s.heap.length ∧ GoesK P B0 w0 w Fz g a o k val (apply upd (s.heap.map (killO k))) := fun ⟨h1, h2⟩ => ⟨fun _ => h1, fun k hk => by rw [h2] at hk; cases hk⟩
  unfold core at hc'
  cases hc : core1 G T eqs.l base o.op ch s nid with
  | none =>
    rw [hc] at hc'
    simp only at hc'
    cases hc2 : core2 T o.op ch s nid with
    | some out =>
      rw [hc2] at hc'
      simp only [Option.some.injEq] at hc'
      subst hc'
      exact fin (core2_goes F H hch hob hT hn hfree hc2)
    | none =>
      rw [hc2] at hc'
      simp only at hc'
      exact fin (core3_goes hSt F H hch hob hn hfree hc')
  | some out =>
  rw [hc] at hc'
  simp only [Option.some.injEq] at hc'
  subst hc'
  cases hop : o.op with
  | move x => rw [hop] at hc; simp only [core1, Option.some.injEq, Out.mk.injEq] at hc; obtain ⟨_, rfl, rfl, rfl⟩ := hc; exact fin ⟨go_move F H hch (.inl hop), rfl⟩
  | assign x => rw [hop] at hc; simp only [core1, Option.some.injEq, Out.mk.injEq] at hc; obtain ⟨_, rfl, rfl, rfl⟩ := hc; exact fin ⟨go_move F H hch (.inr hop), rfl⟩
  | pick c x y => rw [hop] at hc; exact fin (go_pick F H hch hop hc)
  | alloc t => rw [hop] at hc; exact fin (go_alloc H hT hn hfree hop hc)
  | box t x => rw [hop] at hc; exact fin (go_box F H hch hn hfree hop hc)
  | build t ps => rw [hop] at hc; exact fin (go_build F H hch hT hop hc)
  | buildSlice t n ps => rw [hop] at hc; exact fin (go_buildSlice F H hch hT hn hfree hop hc)
  | load t x => rw [hop] at hc; exact fin (go_load F H hch hob hT hop hc)
  | store t x y => rw [hop] at hc; exact fin (go_store F H hch hob hT hop hc)
  | nilCheck x => rw [hop] at hc; exact fin (go_nilCheck F H hch hop hc)
  | binOp op t x y u => rw [hop] at hc; exact fin (go_binOp F H hch hob hT hE hop hc)
  | unOp op t x => rw [hop] at hc; exact fin (go_unOp F H hch hop hc)
  | convert t u x => rw [hop] at hc; exact fin (go_convert F H hch hT hop hc)
  | makeInterface t x => rw [hop] at hc; exact fin (go_makeInterface F H hch hT hop hc)
  | makeFunc f xs ys => rw [hop] at hc; exact fin (go_makeFunc F H hch hop hc)
  | makeSlice t x y => rw [hop] at hc; exact fin (go_makeSlice F H hch hob hT hn hfree hop hc)
  | slice t x lo hi mx =>
    rw [hop] at hc
    cases mx with
    | none => exact fin (go_slice F H hch hob hT hop hc)
    | some m => exact fin (go_sliceMax F H hch hob hT hop hc)
  | fieldAddr t x f => rw [hop] at hc; exact fin (go_fieldAddr F H hch hT hop hc)
  | field t x f => rw [hop] at hc; exact fin (go_field F H hch hT hop hc)
  | indexAddr t x y => rw [hop] at hc; exact fin (go_indexAddr F H hch hob hT hop hc)
  | index t x y => rw [hop] at hc; exact fin (go_index F H hch hob hT hop hc)
  | extract x i => rw [hop] at hc; exact fin (go_extract F H hch hop hc)
  | call c =>
    rw [hop] at hc
    simp only [core1] at hc
    split at hc
    · rename_i hcal
      split at hc
      · rename_i x y t t' hargs hty
        cases hb : (t == t') with
        | false => rw [hb] at hc; simp at hc
        | true =>
          rw [hb] at hc
          have htt : t = t' := by simpa using hb
          subst htt
          obtain ⟨X, Y, hXY, rfl, rfl⟩ := args_two hargs
          exact go_append F H hch hT hn hfree hop hcal hXY (types_two hty) hc hob
      · simp at hc
    · rename_i hcal
      split at hc
      · rename_i x t r hargs hty
        obtain ⟨l, hl⟩ : ∃ l, c.args.toList = l := ⟨_, rfl⟩
        have hX : ∃ X, c.args = #[X] ∧ ev ch s X = x := by
          rw [hl] at hargs
          match l, hargs with
          | [X], h => simp only [List.map_cons, List.map_nil, List.cons.injEq, and_true] at h; exact ⟨X, by rw [← Array.toArray_toList (xs := c.args), hl], h⟩
        obtain ⟨X, hX, rfl⟩ := hX
        have := go_clear (out := ⟨ob, val, upd, kl⟩) F H hch hT hop hcal hX hty hc hob
        exact fin this
      · simp at hc
    · rename_i b hna hnc hcal
      have := go_builtin (out := ⟨ob, val, upd, kl⟩) F H hch hT hop hcal hc
      exact fin this
    · rename_i f hcal
      split at hc
      · rename_i q first caps hf
        have hfv := ev_vr F hch f
        rw [hf] at hfv
        obtain ⟨us, vs, hF, ha, hb, h1, h2⟩ := inv_fn hfv
        obtain ⟨l1, v1⟩ := args_vr F hch c.args
        obtain ⟨l2, v2⟩ := nth_append_vr ha l1 h1 v1
        obtain ⟨l3, v3⟩ := nth_append_vr l2 hb v2 h2
        obtain ⟨rfl, rfl, hcall⟩ := quiet_calls hG H hc hob l3 v3
        refine fin ⟨fun K Q hK => ?_, rfl⟩
        refine wp_reach hop hcal hF (hcall.mono fun e w' ⟨r, F2, he, hv, hH, hon⟩ => ?_)
        subst he
        exact hK r w' F2 g hv hH hon
      · simp at hc
    · simp at hc
  | _ => rw [hop] at hc; simp [core1] at hc
end
end Go.Proofs.YtnnoplgabnfdiaaGreatDoor.Sh
/- The shadow machine: operations one after the other. -/
namespace Go.Proofs.YtnnoplgabnfdiaaGreatDoor.Sh
open Go Go.RowKit
set_option linter.unusedVariables false
set_option linter.unusedSimpArgs false
section
variable {D : List Deferred} {P : Program} {B0 : Nat} {w0 w w' : World} {Fz F2 : Nat → Prop} {g g' : Gh} {h : List AO} {a : Act}

theorem getD_set (xs : Array Value) (t : Nat) (v : Value) (i : Nat) : (xs.setIfInBounds t v).getD i undef = if t = i ∧ i < xs.size then v else xs.getD i undef := by
  simp only [Array.getD_eq_getD_getElem?, Array.getElem?_setIfInBounds]
  by_cases e : t = i
  · subst e
    by_cases hl : t < xs.size
    · simp [hl]
    · simp [hl]
  · simp [e]
theorem unwhen_of {t : Nat} {v : AV} (hv : ∀ d b x, v ≠ .when d b x) : unwhen t v = v := by
  cases v <;> first | rfl | exact absurd rfl (hv _ _ _)
theorem vr_not_when {v : AV} {c : Value} (hv : VR w Fz g v c) : ∀ d b x, v ≠ .when d b x := fun d b x e => by subst e; cases hv
/-- Writing a slot. -/
theorem FR.put {ts : List AV} {h' : List AO} (F : FR D w Fz g ts a) (d : Option Nat) (v : AV) (c : Value) (hv : ∀ t, d = some t → SR w Fz g (a.put d c) (unwhen t v) c) : FR D w Fz g (AState.put ⟨ts, h'⟩ d v).tmps (a.put d c) := by
  cases d with
  | none => exact F
  | some t =>
    refine ⟨F.defers, by simp [AState.put, Act.put, setNth_length, F.size], fun i hi => ?_⟩
    have hi' : i < ts.length := by simpa [AState.put, setNth_length] using hi
    simp only [AState.put, nth_setNth, List.length_map]
    simp only [Act.put, getD_set]
    by_cases e : t = i
    · subst e
      rw [if_pos ⟨rfl, hi'⟩, if_pos ⟨rfl, by rw [← F.size]; exact hi'⟩]
      exact hv t rfl
    · rw [if_neg (by omega), if_neg (by omega), map_top rfl]
      have hs := F.slots i hi'
      generalize nth .top ts i = q at hs
      by_cases hw : ∃ d' b x, q = .when d' b x
      · obtain ⟨d', b, x, rfl⟩ := hw
        simp only [unwhen]
        cases ed : (d' == t) with
        | true => exact .top _
        | false =>
          have hne : d' ≠ t := by simpa using ed
          simp only [cond_false]
          refine hs.imp (fun ⟨h1, h2⟩ => ⟨?_, h2⟩) (fun ⟨h1, h2⟩ => ⟨h1, ?_⟩)
          · simp only [getD_set]; rw [if_neg (by omega)]; exact h1
          · simp only [getD_set]; rw [if_neg (by omega)]; exact h2
      · have hnw : ∀ d b x, q ≠ .when d b x := fun d b x e => hw ⟨d, b, x, e⟩
        rw [unwhen_of hnw]
        exact SR.of (hs.vr hnw)
theorem FR.put_vr {ts : List AV} {h' : List AO} (F : FR D w Fz g ts a) (d : Option Nat) {v : AV} {c : Value} (hv : VR w Fz g v c) : FR D w Fz g (AState.put ⟨ts, h'⟩ d v).tmps (a.put d c) :=
  F.put d v c fun t _ => by rw [unwhen_of (vr_not_when hv)]; exact SR.of hv
theorem unguard_vr {v : AV} {c : Value} (h : SR w Fz g a v c) : SR w Fz g a v.unguard c := by
  cases v <;> first | exact h | exact .top _
theorem FR.unguard {ts : List AV} (F : FR D w Fz g ts a) : FR D w Fz g (ts.map AV.unguard) a :=
  ⟨F.defers, by simpa using F.size, fun i hi => by rw [map_top rfl]; exact unguard_vr (F.slots i (by simpa using hi))⟩
/-- A chain of guards holds when the last one does. -/
theorem chain_ok {s : AState} (F : FR D w Fz g s.tmps a) : ∀ (n d : Nat) (b : Bool), a.tmps.getD d undef = .bool b → Chained (chain s n d b) a
  | 0, d, b, h => (Chained.nil a).cons h
  | n + 1, d, b, h => by
    simp only [chain]
    refine Chained.cons ?_ h
    have hs := F.get d
    unfold getTmp
    cases hq : nth .top s.tmps d with
    | when d' b' v =>
      rw [hq] at hs
      rcases hs with ⟨h1, _⟩ | ⟨h1, _⟩
      · exact chain_ok F n d' b' h1
      · rw [h] at h1; cases h1
    | _ => exact Chained.nil a
/-- What a chain's condition stands for. -/
theorem chainCond_eq {s : AState} (F : FR D w Fz g s.tmps a) : ∀ (ch : List (Nat × Bool)) (p : Prop) (R : Prop → Prop), (∀ d b, (d, b) ∈ ch → a.tmps.getD d undef = .bool b) → chainCond s ch p R → ∃ q, R q ∧ (q → p)
  | [], p, R, hch, h => ⟨p, h, id⟩
  | (d, b) :: r, p, R, hch, h => by
    have hd := hch d b (by simp)
    have hs := F.get d
    unfold chainCond getTmp at h
    have key : ∀ x : Bool, (SR w Fz g a (.bool x) (a.tmps.getD d undef) ∨ ∃ d' b', SR w Fz g a (.when d' b' (.bool x)) (a.tmps.getD d undef)) → x = b := fun x hx => by
      rcases hx with hx | ⟨d', b', hx⟩
      · have := inv_bool (c := a.tmps.getD d undef) hx; rw [hd] at this; cases this; rfl
      · rcases hx with ⟨_, hx⟩ | ⟨hx, _⟩
        · have := inv_bool hx; rw [hd] at this; cases this; rfl
        · rw [hd] at hx; cases hx
    have go : ∀ p', chainCond s r p' R → (p' → p) → ∃ q, R q ∧ (q → p) := fun p' h' hp => by
      obtain ⟨q, h1, h2⟩ := chainCond_eq F r p' R (fun d b hm => hch d b (by simp [hm])) h'
      exact ⟨q, h1, fun hq => hp (h2 hq)⟩
    split at h
    · rename_i x hx
      rw [hx] at hs
      have e := key x (.inl hs)
      subst e
      cases x with
      | true => exact go _ h (fun hh => hh rfl)
      | false => exact go _ h (fun hh => hh rfl)
    · rename_i d' b' x hx
      rw [hx] at hs
      have e := key x (.inr ⟨_, _, hs⟩)
      subst e
      cases x with
      | true => exact go _ h (fun hh => hh rfl)
      | false => exact go _ h (fun hh => hh rfl)
    · exact go _ h id
theorem inChain_mem : ∀ {ch : List (Nat × Bool)} {d : Nat} {b : Bool}, (d, b) ∈ ch → inChain ch d b = true
  | [], d, b, h => by simp at h
  | (d', b') :: r, d, b, h => by
    simp only [inChain, Bool.or_eq_true, Bool.and_eq_true, beq_iff_eq]
    rcases List.mem_cons.mp h with e | e
    · cases e; exact .inl ⟨rfl, rfl⟩
    · exact .inr (inChain_mem e)
theorem bcond_iff {v : Bool} {p q : Prop} : bcond v p q ↔ ((v = true → p) ∧ (v = false → q)) := by
  cases v <;> simp [bcond]
theorem chainCond_ex {s : AState} : ∀ (ch : List (Nat × Bool)) (p : Prop) (R : Prop → Prop), chainCond s ch p R → ∃ q, R q
  | [], p, R, h => ⟨_, h⟩
  | (d, b) :: r, p, R, h => by
    unfold chainCond at h
    split at h
    · split at h <;> exact chainCond_ex r _ R h
    · split at h <;> exact chainCond_ex r _ R h
    · exact chainCond_ex r _ R h
theorem runOps_obs {c : Cfg} {KP : AV → AState → Prop} {all : List Oper} : ∀ (os : List Oper) (obs : List Prop) (ts : List AV) (h : List AO) (K : AState → Prop), runOps c KP all os obs ts h K → conj obs
  | [], obs, ts, h, K, hr => by
    simp only [runOps] at hr
    exact (need_iff.mp hr).1
  | o :: os, obs, ts, h, K, hr => by
    simp only [runOps, fP_eq, fA_eq, fL_eq f3_eq, fL_eq f2_eq, f3_eq, f2_eq, fH_eq] at hr
    split at hr
    · split at hr
      · exact (need_iff.mp hr).1
      split at hr
      · exact (need_iff.mp hr).1
      split at hr
      · exact (need_iff.mp hr).1
      · split at hr
        · exact (conj_append.mp (need_iff.mp hr).1).1
        · split at hr
          · split at hr
            · exact runOps_obs os _ _ _ K hr
            · exact runOps_obs os _ _ _ K hr
          · split at hr
            · exact (conj_append.mp (runOps_obs os _ _ _ K hr)).1
            · exact (conj_append.mp (runOps_obs os _ _ _ K hr)).1
        · exact hr.elim
    · split at hr
      · split at hr
        · rename_i x hx
          obtain ⟨h1, h2⟩ := bcond_iff.mp hr
          cases x with
          | true => exact (need_iff.mp (h1 rfl)).1
          | false => exact runOps_obs os _ _ _ K (h2 rfl)
        · exact hr.elim
      split at hr
      · split at hr
        · exact runOps_obs os _ _ _ K hr
        · obtain ⟨q, hq⟩ := chainCond_ex _ _ _ hr
          exact (conj_append.mp (runOps_obs os _ _ _ K hq)).1
      · split at hr
        · rename_i x hx
          obtain ⟨h1, h2⟩ := bcond_iff.mp hr
          cases x with
          | true => exact (conj_append.mp (need_iff.mp (h1 rfl)).1).1
          | false => exact runOps_obs os _ _ _ K (h2 rfl)
        · exact hr.elim
      · split at hr
        · exact runOps_obs os _ _ _ K hr.2
        · exact hr.elim
    · exact hr.elim
end
end Go.Proofs.YtnnoplgabnfdiaaGreatDoor.Sh
/- The shadow machine: texts. -/
namespace Go.Proofs.YtnnoplgabnfdiaaGreatDoor.Sh
open Go Go.RowKit
set_option linter.unusedVariables false
set_option linter.unusedSimpArgs false
/-- The configuration is right. -/
structure CfgOK (P : Program) (c : Cfg) : Prop where
  tab : TabOK P c.T
  eqs : EqOK P c.T c.eqs.l
  st : SOK P c.eqs.S
  env : EnvOK P c.G
  calls : ∀ f vs h K, c.C f vs h K → SCall P f vs h K
  mixed : P.follows .mixedOrders = true
/-- From where a function's run began. -/
structure En where
  B0 : Nat
  w0 : World
  w1 : World
  F1 : Nat → Prop
  g1 : Gh
  base : Nat
  D : List Deferred
def St (E : En) (s : AState) (a : Act) (w : World) : Prop := ∃ Fz g, FR E.D w Fz g s.tmps a ∧ HR E.B0 E.w0 w Fz g s.heap ∧ On E.w1 w E.F1 Fz E.g1 g ∧ ∀ o, E.base ≤ o → E.g1 o = none
section
variable {D : List Deferred} {P : Program} {c : Cfg} {E : En} {Q : Exit → Act → World → Prop}

theorem isCall_some {s : AState} {op : Op} {f : FuncId} {vs : List AV} (h : isCall c s op = some (f, vs)) : ∃ k fo first caps, op = .call k ∧ k.callee = .value fo ∧ ev [] s fo = .fn f first caps ∧ vs = first ++ k.args.toList.map (ev [] s) ++ caps := by
  unfold isCall at h
  split at h
  · rename_i k
    split at h
    · rename_i fo hcal
      split at h
      · rename_i g first caps hf
        split at h
        · simp only [Option.some.injEq, Prod.mk.injEq] at h
          obtain ⟨rfl, rfl⟩ := h
          exact ⟨k, fo, first, caps, rfl, hcal, hf, rfl⟩
        · simp at h
      · simp at h
    · simp at h
  · simp at h
theorem guard_wanted {ops : Array Oper} {o : Oper} {a : Act} {gs : Option (Nat × Bool)} (h : guardSlot ops.toList o = some gs) : (gs = none → Region.wanted o (yielded ops a.tmps) = true) ∧ ∀ d b, gs = some (d, b) → (Region.wanted o (yielded ops a.tmps) = true ↔ a.tmps.getD d undef = .bool b) := by
  unfold guardSlot at h
  split at h
  · rename_i hg
    simp only [Option.some.injEq] at h; subst h
    exact ⟨fun _ => by simp [Region.wanted, hg], fun d b h => by cases h⟩
  · rename_i j w hg
    split at h
    · rename_i og hog
      split at h
      · rename_i d hd
        simp only [Option.some.injEq] at h; subst h
        refine ⟨(fun h => by cases h), fun d' b' h => ?_⟩
        simp only [Option.some.injEq, Prod.mk.injEq] at h
        obtain ⟨rfl, rfl⟩ := h
        have hog' : ops[j]? = some og := by simpa using hog
        simp only [Region.wanted, hg, yielded, hog', Option.bind_some, hd]
        simp only [Array.getD_eq_getD_getElem?]
        cases hq : a.tmps[d]? with
        | none => simp [undef]
        | some v => cases v <;> simp
      · simp at h
    · simp at h
theorem kill_sr {w w' : World} {Fz : Nat → Prop} {g g' : Gh} {a : Act} {k : Nat} {v : AV} {cc : Value} (hS : Same Fz w w') (hg : ∀ o' x, o' ≠ k → g o' = some x → g' o' = some x) (h : SR w Fz g a v cc) : SR w' Fz g' a (kill2 k v) cc := by
  have key : ∀ {x : AV} {u : Value}, VR w Fz g x u → VR w' Fz g x u := fun hx => hx.mono hS (fun _ x => x) (fun _ _ x => x)
  by_cases hw : ∃ d b x, v = .when d b x
  · obtain ⟨d, b, x, rfl⟩ := hw
    exact h.imp (fun ⟨h1, h2⟩ => ⟨h1, kill1_vr hg (key h2)⟩) id
  · have hnw : ∀ d b x, v ≠ .when d b x := fun d b x e => hw ⟨d, b, x, e⟩
    exact SR.of (kill2_vr hg (key (h.vr hnw)))
theorem FR.kill {w w' : World} {Fz : Nat → Prop} {g g' : Gh} {a : Act} {k : Nat} {ts : List AV} (hS : Same Fz w w') (hg : ∀ o' x, o' ≠ k → g o' = some x → g' o' = some x) (F : FR D w Fz g ts a) : FR D w' Fz g' (ts.map (kill2 k)) a :=
  ⟨F.defers, by simpa using F.size, fun i hi => by rw [map_top rfl]; exact kill_sr hS hg (F.slots i (by simpa using hi))⟩
theorem nth_length (h : List AO) : nth .free h h.length = .free := nth_ge _ _ _ (Nat.le_refl _)
theorem range'_cons {i n : Nat} (h : i < n) : List.range' i (n - i) = i :: List.range' (i + 1) (n - (i + 1)) := by
  obtain ⟨m, hm⟩ : ∃ m, n - i = m + 1 := ⟨n - i - 1, by omega⟩
  rw [hm, List.range'_succ, show n - (i + 1) = m by omega]

theorem equalIn_sl0 (n : Nat) {w : World} {t e : TypeId} (hd : (underlying t).run P w = .ok (.slice e) w) (A : Option Addr) (l k : Nat) : (Op.equalIn (n + 1) t (.slice A l k) (.slice none 0 0)).run P w = .ok A.isNone w := by
  cases A with
  | none => simp only [Op.equalIn, Sem.run_bind, hd, Result.andThen_ok, Sem.run_pure, Option.isNone_none]
  | some a => simp only [Op.equalIn, Sem.run_bind, hd, Result.andThen_ok, Sem.run_pure, Option.isNone_some]
theorem equal_sl0 {w : World} {t e : TypeId} (hd : (underlying t).run P w = .ok (.slice e) w) (A : Option Addr) (l k : Nat) : (Op.equal t (.slice A l k) (.slice none 0 0)).run P w = .ok A.isNone w := equalIn_sl0 9999 hd A l k
theorem nilCmp_goes {T : Tab} {B0 : Nat} {w0 w : World} {Fz : Nat → Prop} {g : Gh} {s : AState} {a : Act} {o : Oper} {len : Nat} (hT : TabOK P T) (F : FR D w Fz g s.tmps a) (H : HR B0 w0 w Fz g s.heap) (h : nilCmp T s o.op = some len) : ∃ b : Bool, (b = true → len = 0) ∧ Goes P B0 w0 w Fz g a o (.bool b) s.heap := by
  unfold nilCmp at h
  split at h
  · rename_i t x y u hop
    have hx := ev_vr F (Chained.nil a) x
    have hy := ev_vr F (Chained.nil a) y
    have fin : ∀ (e : TypeId) (A : Option Addr) (n cc : Nat), (underlying t).run P w = .ok (.slice e) w → a.eval x = .slice A n cc → a.eval y = .slice none 0 0 → (A.isNone = true → len = 0) → ∃ b : Bool, (b = true → len = 0) ∧ Goes P B0 w0 w Fz g a o (.bool b) s.heap := fun e A n cc hd hX hY hA =>
      ⟨A.isNone, hA, goes_sem (e := do eqGuard .eql t x y (a.eval x) (a.eval y); binOp .eql t (a.eval x) (a.eval y)) (c := .bool A.isNone) (by simp only [execOp, hop]) (by
        rw [hX, hY]
        simp only [eqGuard, binOp, Sem.run_bind, Sem.run_pure, Result.andThen_ok, Bool.not_true, Bool.false_eq_true, if_false, equal_sl0 hd]) (.bool _) H⟩
    split at h
    · rename_i e sz by_ z st len' cap row e0 ex ey
      rw [ex] at hx
      rw [ey] at hy
      obtain ⟨d, hd, hk⟩ := hT.und (w := w) e0
      simp only [kOK] at hk; subst hk
      have hY : a.eval y = .slice none 0 0 := by generalize a.eval y = q at hy; cases hy; rfl
      obtain ⟨A, cc, hX, hle, hcap, hcl⟩ := inv_ro hx
      cases hb : Nat.blt 0 st with
      | false =>
        rw [hb] at h
        cases hb2 : Nat.beq len' 0 with
        | false => rw [hb2] at h; simp at h
        | true =>
          rw [hb2] at h
          simp only [cond_false, cond_true, Option.some.injEq] at h
          subst h
          exact fin _ _ _ _ hd hX hY fun _ => Nat.eq_of_beq_eq_true hb2
      | true =>
        rw [hb] at h
        simp only [cond_true, Option.some.injEq] at h
        subst h
        refine fin _ _ _ _ hd hX hY fun hA => ?_
        rcases Nat.eq_zero_or_pos len' with h0 | h0
        · exact h0
        · have hle' : len' ≤ cap.getD len' := by cases hcp : cap with
            | none => simp
            | some n => have := hcap n hcp; simp; omega
          obtain ⟨a', v, ha, _⟩ := hcl 0 (by omega) 0 (blt_lt hb)
          rw [ha] at hA
          simp at hA
    · rename_i e sz by_ z o' st off len' cap e0 ex ey
      simp only [Option.some.injEq] at h
      subst h
      rw [ex] at hx
      rw [ey] at hy
      obtain ⟨d, hd, hk⟩ := hT.und (w := w) e0
      simp only [kOK] at hk; subst hk
      have hY : a.eval y = .slice none 0 0 := by generalize a.eval y = q at hy; cases hy; rfl
      obtain ⟨b, κ, h1, h2, h3, hX⟩ := inv_sl hx
      rcases hX with hX | ⟨h0, h4, A, hX⟩
      · exact fin _ _ _ _ hd hX hY fun hA => by simp at hA
      · exact fin _ _ _ _ hd hX hY fun _ => h0
    · simp at h
  · simp at h
theorem isCallG_some {ch : List (Nat × Bool)} {s : AState} {op : Op} {f : FuncId} {vs : List AV} (h : isCallG c ch s op = some (f, vs)) : ∃ k fo first caps, op = .call k ∧ k.callee = .value fo ∧ ev ch s fo = .fn f first caps ∧ vs = first ++ k.args.toList.map (ev ch s) ++ caps := by
  unfold isCallG at h
  split at h
  · rename_i k
    split at h
    · rename_i fo hcal
      split at h
      · rename_i g first caps hf
        split at h
        · simp only [Option.some.injEq, Prod.mk.injEq] at h
          obtain ⟨rfl, rfl⟩ := h
          exact ⟨k, fo, first, caps, rfl, hcal, hf, rfl⟩
        · simp at h
      · simp at h
    · simp at h
  · simp at h
theorem gval_spec {w : World} {Fz : Nat → Prop} {g : Gh} {s : AState} {a : Act} (F : FR D w Fz g s.tmps a) : ∀ (n d : Nat) (b x : Bool), gval s n d b = some x → (x = true ↔ a.tmps.getD d undef = .bool b)
  | 0, d, b, x, h => by simp [gval] at h
  | n + 1, d, b, x, h => by
    have hs := F.get d
    simp only [gval, getTmp] at h
    split at h
    · rename_i b' hq
      simp only [Option.some.injEq] at h
      subst h
      rw [hq] at hs
      rw [inv_bool hs]
      simp
    · rename_i d' w' b' hq
      rw [hq] at hs
      split at h
      · rename_i x' hx'
        simp only [Option.some.injEq] at h
        subst h
        have ih := gval_spec F n d' w' x' hx'
        rcases hs with ⟨h1, h2⟩ | ⟨h1, h2⟩
        · rw [inv_bool h2]
          have := ih.mpr h1
          subst this
          simp
        · rw [h1]
          have : x' = false := by
            cases x' with
            | false => rfl
            | true => exact absurd (ih.mp rfl) h2
          subst this
          simp [undef]
      · simp at h
    · simp at h
/-- A state with a value beside it. -/
def StV (E : En) (s : AState) (a : Act) (w : World) (v : AV) (x : Value) : Prop := ∃ Fz g, FR E.D w Fz g s.tmps a ∧ HR E.B0 E.w0 w Fz g s.heap ∧ On E.w1 w E.F1 Fz E.g1 g ∧ (∀ o, E.base ≤ o → E.g1 o = none) ∧ VR w Fz g v x
def panEx (x : Value) : Exit := .panic [{ v := x, recovered := false }]
theorem panOf_spec {w : World} {Fz : Nat → Prop} {g : Gh} {s : AState} {a : Act} {o : Oper} {v : AV} (F : FR D w Fz g s.tmps a) (h : panOf s o.op = some v) : ∃ x, (execOp a.eval o).run P w = .halt (.panic x) w ∧ VR w Fz g v x := by
  unfold panOf at h
  split at h
  · rename_i x hop
    split at h
    · rename_i t u hx
      simp only [Option.some.injEq] at h
      subst h
      have hv := ev_vr F (Chained.nil a) x
      rw [hx] at hv
      obtain ⟨y, hX, hy⟩ := inv_iface hv
      refine ⟨.iface t y, ?_, by rw [← hX]; exact hv⟩
      simp only [execOp, hop, hX, Instr.panic, goPanic]
      rfl
    · simp at h
  · simp at h
theorem runOps_sound (hc : CfgOK P c) (hb : E.base = c.base) {KP : AV → AState → Prop} (hkp : ∀ v s' a' w' x, KP v s' → StV E s' a' w' v x → Q (panEx x) a' w') (ops : Array Oper) : ∀ (os : List Oper) (i : Nat), os = ops.toList.drop i → ∀ (obs : List Prop) (ts : List AV) (h : List AO) (K : AState → Prop) (a : Act) (w : World),
    runOps c KP ops.toList os obs ts h K → St E ⟨ts, h⟩ a w → (∀ s' a' w', K s' → St E s' a' w' → Q .normal a' w') → wpOps P ops Q (List.range' i (ops.size - i)) a w
  | [], i, hi, obs, ts, h, K, a, w, hr, hs, hK => by
    have hle : ops.size ≤ i := by
      have := congrArg List.length hi
      simp at this; omega
    rw [show ops.size - i = 0 by omega]
    simp only [runOps, fL_map (g := AV.unguard) fU1_eq] at hr
    obtain ⟨Fz, g, F, H, hon, hg⟩ := hs
    exact hK _ _ _ (need_iff.mp hr).2 ⟨Fz, g, F.unguard, H, hon, hg⟩
  | o :: os, i, hi, obs, ts, h, K, a, w, hr, hs, hK => by
    have hlt : i < ops.size := by
      have := congrArg List.length hi
      simp at this; omega
    have ho : ops[i]? = some o := by
      have := congrArg (fun l => l[0]?) hi
      simpa using this.symm
    have hos : os = ops.toList.drop (i + 1) := by
      have := congrArg List.tail hi
      simpa using this
    rw [range'_cons hlt, wpOps_cons]
    unfold wpOp
    rw [ho]
    simp only
    obtain ⟨Fz, g, F, H, hon, hg⟩ := hs
    have next : ∀ (obs : List Prop) (ts : List AV) (h : List AO) a w, runOps c KP ops.toList os obs ts h K → St E ⟨ts, h⟩ a w → wpOps P ops Q (List.range' (i + 1) (ops.size - (i + 1))) a w :=
      fun obs ts h a w hr hs => runOps_sound hc hb hkp ops os (i + 1) hos obs ts h K a w hr hs hK
    simp only [runOps, fP_eq, fA_eq, fL_eq f3_eq, fL_eq f2_eq, f3_eq, f2_eq, fH_eq] at hr
    split at hr
    · rename_i hgs
      rw [if_pos ((guard_wanted (a := a) hgs).1 rfl)]
      refine .inl ?_
      split at hr
      · rename_i v hpo
        obtain ⟨hobs, hKP⟩ := need_iff.mp hr
        obtain ⟨x, hx, hv⟩ := panOf_spec (P := P) F hpo
        unfold Oper.wp
        rw [hx, Oper.upon_panic]
        exact hkp _ _ _ _ _ hKP ⟨Fz, g, F, H, hon, hg, hv⟩
      split at hr
      · rename_i len hnc
        obtain ⟨hobs, hT1, hT2⟩ := need_iff.mp hr
        obtain ⟨bb, hb0, hgo⟩ := nilCmp_goes hc.tab F H hnc
        have fin2 : ∀ b : Bool, runOps c KP ops.toList os [] (AState.put ⟨ts, h⟩ o.dst (.bool b)).tmps h K → Goes P E.B0 E.w0 w Fz g a o (.bool b) h → o.wp P a w (wpOps P ops Q (List.range' (i + 1) (ops.size - (i + 1)))) Q := fun b hrun hg' =>
          hg' _ _ fun cc w' Fz' g' hv hH hon' => next _ _ _ _ _ hrun ⟨Fz', g', (hon'.fr F).put_vr o.dst hv, hH, hon.trans hon', hg⟩
        cases bb with
        | true => exact fin2 true (hT1 (hb0 rfl)) hgo
        | false => exact fin2 false hT2 hgo
      split at hr
      · rename_i f vs hic
        obtain ⟨k, fo, first, caps, hop, hcal, hf, rfl⟩ := isCall_some hic
        obtain ⟨hobs, hC⟩ := need_iff.mp hr
        have hS := hc.calls _ _ _ _ hC
        have hfv := ev_vr F (Chained.nil a) fo
        rw [hf] at hfv
        obtain ⟨us, vs, hF, ha, hbb, h1, h2⟩ := inv_fn hfv
        obtain ⟨l1, v1⟩ := args_vr F (Chained.nil a) k.args
        obtain ⟨l2, v2⟩ := nth_append_vr ha l1 h1 v1
        obtain ⟨l3, v3⟩ := nth_append_vr l2 hbb v2 h2
        refine wp_reach hop hcal hF ((hS _ _ _ _ _ _ H l3 v3).mono fun e w' ⟨r, cc, h', Fz', g', he, hrun, hv, hH, hon'⟩ => ?_)
        subst he
        cases r with
        | ret r => exact next _ _ _ _ _ hrun ⟨Fz', g', (hon'.fr F).put_vr o.dst hv, hH, hon.trans hon', hg⟩
        | pan r => exact hkp _ _ _ _ _ hrun ⟨Fz', g', hon'.fr F, hH, hon.trans hon', hg, hv⟩
      · rename_i hnc
        split at hr
        · rename_i ob val upd k hcore
          obtain ⟨hobs, hrun⟩ := need_iff.mp hr
          have hob := (conj_append.mp hobs).2
          obtain ⟨hbk, hkl, hgo⟩ := (core_goes hc.tab hc.eqs hc.st hc.env F H (Chained.nil a) (Nat.le_refl _) (nth_length _) hcore hob).2 k rfl
          refine hgo _ _ fun cc w' g' hv hH hS hsz hgg hng => ?_
          have hne : ∀ o' x, E.g1 o' = some x → o' ≠ k := fun o' x hx e => by
            have := hg o' (by rw [hb, e]; exact hbk)
            rw [this] at hx; cases hx
          exact next _ _ _ _ _ hrun ⟨Fz, g', (F.kill hS hgg).put_vr o.dst hv, hH, ⟨fun b hb => (hS b (hon.fz b hb)).trans (hon.same b hb), hon.fz, fun o' x hx => hgg o' x (hne o' x hx) (hon.gh o' x hx), hon.new, Nat.le_trans hon.size hsz, fun o' b' κ' hb' => (hng o' b' κ' hb').elim (fun x => hon.newg o' b' κ' x) (fun x => x.elim (fun x => .inr (.inl (Nat.le_trans hon.size x))) (fun x => .inr (.inr x)))⟩, hg⟩
        · rename_i ob val upd hcore
          have step : conj ob → (∀ cc w' Fz' g', VR w' Fz' g' val cc → HR E.B0 E.w0 w' Fz' g' (apply upd h) → On w w' Fz Fz' g g' → wpOps P ops Q (List.range' (i + 1) (ops.size - (i + 1))) (a.put o.dst cc) w') → o.wp P a w (wpOps P ops Q (List.range' (i + 1) (ops.size - (i + 1)))) Q := fun hob hk =>
            (core_goes hc.tab hc.eqs hc.st hc.env F H (Chained.nil a) (Nat.le_refl _) (nth_length _) hcore hob).1 rfl _ _ hk
          have fin : ∀ {obs'}, runOps c KP ops.toList os obs' (AState.put ⟨ts, h⟩ o.dst val).tmps (apply upd h) K → conj ob → o.wp P a w (wpOps P ops Q (List.range' (i + 1) (ops.size - (i + 1)))) Q := fun hrun hob =>
            step hob fun cc w' Fz' g' hv hH hon' => next _ _ _ _ _ hrun ⟨Fz', g', (hon'.fr F).put_vr o.dst hv, hH, hon.trans hon', hg⟩
          split at hr
          · split at hr
            · exact fin hr trivial
            · exact fin hr trivial
          · split at hr
            · exact fin hr (conj_append.mp (runOps_obs os _ _ _ K hr)).2
            · exact fin hr (conj_append.mp (runOps_obs os _ _ _ K hr)).2
        · exact hr.elim
    · rename_i d b hgs
      have hw := (guard_wanted (a := a) hgs).2 d b rfl
      have putT : a.tmps.getD d undef = .bool b → ∀ {hh : List AO} (val : AV) (cc : Value) (w' : World) (Fz' : Nat → Prop) (g' : Gh), VR w' Fz' g' val cc → On w w' Fz Fz' g g' → FR E.D w' Fz' g' (AState.put ⟨ts, hh⟩ o.dst (.when d b val)).tmps (a.put o.dst cc) := fun hd {hh} val cc w' Fz' g' hv hon' =>
        (hon'.fr F).put o.dst _ cc (fun t ht => by
          simp only [unwhen]
          cases e : (d == t) with
          | true => exact .top _
          | false =>
            have hne : d ≠ t := by simpa using e
            refine .inl ⟨?_, hv⟩
            rw [ht]; simp only [Act.put, getD_set]; rw [if_neg (by omega)]; exact hd)
      have skip : a.tmps.getD d undef ≠ .bool b → ∀ {obs' val}, runOps c KP ops.toList os obs' (AState.put ⟨ts, h⟩ o.dst (.when d b val)).tmps h K → wpOps P ops Q (List.range' (i + 1) (ops.size - (i + 1))) (a.put o.dst undef) w := fun hd {obs' val} hrun =>
        next _ _ _ _ _ hrun ⟨Fz, g, F.put o.dst _ undef (fun t ht => by
          simp only [unwhen]
          cases e : (d == t) with
          | true => exact .top _
          | false =>
            have hne : d ≠ t := by simpa using e
            refine .inr ⟨rfl, ?_⟩
            rw [ht]; simp only [Act.put, getD_set]; rw [if_neg (by omega)]; exact hd), H, hon, hg⟩
      split at hr
      · rename_i f vs hic
        split at hr
        · rename_i x hx
          have hxs := gval_spec F 8 d b x hx
          obtain ⟨hb1, hb2⟩ := bcond_iff.mp hr
          by_cases hwt : Region.wanted o (yielded ops a.tmps) = true
          · rw [if_pos hwt]
            have hd := hw.mp hwt
            have hch := chain_ok F 8 d b hd
            refine .inl ?_
            obtain ⟨k, fo, first, caps, hop, hcal, hf, rfl⟩ := isCallG_some hic
            obtain ⟨hobs, hC⟩ := need_iff.mp (hb1 (hxs.mpr hd))
            have hS := hc.calls _ _ _ _ hC
            have hfv := ev_vr F hch fo
            rw [hf] at hfv
            obtain ⟨us, vs, hF, ha, hbb, h1, h2⟩ := inv_fn hfv
            obtain ⟨l1, v1⟩ := args_vr F hch k.args
            obtain ⟨l2, v2⟩ := nth_append_vr ha l1 h1 v1
            obtain ⟨l3, v3⟩ := nth_append_vr l2 hbb v2 h2
            refine wp_reach hop hcal hF ((hS _ _ _ _ _ _ H l3 v3).mono fun e w' ⟨r, cc, h', Fz', g', he, hrun, hv, hH, hon'⟩ => ?_)
            subst he
            cases r with
            | ret r => exact next _ _ _ _ _ hrun ⟨Fz', g', putT hd r _ _ _ _ hv hon', hH, hon.trans hon', hg⟩
            | pan r => exact hkp _ _ _ _ _ hrun ⟨Fz', g', hon'.fr F, hH, hon.trans hon', hg, hv⟩
          · rw [if_neg hwt]
            have hd : a.tmps.getD d undef ≠ .bool b := fun e => hwt (hw.mpr e)
            exact skip hd (hb2 (by
              cases x with
              | false => rfl
              | true => exact absurd (hxs.mp rfl) hd))
        · exact hr.elim
      split at hr
      · rename_i ob val hcore
        by_cases hwt : Region.wanted o (yielded ops a.tmps) = true
        · rw [if_pos hwt]
          have hd := hw.mp hwt
          have hch := chain_ok F 8 d b hd
          refine .inl ?_
          have fin : ∀ {obs'}, runOps c KP ops.toList os obs' (AState.put ⟨ts, h⟩ o.dst (.when d b val)).tmps h K → conj ob → o.wp P a w (wpOps P ops Q (List.range' (i + 1) (ops.size - (i + 1)))) Q := fun hrun hob =>
            (core_goes hc.tab hc.eqs hc.st hc.env F H hch (Nat.le_refl _) (nth_length _) hcore hob).1 rfl _ _ fun cc w' Fz' g' hv hH hon' => next _ _ _ _ _ hrun ⟨Fz', g', putT hd _ _ _ _ _ hv hon', hH, hon.trans hon', hg⟩
          split at hr
          · exact fin hr trivial
          · obtain ⟨q, hq, himp⟩ := chainCond_eq F _ _ _ (fun d' b' hm => hch d' b' (inChain_mem hm)) hr
            exact fin hq (himp (conj_append.mp (runOps_obs os _ _ _ K hq)).2)
        · rw [if_neg hwt]
          have hd : a.tmps.getD d undef ≠ .bool b := fun e => hwt (hw.mpr e)
          split at hr
          · exact skip hd hr
          · obtain ⟨q, hq⟩ := chainCond_ex _ _ _ hr
            exact skip hd hq
      · rename_i ob val p r hcore
        split at hr
        · rename_i x hx
          have hxs := gval_spec F 8 d b x hx
          obtain ⟨hb1, hb2⟩ := bcond_iff.mp hr
          by_cases hwt : Region.wanted o (yielded ops a.tmps) = true
          · rw [if_pos hwt]
            have hd := hw.mp hwt
            have hch := chain_ok F 8 d b hd
            refine .inl ?_
            obtain ⟨hobs, hrun⟩ := need_iff.mp (hb1 (hxs.mpr hd))
            exact (core_goes hc.tab hc.eqs hc.st hc.env F H hch (Nat.le_refl _) (nth_length _) hcore (conj_append.mp hobs).2).1 rfl _ _ fun cc w' Fz' g' hv hH hon' => next _ _ _ _ _ hrun ⟨Fz', g', putT hd _ _ _ _ _ hv hon', hH, hon.trans hon', hg⟩
          · rw [if_neg hwt]
            have hd : a.tmps.getD d undef ≠ .bool b := fun e => hwt (hw.mpr e)
            exact skip hd (hb2 (by
              cases x with
              | false => rfl
              | true => exact absurd (hxs.mp rfl) hd))
        · exact hr.elim
      · split at hr
        · rename_i x hx
          have hxs := gval_spec F 8 d b x hx
          obtain ⟨hxf, hrun⟩ := hr
          have hd : a.tmps.getD d undef ≠ .bool b := fun e => by have := hxs.mpr e; rw [hxf] at this; cases this
          rw [if_neg (fun e => hd (hw.mp e))]
          exact skip hd hrun
        · exact hr.elim
    · exact hr.elim
end
end Go.Proofs.YtnnoplgabnfdiaaGreatDoor.Sh
