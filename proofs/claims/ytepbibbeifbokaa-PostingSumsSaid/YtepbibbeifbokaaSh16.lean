/- The shadow machine: texts. -/
import Derived.Test.YtepbibbeifbokaaSh15
namespace Go.Proofs.Ytepbibbeifbokaa.Sh
open Go Go.RowKit
set_option linter.unusedVariables false
set_option linter.unusedSimpArgs false
/-- The configuration is right. -/
structure CfgOK (P : Program) (c : Cfg) : Prop where
  tab : TabOK P c.T
  eqs : EqOK P c.T c.eqs
  env : EnvOK P c.G
  calls : ∀ f vs h K, c.C f vs h K → SCall P f vs h K
  mixed : P.follows .mixedOrders = true
/-- From where a function's run began. -/
structure En where
  B0 : Nat
  w0 : World
  w1 : World
  F1 : Nat → Prop
  g1 : Gh
  base : Nat
def St (E : En) (s : AState) (a : Act) (w : World) : Prop := ∃ Fz g, FR w Fz g s.tmps a ∧ HR E.B0 E.w0 w Fz g s.heap ∧ On E.w1 w E.F1 Fz E.g1 g ∧ ∀ o, E.base ≤ o → E.g1 o = none
section
variable {P : Program} {c : Cfg} {E : En} {Q : Exit → Act → World → Prop}

theorem isCall_some {s : AState} {op : Op} {f : FuncId} {vs : List AV} (h : isCall c s op = some (f, vs)) : ∃ k fo first caps, op = .call k ∧ k.callee = .value fo ∧ ev [] s fo = .fn f first caps ∧ vs = first ++ k.args.toList.map (ev [] s) ++ caps := by
  unfold isCall at h
  split at h
  · rename_i k
    split at h
    · rename_i fo hcal
      split at h
      · rename_i g first caps hf
        split at h
        · simp only [Option.some.injEq, Prod.mk.injEq] at h
          obtain ⟨rfl, rfl⟩ := h
          exact ⟨k, fo, first, caps, rfl, hcal, hf, rfl⟩
        · simp at h
      · simp at h
    · simp at h
  · simp at h
theorem guard_wanted {ops : Array Oper} {o : Oper} {a : Act} {gs : Option (Nat × Bool)} (h : guardSlot ops.toList o = some gs) : (gs = none → Region.wanted o (yielded ops a.tmps) = true) ∧ ∀ d b, gs = some (d, b) → (Region.wanted o (yielded ops a.tmps) = true ↔ a.tmps.getD d undef = .bool b) := by
  unfold guardSlot at h
  split at h
  · rename_i hg
    simp only [Option.some.injEq] at h; subst h
    exact ⟨fun _ => by simp [Region.wanted, hg], fun d b h => by cases h⟩
  · rename_i j w hg
    split at h
    · rename_i og hog
      split at h
      · rename_i d hd
        simp only [Option.some.injEq] at h; subst h
        refine ⟨(fun h => by cases h), fun d' b' h => ?_⟩
        simp only [Option.some.injEq, Prod.mk.injEq] at h
        obtain ⟨rfl, rfl⟩ := h
        have hog' : ops[j]? = some og := by simpa using hog
        simp only [Region.wanted, hg, yielded, hog', Option.bind_some, hd]
        simp only [Array.getD_eq_getD_getElem?]
        cases hq : a.tmps[d]? with
        | none => simp [undef]
        | some v => cases v <;> simp
      · simp at h
    · simp at h
theorem kill_sr {w w' : World} {Fz : Nat → Prop} {g g' : Gh} {a : Act} {k : Nat} {v : AV} {cc : Value} (hS : Same Fz w w') (hg : ∀ o' x, o' ≠ k → g o' = some x → g' o' = some x) (h : SR w Fz g a v cc) : SR w' Fz g' a (kill2 k v) cc := by
  have key : ∀ {x : AV} {u : Value}, VR w Fz g x u → VR w' Fz g x u := fun hx => hx.mono hS (fun _ x => x) (fun _ _ x => x)
  by_cases hw : ∃ d b x, v = .when d b x
  · obtain ⟨d, b, x, rfl⟩ := hw
    exact h.imp (fun ⟨h1, h2⟩ => ⟨h1, kill1_vr hg (key h2)⟩) id
  · have hnw : ∀ d b x, v ≠ .when d b x := fun d b x e => hw ⟨d, b, x, e⟩
    exact SR.of (kill2_vr hg (key (h.vr hnw)))
theorem FR.kill {w w' : World} {Fz : Nat → Prop} {g g' : Gh} {a : Act} {k : Nat} {ts : List AV} (hS : Same Fz w w') (hg : ∀ o' x, o' ≠ k → g o' = some x → g' o' = some x) (F : FR w Fz g ts a) : FR w' Fz g' (ts.map (kill2 k)) a :=
  ⟨F.defers, by simpa using F.size, fun i hi => by rw [map_top rfl]; exact kill_sr hS hg (F.slots i (by simpa using hi))⟩
theorem nth_length (h : List AO) : nth .free h h.length = .free := nth_ge _ _ _ (Nat.le_refl _)
theorem range'_cons {i n : Nat} (h : i < n) : List.range' i (n - i) = i :: List.range' (i + 1) (n - (i + 1)) := by
  obtain ⟨m, hm⟩ : ∃ m, n - i = m + 1 := ⟨n - i - 1, by omega⟩
  rw [hm, List.range'_succ, show n - (i + 1) = m by omega]

theorem equalIn_sl0 (n : Nat) {w : World} {t e : TypeId} (hd : (underlying t).run P w = .ok (.slice e) w) (A : Option Addr) (l k : Nat) : (Op.equalIn (n + 1) t (.slice A l k) (.slice none 0 0)).run P w = .ok A.isNone w := by
  cases A with
  | none => simp only [Op.equalIn, Sem.run_bind, hd, Result.andThen_ok, Sem.run_pure, Option.isNone_none]
  | some a => simp only [Op.equalIn, Sem.run_bind, hd, Result.andThen_ok, Sem.run_pure, Option.isNone_some]
theorem equal_sl0 {w : World} {t e : TypeId} (hd : (underlying t).run P w = .ok (.slice e) w) (A : Option Addr) (l k : Nat) : (Op.equal t (.slice A l k) (.slice none 0 0)).run P w = .ok A.isNone w := equalIn_sl0 9999 hd A l k
theorem nilCmp_goes {T : Tab} {B0 : Nat} {w0 w : World} {Fz : Nat → Prop} {g : Gh} {s : AState} {a : Act} {o : Oper} {len : Nat} (hT : TabOK P T) (F : FR w Fz g s.tmps a) (H : HR B0 w0 w Fz g s.heap) (h : nilCmp T s o.op = some len) : ∃ b : Bool, (b = true → len = 0) ∧ Goes P B0 w0 w Fz g a o (.bool b) s.heap := by
  unfold nilCmp at h
  split at h
  · rename_i t x y u hop
    have hx := ev_vr F (Chained.nil a) x
    have hy := ev_vr F (Chained.nil a) y
    split at h
    · rename_i e sz by_ z st len' cap row e0 ex ey
      cases hb : Nat.blt 0 st with
      | false => rw [hb] at h; simp at h
      | true =>
        rw [hb] at h
        simp only [cond_true, Option.some.injEq] at h
        subst h
        have hst := blt_lt hb
        rw [ex] at hx
        rw [ey] at hy
        obtain ⟨d, hd, hk⟩ := hT.und (w := w) e0
        simp only [kOK] at hk; subst hk
        have hY : a.eval y = .slice none 0 0 := by generalize a.eval y = q at hy; cases hy; rfl
        generalize hX : a.eval x = X at hx
        cases hx with
        | ro _ _ _ _ _ hr =>
          cases hr with
          | ro _ _ _ _ A cc cs hlen hcap hcl hrr =>
            have hle : len' ≤ cap.getD len' := by cases hcp : cap with
              | none => simp
              | some n => have := hcap n hcp; simp; omega
            refine ⟨A.isNone, fun hA => ?_, goes_sem (e := do eqGuard .eql t x y (a.eval x) (a.eval y); binOp .eql t (a.eval x) (a.eval y)) (c := .bool A.isNone) (by simp only [execOp, hop]) ?_ (.bool _) H⟩
            · rcases Nat.eq_zero_or_pos len' with h0 | h0
              · exact h0
              · obtain ⟨a', ha, _⟩ := hcl 0 (by omega) 0 hst
                rw [ha] at hA
                simp at hA
            · rw [hX, hY]
              simp only [eqGuard, binOp, Sem.run_bind, Sem.run_pure, Result.andThen_ok, Bool.not_true, Bool.false_eq_true, if_false, equal_sl0 hd]
    · simp at h
  · simp at h
theorem runOps_sound (hc : CfgOK P c) (hb : E.base = c.base) (ops : Array Oper) : ∀ (os : List Oper) (i : Nat), os = ops.toList.drop i → ∀ (obs : List Prop) (ts : List AV) (h : List AO) (K : AState → Prop) (a : Act) (w : World),
    runOps c ops.toList os obs ts h K → St E ⟨ts, h⟩ a w → (∀ s' a' w', K s' → St E s' a' w' → Q .normal a' w') → wpOps P ops Q (List.range' i (ops.size - i)) a w
  | [], i, hi, obs, ts, h, K, a, w, hr, hs, hK => by
    have hle : ops.size ≤ i := by
      have := congrArg List.length hi
      simp at this; omega
    rw [show ops.size - i = 0 by omega]
    simp only [runOps, fL_map (g := AV.unguard) (fun v k => f3_eq _ k)] at hr
    obtain ⟨Fz, g, F, H, hon, hg⟩ := hs
    exact hK _ _ _ (need_iff.mp hr).2 ⟨Fz, g, F.unguard, H, hon, hg⟩
  | o :: os, i, hi, obs, ts, h, K, a, w, hr, hs, hK => by
    have hlt : i < ops.size := by
      have := congrArg List.length hi
      simp at this; omega
    have ho : ops[i]? = some o := by
      have := congrArg (fun l => l[0]?) hi
      simpa using this.symm
    have hos : os = ops.toList.drop (i + 1) := by
      have := congrArg List.tail hi
      simpa using this
    rw [range'_cons hlt, wpOps_cons]
    unfold wpOp
    rw [ho]
    simp only
    obtain ⟨Fz, g, F, H, hon, hg⟩ := hs
    have next : ∀ (obs : List Prop) (ts : List AV) (h : List AO) a w, runOps c ops.toList os obs ts h K → St E ⟨ts, h⟩ a w → wpOps P ops Q (List.range' (i + 1) (ops.size - (i + 1))) a w :=
      fun obs ts h a w hr hs => runOps_sound hc hb ops os (i + 1) hos obs ts h K a w hr hs hK
    simp only [runOps, fL_eq f3_eq, fL_eq f2_eq, f3_eq, fH_eq] at hr
    split at hr
    · rename_i hgs
      rw [if_pos ((guard_wanted (a := a) hgs).1 rfl)]
      refine .inl ?_
      split at hr
      · rename_i len hnc
        obtain ⟨hobs, hT1, hT2⟩ := need_iff.mp hr
        obtain ⟨bb, hb0, hgo⟩ := nilCmp_goes hc.tab F H hnc
        have fin2 : ∀ b : Bool, runOps c ops.toList os [] (AState.put ⟨ts, h⟩ o.dst (.bool b)).tmps h K → Goes P E.B0 E.w0 w Fz g a o (.bool b) h → o.wp P a w (wpOps P ops Q (List.range' (i + 1) (ops.size - (i + 1)))) Q := fun b hrun hg' =>
          hg' _ _ fun cc w' Fz' g' hv hH hon' => next _ _ _ _ _ hrun ⟨Fz', g', (hon'.fr F).put_vr o.dst hv, hH, hon.trans hon', hg⟩
        cases bb with
        | true => exact fin2 true (hT1 (hb0 rfl)) hgo
        | false => exact fin2 false hT2 hgo
      split at hr
      · rename_i f vs hic
        obtain ⟨k, fo, first, caps, hop, hcal, hf, rfl⟩ := isCall_some hic
        obtain ⟨hobs, hC⟩ := need_iff.mp hr
        obtain ⟨hEnt, hS⟩ := hc.calls _ _ _ _ hC
        have hfv := ev_vr F (Chained.nil a) fo
        rw [hf] at hfv
        obtain ⟨us, vs, hF, ha, hbb, h1, h2⟩ := inv_fn hfv
        obtain ⟨l1, v1⟩ := args_vr F (Chained.nil a) k.args
        obtain ⟨l2, v2⟩ := nth_append_vr ha l1 h1 v1
        obtain ⟨l3, v3⟩ := nth_append_vr l2 hbb v2 h2
        unfold Oper.wp
        rw [call_value hop hcal hF hEnt, Oper.upon_enter]
        refine (hS _ _ _ _ _ _ H l3 v3).mono fun e w' ⟨r, cc, h', Fz', g', he, hrun, hv, hH, hon'⟩ => ?_
        subst he
        exact next _ _ _ _ _ hrun ⟨Fz', g', (hon'.fr F).put_vr o.dst hv, hH, hon.trans hon', hg⟩
      · rename_i hnc
        split at hr
        · rename_i ob val upd k hcore
          obtain ⟨hobs, hrun⟩ := need_iff.mp hr
          have hob := (conj_append.mp hobs).2
          obtain ⟨hbk, hkl, hgo⟩ := (core_goes hc.tab hc.eqs hc.env F H (Chained.nil a) (Nat.le_refl _) (nth_length _) hcore hob).2 k rfl
          refine hgo _ _ fun cc w' g' hv hH hS hsz hgg => ?_
          have hne : ∀ o' x, E.g1 o' = some x → o' ≠ k := fun o' x hx e => by
            have := hg o' (by rw [hb, e]; exact hbk)
            rw [this] at hx; cases hx
          exact next _ _ _ _ _ hrun ⟨Fz, g', (F.kill hS hgg).put_vr o.dst hv, hH, ⟨fun b hb => (hS b (hon.fz b hb)).trans (hon.same b hb), hon.fz, fun o' x hx => hgg o' x (hne o' x hx) (hon.gh o' x hx), hon.new, Nat.le_trans hon.size hsz⟩, hg⟩
        · rename_i ob val upd hcore
          have step : conj ob → (∀ cc w' Fz' g', VR w' Fz' g' val cc → HR E.B0 E.w0 w' Fz' g' (apply upd h) → On w w' Fz Fz' g g' → wpOps P ops Q (List.range' (i + 1) (ops.size - (i + 1))) (a.put o.dst cc) w') → o.wp P a w (wpOps P ops Q (List.range' (i + 1) (ops.size - (i + 1)))) Q := fun hob hk =>
            (core_goes hc.tab hc.eqs hc.env F H (Chained.nil a) (Nat.le_refl _) (nth_length _) hcore hob).1 rfl _ _ hk
          have fin : ∀ {obs'}, runOps c ops.toList os obs' (AState.put ⟨ts, h⟩ o.dst val).tmps (apply upd h) K → conj ob → o.wp P a w (wpOps P ops Q (List.range' (i + 1) (ops.size - (i + 1)))) Q := fun hrun hob =>
            step hob fun cc w' Fz' g' hv hH hon' => next _ _ _ _ _ hrun ⟨Fz', g', (hon'.fr F).put_vr o.dst hv, hH, hon.trans hon', hg⟩
          split at hr
          · split at hr
            · exact fin hr trivial
            · exact fin hr trivial
          · split at hr
            · exact fin hr (conj_append.mp (runOps_obs os _ _ _ K hr)).2
            · exact fin hr (conj_append.mp (runOps_obs os _ _ _ K hr)).2
        · exact hr.elim
    · rename_i d b hgs
      have hw := (guard_wanted (a := a) hgs).2 d b rfl
      split at hr
      · rename_i ob val hcore
        by_cases hwt : Region.wanted o (yielded ops a.tmps) = true
        · rw [if_pos hwt]
          have hd := hw.mp hwt
          have hch := chain_ok F 8 d b hd
          refine .inl ?_
          have fin : ∀ {obs'}, runOps c ops.toList os obs' (AState.put ⟨ts, h⟩ o.dst (.when d b val)).tmps h K → conj ob → o.wp P a w (wpOps P ops Q (List.range' (i + 1) (ops.size - (i + 1)))) Q := fun hrun hob =>
            (core_goes hc.tab hc.eqs hc.env F H hch (Nat.le_refl _) (nth_length _) hcore hob).1 rfl _ _ fun cc w' Fz' g' hv hH hon' => next _ _ _ _ _ hrun ⟨Fz', g', (hon'.fr F).put o.dst _ cc (fun t ht => by
              simp only [unwhen]
              cases e : (d == t) with
              | true => exact .top _
              | false =>
                have hne : d ≠ t := by simpa using e
                refine .inl ⟨?_, hv⟩
                rw [ht]; simp only [Act.put, getD_set]; rw [if_neg (by omega)]; exact hd), hH, hon.trans hon', hg⟩
          split at hr
          · exact fin hr trivial
          · obtain ⟨q, hq, himp⟩ := chainCond_eq F _ _ _ (fun d' b' hm => hch d' b' (inChain_mem hm)) hr
            exact fin hq (himp (conj_append.mp (runOps_obs os _ _ _ K hq)).2)
        · rw [if_neg hwt]
          have hd : a.tmps.getD d undef ≠ .bool b := fun e => hwt (hw.mpr e)
          have fin : ∀ {obs'}, runOps c ops.toList os obs' (AState.put ⟨ts, h⟩ o.dst (.when d b val)).tmps h K → wpOps P ops Q (List.range' (i + 1) (ops.size - (i + 1))) (a.put o.dst undef) w := fun hrun =>
            next _ _ _ _ _ hrun ⟨Fz, g, F.put o.dst _ undef (fun t ht => by
              simp only [unwhen]
              cases e : (d == t) with
              | true => exact .top _
              | false =>
                have hne : d ≠ t := by simpa using e
                refine .inr ⟨rfl, ?_⟩
                rw [ht]; simp only [Act.put, getD_set]; rw [if_neg (by omega)]; exact hd), H, hon, hg⟩
          split at hr
          · exact fin hr
          · generalize chain ⟨ts, h⟩ 8 d b = chn at hr
            have : ∀ (ch : List (Nat × Bool)) (p : Prop) (R : Prop → Prop), chainCond ⟨ts, h⟩ ch p R → ∃ q, R q := fun ch => by
              induction ch with
              | nil => intro p R h; exact ⟨_, h⟩
              | cons x r ih =>
                intro p R h
                obtain ⟨d, b⟩ := x
                unfold chainCond at h
                split at h
                · split at h <;> exact ih _ R h
                · split at h <;> exact ih _ R h
                · exact ih _ R h
            obtain ⟨q, hq⟩ := this _ _ _ hr
            exact fin hq
      · exact hr.elim
    · exact hr.elim
end
end Go.Proofs.Ytepbibbeifbokaa.Sh
