/- The shadow machine: functions. -/
import Derived.Test.YtepbibbeifbokaaSh21
namespace Go.Proofs.Ytepbibbeifbokaa.Sh
open Go Go.RowKit
set_option linter.unusedVariables false
set_option linter.unusedSimpArgs false
section
variable {P : Program} {T : Tab} {B0 : Nat} {w0 w w' : World} {Fz F2 : Nat → Prop} {g g' : Gh} {h : List AO} {a : Act} {s : AState}

theorem loadVar_run (hT : TabOK P T) {t : Nat} {ti : TI} (e0 : T.get t = some ti) {v : AV} {cs : List AV} {c : Value} (H : HR B0 w0 w Fz g h) (hpos : 0 < ti.size) (hr : rd (fun o => nth .free h o) v ti.size = some ([], cs)) (hv : VR w Fz g v c) :
    ∃ ad r, c = .pointer (some ad) ∧ (loadVar t ad).run P w = .ok r w ∧ VR w Fz g (pack ti.agg cs) r := by
  obtain ⟨ad, f, hX, hl, hcell, hvv⟩ := rd_vr H hr trivial hv
  have hag := hT.agg (w := w) e0
  have hsz := hT.size (w := w) e0
  have hpk := pack_vr (b := ti.agg) (f := f) (fun q hq => hvv q (by omega)) (fun _ => by omega)
  refine ⟨ad, _, hX, ?_, hpk⟩
  cases hb : ti.agg with
  | true =>
    rw [hb] at hag
    simp [loadVar, hag, hsz, run_loadCells w ad ti.size f hcell, hl]
  | false =>
    rw [hb] at hag
    have h0 := hcell 0 hpos
    rw [add_zero'] at h0
    simp [loadVar, hag, load, Sem.run, h0]
/-- One result of a function. -/
def res1 (tmps : Array Value) : ResultVar → Sem Value
  | .tmp t => pure (tmps.getD t undef)
  | .cell x t => do loadVar t (← asAddr (tmps.getD x undef))
theorem results_eq (fn : Func) (tmps : Array Value) : results fn tmps = (do
    let vs ← fn.results.mapM fun r => res1 tmps r
    pure (if h : vs.size = 1 then vs[0] else .tuple vs)) := rfl
theorem retOne_run (hT : TabOK P T) (F : FR w Fz g s.tmps a) (H : HR B0 w0 w Fz g s.heap) {r : ResultVar} {v : AV} (h : retOne T s r = some v) :
    ∃ c, (res1 a.tmps r).run P w = .ok c w ∧ VR w Fz g v c := by
  cases r with
  | tmp t =>
    simp only [retOne, Option.some.injEq] at h
    subst h
    exact ⟨_, rfl, ev_vr F (Chained.nil a) (.tmp t)⟩
  | cell x t =>
    simp only [retOne] at h
    split at h
    · rename_i ti e0
      cases hz : Nat.beq ti.size 0 with
      | true => rw [hz] at h; simp at h
      | false =>
        rw [hz] at h
        simp only [cond_false] at h
        have hpos : 0 < ti.size := by
          rcases Nat.eq_zero_or_pos ti.size with e | e
          · rw [e] at hz; simp at hz
          · exact e
        split at h
        · rename_i cs e1
          simp only [Option.some.injEq] at h; subst h
          obtain ⟨ad, r, hX, hr, hv⟩ := loadVar_run (P := P) hT e0 H hpos e1 (ev_vr F (Chained.nil a) (.tmp x))
          have hX' : a.tmps.getD x undef = .pointer (some ad) := hX
          exact ⟨r, by simp [res1, hX', asAddr, hr], hv⟩
        · simp at h
    · simp at h
theorem retAll_run (hT : TabOK P T) (F : FR w Fz g s.tmps a) (H : HR B0 w0 w Fz g s.heap) : ∀ (l : List ResultVar) (vs : List AV), retAll T s l = some vs →
    ∃ cs : List Value, (l.mapM fun r => (res1 a.tmps r)).run P w = .ok cs w ∧ vs.length = cs.length ∧ ∀ i, i < vs.length → VR w Fz g (nth .top vs i) (cs.getD i undef)
  | [], vs, h => by
    simp only [retAll, Option.some.injEq] at h; subst h
    exact ⟨[], rfl, rfl, fun i hi => absurd hi (by simp)⟩
  | r :: l, vs, h => by
    simp only [retAll] at h
    split at h
    · rename_i v vs' e1 e2
      simp only [Option.some.injEq] at h; subst h
      obtain ⟨c, h1, h2⟩ := retOne_run (P := P) hT F H e1
      obtain ⟨cs, h3, h4, h5⟩ := retAll_run hT F H l vs' e2
      refine ⟨c :: cs, ?_, by simp [h4], fun i hi => ?_⟩
      · simp only [List.mapM_cons, Sem.run_bind, h1, Result.andThen_ok, h3, Sem.run_pure]
      · cases i with
        | zero => exact h2
        | succ i => simpa [nth] using h5 i (by simpa using hi)
    · simp at h
theorem results_run (hT : TabOK P T) (F : FR w Fz g s.tmps a) (H : HR B0 w0 w Fz g s.heap) {fn : Func} {r : AV} (h : retVal T fn s = some r) : ∃ c, (results fn a.tmps).run P w = .ok c w ∧ VR w Fz g r c := by
  have key : ∀ vs, retAll T s fn.results.toList = some vs → ∃ cs : List Value, (fn.results.mapM fun r => (res1 a.tmps r)).run P w = .ok cs.toArray w ∧ vs.length = cs.length ∧ ∀ i, i < vs.length → VR w Fz g (nth .top vs i) (cs.getD i undef) := fun vs hv => by
    obtain ⟨cs, h1, h2, h3⟩ := retAll_run (P := P) hT F H _ vs hv
    refine ⟨cs, ?_, h2, h3⟩
    rw [Array.mapM_eq_mapM_toList]
    simp only [map_eq_pure_bind, Sem.run_bind, h1, Result.andThen_ok, Sem.run_pure]
  unfold retVal at h
  split at h
  · rename_i v hv
    simp only [Option.some.injEq] at h; subst h
    obtain ⟨cs, h1, h2, h3⟩ := key _ hv
    match cs, h2 with
    | [c], _ =>
      refine ⟨c, ?_, h3 0 (by simp)⟩
      rw [results_eq, Sem.run_bind, h1]
      simp
  · rename_i vs hne hv
    simp only [Option.some.injEq] at h; subst h
    obtain ⟨cs, h1, h2, h3⟩ := key _ hv
    have hn1 : cs.toArray.size ≠ 1 := by
      intro e
      have : vs.length = 1 := by simp at e; omega
      match vs, this with
      | [x], _ => exact hne x rfl
    refine ⟨.tuple cs.toArray, ?_, .tup _ _ (by simpa using h2) fun i hi => by simpa [Array.getD_eq_getD_getElem?, List.getD_eq_getElem?_getD] using h3 i hi⟩
    rw [results_eq, Sem.run_bind, h1]
    simp only [Result.andThen_ok, dif_neg hn1, Sem.run_pure]
  · simp at h
/-- A function's abstract run tells its calls. -/
theorem scall_of {c : Cfg} (hc : CfgOK P c) {f : FuncId} {fn : Func} (hf : P.funcs[f]? = some fn) (hname : (fn.name == "runtime.NumGoroutine") = false) {args : List AV} {K : AV → List AO → Prop} (hbase : c.base = h.length) (H : afn c fn args h K) : SCall P f args h K := by
  unfold afn at H
  cases hb : fn.body with
  | none => rw [hb] at H; exact H.elim
  | some b =>
    rw [hb] at H
    simp only [fL_eq f2_eq] at H
    refine ⟨⟨fn, hf, hname, by rw [hb]; rfl⟩, fun B0 w0 w Fz g xs hH hl hv => calls_of_wp hf hb ?_⟩
    let E : En := ⟨B0, w0, w, Fz, g, h.length⟩
    refine awp_sound (E := E) hc hbase.symm b _ _ _ w _ H ⟨Fz, g, ⟨rfl, by simp [hl], fun i hi => ?_⟩, hH, On.refl _ _ _, fun o ho => hH.free o ho⟩ fun e s' a' w' hk hs => ?_
    · show SR w Fz g _ (nth .top (args ++ List.replicate (fn.ntmps - args.length) .top) i) ((xs ++ Array.replicate (fn.ntmps - xs.size) undef).getD i undef)
      rw [nth_append]
      by_cases hi2 : i < args.length
      · rw [if_pos hi2]
        have : (xs ++ Array.replicate (fn.ntmps - xs.size) undef).getD i undef = xs.getD i undef := by
          simp only [Array.getD_eq_getD_getElem?]; rw [Array.getElem?_append_left (by omega)]
        rw [this]
        exact SR.of (hv i hi2)
      · rw [if_neg hi2]
        have : nth AV.top (List.replicate (fn.ntmps - args.length) AV.top) (i - args.length) = .top := by
          rw [nth_get, List.getD_eq_getElem?_getD, List.getElem?_replicate]; split <;> rfl
        rw [this]; exact .top _
    · obtain ⟨Fz', g', F, H', hon, _⟩ := hs
      have fin : (match retVal c.T fn s' with | some r => K r s'.heap | none => False) → a'.defers = [] ∧ ∃ v, (results fn a'.tmps).run P w' = .ok v w' ∧ ∃ r cc h' Fz' g', Ending.returned v = .returned cc ∧ K r h' ∧ VR w' Fz' g' r cc ∧ HR B0 w0 w' Fz' g' h' ∧ On w w' Fz Fz' g g' := fun hk => by
        split at hk
        · rename_i r hr
          obtain ⟨cc, h1, h2⟩ := results_run (P := P) hc.tab F H' hr
          exact ⟨F.defers, cc, h1, r, cc, s'.heap, Fz', g', rfl, hk, h2, H', hon⟩
        · exact hk.elim
      cases e with
      | normal => exact fin hk
      | exit i => exact hk.elim
      | ret => exact fin hk
end
end Go.Proofs.Ytepbibbeifbokaa.Sh
