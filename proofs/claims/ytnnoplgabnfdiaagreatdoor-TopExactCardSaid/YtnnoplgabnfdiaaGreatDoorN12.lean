/- Part 12 of a proof over the shadow machine. -/
import Derived.Test.YtnnoplgabnfdiaaGreatDoorN11
import Derived.Shelf.SlMaps.Clone
import Derived.KernelRfl
/- The shadow machine: functions that put calls off, and those calls. -/
namespace Go.Proofs.YtnnoplgabnfdiaaGreatDoor.Sh
open Go Go.RowKit
set_option linter.unusedVariables false
set_option linter.unusedSimpArgs false
section
variable {P : Program} {B0 : Nat} {w0 w w' w1 : World} {Fz F2 F1 : Nat → Prop} {g g' g1 : Gh} {h : List AO} {a : Act} {E : En}
def StM (B0 : Nat) (w0 w1 : World) (F1 : Nat → Prop) (g1 : Gh) (m : MC) (u : FrameMode) (s : AState) (a : Act) (w : World) : Prop := ∃ Fz g, FR [] w Fz g s.tmps a ∧ HR B0 w0 w Fz g s.heap ∧ On w1 w F1 Fz g1 g ∧ MR w Fz g m u
def StME (B0 : Nat) (w0 w1 : World) (F1 : Nat → Prop) (g1 : Gh) (e : EX) (m : MC) (u : FrameMode) (s : AState) (a : Act) (w : World) (x : Exit) : Prop :=
  match e with
  | .normal => x = .normal ∧ StM B0 w0 w1 F1 g1 m u s a w
  | .exit i => x = .exit i ∧ StM B0 w0 w1 F1 g1 m u s a w
  | .ret => x = .ret ∧ StM B0 w0 w1 F1 g1 m u s a w
  | .panic v => True
theorem recover_run {o : Oper} (h : isRecover o = true) : (execOp a.eval o).run P w = .ok .recover w := by
  unfold isRecover at h
  split at h
  · rename_i k hop
    split at h
    · rename_i hcal
      simp [execOp, hop, resolve, hcal, invoke, builtin]
    · simp at h
  · simp at h
theorem awpS_sound {c : Cfg} (hc : CfgOK P c) {c0 : Frame} {cs : List Frame} : ∀ (code : Code) (K : EX → MC → AState → Prop) (m : MC) (s : AState) (a : Act) (w : World) (u : FrameMode) (Q : Exit → Act → List Frame → World → Prop), awpS c code K m s → StM B0 w0 w1 F1 g1 m u s a w → (∀ v m s, ¬ K (.panic v) m s) →
    (∀ e m s' a' u' w' x, K e m s' → StME B0 w0 w1 F1 g1 e m u' s' a' w' x → Q x a' ({ c0 with mode := u' } :: cs) w') → code.wpS P Q a ({ c0 with mode := u } :: cs) w := by
  have plain : ∀ (code : Code) (K : EX → MC → AState → Prop) (m : MC) (s : AState) (a : Act) (w : World) (u : FrameMode) (Q : Exit → Act → List Frame → World → Prop), awp { c with base := s.heap.length } code (fun e s' => K e m s') s → StM B0 w0 w1 F1 g1 m u s a w → (∀ v m s, ¬ K (.panic v) m s) →
    (∀ e m s' a' u' w' x, K e m s' → StME B0 w0 w1 F1 g1 e m u' s' a' w' x → Q x a' ({ c0 with mode := u' } :: cs) w') → code.wpS P Q a ({ c0 with mode := u } :: cs) w := fun code K m s a w u Q h hs hnp hk => by
    obtain ⟨Fz, g, F, H, hon, hm⟩ := hs
    let E : En := ⟨B0, w0, w, Fz, g, s.heap.length, []⟩
    refine wpS_of_wp (awp_sound (hc.rebase s.heap.length) (E := E) rfl code _ s a w _ h ⟨Fz, g, F, H, On.refl _ _ _, fun o ho => H.free o ho⟩ fun e s' a' w' x h' hs' => ?_)
    have key : St E s' a' w' → StM B0 w0 w1 F1 g1 m u s' a' w' := fun ⟨Fz', g', F', H', hon', _⟩ => ⟨Fz', g', F', H', hon.trans hon', hm.on hon'⟩
    cases e with
    | normal => exact hk _ _ _ _ _ _ _ h' ⟨hs'.1, key hs'.2⟩
    | exit i => exact hk _ _ _ _ _ _ _ h' ⟨hs'.1, key hs'.2⟩
    | ret => exact hk _ _ _ _ _ _ _ h' ⟨hs'.1, key hs'.2⟩
    | panic v => exact (hnp _ _ _ h').elim
  intro code
  induction code with
  | seq x y ih1 ih2 =>
    intro K m s a w u Q h hs hnp hk
    refine wpS_seq (ih1 _ m s a w u _ h hs (fun v m s h' => hnp v m s h') fun e m s' a' u' w' x h' hs' => ?_)
    cases e with
    | normal => obtain ⟨rfl, hs'⟩ := hs'; exact ih2 K m s' a' w' u' Q h' hs' hnp hk
    | exit i => have := hs'.1; subst this; exact hk _ _ _ _ _ _ _ h' hs'
    | ret => have := hs'.1; subst this; exact hk _ _ _ _ _ _ _ h' hs'
    | panic v => exact (hnp _ _ _ h').elim
  | region id ops d =>
    intro K m s a w u Q h hs hnp hk
    simp only [awpS] at h
    split at h
    · rename_i o hops
      split at h
      · rename_i hr hg
        have ho : ops = #[o] := by rw [← Array.toArray_toList (xs := ops), hops]
        subst ho
        refine wpS_region ?_
        obtain ⟨Fz, g, F, H, hon, hm⟩ := hs
        have hw : Region.wanted o (yielded #[o] a.tmps) = true := by simp [Region.wanted, hg]
        have hrun := recover_run (P := P) (a := a) (w := w) hr
        have hgo : (match recoverD ({ c0 with mode := u } :: cs) with
          | some (v, cs') => wpOpsS P #[o] Q [] (a.put o.dst v) cs' w
          | none => wpOpsS P #[o] Q [] (a.put o.dst .nilIface) ({ c0 with mode := u } :: cs) w) → wpOpsS P #[o] Q (List.range (#[o] : Array Oper).size) a ({ c0 with mode := u } :: cs) w := fun h => by
          show wpOpsS P #[o] Q [0] a _ w
          unfold wpOpsS
          simp only [List.getElem?_toArray, List.getElem?_cons_zero, hw, if_true, hrun]
          exact h
        refine hgo ?_
        split at h
        · have hu : u = .returning := hm
          subst hu
          simp only [recoverD, wpOpsS]
          simp only [fP_eq, fA_eq, fL_eq f3_eq] at h
          exact hk _ _ _ _ _ _ _ h ⟨rfl, Fz, g, F.put_vr o.dst .nilif, H, hon, rfl⟩
        · obtain ⟨x, rfl, hv⟩ := hm
          simp only [recoverD, wpOpsS]
          simp only [fP_eq, fA_eq, fL_eq f3_eq] at h
          exact hk _ _ _ _ _ _ _ h ⟨rfl, Fz, g, F.put_vr o.dst hv, H, hon, x, rfl, hv⟩
        · obtain ⟨x, rfl, hv⟩ := hm
          simp only [recoverD, wpOpsS]
          simp only [fP_eq, fA_eq, fL_eq f3_eq] at h
          exact hk _ _ _ _ _ _ _ h ⟨rfl, Fz, g, F.put_vr o.dst .nilif, H, hon, x, rfl, hv⟩
      · exact plain _ K m s a w u Q h hs hnp hk
    · exact plain _ K m s a w u Q h hs hnp hk
  | _ => exact fun K m s a w u Q h hs hnp hk => plain _ K m s a w u Q h hs hnp hk
theorem MR_settled {m : MC} {u : FrameMode} (h : MR w Fz g m u) : MR w Fz g m.settle.mc (settle u) := h.settle
/-- A function's abstract run, when another one is left, tells that call. -/
theorem dcall_of {c : Cfg} (hc : CfgOK P c) {f : FuncId} {fn : Func} (hf : P.funcs[f]? = some fn) (hname : (fn.name == "runtime.NumGoroutine") = false) {args : List AV} {m : MD} {K : MD → List AO → Prop} (H : afnS c fn args m h K) : DCall P f args m h K := by
  unfold afnS at H
  cases hb : fn.body with
  | none => rw [hb] at H; exact H.elim
  | some b =>
    rw [hb] at H
    simp only [fL_eq f2_eq] at H
    refine ⟨⟨fn, hf, hname, by rw [hb]; rfl⟩, fun B0 w0 w Fz g xs u hm hH hl hv => callsD_of_wpS hf hb fun c0 cs hu => ?_⟩
    have hc0 : ({ c0 with mode := u } : Frame) = c0 := by subst hu; rfl
    have := awpS_sound (B0 := B0) (w0 := w0) (w1 := w) (F1 := Fz) (g1 := g) (c0 := c0) (cs := cs) hc b _ m.mc ⟨args ++ List.replicate (fn.ntmps - args.length) .top, h⟩ _ w u (bodyPostS P fn c0 cs fun e u' w' => ∃ m' v h' Fz' g', e = .returned v ∧ K m' h' ∧ MR w' Fz' g' m'.mc (settle u') ∧ HR B0 w0 w' Fz' g' h' ∧ On w w' Fz Fz' g g') H ⟨Fz, g, start_fr (h := h) hl hv, hH, On.refl _ _ _, hm⟩ (fun v m s hh => hh) (fun e m s' a' u' w' x hk hs => ?_)
    · rw [hc0] at this; exact this
    · have fin : StM B0 w0 w Fz g m u' s' a' w' → (match retVal c.T fn s' with | some r => K m.settle s'.heap | none => False) → a'.defers = [] ∧ ∃ u'', ({ c0 with mode := u' } :: cs : List Frame) = { c0 with mode := u'' } :: cs ∧ ∃ v, (results fn a'.tmps).run P w' = .ok v w' ∧ ∃ m' v' h' Fz' g', Ending.returned v = .returned v' ∧ K m' h' ∧ MR w' Fz' g' m'.mc (settle u'') ∧ HR B0 w0 w' Fz' g' h' ∧ On w w' Fz Fz' g g' := fun hs hk => by
        obtain ⟨Fz', g', F, H', hon, hm'⟩ := hs
        split at hk
        · rename_i r hr
          obtain ⟨cc, h1, h2⟩ := results_run (P := P) hc.tab F H' hr
          exact ⟨F.defers, u', rfl, cc, h1, m.settle, cc, s'.heap, Fz', g', rfl, hk, hm'.settle, H', hon⟩
        · exact hk.elim
      cases e with
      | normal => obtain ⟨rfl, hs⟩ := hs; exact fin hs hk
      | exit i => exact hk.elim
      | ret => obtain ⟨rfl, hs⟩ := hs; exact fin hs hk
      | panic v => exact hk.elim
/-- All that was put off is done. -/
theorem leaves_of {fn : Func} {tmps : Array Value} {R : Ending → World → Prop} : ∀ (D : List DF) (ds : List Deferred) (m : MD) (h : List AO) (K : MD → List AO → Prop) (u : FrameMode) (w : World) (Fz : Nat → Prop) (g : Gh), leaveD P D m h K → DRs w Fz g D ds → MR w Fz g m.mc u → HR B0 w0 w Fz g h →
    (∀ m' h' u' w' Fz' g', K m' h' → MR w' Fz' g' m'.mc u' → HR B0 w0 w' Fz' g' h' → On w w' Fz Fz' g g' → Leaves P fn tmps R [] u' w') → Leaves P fn tmps R ds u w
  | [], ds, m, h, K, u, w, Fz, g, hl, hd, hm, hH, hk => by
    cases hd
    exact hk m h u w Fz g hl hm hH (On.refl _ _ _)
  | (f, vs) :: D, ds, m, h, K, u, w, Fz, g, hl, hd, hm, hH, hk => by
    cases hd with
    | cons _ _ cap ag _ ds hlen hv hd =>
    obtain ⟨hEnt, hC⟩ := hl
    have hu : u ≠ .run := by
      cases m with
      | ret => have : u = .returning := hm; rw [this]; simp
      | pan v => obtain ⟨x, rfl, _⟩ := hm; simp
    refine leaves_cons hu (by simp only [invoke]; exact enters hEnt _ _) ((hC B0 w0 w Fz g (ag ++ cap) u hm hH hlen hv).mono fun e u' w' ⟨m', v, h', Fz', g', he, hK, hm', hH', hon⟩ => ?_)
    subst he
    exact leaves_of D ds m' h' K (settle u') w' Fz' g' hK (hd.on hon) hm' hH' fun m'' h'' u'' w'' Fz'' g'' h1 h2 h3 h4 => hk _ _ _ _ _ _ h1 h2 h3 (hon.trans h4)
/-- A function's abstract run tells its calls: calls are put off. -/
theorem scall_ofD {c : Cfg} (hc : CfgOK P c) {f : FuncId} {fn : Func} (hf : P.funcs[f]? = some fn) (hname : (fn.name == "runtime.NumGoroutine") = false) {args : List AV} {K : AR → List AO → Prop} (hbase : c.base = h.length) (H : afnD P c fn args h K) : SCall P f args h K := by
  unfold afnD at H
  cases hb : fn.body with
  | none => rw [hb] at H; exact H.elim
  | some b =>
    rw [hb] at H
    simp only [fL_eq f2_eq] at H
    refine fun B0 w0 w Fz g xs hH hl hv => .inl ⟨⟨fn, hf, hname, by rw [hb]; rfl⟩, calls_of_wp_defers hf hb ?_⟩
    let E : En := ⟨B0, w0, w, Fz, g, h.length, []⟩
    refine awpD_sound (E := E) hc b _ _ _ _ _ w _ H ⟨E, hbase.symm, rfl, rfl, ⟨Fz, g, start_fr (h := h) hl hv, hH, On.refl _ _ _, fun o ho => hH.free o ho⟩, On.refl _ _ _, .nil⟩ fun e D b' s' a' w' x hk hs => ?_
    obtain ⟨E', e1, e2, e3, hs, hon, hd⟩ := hs
    have fin : ∀ (m : MD) (u : FrameMode) (Fz' : Nat → Prop) (g' : Gh), MR w' Fz' g' m.mc u → FR E'.D w' Fz' g' s'.tmps a' → HR E'.B0 E'.w0 w' Fz' g' s'.heap → On E'.w1 w' E'.F1 Fz' E'.g1 g' → (leaveD P D m s'.heap fun m h => match m with
        | .ret => match retVal c.T fn ⟨s'.tmps, h⟩ with
          | some r => K (.ret r) h
          | none => False
        | .pan v => K (.pan v) h) → Leaves P fn a'.tmps (fun e w' => ∃ r cc h' Fz' g', e = r.end_ cc ∧ K r h' ∧ VR w' Fz' g' r.val cc ∧ HR B0 w0 w' Fz' g' h' ∧ On w w' Fz Fz' g g') a'.defers u w' := fun m u Fz' g' hm F H' hon' hk => by
      rw [e2, e3] at H'
      rw [F.defers]
      refine leaves_of D E'.D m s'.heap _ u w' Fz' g' hk (hd.on hon') hm H' fun m' h' u' w'' Fz'' g'' hk' hm' H'' hon'' => ?_
      have hon3 : On w w'' Fz Fz'' g g'' := (hon.trans hon').trans hon''
      have F0 : FR [] w'' Fz'' g'' s'.tmps { a' with defers := [] } := ⟨rfl, F.size, fun i hi => by
        have := (hon''.fr F).slots i hi
        generalize nth AV.top s'.tmps i = q at this ⊢
        cases q <;> exact this⟩
      cases m' with
      | ret =>
        have hu : u' = .returning := hm'
        subst hu
        simp only at hk'
        split at hk'
        · rename_i r hr
          obtain ⟨cc, h1, h2⟩ := results_run (P := P) (s := ⟨s'.tmps, h'⟩) hc.tab F0 H'' hr
          exact ⟨cc, h1, .ret r, cc, h', Fz'', g'', rfl, hk', h2, H'', hon3⟩
        · exact hk'.elim
      | pan v =>
        obtain ⟨x, rfl, hv⟩ := hm'
        exact ⟨.pan v, x, h', Fz'', g'', rfl, hk', hv, H'', hon3⟩
    cases e with
    | normal =>
      obtain ⟨rfl, Fz', g', F, H', hon', _⟩ := hs
      exact fin .ret .returning Fz' g' rfl F H' hon' hk
    | exit i => exact hk.elim
    | ret =>
      obtain ⟨rfl, Fz', g', F, H', hon', _⟩ := hs
      exact fin .ret .returning Fz' g' rfl F H' hon' hk
    | panic v =>
      obtain ⟨y, rfl, Fz', g', F, H', hon', _, hv'⟩ := hs
      exact fin (.pan v) _ Fz' g' ⟨y, rfl, hv'⟩ F H' hon' hk
end
end Go.Proofs.YtnnoplgabnfdiaaGreatDoor.Sh
/- The shadow machine over this program: maps.Clone, by the library's own text. -/
namespace Go.Proofs.YtnnoplgabnfdiaaGreatDoor.Sh
open Go Go.RowKit
set_option linter.unusedVariables false
set_option linter.unusedSimpArgs false
set_option maxRecDepth 100000
set_option maxHeartbeats 4000000
theorem clone85 (b : Nat) (w : World) (hb : w.heap[b]? = some (.map #[] 0)) : Calls Tryz.prog 85 #[.map (some b)] w fun e w' => e = .returned (.map (some w.heap.size)) ∧ w' = w.alloc (.map #[] 0) := by
  have hq := fun w => run_eql_map_nil_sl (P := Tryz.prog) w 132 _ _ (some b) Tryz.underlying132
  go_enter Tryz.func85, Tryz.ntmps85
  go_wp2
  rw [run_callFunc_extern Tryz.func130 (by kernel_rfl) (by kernel_rfl) (by kernel_rfl) (e := Extern.MapsClone.clone) (by kernel_rfl), run_maps_clone_sl w 132 hb]
  simp only [Result.andThen]
  rw [Oper.upon_value]
  go_wp2
  rw [run_typeAssert_map_sl _ 132 20 _ _ _ Tryz.underlying132]
  simp only [Result.andThen]
  rw [Oper.upon_value]
  go_wp2
  go_ret
  exact ⟨rfl, rfl⟩
theorem clone86 (b : Nat) (w : World) (hb : w.heap[b]? = some (.map #[] 0)) : Calls Tryz.prog 86 #[.map (some b)] w fun e w' => e = .returned (.map (some w.heap.size)) ∧ w' = w.alloc (.map #[] 0) := by
  have hq := fun w => run_eql_map_nil_sl (P := Tryz.prog) w 133 _ _ (some b) Tryz.underlying133
  go_enter Tryz.func86, Tryz.ntmps86
  go_wp2
  rw [run_callFunc_extern Tryz.func130 (by kernel_rfl) (by kernel_rfl) (by kernel_rfl) (e := Extern.MapsClone.clone) (by kernel_rfl), run_maps_clone_sl w 133 hb]
  simp only [Result.andThen]
  rw [Oper.upon_value]
  go_wp2
  rw [run_typeAssert_map_sl _ 133 20 _ _ _ Tryz.underlying133]
  simp only [Result.andThen]
  rw [Oper.upon_value]
  go_wp2
  go_ret
  exact ⟨rfl, rfl⟩
theorem mk_ok : MkOK Tryz.prog := fun f hf b w hb => by
  have : f = 85 ∨ f = 86 := by
    unfold mkF at hf
    simpa using hf
  rcases this with rfl | rfl
  · exact .inl ⟨⟨_, Tryz.func85, rfl, rfl⟩, clone85 b w hb⟩
  · exact .inl ⟨⟨_, Tryz.func86, rfl, rfl⟩, clone86 b w hb⟩
end Go.Proofs.YtnnoplgabnfdiaaGreatDoor.Sh
/- The shadow machine over this program: its types. -/
namespace Go.Proofs.YtnnoplgabnfdiaaGreatDoor.Sh
open Go Go.RowKit
set_option linter.unusedVariables false
def Tt : Tab := [(1, ⟨.func, 1, 8, .nilfn⟩),
  (2, ⟨(.int .i64), 1, 8, (.int .i64 0)⟩),
  (3, ⟨(.int .i64), 1, 8, (.int .i64 0)⟩),
  (4, ⟨.bool, 1, 1, (.bool false)⟩),
  (5, ⟨(.int .u8), 1, 1, (.int .u8 0)⟩),
  (9, ⟨.str, 1, 16, (.str ⟨#[]⟩)⟩),
  (20, ⟨.iface, 1, 16, .nilif⟩),
  (22, ⟨(.slice 127), 1, 24, .nilsl⟩),
  (23, ⟨(.arr 4 3), 4, 32, (.agg [(.int .i64 0), (.int .i64 0), (.int .i64 0), (.int .i64 0)])⟩),
  (24, ⟨(.slice 130), 1, 24, .nilsl⟩),
  (25, ⟨(.slice 3), 1, 24, .nilsl⟩),
  (27, ⟨(.struct [(0, 9), (1, 3), (2, 3), (3, 3), (4, 3), (5, 3), (6, 3), (7, 2), (8, 22), (9, 2), (10, 23), (14, 3), (15, 24), (16, 2), (17, 3), (18, 25)]), 19, 208, (.agg [(.str ⟨#[]⟩), (.int .i64 0), (.int .i64 0), (.int .i64 0), (.int .i64 0), (.int .i64 0), (.int .i64 0), (.int .i64 0), .nilsl, (.int .i64 0), (.int .i64 0), (.int .i64 0), (.int .i64 0), (.int .i64 0), (.int .i64 0), .nilsl, (.int .i64 0), (.int .i64 0), .nilsl])⟩),
  (28, ⟨(.slice 39), 1, 24, .nilsl⟩),
  (31, ⟨(.ptr 79), 1, 8, .nilp⟩),
  (32, ⟨(.int .i64), 1, 8, (.int .i64 0)⟩),
  (39, ⟨(.struct [(0, 3), (1, 3), (2, 3), (3, 2), (4, 3)]), 5, 40, (.agg [(.int .i64 0), (.int .i64 0), (.int .i64 0), (.int .i64 0), (.int .i64 0)])⟩),
  (40, ⟨(.slice 54), 1, 24, .nilsl⟩),
  (42, ⟨(.slice 2), 1, 24, .nilsl⟩),
  (43, ⟨(.slice 168), 1, 24, .nilsl⟩),
  (45, ⟨(.struct [(0, 2), (1, 2), (2, 43), (3, 2), (4, 2), (5, 2), (6, 2), (7, 2), (8, 2), (9, 2)]), 10, 96, (.agg [(.int .i64 0), (.int .i64 0), .nilsl, (.int .i64 0), (.int .i64 0), (.int .i64 0), (.int .i64 0), (.int .i64 0), (.int .i64 0), (.int .i64 0)])⟩),
  (47, ⟨(.struct [(0, 3), (1, 4), (2, 3), (3, 42), (4, 3), (5, 2), (6, 45), (16, 2), (17, 2), (18, 2)]), 19, 184, (.agg [(.int .i64 0), (.bool false), (.int .i64 0), .nilsl, (.int .i64 0), (.int .i64 0), (.int .i64 0), (.int .i64 0), .nilsl, (.int .i64 0), (.int .i64 0), (.int .i64 0), (.int .i64 0), (.int .i64 0), (.int .i64 0), (.int .i64 0), (.int .i64 0), (.int .i64 0), (.int .i64 0)])⟩),
  (52, ⟨(.slice 95), 1, 24, .nilsl⟩),
  (54, ⟨(.struct [(0, 3), (1, 3), (2, 52)]), 3, 40, (.agg [(.int .i64 0), (.int .i64 0), .nilsl])⟩),
  (58, ⟨(.int .u64), 1, 8, (.int .u64 0)⟩),
  (59, ⟨(.slice 63), 1, 24, .nilsl⟩),
  (63, ⟨(.struct [(0, 3), (1, 2), (2, 2), (3, 2)]), 4, 32, (.agg [(.int .i64 0), (.int .i64 0), (.int .i64 0), (.int .i64 0)])⟩),
  (65, ⟨(.struct [(0, 3), (1, 4), (2, 4), (3, 2), (4, 2), (5, 2), (6, 2), (7, 2), (8, 2), (9, 2), (10, 43), (11, 3), (12, 3)]), 13, 112, (.agg [(.int .i64 0), (.bool false), (.bool false), (.int .i64 0), (.int .i64 0), (.int .i64 0), (.int .i64 0), (.int .i64 0), (.int .i64 0), (.int .i64 0), .nilsl, (.int .i64 0), (.int .i64 0)])⟩),
  (69, ⟨(.int .u64), 1, 8, (.int .u64 0)⟩),
  (75, ⟨(.ptr 135), 1, 8, .nilp⟩),
  (77, ⟨(.slice 47), 1, 24, .nilsl⟩),
  (79, ⟨(.struct [(0, 27), (19, 75), (20, 3), (21, 77), (22, 40)]), 23, 272, (.agg [(.str ⟨#[]⟩), (.int .i64 0), (.int .i64 0), (.int .i64 0), (.int .i64 0), (.int .i64 0), (.int .i64 0), (.int .i64 0), .nilsl, (.int .i64 0), (.int .i64 0), (.int .i64 0), (.int .i64 0), (.int .i64 0), (.int .i64 0), .nilsl, (.int .i64 0), (.int .i64 0), .nilsl, .nilp, (.int .i64 0), .nilsl, .nilsl])⟩),
  (80, ⟨(.slice 5), 1, 24, .nilsl⟩),
  (82, ⟨(.int .i64), 1, 8, (.int .i64 0)⟩),
  (95, ⟨(.struct [(0, 3), (1, 2)]), 2, 16, (.agg [(.int .i64 0), (.int .i64 0)])⟩),
  (121, ⟨(.struct []), 0, 0, (.agg [])⟩),
  (123, ⟨(.struct [(0, 27)]), 19, 208, (.agg [(.str ⟨#[]⟩), (.int .i64 0), (.int .i64 0), (.int .i64 0), (.int .i64 0), (.int .i64 0), (.int .i64 0), (.int .i64 0), .nilsl, (.int .i64 0), (.int .i64 0), (.int .i64 0), (.int .i64 0), (.int .i64 0), (.int .i64 0), .nilsl, (.int .i64 0), (.int .i64 0), .nilsl])⟩),
  (124, ⟨(.slice 1), 1, 24, .nilsl⟩),
  (127, ⟨(.struct [(0, 3), (1, 2)]), 2, 16, (.agg [(.int .i64 0), (.int .i64 0)])⟩),
  (130, ⟨(.struct [(0, 3), (1, 2)]), 2, 16, (.agg [(.int .i64 0), (.int .i64 0)])⟩),
  (132, ⟨(.map 3 39), 1, 8, .nilmp⟩),
  (133, ⟨(.map 3 4), 1, 8, .nilmp⟩),
  (135, ⟨(.struct [(0, 28), (1, 132), (2, 133), (3, 3)]), 4, 48, (.agg [.nilsl, .nilmp, .nilmp, (.int .i64 0)])⟩),
  (137, ⟨(.ptr 139), 1, 8, .nilp⟩),
  (139, ⟨(.struct [(0, 137), (1, 80)]), 2, 32, (.agg [.nilp, .nilsl])⟩),
  (141, ⟨(.struct [(0, 139)]), 2, 32, (.agg [.nilp, .nilsl])⟩),
  (148, ⟨.iface, 1, 16, .nilif⟩),
  (152, ⟨.func, 1, 8, .nilfn⟩),
  (153, ⟨(.slice 152), 1, 24, .nilsl⟩),
  (164, ⟨(.struct [(0, 45)]), 10, 96, (.agg [(.int .i64 0), (.int .i64 0), .nilsl, (.int .i64 0), (.int .i64 0), (.int .i64 0), (.int .i64 0), (.int .i64 0), (.int .i64 0), (.int .i64 0)])⟩),
  (168, ⟨(.struct [(0, 3), (1, 3), (2, 2), (3, 2)]), 4, 32, (.agg [(.int .i64 0), (.int .i64 0), (.int .i64 0), (.int .i64 0)])⟩),
  (184, ⟨(.ptr 229), 1, 8, .nilp⟩),
  (189, ⟨(.struct [(0, 3), (1, 3), (2, 3)]), 3, 24, (.agg [(.int .i64 0), (.int .i64 0), (.int .i64 0)])⟩),
  (193, ⟨(.slice 9), 1, 24, .nilsl⟩),
  (197, ⟨(.arr 5 4), 5, 5, (.agg [(.bool false), (.bool false), (.bool false), (.bool false), (.bool false)])⟩),
  (198, ⟨(.ptr 235), 1, 8, .nilp⟩),
  (217, ⟨(.struct [(0, 2), (1, 2)]), 2, 16, (.agg [(.int .i64 0), (.int .i64 0)])⟩),
  (224, ⟨(.struct [(0, 27), (19, 184), (20, 47), (39, 28)]), 40, 424, (.agg [(.str ⟨#[]⟩), (.int .i64 0), (.int .i64 0), (.int .i64 0), (.int .i64 0), (.int .i64 0), (.int .i64 0), (.int .i64 0), .nilsl, (.int .i64 0), (.int .i64 0), (.int .i64 0), (.int .i64 0), (.int .i64 0), (.int .i64 0), .nilsl, (.int .i64 0), (.int .i64 0), .nilsl, .nilp, (.int .i64 0), (.bool false), (.int .i64 0), .nilsl, (.int .i64 0), (.int .i64 0), (.int .i64 0), (.int .i64 0), .nilsl, (.int .i64 0), (.int .i64 0), (.int .i64 0), (.int .i64 0), (.int .i64 0), (.int .i64 0), (.int .i64 0), (.int .i64 0), (.int .i64 0), (.int .i64 0), .nilsl])⟩),
  (229, ⟨(.struct [(0, 27), (19, 4), (20, 3), (21, 25)]), 22, 248, (.agg [(.str ⟨#[]⟩), (.int .i64 0), (.int .i64 0), (.int .i64 0), (.int .i64 0), (.int .i64 0), (.int .i64 0), (.int .i64 0), .nilsl, (.int .i64 0), (.int .i64 0), (.int .i64 0), (.int .i64 0), (.int .i64 0), (.int .i64 0), .nilsl, (.int .i64 0), (.int .i64 0), .nilsl, (.bool false), (.int .i64 0), .nilsl])⟩),
  (231, ⟨(.struct [(0, 45), (10, 217)]), 12, 112, (.agg [(.int .i64 0), (.int .i64 0), .nilsl, (.int .i64 0), (.int .i64 0), (.int .i64 0), (.int .i64 0), (.int .i64 0), (.int .i64 0), (.int .i64 0), (.int .i64 0), (.int .i64 0)])⟩),
  (235, ⟨(.struct [(0, 25)]), 1, 24, (.agg [.nilsl])⟩),
  (237, ⟨(.struct [(0, 3), (1, 32)]), 2, 16, (.agg [(.int .i64 0), (.int .i64 0)])⟩),
  (238, ⟨(.slice 246), 1, 24, .nilsl⟩),
  (242, ⟨(.map 9 4), 1, 8, .nilmp⟩),
  (244, ⟨(.struct [(0, 238), (1, 3), (2, 27), (21, 242)]), 22, 248, (.agg [.nilsl, (.int .i64 0), (.str ⟨#[]⟩), (.int .i64 0), (.int .i64 0), (.int .i64 0), (.int .i64 0), (.int .i64 0), (.int .i64 0), (.int .i64 0), .nilsl, (.int .i64 0), (.int .i64 0), (.int .i64 0), (.int .i64 0), (.int .i64 0), (.int .i64 0), .nilsl, (.int .i64 0), (.int .i64 0), .nilsl, .nilmp])⟩),
  (246, ⟨(.struct [(0, 3), (1, 3), (2, 9)]), 3, 32, (.agg [(.int .i64 0), (.int .i64 0), (.str ⟨#[]⟩)])⟩),
  (248, ⟨.uptr, 1, 8, .nilp⟩),
  (263, ⟨(.struct [(0, 198), (1, 3)]), 2, 16, (.agg [.nilp, (.int .i64 0)])⟩),
  (264, ⟨(.arr 12 3), 12, 96, (.agg [(.int .i64 0), (.int .i64 0), (.int .i64 0), (.int .i64 0), (.int .i64 0), (.int .i64 0), (.int .i64 0), (.int .i64 0), (.int .i64 0), (.int .i64 0), (.int .i64 0), (.int .i64 0)])⟩),
  (268, ⟨(.struct [(0, 3), (1, 32)]), 2, 16, (.agg [(.int .i64 0), (.int .i64 0)])⟩),
  (271, ⟨(.struct [(0, 9), (1, 3)]), 2, 24, (.agg [(.str ⟨#[]⟩), (.int .i64 0)])⟩),
  (282, ⟨(.struct [(0, 3)]), 1, 8, (.agg [(.int .i64 0)])⟩),
  (297, ⟨(.int .i64), 1, 8, (.int .i64 0)⟩),
  (299, ⟨.func, 1, 8, .nilfn⟩),
  (316, ⟨(.arr 4 2), 4, 32, (.agg [(.int .i64 0), (.int .i64 0), (.int .i64 0), (.int .i64 0)])⟩),
  (320, ⟨(.arr 6 299), 6, 48, (.agg [.nilfn, .nilfn, .nilfn, .nilfn, .nilfn, .nilfn])⟩),
  (323, ⟨(.int .i64), 1, 8, (.int .i64 0)⟩),
  (346, ⟨(.ptr 366), 1, 8, .nilp⟩),
  (362, ⟨(.int .i64), 1, 8, (.int .i64 0)⟩),
  (366, ⟨(.struct [(0, 2), (1, 2), (2, 2)]), 3, 24, (.agg [(.int .i64 0), (.int .i64 0), (.int .i64 0)])⟩),
  (367, ⟨(.int .i64), 1, 8, (.int .i64 0)⟩),
  (373, ⟨(.struct [(0, 27), (19, 2), (20, 2), (21, 2), (22, 346)]), 23, 240, (.agg [(.str ⟨#[]⟩), (.int .i64 0), (.int .i64 0), (.int .i64 0), (.int .i64 0), (.int .i64 0), (.int .i64 0), (.int .i64 0), .nilsl, (.int .i64 0), (.int .i64 0), (.int .i64 0), (.int .i64 0), (.int .i64 0), (.int .i64 0), .nilsl, (.int .i64 0), (.int .i64 0), .nilsl, (.int .i64 0), (.int .i64 0), (.int .i64 0), .nilp])⟩),
  (378, ⟨(.struct [(0, 27), (19, 42), (20, 2)]), 21, 240, (.agg [(.str ⟨#[]⟩), (.int .i64 0), (.int .i64 0), (.int .i64 0), (.int .i64 0), (.int .i64 0), (.int .i64 0), (.int .i64 0), .nilsl, (.int .i64 0), (.int .i64 0), (.int .i64 0), (.int .i64 0), (.int .i64 0), (.int .i64 0), .nilsl, (.int .i64 0), (.int .i64 0), .nilsl, .nilsl, (.int .i64 0)])⟩),
  (379, ⟨(.struct []), 0, 0, (.agg [])⟩)]
/-- The value that an abstract value is, if it's one alone. -/
def zv1 : AV → Option Value
  | .int k n => some (.int k n)
  | .bool b => some (.bool b)
  | .nilsl => some (.slice none 0 0)
  | .str s => some (.string s)
  | .nilp => some (.pointer none)
  | .nilif => some .nilIface
  | .nilfn => some .nilFunc
  | .nilmp => some (.map none)
  | _ => none
def zvs : List AV → Option (List Value)
  | [] => some []
  | x :: r => match zv1 x, zvs r with
    | some v, some vs => some (v :: vs)
    | _, _ => none
def zv : AV → Option Value
  | .agg cs => match zvs cs with
    | some vs => some (.agg vs.toArray)
    | none => none
  | v => zv1 v
def kd : TypeDesc → TK
  | .int k => .int k
  | .bool => .bool
  | .string => .str
  | .pointer e => .ptr e
  | .func .. => .func
  | .interface _ => .iface
  | .map k e => .map k e
  | .unsafePointer => .uptr
  | .slice e => .slice e
  | .array n e => .arr n e
  | .struct F => .struct (F.toList.map fun f => (f.offset, f.type))
  | _ => .other
theorem zv1_vr {v : AV} {z : Value} (h : zv1 v = some z) (w : World) (Fz : Nat → Prop) (g : Gh) : VR w Fz g v z := by
  cases v <;> simp [zv1] at h <;> subst h <;> constructor
theorem zvs_vr : ∀ {cs : List AV} {vs : List Value}, zvs cs = some vs → cs.length = vs.length ∧ ∀ (w : World) (Fz : Nat → Prop) (g : Gh) i, i < cs.length → VR w Fz g (nth .top cs i) (vs.getD i undef)
  | [], vs, h => by simp only [zvs, Option.some.injEq] at h; subst h; exact ⟨rfl, fun _ _ _ i hi => absurd hi (by simp)⟩
  | x :: r, vs, h => by
    simp only [zvs] at h
    split at h
    · rename_i v us hv hu
      simp only [Option.some.injEq] at h; subst h
      obtain ⟨h1, h2⟩ := zvs_vr hu
      refine ⟨by simp [h1], fun w Fz g i hi => ?_⟩
      cases i with
      | zero => exact zv1_vr hv w Fz g
      | succ i => exact h2 w Fz g i (by simpa using hi)
    · simp at h
theorem zv_vr {v : AV} {z : Value} (h : zv v = some z) (w : World) (Fz : Nat → Prop) (g : Gh) : VR w Fz g v z := by
  unfold zv at h
  split at h
  · split at h
    · rename_i cs vs hvs
      simp only [Option.some.injEq] at h; subst h
      obtain ⟨h1, h2⟩ := zvs_vr hvs
      exact .agg _ _ (by simpa using h1) fun i hi => by simpa [Array.getD_eq_getD_getElem?, List.getD_eq_getElem?_getD] using h2 w Fz g i hi
    · simp at h
  · exact zv1_vr h w Fz g
theorem kd_ok {d : TypeDesc} {k : TK} (h : kd d = k) (hk : k ≠ .other) : kOK d k := by
  subst h
  cases d <;> simp [kd, kOK] at hk ⊢
def okTI (t : TI) : Bool := cellsOk t.zero && Nat.beq t.zero.cells.length t.size && (match t.k with | .other => false | _ => true) && (zv t.zero).isSome
theorem tabOK_of {P : Program} {T : Tab} (h1 : T.map (fun p => ((P.info? p.1).map fun i => (i.size, i.bytes, i.zero), (P.underlying p.1).map kd)) = T.map fun p => (some (p.2.size, p.2.bytes, zv p.2.zero), some p.2.k)) (h2 : T.all (fun p => okTI p.2) = true) : TabOK P T := by
  intro t ti h
  have hm : (t, ti) ∈ T := by
    clear h1 h2
    induction T with
    | nil => simp [Tab.get] at h
    | cons p r ih =>
      obtain ⟨n, i⟩ := p
      simp only [Tab.get] at h
      cases hn : (n == t) with
      | true =>
        rw [hn] at h
        simp only [cond_true, Option.some.injEq] at h
        have : n = t := by simpa using hn
        subst this; subst h; exact List.mem_cons_self
      | false => rw [hn] at h; exact List.mem_cons_of_mem _ (ih h)
  have e := List.map_inj_left.mp h1 _ hm
  have k := List.all_eq_true.mp h2 _ hm
  simp only [Prod.mk.injEq, Option.map_eq_some_iff] at e
  obtain ⟨⟨i, e1, e2, e3, e4⟩, d, e5, e6⟩ := e
  simp only [okTI, Bool.and_eq_true] at k
  obtain ⟨⟨⟨k1, k2⟩, k3⟩, k4⟩ := k
  obtain ⟨z, hz⟩ := Option.isSome_iff_exists.mp k4
  refine ⟨⟨i, z, e1, e2, e3, by rw [e4, hz], fun w Fz g => zv_vr hz w Fz g, k1, by simpa using k2⟩, d, e5, kd_ok e6 fun h => ?_⟩
  rw [h] at k3; simp at k3
theorem tt_ok : TabOK Tryz.prog Tt := tabOK_of (by kernel_rfl) (by kernel_rfl)
theorem mixed_ok : Tryz.prog.follows .mixedOrders = true := by kernel_rfl
theorem eqs_ok : EqOK Tryz.prog Tt [] := fun t h => by simp at h
def cfg (G : Env) (base : Nat) : Cfg := ⟨G, Tt, ⟨[], []⟩, SCall Tryz.prog, base⟩
theorem st_nil : SOK Tryz.prog [] := ⟨mk_ok, fun f N o w run h => by simp [SEnv.get] at h, fun f o w run h => by simp [SEnv.get] at h⟩
def cfgS (G : Env) (S : SEnv) (base : Nat) : Cfg := ⟨G, Tt, ⟨[], S⟩, SCall Tryz.prog, base⟩
theorem cfg_ok {G : Env} (hG : EnvOK Tryz.prog G) (base : Nat) : CfgOK Tryz.prog (cfg G base) := ⟨tt_ok, eqs_ok, st_nil, hG, fun _ _ _ _ h => h, mixed_ok⟩
theorem cfgS_ok {G : Env} {S : SEnv} (hG : EnvOK Tryz.prog G) (hS : SOK Tryz.prog S) (base : Nat) : CfgOK Tryz.prog (cfgS G S base) := ⟨tt_ok, eqs_ok, hS, hG, fun _ _ _ _ h => h, mixed_ok⟩
theorem env_nil : EnvOK Tryz.prog [] := fun f q h => by simp [Env.get] at h
theorem env_cons {f : FuncId} {q : QSpec} {G : Env} (h : ∀ vs ob r, q vs = some (ob, r) → conj ob → SCall Tryz.prog f vs [] (Told r)) (hG : EnvOK Tryz.prog G) : EnvOK Tryz.prog ((f, q) :: G) := fun f' q' hq vs ob r h1 h2 => by
  simp only [Env.get] at hq
  cases hf : (f == f') with
  | true =>
    rw [hf] at hq
    simp only [cond_true, Option.some.injEq] at hq
    have : f = f' := by simpa using hf
    subst this; subst hq; exact h vs ob r h1 h2
  | false => rw [hf] at hq; exact hG f' q' hq vs ob r h1 h2
end Go.Proofs.YtnnoplgabnfdiaaGreatDoor.Sh
/- The shadow machine over this program: days, and dates. -/
namespace Go.Proofs.YtnnoplgabnfdiaaGreatDoor.Sh
open Go Go.RowKit
set_option linter.unusedVariables false
set_option linter.unusedSimpArgs false
set_option maxRecDepth 100000
set_option maxHeartbeats 4000000
theorem w64 {n : Int} (h1 : -9223372036854775808 ≤ n) (h2 : n ≤ 9223372036854775807) : IntKind.i64.wrap n = n := by
  unfold IntKind.wrap
  simp only [IntKind.bits, IntKind.signed]
  by_cases h : n % (2 ^ 64 : Int) ≥ (2 ^ (64 - 1) : Int)
  · simp [h]; omega
  · simp [h]; omega
theorem bsplit {v : Bool} {p q : Prop} (h1 : v = true → p) (h2 : v = false → q) : @Bool.rec (fun _ => Prop) q p v := by cases v; exact h2 rfl; exact h1 rfl
theorem told_of {r r' : AV} {h' : List AO} (h1 : conj (frObR (fun o => nth .free h' o) r')) (h2 : freezeR (fun o => nth .free h' o) r' = r) : Told r (.ret r') h' := ⟨h1, by rw [h2]; exact fun _ _ _ _ h => h⟩
theorem told_int {k : IntKind} {x y : Int} {h' : List AO} (h : x = y) : Told (.int k y) (.ret (.int k x)) h' := by subst h; exact told_of trivial rfl
theorem told_cint {k : IntKind} {x y : Int} {h' : List AO} (h : x = y) : Told (.int k y) (.ret (.cint k x)) h' := by subst h; exact told_of trivial rfl
theorem told_bool {x y : Bool} {h' : List AO} (h : x = y) : Told (.bool y) (.ret (.bool x)) h' := by subst h; exact told_of trivial rfl
def longF (y : Int) : Bool := bif y.tmod 4 == 0 then bif y.tmod 100 != 0 then true else y.tmod 400 == 0 else false
def opensF (y : Int) : Int := 365 * (y - 1) + (y - 1) / 4 - (y - 1) / 100 + (y - 1) / 400 - 719162
def monthF (y m : Int) : Int := bif m == 4 then 30 else bif m == 6 then 30 else bif m == 9 then 30 else bif m == 11 then 30 else bif m == 2 then (bif longF y then 29 else 28) else bif (bif decide (m < 1) then true else decide (m > 12)) then 0 else 31
def longQ : QSpec := fun vs => match vs with | [.int .i64 y] => some ([1 ≤ y ∧ y ≤ 10000], .bool (longF y)) | _ => none
def opensQ : QSpec := fun vs => match vs with | [.int .i64 y] => some ([1 ≤ y ∧ y ≤ 10000], .int .i64 (opensF y)) | _ => none
def monthQ : QSpec := fun vs => match vs with | [.int .i64 y, .int .i64 m] => some ([1 ≤ y ∧ y ≤ 10000], .int .i64 (monthF y m)) | _ => none
theorem one_of {f : FuncId} {p : Int → Prop} {r : Int → AV} (H : ∀ y, p y → SCall Tryz.prog f [.int .i64 y] [] (Told (r y))) : ∀ vs ob q, (match vs with | [.int .i64 y] => some ([p y], r y) | _ => none) = some (ob, q) → conj ob → SCall Tryz.prog f vs [] (Told q) := by
  intro vs ob q h hob
  split at h
  · rename_i y
    simp only [Option.some.injEq, Prod.mk.injEq] at h
    obtain ⟨rfl, rfl⟩ := h
    exact H y hob
  · simp at h
theorem two_of {f : FuncId} {p : Int → Int → Prop} {r : Int → Int → AV} (H : ∀ x y, p x y → SCall Tryz.prog f [.int .i64 x, .int .i64 y] [] (Told (r x y))) : ∀ vs ob q, (match vs with | [.int .i64 x, .int .i64 y] => some ([p x y], r x y) | _ => none) = some (ob, q) → conj ob → SCall Tryz.prog f vs [] (Told q) := by
  intro vs ob q h hob
  split at h
  · rename_i x y
    simp only [Option.some.injEq, Prod.mk.injEq] at h
    obtain ⟨rfl, rfl⟩ := h
    exact H x y hob
  · simp at h
theorem tm_eq {a b : Int} (ha : 0 ≤ a) : a.tmod b = a % b := Int.tmod_eq_emod_of_nonneg ha
theorem td_eq {a b : Int} (ha : 0 ≤ a) : a.tdiv b = a / b := Int.tdiv_eq_ediv_of_nonneg ha
theorem long245 : ∀ vs ob r, longQ vs = some (ob, r) → conj ob → SCall Tryz.prog 245 vs [] (Told r) := one_of (p := fun y => 1 ≤ y ∧ y ≤ 10000) fun y hy => by
  refine scall_of (cfg_ok env_nil 0) Tryz.func245 (by kernel_rfl) rfl ?_
  generalize hK : Told _ = K
  conv => whnf
  refine ⟨by simp [conj], ?_⟩
  conv => whnf
  subst hK
  exact told_bool rfl
theorem opens203 : ∀ vs ob r, opensQ vs = some (ob, r) → conj ob → SCall Tryz.prog 203 vs [] (Told r) := one_of (p := fun y => 1 ≤ y ∧ y ≤ 10000) fun y hy => by
  refine scall_of (cfg_ok env_nil 0) Tryz.func203 (by kernel_rfl) rfl ?_
  generalize hK : Told _ = K
  conv => whnf
  refine ⟨by simp [conj], ?_⟩
  conv => whnf
  subst hK
  refine told_int ?_
  simp (disch := omega) only [w64, td_eq]
  rfl
def envA1 : Env := [(245, longQ), (203, opensQ)]
theorem envA1_ok : EnvOK Tryz.prog envA1 := env_cons long245 (env_cons opens203 env_nil)
theorem month204 : ∀ vs ob r, monthQ vs = some (ob, r) → conj ob → SCall Tryz.prog 204 vs [] (Told r) := two_of (p := fun y m => 1 ≤ y ∧ y ≤ 10000) fun y m hy => by
  refine scall_of (cfg_ok envA1_ok 0) Tryz.func204 (by kernel_rfl) rfl ?_
  generalize hK : Told _ = K
  have fin : ∀ z : Int, z = monthF y m → K (.ret (.cint .i64 z)) [] := fun z hz => by subst hK; exact told_cint hz
  conv => whnf
  refine bsplit (fun h1 => ?_) (fun h1 => ?_)
  · conv => whnf
    refine bsplit (fun h => ?_) (fun h => absurd h1 (by rw [h]; simp))
    conv => whnf
    exact fin _ (by simp only [monthF, h1]; rfl)
  conv => whnf
  refine bsplit (fun h2 => ?_) (fun h2 => ?_)
  · conv => whnf
    refine bsplit (fun h => ?_) (fun h => absurd h2 (by rw [h]; simp))
    conv => whnf
    exact fin _ (by simp only [monthF, h1, h2]; rfl)
  conv => whnf
  refine bsplit (fun h3 => ?_) (fun h3 => ?_)
  · conv => whnf
    refine bsplit (fun h => ?_) (fun h => absurd h3 (by rw [h]; simp))
    conv => whnf
    exact fin _ (by simp only [monthF, h1, h2, h3]; rfl)
  conv => whnf
  refine bsplit (fun h4 => ?_) (fun h4 => ?_)
  · conv => whnf
    exact fin _ (by simp only [monthF, h1, h2, h3, h4]; rfl)
  conv => whnf
  refine bsplit (fun h5 => ?_) (fun h5 => ?_)
  · conv => whnf
    refine ⟨hy, ?_⟩
    conv => whnf
    refine bsplit (fun h6 => ?_) (fun h6 => ?_)
    · conv => whnf
      exact fin _ (by simp only [monthF, h1, h2, h3, h4, h5]; rw [show longF y = true from h6]; rfl)
    · conv => whnf
      exact fin _ (by simp only [monthF, h1, h2, h3, h4, h5]; rw [show longF y = false from h6]; rfl)
  conv => whnf
  refine bsplit (fun h6 => ?_) (fun h6 => ?_)
  · conv => whnf
    exact fin _ (by simp only [monthF, h1, h2, h3, h4, h5]; rw [show (bif decide (m < 1) then true else decide (m > 12)) = true from h6]; rfl)
  · conv => whnf
    exact fin _ (by simp only [monthF, h1, h2, h3, h4, h5]; rw [show (bif decide (m < 1) then true else decide (m > 12)) = false from h6]; rfl)
end Go.Proofs.YtnnoplgabnfdiaaGreatDoor.Sh
/- The shadow machine: what a call leaves, made to stay: results that nobody writes to, and objects that fall away. -/
namespace Go.Proofs.YtnnoplgabnfdiaaGreatDoor.Sh
open Go Go.RowKit
set_option linter.unusedVariables false
set_option linter.unusedSimpArgs false
/-- The objects from n on. -/
def lookN (n : Nat) (h : List AO) (o : Nat) : AO := bif Nat.blt o n then .free else nth .free h o
theorem Has.gh {g : Gh} {o : Nat} {x : AO} {b : Nat} (h : Has g o x b) : g o = some (b, (g o).elim 0 (·.2)) := by
  cases x <;> first | exact h.elim | (obtain ⟨κ, e, _⟩ := h; rw [e]; rfl) | (obtain ⟨κ, e⟩ := h; rw [e]; rfl)
section
variable {D : List Deferred} {P : Program} {T : Tab} {B0 : Nat} {w0 w w' : World} {Fz F2 : Nat → Prop} {g g' : Gh} {h : List AO} {a : Act}
theorem HR.cut {h : List AO} {n : Nat} (H : HR B0 w0 w Fz g h) : HR B0 w0 w Fz (fun o => if o < n then g o else none) ((h.take n).map (belowO n)) := by
  have hgn : ∀ o x, o < n → g o = some x → (fun o => if o < n then g o else none : Gh) o = some x := fun o x ho hx => by simp [ho, hx]
  have hHas : ∀ o b, Has (fun o => if o < n then g o else none : Gh) o (belowO n (nth .free h o)) b → Has g o (nth .free h o) b := fun o b hh => by
    by_cases ho : o < n
    · cases hq : nth .free h o <;> rw [hq] at hh <;> first | (simp [Has, belowO, ho] at hh; done) | simpa [Has, belowO, ho] using hh
    · cases hq : nth .free h o <;> rw [hq] at hh <;> simp [Has, belowO, ho] at hh
  have hnth : ∀ o, o < (h.take n).length → nth .free ((h.take n).map (belowO n)) o = belowO n (nth .free h o) := fun o ho => by
    rw [nth_map _ _ rfl]
    congr 1
    rw [nth_get, nth_get, List.getD_eq_getElem?_getD, List.getD_eq_getElem?_getD, List.getElem?_take, if_pos (by simp at ho; omega)]
  refine ⟨H.below, H.base, H.fz, fun o ho => ?_, fun o ho => ?_, fun o b ho hh => ?_, fun o o' b ho ho' hh hh' => ?_, H.gl⟩
  · by_cases ho' : o < n
    · have : h.length ≤ o := by simp at ho; omega
      simp only [ho', if_true]; exact H.free o this
    · simp [ho']
  · have ho1 : o < (h.take n).length := by simpa using ho
    have ho2 : o < h.length := by simp at ho1; omega
    have ho3 : o < n := by simp at ho1; omega
    show OR w Fz _ o (nth .free ((h.take n).map (belowO n)) o)
    rw [hnth o ho1]
    have hO := H.objs o ho2
    have hgo : ∀ x, g o = x → (fun o => if o < n then g o else none : Gh) o = x := fun x hx => by simp [ho3, hx]
    cases hq : nth .free h o with
    | free => rw [hq] at hO; exact hgo _ hO
    | dead => trivial
    | emap => rw [hq] at hO; obtain ⟨b, κ, h1, h2⟩ := hO; exact ⟨b, κ, hgo _ h1, h2⟩
    | xmap => rw [hq] at hO; obtain ⟨b, κ, es, m, h1, h2⟩ := hO; exact ⟨b, κ, es, m, hgo _ h1, h2⟩
    | lit z cells =>
      rw [hq] at hO
      obtain ⟨b, κ, cs, t, h1, h2, h3, h4, h5⟩ := hO
      exact ⟨b, κ, cs, t, hgo _ h1, by simpa using h2, h3, by simpa using h4, fun i hi => by rw [map_top rfl]; exact below1_vr hgn (h5 i (by simpa using hi))⟩
    | rows z m row =>
      rw [hq] at hO
      obtain ⟨b, κ, h1, h2, h3⟩ := hO
      exact ⟨b, κ, hgo _ h1, h2, h3.imp id fun ⟨cs, t, q1, q2, q3⟩ => ⟨cs, t, q1, q2, fun i hi j hj => by rw [map_top rfl]; exact below0_vr hgn (q3 i hi j hj)⟩⟩
  · have ho1 : o < (h.take n).length := by simpa using ho
    have hh' : Has _ o (nth .free ((h.take n).map (belowO n)) o) b := hh
    rw [hnth o ho1] at hh'
    exact H.own o b (by simp at ho1; omega) (hHas o b hh')
  · have ho1 : o < (h.take n).length := by simpa using ho
    have ho1' : o' < (h.take n).length := by simpa using ho'
    have h1 : Has _ o (nth .free ((h.take n).map (belowO n)) o) b := hh
    have h2 : Has _ o' (nth .free ((h.take n).map (belowO n)) o') b := hh'
    rw [hnth o ho1] at h1; rw [hnth o' ho1'] at h2
    exact H.sep o o' b (by simp at ho1; omega) (by simp at ho1'; omega) (hHas o b h1) (hHas o' b h2)

theorem HR.more {h : List AO} (H : HR B0 w0 w Fz g h) (hF : ∀ b, Fz b → F2 b) (hlt : ∀ b, F2 b → b < w.heap.size) (hown : ∀ o b, o < h.length → Has g o (nth .free h o) b → ¬ F2 b) : HR B0 w0 w F2 g h := by
  refine ⟨H.below, H.base, hlt, H.free, fun o ho => ?_, fun o b ho hh => ?_, H.sep, H.gl⟩
  · have hO := H.objs o ho
    cases hoo : nth .free h o with
    | free => rw [hoo] at hO; exact hO
    | dead => trivial
    | emap => rw [hoo] at hO; exact hO
    | xmap => rw [hoo] at hO; exact hO
    | lit s cells =>
      rw [hoo] at hO
      obtain ⟨b, κ, cs, t, h1, h2, h3, h4, h5⟩ := hO
      exact ⟨b, κ, cs, t, h1, h2, h3, h4, fun i hi => (h5 i hi).mono (fun _ _ => rfl) hF (fun _ _ x => x)⟩
    | rows s n row =>
      rw [hoo] at hO
      obtain ⟨b, κ, h1, h2, h3⟩ := hO
      exact ⟨b, κ, h1, h2, h3.imp id fun ⟨cs, t, q1, q2, q3⟩ => ⟨cs, t, q1, q2, fun i hi j hj => (q3 i hi j hj).mono (fun _ _ => rfl) hF (fun _ _ x => x)⟩⟩
  · obtain ⟨a1, a2, a3⟩ := H.own o b ho hh
    exact ⟨a1, a2, hown o b ho hh⟩
/-- What is left of a call: its result stays, of its memory the first objects are kept. -/
def Kept (n : Nat) (h1 : List AO) (r : AV) (r' : AR) (h' : List AO) : Prop := match r' with
  | .ret r' => (h'.take n).map (belowO n) = h1 ∧ conj (frObR (lookN n h') r') ∧ Wk (freezeR (lookN n h') r') r
  | .pan _ => False
theorem kept_of {f : FuncId} {vs : List AV} {h1 : List AO} {r : AV} (H : SCall P f vs h (Kept h.length h1 r)) : SCall P f vs h fun r' h' => r' = .ret r ∧ h' = h1 := fun B0 w0 w Fz g args hH hl hv => by
  refine (H B0 w0 w Fz g args hH hl hv).mono fun e w' ⟨r', c, h', Fz', g', he, hk, hr, H', hon⟩ => ?_
  cases r' with
  | pan v => exact hk.elim
  | ret r' =>
    obtain ⟨hk1, hk2, hk3⟩ := hk
    let F2 : Nat → Prop := fun b => Fz' b ∨ ∃ o, h.length ≤ o ∧ o < h'.length ∧ Has g' o (nth .free h' o) b
    have hlk : ∀ o, lookN h.length h' o = nth .free h' o ∨ lookN h.length h' o = .free := fun o => by
      unfold lookN
      cases Nat.blt o h.length with
      | true => exact .inr rfl
      | false => exact .inl rfl
    have hvr : VR w' F2 g' (freezeR (lookN h.length h') r') c := freezeR_vr hlk H' (fun b hb => .inl hb) (fun o b ho hl hh => by
      rcases Nat.lt_or_ge o h.length with e | e
      · exfalso
        unfold lookN at hl
        rw [blt_t e, cond_true] at hl
        rw [← hl] at hh
        exact hh
      · exact .inr ⟨o, e, ho, hh⟩) hk2 hr
    have H2 := H'.cut (n := h.length)
    rw [hk1] at H2
    have hown : ∀ o b, o < h.length → Has g' o (nth .free h' o) b → o < h'.length → ¬ F2 b := fun o b ho hh ho' hf => by
      rcases hf with hf | ⟨o2, e1, e2, hh2⟩
      · exact (H'.own o b ho' hh).2.2 hf
      · have := H'.sep o o2 b ho' e2 hh hh2; omega
    have hHas : ∀ o b, o < h1.length → Has (fun o => if o < h.length then g' o else none) o (nth .free h1 o) b → o < h.length ∧ o < h'.length ∧ Has g' o (nth .free h' o) b := fun o b ho hh => by
      have hl1 : h1.length = min h.length h'.length := by rw [← hk1]; simp
      have ho1 : o < h.length := by omega
      have ho2 : o < h'.length := by omega
      refine ⟨ho1, ho2, ?_⟩
      rw [← hk1, nth_map _ _ rfl] at hh
      have e : nth AO.free (h'.take h.length) o = nth .free h' o := by
        rw [nth_get, nth_get, List.getD_eq_getElem?_getD, List.getD_eq_getElem?_getD, List.getElem?_take, if_pos ho1]
      rw [e] at hh
      cases hq : nth .free h' o <;> rw [hq] at hh <;> first | exact False.elim hh | simpa [Has, belowO, ho1] using hh
    have H3 : HR B0 w0 w' F2 (fun o => if o < h.length then g' o else none) h1 := H2.more (fun b hb => .inl hb) (fun b hb => by
      rcases hb with hb | ⟨o, e1, e2, hh⟩
      · exact H'.fz b hb
      · exact (H'.own o b e2 hh).2.1) (fun o b ho hh => by
      obtain ⟨q1, q2, q3⟩ := hHas o b ho hh
      exact hown o b q1 q3 q2)
    refine ⟨.ret r, c, h1, F2, _, he, ⟨rfl, rfl⟩, ?_, H3, ⟨hon.same, fun b hb => .inl (hon.fz b hb), fun o x hx => ?_, fun b hb => ?_, hon.size, fun o b κ hb => by
      by_cases ho : o < h.length
      · simp only [ho, if_true] at hb; exact hon.newg o b κ hb
      · simp [ho] at hb⟩⟩
    · exact hk3 _ _ _ _ (freezeR_vr hlk H' (fun b hb => .inl hb) (fun o b ho hl hh => by
        rcases Nat.lt_or_ge o h.length with e | e
        · exfalso
          unfold lookN at hl
          rw [blt_t e, cond_true] at hl
          rw [← hl] at hh
          exact hh
        · exact .inr ⟨o, e, ho, hh⟩) hk2 hr)
    · have ho : o < h.length := by
        rcases Nat.lt_or_ge o h.length with e | e
        · exact e
        · rw [hH.free o e] at hx; cases hx
      simp only [ho, if_true]
      exact hon.gh o x hx
    · rcases hb with hb | ⟨o, e1, e2, hh⟩
      · exact hon.new b hb
      · rcases hon.newg o b _ (Has.gh hh) with x | x | x
        · rw [hH.free o e1] at x; cases x
        · exact .inr x
        · have h1 := (H'.own o b e2 hh).1
          have h2 := H'.gl.1
          omega
end
end Go.Proofs.YtnnoplgabnfdiaaGreatDoor.Sh
