/- Part 11 of a proof over the shadow machine. -/
import Derived.Test.YtnnoplgabnfdiaaGreatDoorN10
import Derived.Recover
/- The shadow machine: texts. -/
namespace Go.Proofs.YtnnoplgabnfdiaaGreatDoor.Sh
open Go Go.RowKit
set_option linter.unusedVariables false
set_option linter.unusedSimpArgs false
section
variable {D : List Deferred} {P : Program} {B0 : Nat} {w0 w w' : World} {Fz F2 : Nat → Prop} {g g' : Gh} {h : List AO} {a : Act} {E : En}

theorem HR.reserve (H : HR B0 w0 w Fz g h) (n : Nat) : HR B0 w0 w Fz g (h ++ List.replicate n .free) := by
  have hn : ∀ o, nth .free (h ++ List.replicate n .free) o = nth .free h o := fun o => by
    rw [nth_append]
    split
    · rfl
    · rename_i ho
      rw [nth_ge _ h o (by omega)]
      by_cases hl : o - h.length < n
      · rw [nth_get, List.getD_eq_getElem?_getD]; simp [List.getElem?_replicate, hl]
      · exact nth_ge _ _ _ (by simp; omega)
  refine ⟨H.below, H.base, H.fz, fun o ho => H.free o (by simp at ho; omega), fun o ho => ?_, fun o b ho hh => ?_, fun o o' b ho ho' hh hh' => ?_, H.gl⟩
  · rw [hn]
    by_cases hl : o < h.length
    · exact H.objs o hl
    · rw [nth_ge _ h o (by omega)]; exact H.free o (by omega)
  · rw [hn] at hh
    by_cases hl : o < h.length
    · exact H.own o b hl hh
    · rw [nth_ge _ h o (by omega)] at hh; exact hh.elim
  · rw [hn] at hh hh'
    by_cases hl : o < h.length
    · by_cases hl' : o' < h.length
      · exact H.sep o o' b hl hl' hh hh'
      · rw [nth_ge _ h o' (by omega)] at hh'; exact hh'.elim
    · rw [nth_ge _ h o (by omega)] at hh; exact hh.elim
theorem St.drew {s : AState} (h : St E s a w) : St E s a { w with drawn := w.drawn + 1 } := by
  obtain ⟨Fz, g, F, H, hon, hg⟩ := h
  have hon' : On w { w with drawn := w.drawn + 1 } Fz Fz g g := ⟨fun _ _ => rfl, fun _ x => x, fun _ _ x => x, fun _ x => .inl x, Nat.le_refl _, fun _ _ _ x => .inl x⟩
  exact ⟨Fz, g, hon'.fr F, H.drew, hon.trans hon', hg⟩
theorem below0_vr {n : Nat} {v : AV} {c : Value} (hg : ∀ o x, o < n → g o = some x → g' o = some x) (hv : VR w Fz g v c) : VR w Fz g' (below0 n v) c := by
  cases hv with
  | top v => exact .top _
  | cint k n => exact .int _ _
  | int k n => exact .int _ _
  | bool b => exact .bool _
  | str s => exact .str _
  | nilp => exact .nilp
  | nilsl => exact .nilsl
  | nilfn => exact .nilfn
  | nilif => exact .nilif
  | ptr o' N s i j b κ h =>
    simp only [below0]
    cases e : Nat.blt o' n with
    | false => exact .top _
    | true => exact .ptr _ _ _ _ _ _ _ (hg _ _ (blt_lt e) h)
  | rp s row i j ad h => exact .rp _ _ _ _ _ h
  | sl o' s off len cap b κ h hl hc =>
    simp only [below0]
    cases e : Nat.blt o' n with
    | false => exact .top _
    | true => exact .sl _ _ _ _ _ _ _ (hg _ _ (blt_lt e) h) hl hc
  | sle o' s off cap A b h hc =>
    simp only [below0]
    cases e : Nat.blt o' n with
    | false => exact .top _
    | true => exact .sle _ _ _ _ _ _ (hg _ _ (blt_lt e) h) hc
  | ro s len cap row v h => exact .ro _ _ _ _ _ h
  | fn f xs ys us vs ha hb h1 h2 =>
    cases xs <;> cases ys <;> first
      | exact .fn f [] [] us vs ha hb (fun i hi => absurd hi (by simp)) (fun i hi => absurd hi (by simp))
      | exact .top _
  | iface t x v h => exact .top _
  | agg cs vs hl h => exact .top _
  | tup cs vs hl h => exact .top _
  | nilmp => exact .nilmp
  | mp o' b κ h =>
    simp only [below0]
    cases e : Nat.blt o' n with
    | false => exact .top _
    | true => exact .mp _ _ _ (hg _ _ (blt_lt e) h)
theorem below1_vr {n : Nat} {v : AV} {c : Value} (hg : ∀ o x, o < n → g o = some x → g' o = some x) (hv : VR w Fz g v c) : VR w Fz g' (below1 n v) c := by
  by_cases hag : ∃ cs, v = .agg cs
  · obtain ⟨cs, rfl⟩ := hag
    obtain ⟨vs, rfl, hl, hh⟩ := inv_agg hv
    exact .agg _ _ (by simpa using hl) fun i hi => by
      rw [map_top rfl]; exact below0_vr hg (hh i (by simpa using hi))
  · have : below1 n v = below0 n v := by cases v <;> first | rfl | exact absurd ⟨_, rfl⟩ hag
    rw [this]; exact below0_vr hg hv
theorem below2_vr {n : Nat} {v : AV} {c : Value} (hg : ∀ o x, o < n → g o = some x → g' o = some x) (hv : VR w Fz g v c) : VR w Fz g' (below2 n v) c := by
  cases v with
  | tup cs =>
    obtain ⟨vs, rfl, hl, hh⟩ := inv_tup hv
    exact .tup _ _ (by simpa using hl) fun i hi => by
      rw [map_top rfl]; exact below1_vr hg (hh i (by simpa using hi))
  | fn f xs ys =>
    obtain ⟨us, vs, rfl, ha, hb, h1, h2⟩ := inv_fn hv
    exact .fn _ _ _ _ _ (by simpa using ha) (by simpa using hb) (fun i hi => by rw [map_top rfl]; exact below1_vr hg (h1 i (by simpa using hi))) (fun i hi => by rw [map_top rfl]; exact below1_vr hg (h2 i (by simpa using hi)))
  | iface t x =>
    obtain ⟨v, rfl, h⟩ := inv_iface hv
    exact .iface _ _ _ (below1_vr hg h)
  | when d b v => cases hv
  | _ => exact below1_vr hg hv
theorem keepT_length (live : List Nat) (n : Nat) : ∀ (ts : List AV) (i : Nat), (keepT live n i ts).length = ts.length
  | [], i => rfl
  | v :: ts, i => by simp [keepT, keepT_length live n ts (i + 1)]
theorem nth_keepT (live : List Nat) (n : Nat) : ∀ (ts : List AV) (i q : Nat), nth .top (keepT live n i ts) q = .top ∨ nth .top (keepT live n i ts) q = below2 n (nth .top ts q)
  | [], i, q => .inl (by cases q <;> rfl)
  | v :: ts, i, 0 => by
    simp only [keepT, nth]
    cases live.elem i with
    | true => exact .inr rfl
    | false => exact .inl rfl
  | v :: ts, i, q + 1 => by simp only [keepT, nth]; exact nth_keepT live n ts (i + 1) q
theorem St.keep {s : AState} {live : List Nat} {n : Nat} (hb : E.base ≤ n) (h : St E s a w) : St E (keep live n s) a w := by
  obtain ⟨Fz, g, F, H, hon, hg⟩ := h
  have hgn : ∀ o x, o < n → g o = some x → (fun o => if o < n then g o else none : Gh) o = some x := fun o x ho hx => by simp [ho, hx]
  have hHas : ∀ o b, Has (fun o => if o < n then g o else none : Gh) o (belowO n (nth .free s.heap o)) b → Has g o (nth .free s.heap o) b := fun o b hh => by
    by_cases ho : o < n
    · cases hq : nth .free s.heap o <;> rw [hq] at hh <;> first | (simp [Has, belowO, ho] at hh; done) | simpa [Has, belowO, ho] using hh
    · cases hq : nth .free s.heap o <;> rw [hq] at hh <;> simp [Has, belowO, ho] at hh
  have hnth : ∀ o, o < (s.heap.take n).length → nth .free ((s.heap.take n).map (belowO n)) o = belowO n (nth .free s.heap o) := fun o ho => by
    rw [nth_map _ _ rfl]
    congr 1
    rw [nth_get, nth_get, List.getD_eq_getElem?_getD, List.getD_eq_getElem?_getD, List.getElem?_take, if_pos (by simp at ho; omega)]
  refine ⟨Fz, fun o => if o < n then g o else none, ⟨F.defers, ?_, fun i hi => ?_⟩, ⟨H.below, H.base, H.fz, fun o ho => ?_, fun o ho => ?_, fun o b ho hh => ?_, fun o o' b ho ho' hh hh' => ?_, H.gl⟩, ⟨hon.same, hon.fz, fun o x hx => ?_, hon.new, hon.size, fun o b κ hb => by
    by_cases ho : o < n
    · simp only [ho, if_true] at hb; exact hon.newg o b κ hb
    · simp [ho] at hb⟩, hg⟩
  · show (keepT live n 0 s.tmps).length = _
    rw [keepT_length]; exact F.size
  · have hi' : i < s.tmps.length := by simpa [Sh.keep, keepT_length] using hi
    show SR w Fz _ a (nth .top (keepT live n 0 s.tmps) i) _
    rcases nth_keepT live n s.tmps 0 i with e | e
    · rw [e]; exact .top _
    · rw [e]
      have hs := F.slots i hi'
      generalize nth AV.top s.tmps i = q at hs
      by_cases hw : ∃ d b x, q = .when d b x
      · obtain ⟨d, b, x, rfl⟩ := hw; exact .top _
      · exact SR.of (below2_vr hgn (hs.vr fun d b x e => hw ⟨d, b, x, e⟩))
  · by_cases ho' : o < n
    · have : s.heap.length ≤ o := by simp [Sh.keep] at ho; omega
      simp only [ho', if_true]; exact H.free o this
    · simp [ho']
  · have ho1 : o < (s.heap.take n).length := by simpa [Sh.keep] using ho
    have ho2 : o < s.heap.length := by simp at ho1; omega
    have ho3 : o < n := by simp at ho1; omega
    show OR w Fz _ o (nth .free ((s.heap.take n).map (belowO n)) o)
    rw [hnth o ho1]
    have hO := H.objs o ho2
    have hgo : ∀ x, g o = x → (fun o => if o < n then g o else none : Gh) o = x := fun x hx => by simp [ho3, hx]
    cases hq : nth .free s.heap o with
    | free => rw [hq] at hO; exact hgo _ hO
    | dead => trivial
    | emap => rw [hq] at hO; obtain ⟨b, κ, h1, h2⟩ := hO; exact ⟨b, κ, hgo _ h1, h2⟩
    | xmap => rw [hq] at hO; obtain ⟨b, κ, es, m, h1, h2⟩ := hO; exact ⟨b, κ, es, m, hgo _ h1, h2⟩
    | lit z cells =>
      rw [hq] at hO
      obtain ⟨b, κ, cs, t, h1, h2, h3, h4, h5⟩ := hO
      exact ⟨b, κ, cs, t, hgo _ h1, by simpa using h2, h3, by simpa using h4, fun i hi => by rw [map_top rfl]; exact below1_vr hgn (h5 i (by simpa using hi))⟩
    | rows z m row =>
      rw [hq] at hO
      obtain ⟨b, κ, h1, h2, h3⟩ := hO
      exact ⟨b, κ, hgo _ h1, h2, h3.imp id fun ⟨cs, t, q1, q2, q3⟩ => ⟨cs, t, q1, q2, fun i hi j hj => by rw [map_top rfl]; exact below0_vr hgn (q3 i hi j hj)⟩⟩
  · have ho1 : o < (s.heap.take n).length := by simpa [Sh.keep] using ho
    have hh' : Has _ o (nth .free ((s.heap.take n).map (belowO n)) o) b := hh
    rw [hnth o ho1] at hh'
    exact H.own o b (by simp at ho1; omega) (hHas o b hh')
  · have ho1 : o < (s.heap.take n).length := by simpa [Sh.keep] using ho
    have ho1' : o' < (s.heap.take n).length := by simpa [Sh.keep] using ho'
    have h1 : Has _ o (nth .free ((s.heap.take n).map (belowO n)) o) b := hh
    have h2 : Has _ o' (nth .free ((s.heap.take n).map (belowO n)) o') b := hh'
    rw [hnth o ho1] at h1; rw [hnth o' ho1'] at h2
    exact H.sep o o' b (by simp at ho1; omega) (by simp at ho1'; omega) (hHas o b h1) (hHas o' b h2)
  · have : o < E.base := by
      rcases Nat.lt_or_ge o E.base with e | e
      · exact e
      · rw [hg o e] at hx; cases hx
    have ho : o < n := by omega
    simp only [ho, if_true]
    exact hon.gh o x hx
theorem St.grow : ∀ {nils : List (Nat × Nat)} {s : AState}, St E s a w → St E (grow nils s) a w
  | [], s, h => h
  | (t, z) :: r, s, h => by
    simp only [Sh.grow]
    split
    · rename_i hq
      refine St.grow ?_
      obtain ⟨Fz, g, F, H, hon, hg⟩ := h
      have hgn : g s.heap.length = none := H.free _ (Nat.le_refl _)
      have hext : ∀ o' x, g o' = some x → ext g s.heap.length (0, 0) o' = some x := fun o' x hx => by
        by_cases eo : o' = s.heap.length
        · subst eo; rw [hgn] at hx; cases hx
        · simp [ext, eo, hx]
      have hon' : On w w Fz Fz g (ext g s.heap.length (0, 0)) := ⟨Same.refl _ _, fun _ x => x, hext, fun _ x => .inl x, Nat.le_refl _, ext_zero⟩
      have H' : HR E.B0 E.w0 w Fz (ext g s.heap.length (0, 0)) (put1 s.heap.length (.rows z 0 fun _ => []) s.heap) :=
        H.change H.below (Nat.le_refl _) (Nat.le_refl _) (fun _ _ _ => rfl) (fun o' e => by simp [ext, e]) (fun x hx => by rw [hgn] at hx; cases hx) ⟨0, 0, by simp [ext], Nat.le_refl _, .inl rfl⟩ (fun b hb => by obtain ⟨κ, e, hκ⟩ := hb; simp [ext] at e; exact absurd e.2.symm hκ)
      have e1 : put1 s.heap.length (.rows z 0 fun _ => []) s.heap = s.heap ++ [.rows z 0 fun _ => []] := by unfold put1; rw [blt_f (by omega)]; rfl
      rw [e1] at H'
      have F' := hon'.fr F
      refine ⟨Fz, _, ⟨F.defers, by simpa [setNth_length] using F.size, fun i hi => ?_⟩, H', hon.trans hon', hg⟩
      have hi' : i < s.tmps.length := by simpa [setNth_length] using hi
      show SR w Fz _ a (nth .top (setNth s.tmps t _) i) _
      rw [nth_setNth]
      by_cases e : t = i ∧ i < s.tmps.length
      · rw [if_pos e]
        obtain ⟨rfl, _⟩ := e
        have hv := F.slots t hi'
        unfold getTmp at hq
        rw [hq] at hv
        have hv' : VR w Fz g .nilsl (a.tmps.getD t undef) := hv
        have hX : a.tmps.getD t undef = .slice none 0 0 := by generalize a.tmps.getD t undef = q at hv'; cases hv'; rfl
        rw [hX]
        exact .sle _ _ _ _ _ 0 (by simp [ext]) (fun n hn => by cases hn)
      · rw [if_neg e]; exact F'.slots i hi'
    · exact St.grow h
theorem St.seq {s s' : AState} (he : SEq s s') (h : St E s a w) : St E s' a w := by
  obtain ⟨Fz, g, F, H, hon, hg⟩ := h
  obtain ⟨e1, e2, e3⟩ := he
  have hHas : ∀ o b, o < s.heap.length → (Has g o (nth .free s'.heap o) b ↔ Has g o (nth .free s.heap o) b) := fun o b ho => by
    have := e3 o ho
    cases hq : nth .free s.heap o <;> cases hq' : nth .free s'.heap o <;> rw [hq, hq'] at this <;> simp [OEq] at this <;> simp [Has]
  refine ⟨Fz, g, by rw [← e1]; exact F, ⟨H.below, H.base, H.fz, fun o ho => H.free o (by omega), fun o ho => ?_, fun o b ho hh => H.own o b (by omega) ((hHas o b (by omega)).mp hh), fun o o' b ho ho' hh hh' => H.sep o o' b (by omega) (by omega) ((hHas o b (by omega)).mp hh) ((hHas o' b (by omega)).mp hh'), H.gl⟩, hon, hg⟩
  have hO := H.objs o (by omega)
  have := e3 o (by omega)
  cases hq : nth .free s.heap o with
  | rows z n row =>
    cases hq' : nth .free s'.heap o with
    | rows z' n' row' =>
      rw [hq, hq'] at this
      simp only [OEq] at this
      obtain ⟨rfl, rfl, hr⟩ := this
      rw [hq] at hO
      obtain ⟨b, κ, h1, h2, h3⟩ := hO
      exact ⟨b, κ, h1, h2, h3.imp id fun ⟨cs, t, q1, q2, q3⟩ => ⟨cs, t, q1, q2, fun i hi j hj => by rw [← hr i hi]; exact q3 i hi j hj⟩⟩
    | _ => rw [hq, hq'] at this; simp [OEq] at this
  | _ =>
    rw [hq] at hO this
    cases hq' : nth .free s'.heap o <;> rw [hq'] at this <;> simp [OEq] at this
    all_goals first | exact hO | (rw [← this.1, ← this.2]; exact hO)
/-- How a text is left. -/
def StE (E : En) (e : EX) (s : AState) (a : Act) (w : World) (x : Exit) : Prop :=
  match e with
  | .normal => x = .normal ∧ St E s a w
  | .exit i => x = .exit i ∧ St E s a w
  | .ret => x = .ret ∧ St E s a w
  | .panic v => ∃ y, x = panEx y ∧ StV E s a w v y
theorem flags_ok {fs : Foots} {flags : List (Nat × Nat)} {n : Nat} {rs ws : Nat → List Nat} (hf : flagsOk ([] ++ (List.range n).map fun q => (0 + q, rs (0 + q), ws (0 + q))) flags = true) : ∀ i j, (i, j) ∈ flags → (∀ x ∈ ws i, x ∉ rs j ∧ x ∉ ws j) ∧ ∀ x ∈ ws j, x ∉ rs i := by
  intro i j hij
  have hfoot : ∀ (l : List Nat) (q : Nat), footOf (l.map fun q => (0 + q, rs (0 + q), ws (0 + q))) q = none ∨ footOf (l.map fun q => (0 + q, rs (0 + q), ws (0 + q))) q = some (rs q, ws q) := fun l q => by
    induction l with
    | nil => exact .inl rfl
    | cons x l ih =>
      simp only [List.map_cons, footOf]
      cases e : Nat.beq (0 + x) q with
      | true => have := beq_eq e; rw [← this]; exact .inr rfl
      | false => exact ih
  have := List.all_eq_true.mp hf (i, j) hij
  simp only [List.nil_append] at this
  rcases hfoot (List.range n) i with e | e <;> rcases hfoot (List.range n) j with e' | e' <;> rw [e, e'] at this <;> simp at this
  simp only [disj, Bool.and_eq_true, List.all_eq_true] at this
  obtain ⟨h1, h2⟩ := this
  refine ⟨fun x hx => ?_, fun x hx => ?_⟩
  · have := h1 x hx
    simp at this
    exact this
  · have := h2 x hx
    simpa using this
theorem least {p : Nat → Prop} (h : ∃ n, p n) : ∃ n, p n ∧ ∀ m, p m → n ≤ m := by
  obtain ⟨n, hn⟩ := h
  induction n using Nat.strongRecOn with
  | _ n ih =>
    by_cases hc : ∃ m, m < n ∧ p m
    · obtain ⟨m, h1, h2⟩ := hc
      exact ih m h1 h2
    · exact ⟨n, hn, fun m hm => by
        rcases Nat.lt_or_ge m n with e | e
        · exact absurd ⟨m, e, hm⟩ hc
        · exact e⟩
open Classical in
theorem awp_sound {c : Cfg} (hc : CfgOK P c) (hb : E.base = c.base) : ∀ (code : Code) (K : EX → AState → Prop) (s : AState) (a : Act) (w : World) (Q : Exit → Act → World → Prop), awp c code K s → St E s a w → (∀ e s' a' w' x, K e s' → StE E e s' a' w' x → Q x a' w') → code.wp P Q a w := by
  intro code
  induction code with
  | skip => exact fun K s a w Q h hs hk => wp_skip (hk _ _ _ _ _ h ⟨rfl, hs⟩)
  | label l => exact fun K s a w Q h hs hk => wp_label (hk _ _ _ _ _ h ⟨rfl, hs⟩)
  | exit id => exact fun K s a w Q h hs hk => wp_exit (hk _ _ _ _ _ h ⟨rfl, hs⟩)
  | ret => exact fun K s a w Q h hs hk => wp_ret (hk _ _ _ _ _ h ⟨rfl, hs⟩)
  | region id ops d =>
    intro K s a w Q h hs hk
    obtain ⟨ts, hp⟩ := s
    cases d with
    | false =>
      refine wp_region ?_
      have := runOps_sound (Q := Q) hc hb (KP := fun v s' => K (.panic v) s') (fun v s' a' w' x h' hs' => hk _ _ _ _ _ h' ⟨x, rfl, hs'⟩) ops ops.toList 0 (by simp) [] ts hp (fun s' => K .normal s') a w h hs (fun s' a' w' h' hs' => hk _ _ _ _ _ h' ⟨rfl, hs'⟩)
      rwa [Nat.sub_zero, ← List.range_eq_range'] at this
    | true =>
      obtain ⟨flags, hst, hr⟩ := h
      simp only [fL_map (g := AV.unguard) fU1_eq] at hr
      replace hr : runDraw c ops.toList flags ops.toList 0 hp.length [] [] (ts.map AV.unguard) (hp ++ List.replicate (allocs ops.toList) .free) (fun s' => K .normal s') := by
        cases flags with
        | nil => exact draw0 _ _ _ _ _ _ _ _ hr
        | cons p r => exact hr
      refine wp_region_any hc.mixed ?_
      obtain ⟨sts, rs, ws, q1, q2, q3, q4, q5⟩ := runDraw_sts _ _ _ _ _ _ _ _ hr
      have hst' := static_of hst
      have hsteps : ∀ i, i < ops.size → ∃ o, ops[i]? = some o ∧ DStep c ops.toList o (sts i) (sts (i + 1)) (rs i) (ws i) := fun i hi => by
        obtain ⟨o, a1, a2⟩ := q2 i (by simpa using hi)
        rw [Nat.zero_add] at a2
        exact ⟨o, by simpa using a1, a2⟩
      have h0 : ∀ x d b v, getTmp (sts 0) x ≠ .when d b v := fun x d b v e => by
        rw [q1] at e
        simp only [getTmp, map_top (f := AV.unguard) rfl] at e
        exact unguard_not _ d b v e
      rw [Nat.zero_add, Array.length_toList] at q5
      refine draw_any (Q := Q) hc hb hst' hsteps h0 (flags_ok (fs := []) q4) (fun a' w' hs' => hk .normal _ a' w' _ q5 ⟨rfl, hs'⟩) ops.size _ (sts 0) a _ (by simp) ?_ ⟨rfl, rfl, fun t => ⟨0, by omega, rfl, fun i o hi hd => ?_⟩, fun x => ⟨0, by omega, rfl, fun i hi hx => ?_⟩, fun x d b v e => absurd e (h0 x d b v), fun i o hL ho => ?_⟩ ?_
      · have : ∀ n, n ≤ ops.size → cnt (fun i => (Array.replicate ops.size false).getD i false) n = n := fun n => by
          induction n with
          | zero => intro _; rfl
          | succ n ih => intro hn; simp only [cnt]; rw [ih (by omega)]; simp [Array.getD]
        exact this _ (Nat.le_refl _)
      · simp [Array.getD]
      · simp [Array.getD]
      · simp [Array.getD] at hL
      · rw [q1]
        obtain ⟨Fz, g, F, H, hon, hg⟩ := hs.drew
        exact ⟨Fz, g, F.unguard, H.reserve _, hon, hg⟩
  | seq x y ih1 ih2 =>
    intro K s a w Q h hs hk
    refine wp_seq (ih1 _ s a w _ h hs fun e s' a' w' x h' hs' => ?_)
    cases e with
    | normal => obtain ⟨rfl, hs'⟩ := hs'; exact ih2 K s' a' w' Q h' hs' hk
    | exit i => have := hs'.1; subst this; exact hk _ _ _ _ _ h' hs'
    | ret => have := hs'.1; subst this; exact hk _ _ _ _ _ h' hs'
    | panic v => obtain ⟨y, rfl, hs'⟩ := hs'; exact hk _ _ _ _ _ h' ⟨y, rfl, hs'⟩
  | cond x y z ih1 ih2 =>
    intro K s a w Q h hs hk
    simp only [awp] at h
    split at h
    · rename_i v hv
      obtain ⟨Fz, g, F, H, hon, hg⟩ := hs
      have hx := ev_vr F (Chained.nil a) x
      rw [hv] at hx
      obtain ⟨h1, h2⟩ := bcond_iff.mp h
      refine wp_cond_split (inv_bool hx) (fun e => ?_) (fun e => ?_)
      · exact ih1 K s a w Q (h1 e) ⟨Fz, g, F, H, hon, hg⟩ hk
      · exact ih2 K s a w Q (h2 e) ⟨Fz, g, F, H, hon, hg⟩ hk
    · exact h.elim
  | block id b ih =>
    intro K s a w Q h hs hk
    refine wp_block (ih _ s a w _ h hs fun e s' a' w' x h' hs' => ?_)
    cases e with
    | normal => obtain ⟨rfl, hs'⟩ := hs'; exact hk _ _ _ _ _ h' ⟨rfl, hs'⟩
    | exit i =>
      obtain ⟨rfl, hs'⟩ := hs'
      simp only [Exit.inBlock]
      simp only at h'
      cases hi : (i == id) with
      | true => rw [hi] at h'; rw [if_pos (by simpa using hi)]; exact hk _ _ _ _ _ h' ⟨rfl, hs'⟩
      | false => rw [hi] at h'; rw [if_neg (by simpa using hi)]; exact hk _ _ _ _ _ h' ⟨rfl, hs'⟩
    | ret => obtain ⟨rfl, hs'⟩ := hs'; exact hk _ _ _ _ _ h' ⟨rfl, hs'⟩
    | panic v => obtain ⟨y, rfl, hs'⟩ := hs'; exact hk _ _ _ _ _ h' ⟨y, rfl, hs'⟩
  | loop b ih =>
    intro K s a w Q h hs hk
    rcases h with ⟨l0, h⟩ | ⟨nils, live, n, I, hbn, ⟨m0, s0, hse, hI0⟩, hround⟩
    · let J : Act → World → Nat → Prop := fun a w m => ∃ (l : List Unit) (s' : AState), l.length = m ∧ unroll (awp c b) l K s' ∧ St E s' a w
      refine wp_loop (fun a w => ∃ m, J a w m) (fun a w => if h : ∃ m, J a w m then (least h).choose else 0) ⟨l0.length, l0, s, rfl, h, hs⟩ fun a w hex => ?_
      obtain ⟨l, s', hl, hu, hs'⟩ := (least hex).choose_spec.1
      cases l with
      | nil => exact hu.elim
      | cons u l =>
        refine ih _ s' a w _ hu hs' fun e s'' a' w' x h' hs'' => ?_
        cases e with
        | normal =>
          obtain ⟨rfl, hs''⟩ := hs''
          have hJ : J a' w' l.length := ⟨l, s'', rfl, h', hs''⟩
          refine ⟨⟨_, hJ⟩, ?_⟩
          have hex' : ∃ m, J a' w' m := ⟨_, hJ⟩
          rw [dif_pos hex', dif_pos hex]
          refine Nat.lt_of_le_of_lt ((least hex').choose_spec.2 _ hJ) ?_
          have : l.length + 1 = (least hex).choose := hl
          omega
        | exit i => obtain ⟨rfl, hs''⟩ := hs''; exact hk _ _ _ _ _ h' ⟨rfl, hs''⟩
        | ret => obtain ⟨rfl, hs''⟩ := hs''; exact hk _ _ _ _ _ h' ⟨rfl, hs''⟩
        | panic v => obtain ⟨y, rfl, hs''⟩ := hs''; exact hk _ _ _ _ _ h' ⟨y, rfl, hs''⟩
    · let J : Act → World → Nat → Prop := fun a w m => ∃ s', I m s' ∧ St E s' a w
      refine wp_loop (fun a w => ∃ m, J a w m) (fun a w => if h : ∃ m, J a w m then (least h).choose else 0) ⟨m0, s0, hI0, (hs.grow.keep (by rw [hb]; exact hbn)).seq hse⟩ fun a w hex => ?_
      obtain ⟨s', hI', hs'⟩ := (least hex).choose_spec.1
      refine ih _ s' a w _ (hround _ s' hI') hs' fun e s'' a' w' x h' hs'' => ?_
      cases e with
      | normal =>
        obtain ⟨rfl, hs''⟩ := hs''
        obtain ⟨m', s3, hlt, hse3, hI3⟩ := h'
        have hJ : J a' w' m' := ⟨s3, hI3, (hs''.keep (by rw [hb]; exact hbn)).seq hse3⟩
        refine ⟨⟨m', hJ⟩, ?_⟩
        have hex' : ∃ m, J a' w' m := ⟨m', hJ⟩
        rw [dif_pos hex', dif_pos hex]
        exact Nat.lt_of_le_of_lt ((least hex').choose_spec.2 _ hJ) hlt
      | exit i => obtain ⟨rfl, hs''⟩ := hs''; exact hk _ _ _ _ _ h' ⟨rfl, hs''⟩
      | ret => obtain ⟨rfl, hs''⟩ := hs''; exact hk _ _ _ _ _ h' ⟨rfl, hs''⟩
      | panic v => obtain ⟨y, rfl, hs''⟩ := hs''; exact hk _ _ _ _ _ h' ⟨y, rfl, hs''⟩
  | _ => exact fun K s a w Q h => h.elim
end
end Go.Proofs.YtnnoplgabnfdiaaGreatDoor.Sh
/- The shadow machine: functions. -/
namespace Go.Proofs.YtnnoplgabnfdiaaGreatDoor.Sh
open Go Go.RowKit
set_option linter.unusedVariables false
set_option linter.unusedSimpArgs false
section
variable {D : List Deferred} {P : Program} {T : Tab} {B0 : Nat} {w0 w w' : World} {Fz F2 : Nat → Prop} {g g' : Gh} {h : List AO} {a : Act} {s : AState}

theorem loadVar_run (hT : TabOK P T) {t : Nat} {ti : TI} (e0 : T.get t = some ti) {v : AV} {cs : List AV} {c : Value} (H : HR B0 w0 w Fz g h) (hpos : 0 < ti.size) (hr : rd (fun o => nth .free h o) v ti.size = some ([], cs)) (hv : VR w Fz g v c) :
    ∃ ad r, c = .pointer (some ad) ∧ (loadVar t ad).run P w = .ok r w ∧ VR w Fz g (pack ti.agg cs) r := by
  obtain ⟨ad, f, hX, hl, hcell, hvv⟩ := rd_vr H hr trivial hv
  have hag := hT.agg (w := w) e0
  have hsz := hT.size (w := w) e0
  have hpk := pack_vr (b := ti.agg) (f := f) (fun q hq => hvv q (by omega)) (fun _ => by omega)
  refine ⟨ad, _, hX, ?_, hpk⟩
  cases hb : ti.agg with
  | true =>
    rw [hb] at hag
    simp [loadVar, hag, hsz, run_loadCells w ad ti.size f hcell, hl]
  | false =>
    rw [hb] at hag
    have h0 := hcell 0 hpos
    rw [add_zero'] at h0
    simp [loadVar, hag, load, Sem.run, h0]
/-- One result of a function. -/
def res1 (tmps : Array Value) : ResultVar → Sem Value
  | .tmp t => pure (tmps.getD t undef)
  | .cell x t => do loadVar t (← asAddr (tmps.getD x undef))
theorem results_eq (fn : Func) (tmps : Array Value) : results fn tmps = (do
    let vs ← fn.results.mapM fun r => res1 tmps r
    pure (if h : vs.size = 1 then vs[0] else .tuple vs)) := rfl
theorem retOne_run (hT : TabOK P T) (F : FR D w Fz g s.tmps a) (H : HR B0 w0 w Fz g s.heap) {r : ResultVar} {v : AV} (h : retOne T s r = some v) :
    ∃ c, (res1 a.tmps r).run P w = .ok c w ∧ VR w Fz g v c := by
  cases r with
  | tmp t =>
    simp only [retOne, Option.some.injEq] at h
    subst h
    exact ⟨_, rfl, ev_vr F (Chained.nil a) (.tmp t)⟩
  | cell x t =>
    simp only [retOne] at h
    split at h
    · rename_i ti e0
      cases hz : Nat.beq ti.size 0 with
      | true => rw [hz] at h; simp at h
      | false =>
        rw [hz] at h
        simp only [cond_false] at h
        have hpos : 0 < ti.size := by
          rcases Nat.eq_zero_or_pos ti.size with e | e
          · rw [e] at hz; simp at hz
          · exact e
        split at h
        · rename_i cs e1
          simp only [Option.some.injEq] at h; subst h
          obtain ⟨ad, r, hX, hr, hv⟩ := loadVar_run (P := P) hT e0 H hpos e1 (ev_vr F (Chained.nil a) (.tmp x))
          have hX' : a.tmps.getD x undef = .pointer (some ad) := hX
          exact ⟨r, by simp [res1, hX', asAddr, hr], hv⟩
        · simp at h
    · simp at h
theorem retAll_run (hT : TabOK P T) (F : FR D w Fz g s.tmps a) (H : HR B0 w0 w Fz g s.heap) : ∀ (l : List ResultVar) (vs : List AV), retAll T s l = some vs →
    ∃ cs : List Value, (l.mapM fun r => (res1 a.tmps r)).run P w = .ok cs w ∧ vs.length = cs.length ∧ ∀ i, i < vs.length → VR w Fz g (nth .top vs i) (cs.getD i undef)
  | [], vs, h => by
    simp only [retAll, Option.some.injEq] at h; subst h
    exact ⟨[], rfl, rfl, fun i hi => absurd hi (by simp)⟩
  | r :: l, vs, h => by
    simp only [retAll] at h
    split at h
    · rename_i v vs' e1 e2
      simp only [Option.some.injEq] at h; subst h
      obtain ⟨c, h1, h2⟩ := retOne_run (P := P) hT F H e1
      obtain ⟨cs, h3, h4, h5⟩ := retAll_run hT F H l vs' e2
      refine ⟨c :: cs, ?_, by simp [h4], fun i hi => ?_⟩
      · simp only [List.mapM_cons, Sem.run_bind, h1, Result.andThen_ok, h3, Sem.run_pure]
      · cases i with
        | zero => exact h2
        | succ i => simpa [nth] using h5 i (by simpa using hi)
    · simp at h
theorem results_run (hT : TabOK P T) (F : FR D w Fz g s.tmps a) (H : HR B0 w0 w Fz g s.heap) {fn : Func} {r : AV} (h : retVal T fn s = some r) : ∃ c, (results fn a.tmps).run P w = .ok c w ∧ VR w Fz g r c := by
  have key : ∀ vs, retAll T s fn.results.toList = some vs → ∃ cs : List Value, (fn.results.mapM fun r => (res1 a.tmps r)).run P w = .ok cs.toArray w ∧ vs.length = cs.length ∧ ∀ i, i < vs.length → VR w Fz g (nth .top vs i) (cs.getD i undef) := fun vs hv => by
    obtain ⟨cs, h1, h2, h3⟩ := retAll_run (P := P) hT F H _ vs hv
    refine ⟨cs, ?_, h2, h3⟩
    rw [Array.mapM_eq_mapM_toList]
    simp only [map_eq_pure_bind, Sem.run_bind, h1, Result.andThen_ok, Sem.run_pure]
  unfold retVal at h
  split at h
  · rename_i v hv
    simp only [Option.some.injEq] at h; subst h
    obtain ⟨cs, h1, h2, h3⟩ := key _ hv
    match cs, h2 with
    | [c], _ =>
      refine ⟨c, ?_, h3 0 (by simp)⟩
      rw [results_eq, Sem.run_bind, h1]
      simp
  · rename_i vs hne hv
    simp only [Option.some.injEq] at h; subst h
    obtain ⟨cs, h1, h2, h3⟩ := key _ hv
    have hn1 : cs.toArray.size ≠ 1 := by
      intro e
      have : vs.length = 1 := by simp at e; omega
      match vs, this with
      | [x], _ => exact hne x rfl
    refine ⟨.tuple cs.toArray, ?_, .tup _ _ (by simpa using h2) fun i hi => by simpa [Array.getD_eq_getD_getElem?, List.getD_eq_getElem?_getD] using h3 i hi⟩
    rw [results_eq, Sem.run_bind, h1]
    simp only [Result.andThen_ok, dif_neg hn1, Sem.run_pure]
  · simp at h
theorem start_fr {h : List AO} {args : List AV} {xs : Array Value} {n : Nat} (hl : args.length = xs.size) (hv : ∀ i, i < args.length → VR w Fz g (nth .top args i) (xs.getD i undef)) :
    FR [] w Fz g (args ++ List.replicate (n - args.length) .top) { tmps := xs ++ Array.replicate (n - xs.size) undef, defers := [] } := by
  refine ⟨rfl, by simp [hl], fun i hi => ?_⟩
  show SR w Fz g _ (nth .top (args ++ List.replicate (n - args.length) .top) i) ((xs ++ Array.replicate (n - xs.size) undef).getD i undef)
  rw [nth_append]
  by_cases hi2 : i < args.length
  · rw [if_pos hi2]
    have : (xs ++ Array.replicate (n - xs.size) undef).getD i undef = xs.getD i undef := by
      simp only [Array.getD_eq_getD_getElem?]; rw [Array.getElem?_append_left (by omega)]
    rw [this]
    exact SR.of (hv i hi2)
  · rw [if_neg hi2]
    have : nth AV.top (List.replicate (n - args.length) AV.top) (i - args.length) = .top := by
      rw [nth_get, List.getD_eq_getElem?_getD, List.getElem?_replicate]; split <;> rfl
    rw [this]; exact .top _
/-- A function's abstract run tells its calls. -/
theorem scall_of {c : Cfg} (hc : CfgOK P c) {f : FuncId} {fn : Func} (hf : P.funcs[f]? = some fn) (hname : (fn.name == "runtime.NumGoroutine") = false) {args : List AV} {K : AR → List AO → Prop} (hbase : c.base = h.length) (H : afn c fn args h K) : SCall P f args h K := by
  unfold afn at H
  cases hb : fn.body with
  | none => rw [hb] at H; exact H.elim
  | some b =>
    rw [hb] at H
    simp only [fL_eq f2_eq] at H
    refine fun B0 w0 w Fz g xs hH hl hv => .inl ⟨⟨fn, hf, hname, by rw [hb]; rfl⟩, calls_of_wp hf hb ?_⟩
    let E : En := ⟨B0, w0, w, Fz, g, h.length, []⟩
    refine awp_sound (E := E) hc hbase.symm b _ _ _ w _ H ⟨Fz, g, start_fr (h := h) hl hv, hH, On.refl _ _ _, fun o ho => hH.free o ho⟩ fun e s' a' w' x hk hs => ?_
    have fin : St E s' a' w' → (match retVal c.T fn s' with | some r => K (.ret r) s'.heap | none => False) → a'.defers = [] ∧ ∃ v, (results fn a'.tmps).run P w' = .ok v w' ∧ ∃ r cc h' Fz' g', Ending.returned v = r.end_ cc ∧ K r h' ∧ VR w' Fz' g' r.val cc ∧ HR B0 w0 w' Fz' g' h' ∧ On w w' Fz Fz' g g' := fun hs hk => by
      obtain ⟨Fz', g', F, H', hon, _⟩ := hs
      split at hk
      · rename_i r hr
        obtain ⟨cc, h1, h2⟩ := results_run (P := P) hc.tab F H' hr
        exact ⟨F.defers, cc, h1, .ret r, cc, s'.heap, Fz', g', rfl, hk, h2, H', hon⟩
      · exact hk.elim
    cases e with
    | normal => obtain ⟨rfl, hs⟩ := hs; exact fin hs hk
    | exit i => exact hk.elim
    | ret => obtain ⟨rfl, hs⟩ := hs; exact fin hs hk
    | panic v =>
      obtain ⟨y, rfl, Fz', g', F, H', hon, _, hv'⟩ := hs
      exact ⟨F.defers, .pan v, y, s'.heap, Fz', g', rfl, hk, hv', H', hon⟩
end
end Go.Proofs.YtnnoplgabnfdiaaGreatDoor.Sh
/- The shadow machine: calls that are put off, and what they catch. -/
namespace Go.Proofs.YtnnoplgabnfdiaaGreatDoor.Sh
open Go Go.RowKit
set_option linter.unusedVariables false
set_option linter.unusedSimpArgs false
/-- A call that is put off: of which function, with what. -/
abbrev DF := FuncId × List AV
def dfOf (s : AState) (k : Call) : Option DF := match k.callee with
  | .value f => match ev [] s f with
    | .fn g first caps => some (g, first ++ k.args.toList.map (ev [] s) ++ caps)
    | _ => none
  | _ => none
def isDefer (o : Oper) : Bool := match o.op with | .defer _ => true | _ => false
/-- A region with calls that are put off. -/
def runD (c : Cfg) : List Oper → List DF → List AV → List AO → (List DF → AState → Prop) → Prop
  | [], D, ts, h, K => fL fU1 ts fun ts => K D ⟨ts, h⟩
  | o :: os, D, ts, h, K => match o.guard with
    | some _ => False
    | none => match o.op with
      | .defer k => match dfOf ⟨ts, h⟩ k with
        | some (f, vs) => fL f2 vs fun vs => runD c os ((f, vs) :: D) (AState.put ⟨ts, h⟩ o.dst .top).tmps h K
        | none => False
      | op => match core c.G c.T c.eqs c.base op [] ⟨ts, h⟩ h.length with
        | some ⟨ob, val, upd, none⟩ => need ob (f3 val fun val => fP ts h o.dst val fun ts => fA upd h fun h => runD c os D ts h K)
        | _ => False
/-- A text in which calls are put off. -/
def awpD (c : Cfg) : Code → (EX → List DF → Nat → AState → Prop) → List DF → Nat → AState → Prop
  | .seq x y, K, D, b, s => awpD c x (fun e D b s' => match e with | .normal => awpD c y K D b s' | e => K e D b s') D b s
  | .cond x y z, K, D, b, s => match ev [] s x with
    | .bool v => bcond v (awpD c y K D b s) (awpD c z K D b s)
    | _ => False
  | .block id y, K, D, b, s => awpD c y (fun e D b s' => match e with | .exit i => bif i == id then K .normal D b s' else K (.exit i) D b s' | e => K e D b s') D b s
  | .region id ops d, K, D, b, s => match d, ops.toList.any isDefer with
    | false, true => runD { c with base := b } ops.toList D s.tmps s.heap fun D s' => K .normal D s'.heap.length s'
    | d, _ => awp { c with base := b } (.region id ops d) (fun e s' => K e D b s') s
  | code, K, D, b, s => awp { c with base := b } code (fun e s' => K e D b s') s
/-- The mode in which a call is put off was come to. -/
inductive MD where
  | ret
  | pan (v : AV)
/-- A caller's mode. -/
inductive MC where
  | ret
  | pan (v : AV)
  | got (v : AV)
def isRecover (o : Oper) : Bool := match o.op with
  | .call k => match k.callee with
    | .builtin .recover => true
    | _ => false
  | _ => false
/-- A text that may catch. -/
def awpS (c : Cfg) : Code → (EX → MC → AState → Prop) → MC → AState → Prop
  | .seq x y, K, m, s => awpS c x (fun e m s' => match e with | .normal => awpS c y K m s' | e => K e m s') m s
  | .region id ops d, K, m, s => match d, ops.toList with
    | false, [o] => match isRecover o, o.guard with
      | true, none => match m with
        | .ret => fL f3 (AState.put s o.dst .nilif).tmps fun ts => K .normal .ret ⟨ts, s.heap⟩
        | .pan v => fL f3 (AState.put s o.dst v).tmps fun ts => K .normal (.got v) ⟨ts, s.heap⟩
        | .got v => fL f3 (AState.put s o.dst .nilif).tmps fun ts => K .normal (.got v) ⟨ts, s.heap⟩
      | _, _ => awp { c with base := s.heap.length } (.region id ops d) (fun e s' => K e m s') s
    | _, _ => awp { c with base := s.heap.length } (.region id ops d) (fun e s' => K e m s') s
  | code, K, m, s => awp { c with base := s.heap.length } code (fun e s' => K e m s') s
def MC.settle : MC → MD
  | .ret => .ret
  | .pan v => .pan v
  | .got _ => .ret
def MD.mc : MD → MC
  | .ret => .ret
  | .pan v => .pan v
/-- A function that is called when another one is left. -/
def afnS (c : Cfg) (fn : Func) (args : List AV) (m : MD) (h : List AO) (K : MD → List AO → Prop) : Prop :=
  match fn.body with
  | some b => fL f2 (args ++ List.replicate (fn.ntmps - args.length) .top) fun ts => awpS c b (fun e m s => match e with
    | .exit _ => False
    | .panic _ => False
    | _ => match retVal c.T fn s with
      | some _ => K m.settle s.heap
      | none => False) m.mc ⟨ts, h⟩
  | none => False
section
variable {P : Program} {B0 : Nat} {w0 w w' : World} {Fz F2 : Nat → Prop} {g g' : Gh} {h : List AO} {a : Act} {E : En}
def MR (w : World) (Fz : Nat → Prop) (g : Gh) : MC → FrameMode → Prop
  | .ret, u => u = .returning
  | .pan v, u => ∃ x, u = .panicking [{ v := x, recovered := false }] ∧ VR w Fz g v x
  | .got v, u => ∃ x, u = .panicking [{ v := x, recovered := true }] ∧ VR w Fz g v x
theorem MR.on {Fz' : Nat → Prop} (hon : On w w' Fz Fz' g g') {m : MC} {u : FrameMode} (h : MR w Fz g m u) : MR w' Fz' g' m u := by
  cases m with
  | ret => exact h
  | pan v => obtain ⟨x, h1, h2⟩ := h; exact ⟨x, h1, hon.vr h2⟩
  | got v => obtain ⟨x, h1, h2⟩ := h; exact ⟨x, h1, hon.vr h2⟩
theorem MR.settle {m : MC} {u : FrameMode} (h : MR w Fz g m u) : MR w Fz g m.settle.mc (settle u) := by
  cases m with
  | ret => have h : u = .returning := h; subst h; rfl
  | pan v => obtain ⟨x, rfl, h2⟩ := h; exact ⟨x, rfl, h2⟩
  | got v => obtain ⟨x, rfl, h2⟩ := h; rfl
/-- The deferred calls of a frame. -/
inductive DRs (w : World) (Fz : Nat → Prop) (g : Gh) : List DF → List Deferred → Prop
  | nil : DRs w Fz g [] []
  | cons (f : FuncId) (vs : List AV) (cap ag : Array Value) (D : List DF) (ds : List Deferred) (hl : vs.length = (ag ++ cap).size) (hv : ∀ i, i < vs.length → VR w Fz g (nth .top vs i) ((ag ++ cap).getD i undef)) (h : DRs w Fz g D ds) : DRs w Fz g ((f, vs) :: D) ({ target := .fn (.func f) cap, args := ag } :: ds)
theorem DRs.on {Fz' : Nat → Prop} (hon : On w w' Fz Fz' g g') {D : List DF} {ds : List Deferred} (h : DRs w Fz g D ds) : DRs w' Fz' g' D ds := by
  induction h with
  | nil => exact .nil
  | cons f vs cap ag D ds hl hv h ih => exact .cons _ _ _ _ _ _ hl (fun i hi => hon.vr (hv i hi)) ih
/-- A deferred call, in a mode. -/
def DCall (P : Program) (f : FuncId) (vs : List AV) (m : MD) (h : List AO) (K : MD → List AO → Prop) : Prop := Ent P f ∧ ∀ (B0 : Nat) (w0 w : World) (Fz : Nat → Prop) (g : Gh) (args : Array Value) (u : FrameMode), MR w Fz g m.mc u → HR B0 w0 w Fz g h → vs.length = args.size → (∀ i, i < vs.length → VR w Fz g (nth .top vs i) (args.getD i undef)) →
  CallsD P f args u w fun e u' w' => ∃ m' v h' Fz' g', e = .returned v ∧ K m' h' ∧ MR w' Fz' g' m'.mc (settle u') ∧ HR B0 w0 w' Fz' g' h' ∧ On w w' Fz Fz' g g'
/-- All that was put off. -/
def leaveD (P : Program) : List DF → MD → List AO → (MD → List AO → Prop) → Prop
  | [], m, h, K => K m h
  | (f, vs) :: D, m, h, K => DCall P f vs m h fun m' h' => leaveD P D m' h' K
/-- A function that puts calls off. -/
def afnD (P : Program) (c : Cfg) (fn : Func) (args : List AV) (h : List AO) (K : AR → List AO → Prop) : Prop :=
  match fn.body with
  | some b => fL f2 (args ++ List.replicate (fn.ntmps - args.length) .top) fun ts => awpD c b (fun e D _ s => match e with
    | .exit _ => False
    | .panic v => leaveD P D (.pan v) s.heap fun m h => match m with
      | .ret => match retVal c.T fn ⟨s.tmps, h⟩ with
        | some r => K (.ret r) h
        | none => False
      | .pan v => K (.pan v) h
    | _ => leaveD P D .ret s.heap fun m h => match m with
      | .ret => match retVal c.T fn ⟨s.tmps, h⟩ with
        | some r => K (.ret r) h
        | none => False
      | .pan v => K (.pan v) h) [] c.base ⟨ts, h⟩
  | none => False

/-- A state of a text in which calls are put off. -/
def StD (E : En) (D : List DF) (b : Nat) (s : AState) (a : Act) (w : World) : Prop := ∃ E' : En, E'.base = b ∧ E'.B0 = E.B0 ∧ E'.w0 = E.w0 ∧ St E' s a w ∧ On E.w1 E'.w1 E.F1 E'.F1 E.g1 E'.g1 ∧ DRs E'.w1 E'.F1 E'.g1 D E'.D
def StDE (E : En) (e : EX) (D : List DF) (b : Nat) (s : AState) (a : Act) (w : World) (x : Exit) : Prop :=
  ∃ E' : En, E'.base = b ∧ E'.B0 = E.B0 ∧ E'.w0 = E.w0 ∧ StE E' e s a w x ∧ On E.w1 E'.w1 E.F1 E'.F1 E.g1 E'.g1 ∧ DRs E'.w1 E'.F1 E'.g1 D E'.D
theorem CfgOK.rebase {c : Cfg} (hc : CfgOK P c) (b : Nat) : CfgOK P { c with base := b } := ⟨hc.tab, hc.eqs, hc.st, hc.env, hc.calls, hc.mixed⟩
theorem dfOf_spec {D : List Deferred} {s : AState} {o : Oper} {k : Call} {f : FuncId} {vs : List AV} (F : FR D w Fz g s.tmps a) (hop : o.op = .defer k) (h : dfOf s k = some (f, vs)) :
    ∃ cap ag : Array Value, (execOp a.eval o).run P w = .ok (.defer { target := .fn (.func f) cap, args := ag }) w ∧ vs.length = (ag ++ cap).size ∧ ∀ i, i < vs.length → VR w Fz g (nth .top vs i) ((ag ++ cap).getD i undef) := by
  unfold dfOf at h
  split at h
  · rename_i fo hcal
    split at h
    · rename_i q first caps hf
      simp only [Option.some.injEq, Prod.mk.injEq] at h
      obtain ⟨rfl, rfl⟩ := h
      have hfv := ev_vr F (Chained.nil a) fo
      rw [hf] at hfv
      obtain ⟨us, vs, hF, ha, hbb, h1, h2⟩ := inv_fn hfv
      obtain ⟨l1, v1⟩ := args_vr F (Chained.nil a) k.args
      obtain ⟨l2, v2⟩ := nth_append_vr ha l1 h1 v1
      obtain ⟨l3, v3⟩ := nth_append_vr l2 hbb v2 h2
      refine ⟨vs, us ++ k.args.map a.eval, ?_, l3, v3⟩
      simp [execOp, hop, resolve, hcal, Deferred.ofValue, hF]
    · simp at h
  · simp at h
theorem runD_sound {c : Cfg} (hc : CfgOK P c) {Q : Exit → Act → World → Prop} (ops : Array Oper) (K : List DF → AState → Prop) :
    ∀ (os : List Oper) (i : Nat), os = ops.toList.drop i → ∀ (D : List DF) (ts : List AV) (h : List AO) (a : Act) (w : World), runD c os D ts h K →
    (∃ Fz g ds, FR ds w Fz g ts a ∧ HR B0 w0 w Fz g h ∧ On E.w1 w E.F1 Fz E.g1 g ∧ DRs w Fz g D ds) →
    (∀ D s' a' w', K D s' → (∃ Fz g ds, FR ds w' Fz g s'.tmps a' ∧ HR B0 w0 w' Fz g s'.heap ∧ On E.w1 w' E.F1 Fz E.g1 g ∧ DRs w' Fz g D ds) → Q .normal a' w') → wpOps P ops Q (List.range' i (ops.size - i)) a w
  | [], i, hi, D, ts, h, a, w, hr, hs, hK => by
    have hle : ops.size ≤ i := by
      have := congrArg List.length hi
      simp at this; omega
    rw [show ops.size - i = 0 by omega]
    simp only [runD, fL_map (g := AV.unguard) fU1_eq] at hr
    obtain ⟨Fz, g, ds, F, H, hon, hd⟩ := hs
    exact hK _ _ _ _ hr ⟨Fz, g, ds, F.unguard, H, hon, hd⟩
  | o :: os, i, hi, D, ts, h, a, w, hr, hs, hK => by
    have hlt : i < ops.size := by
      have := congrArg List.length hi
      simp at this; omega
    have ho : ops[i]? = some o := by
      have := congrArg (fun l => l[0]?) hi
      simpa using this.symm
    have hos : os = ops.toList.drop (i + 1) := by
      have := congrArg List.tail hi
      simpa using this
    rw [range'_cons hlt, wpOps_cons]
    unfold wpOp
    rw [ho]
    simp only
    obtain ⟨Fz, g, ds, F, H, hon, hd⟩ := hs
    simp only [runD, fP_eq, fA_eq, fL_eq f3_eq, fL_eq f2_eq, f3_eq, fH_eq] at hr
    cases hg : o.guard with
    | some q => rw [hg] at hr; exact hr.elim
    | none =>
      rw [hg] at hr
      have hw : Region.wanted o (yielded ops a.tmps) = true := by simp [Region.wanted, hg]
      rw [if_pos hw]
      refine .inl ?_
      have hcoreK : ∀ op, o.op = op → (match core c.G c.T c.eqs c.base op [] ⟨ts, h⟩ h.length with | some ⟨ob, val, upd, none⟩ => need ob (runD c os D (AState.put ⟨ts, h⟩ o.dst val).tmps (apply upd h) K) | _ => False) → o.wp P a w (wpOps P ops Q (List.range' (i + 1) (ops.size - (i + 1)))) Q := fun op hop hr => by
        subst hop
        split at hr
        · rename_i ob val upd hcore
          obtain ⟨hob, hrun⟩ := need_iff.mp hr
          refine (core_goes hc.tab hc.eqs hc.st hc.env F H (Chained.nil a) (Nat.le_refl _) (nth_length _) hcore hob).1 rfl _ _ fun cc w' Fz' g' hv hH hon' => ?_
          exact runD_sound hc ops K os (i + 1) hos D _ _ _ _ hrun ⟨Fz', g', ds, (hon'.fr F).put_vr o.dst hv, hH, hon.trans hon', hd.on hon'⟩ hK
        · exact hr.elim
      simp only at hr
      split at hr
      · rename_i k hop
        split at hr
        · rename_i f vs hdf
          obtain ⟨cap, ag, h1, h2, h3⟩ := dfOf_spec (P := P) F hop hdf
          unfold Oper.wp
          rw [h1, Oper.upon_defer]
          have F' : FR ({ target := .fn (.func f) cap, args := ag } :: ds) w Fz g ts { a with defers := { target := .fn (.func f) cap, args := ag } :: a.defers } := ⟨by rw [F.defers], F.size, fun i hi => by
            have := F.slots i hi
            generalize nth AV.top ts i = q at this ⊢
            cases q <;> exact this⟩
          exact runD_sound hc ops K os (i + 1) hos _ _ _ _ _ hr ⟨Fz, g, _, F'.put_vr o.dst (.top _), H, hon, .cons _ _ _ _ _ _ h2 h3 hd⟩ hK
        · exact hr.elim
      · exact hcoreK _ rfl hr
theorem awpD_sound {c : Cfg} (hc : CfgOK P c) : ∀ (code : Code) (K : EX → List DF → Nat → AState → Prop) (D : List DF) (b : Nat) (s : AState) (a : Act) (w : World) (Q : Exit → Act → World → Prop), awpD c code K D b s → StD E D b s a w → (∀ e D b s' a' w' x, K e D b s' → StDE E e D b s' a' w' x → Q x a' w') → code.wp P Q a w := by
  have plain : ∀ (code : Code) (K : EX → List DF → Nat → AState → Prop) (D : List DF) (b : Nat) (s : AState) (a : Act) (w : World) (Q : Exit → Act → World → Prop), awp { c with base := b } code (fun e s' => K e D b s') s → StD E D b s a w → (∀ e D b s' a' w' x, K e D b s' → StDE E e D b s' a' w' x → Q x a' w') → code.wp P Q a w := fun code K D b s a w Q h hs hk => by
    obtain ⟨E', e1, e2, e3, hs, hon, hd⟩ := hs
    exact awp_sound (hc.rebase b) (E := E') e1 code _ s a w Q h hs fun e s' a' w' x h' hs' => hk e D b s' a' w' x h' ⟨E', e1, e2, e3, hs', hon, hd⟩
  intro code
  induction code with
  | region id ops d =>
    intro K D b s a w Q h hs hk
    simp only [awpD] at h
    split at h
    · obtain ⟨E', e1, e2, e3, ⟨Fz, g, F, H, hon', hg⟩, hon, hd⟩ := hs
      refine wp_region ?_
      have := runD_sound (Q := Q) (E := E) (hc.rebase b) ops (fun D s' => K .normal D s'.heap.length s') ops.toList 0 (by simp) D s.tmps s.heap a w h ⟨Fz, g, _, F, H, hon.trans hon', hd.on hon'⟩ (fun D s' a' w' h' hs' => ?_)
      · rwa [Nat.sub_zero, ← List.range_eq_range'] at this
      · obtain ⟨Fz, g, ds, F, H, hon, hd⟩ := hs'
        exact hk _ _ _ _ _ _ _ h' ⟨⟨E'.B0, E'.w0, w', Fz, g, s'.heap.length, ds⟩, rfl, e2, e3, ⟨rfl, Fz, g, F, H, On.refl _ _ _, fun o ho => H.free o ho⟩, hon, hd⟩
    · exact plain _ K D b s a w Q h hs hk
  | seq x y ih1 ih2 =>
    intro K D b s a w Q h hs hk
    refine wp_seq (ih1 _ D b s a w _ h hs fun e D b s' a' w' x h' hs' => ?_)
    obtain ⟨E', e1, e2, e3, hs', hon, hd⟩ := hs'
    cases e with
    | normal => obtain ⟨rfl, hs'⟩ := hs'; exact ih2 K D b s' a' w' Q h' ⟨E', e1, e2, e3, hs', hon, hd⟩ hk
    | exit i => have := hs'.1; subst this; exact hk _ _ _ _ _ _ _ h' ⟨E', e1, e2, e3, hs', hon, hd⟩
    | ret => have := hs'.1; subst this; exact hk _ _ _ _ _ _ _ h' ⟨E', e1, e2, e3, hs', hon, hd⟩
    | panic v => obtain ⟨y, rfl, hs'⟩ := hs'; exact hk _ _ _ _ _ _ _ h' ⟨E', e1, e2, e3, ⟨y, rfl, hs'⟩, hon, hd⟩
  | cond x y z ih1 ih2 =>
    intro K D b s a w Q h hs hk
    simp only [awpD] at h
    split at h
    · rename_i v hv
      have hs0 := hs
      obtain ⟨E', e1, e2, e3, ⟨Fz, g, F, H, hon, hg⟩, hon', hd⟩ := hs0
      have hx := ev_vr F (Chained.nil a) x
      rw [hv] at hx
      obtain ⟨h1, h2⟩ := bcond_iff.mp h
      refine wp_cond_split (inv_bool hx) (fun e => ?_) (fun e => ?_)
      · exact ih1 K D b s a w Q (h1 e) hs hk
      · exact ih2 K D b s a w Q (h2 e) hs hk
    · exact h.elim
  | block id y ih =>
    intro K D b s a w Q h hs hk
    refine wp_block (ih _ D b s a w _ h hs fun e D b s' a' w' x h' hs' => ?_)
    obtain ⟨E', e1, e2, e3, hs', hon, hd⟩ := hs'
    cases e with
    | normal => obtain ⟨rfl, hs'⟩ := hs'; exact hk _ _ _ _ _ _ _ h' ⟨E', e1, e2, e3, ⟨rfl, hs'⟩, hon, hd⟩
    | exit i =>
      obtain ⟨rfl, hs'⟩ := hs'
      simp only [Exit.inBlock]
      simp only at h'
      cases hi : (i == id) with
      | true => rw [hi] at h'; rw [if_pos (by simpa using hi)]; exact hk _ _ _ _ _ _ _ h' ⟨E', e1, e2, e3, ⟨rfl, hs'⟩, hon, hd⟩
      | false => rw [hi] at h'; rw [if_neg (by simpa using hi)]; exact hk _ _ _ _ _ _ _ h' ⟨E', e1, e2, e3, ⟨rfl, hs'⟩, hon, hd⟩
    | ret => obtain ⟨rfl, hs'⟩ := hs'; exact hk _ _ _ _ _ _ _ h' ⟨E', e1, e2, e3, ⟨rfl, hs'⟩, hon, hd⟩
    | panic v => obtain ⟨y, rfl, hs'⟩ := hs'; exact hk _ _ _ _ _ _ _ h' ⟨E', e1, e2, e3, ⟨y, rfl, hs'⟩, hon, hd⟩
  | _ => exact fun K D b s a w Q h hs hk => plain _ K D b s a w Q h hs hk
end
end Go.Proofs.YtnnoplgabnfdiaaGreatDoor.Sh
