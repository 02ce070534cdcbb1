/- The shadow machine: texts. -/
import Derived.Test.YtepbibbeifbokaaSh20
namespace Go.Proofs.Ytepbibbeifbokaa.Sh
open Go Go.RowKit
set_option linter.unusedVariables false
set_option linter.unusedSimpArgs false
section
variable {P : Program} {B0 : Nat} {w0 w w' : World} {Fz F2 : Nat → Prop} {g g' : Gh} {h : List AO} {a : Act} {E : En}

theorem HR.reserve (H : HR B0 w0 w Fz g h) (n : Nat) : HR B0 w0 w Fz g (h ++ List.replicate n .free) := by
  have hn : ∀ o, nth .free (h ++ List.replicate n .free) o = nth .free h o := fun o => by
    rw [nth_append]
    split
    · rfl
    · rename_i ho
      rw [nth_ge _ h o (by omega)]
      by_cases hl : o - h.length < n
      · rw [nth_get, List.getD_eq_getElem?_getD]; simp [List.getElem?_replicate, hl]
      · exact nth_ge _ _ _ (by simp; omega)
  refine ⟨H.below, H.base, H.fz, fun o ho => H.free o (by simp at ho; omega), fun o ho => ?_, fun o b ho hh => ?_, fun o o' b ho ho' hh hh' => ?_⟩
  · rw [hn]
    by_cases hl : o < h.length
    · exact H.objs o hl
    · rw [nth_ge _ h o (by omega)]; exact H.free o (by omega)
  · rw [hn] at hh
    by_cases hl : o < h.length
    · exact H.own o b hl hh
    · rw [nth_ge _ h o (by omega)] at hh; exact hh.elim
  · rw [hn] at hh hh'
    by_cases hl : o < h.length
    · by_cases hl' : o' < h.length
      · exact H.sep o o' b hl hl' hh hh'
      · rw [nth_ge _ h o' (by omega)] at hh'; exact hh'.elim
    · rw [nth_ge _ h o (by omega)] at hh; exact hh.elim
theorem St.drew {s : AState} (h : St E s a w) : St E s a { w with drawn := w.drawn + 1 } := by
  obtain ⟨Fz, g, F, H, hon, hg⟩ := h
  have hon' : On w { w with drawn := w.drawn + 1 } Fz Fz g g := ⟨fun _ _ => rfl, fun _ x => x, fun _ _ x => x, fun _ x => .inl x, Nat.le_refl _⟩
  exact ⟨Fz, g, hon'.fr F, H.drew, hon.trans hon', hg⟩
theorem below0_vr {n : Nat} {v : AV} {c : Value} (hg : ∀ o x, o < n → g o = some x → g' o = some x) (hv : VR w Fz g v c) : VR w Fz g' (below0 n v) c := by
  cases hv with
  | top v => exact .top _
  | cint k n => exact .int _ _
  | int k n => exact .int _ _
  | bool b => exact .bool _
  | str s => exact .str _
  | nilp => exact .nilp
  | nilsl => exact .nilsl
  | nilfn => exact .nilfn
  | nilif => exact .nilif
  | ptr o' N s i j b κ h =>
    simp only [below0]
    cases e : Nat.blt o' n with
    | false => exact .top _
    | true => exact .ptr _ _ _ _ _ _ _ (hg _ _ (blt_lt e) h)
  | rp s row i j ad h => exact .rp _ _ _ _ _ h
  | sl o' s off len cap b κ h hl hc =>
    simp only [below0]
    cases e : Nat.blt o' n with
    | false => exact .top _
    | true => exact .sl _ _ _ _ _ _ _ (hg _ _ (blt_lt e) h) hl hc
  | sle o' s off cap A b h hc =>
    simp only [below0]
    cases e : Nat.blt o' n with
    | false => exact .top _
    | true => exact .sle _ _ _ _ _ _ (hg _ _ (blt_lt e) h) hc
  | ro s len cap row v h => exact .ro _ _ _ _ _ h
  | fn f xs ys us vs ha hb h1 h2 =>
    cases xs <;> cases ys <;> first
      | exact .fn f [] [] us vs ha hb (fun i hi => absurd hi (by simp)) (fun i hi => absurd hi (by simp))
      | exact .top _
  | iface t x v h => exact .top _
  | agg cs vs hl h => exact .top _
  | tup cs vs hl h => exact .top _
theorem below1_vr {n : Nat} {v : AV} {c : Value} (hg : ∀ o x, o < n → g o = some x → g' o = some x) (hv : VR w Fz g v c) : VR w Fz g' (below1 n v) c := by
  by_cases hag : ∃ cs, v = .agg cs
  · obtain ⟨cs, rfl⟩ := hag
    obtain ⟨vs, rfl, hl, hh⟩ := inv_agg hv
    exact .agg _ _ (by simpa using hl) fun i hi => by
      rw [map_top rfl]; exact below0_vr hg (hh i (by simpa using hi))
  · have : below1 n v = below0 n v := by cases v <;> first | rfl | exact absurd ⟨_, rfl⟩ hag
    rw [this]; exact below0_vr hg hv
theorem below2_vr {n : Nat} {v : AV} {c : Value} (hg : ∀ o x, o < n → g o = some x → g' o = some x) (hv : VR w Fz g v c) : VR w Fz g' (below2 n v) c := by
  cases v with
  | tup cs =>
    obtain ⟨vs, rfl, hl, hh⟩ := inv_tup hv
    exact .tup _ _ (by simpa using hl) fun i hi => by
      rw [map_top rfl]; exact below1_vr hg (hh i (by simpa using hi))
  | fn f xs ys =>
    obtain ⟨us, vs, rfl, ha, hb, h1, h2⟩ := inv_fn hv
    exact .fn _ _ _ _ _ (by simpa using ha) (by simpa using hb) (fun i hi => by rw [map_top rfl]; exact below1_vr hg (h1 i (by simpa using hi))) (fun i hi => by rw [map_top rfl]; exact below1_vr hg (h2 i (by simpa using hi)))
  | iface t x =>
    obtain ⟨v, rfl, h⟩ := inv_iface hv
    exact .iface _ _ _ (below1_vr hg h)
  | when d b v => cases hv
  | _ => exact below1_vr hg hv
theorem keepT_length (live : List Nat) (n : Nat) : ∀ (ts : List AV) (i : Nat), (keepT live n i ts).length = ts.length
  | [], i => rfl
  | v :: ts, i => by simp [keepT, keepT_length live n ts (i + 1)]
theorem nth_keepT (live : List Nat) (n : Nat) : ∀ (ts : List AV) (i q : Nat), nth .top (keepT live n i ts) q = .top ∨ nth .top (keepT live n i ts) q = below2 n (nth .top ts q)
  | [], i, q => .inl (by cases q <;> rfl)
  | v :: ts, i, 0 => by
    simp only [keepT, nth]
    cases live.elem i with
    | true => exact .inr rfl
    | false => exact .inl rfl
  | v :: ts, i, q + 1 => by simp only [keepT, nth]; exact nth_keepT live n ts (i + 1) q
theorem St.keep {s : AState} {live : List Nat} {n : Nat} (hb : E.base ≤ n) (h : St E s a w) : St E (keep live n s) a w := by
  obtain ⟨Fz, g, F, H, hon, hg⟩ := h
  have hgn : ∀ o x, o < n → g o = some x → (fun o => if o < n then g o else none : Gh) o = some x := fun o x ho hx => by simp [ho, hx]
  have hHas : ∀ o b, Has (fun o => if o < n then g o else none : Gh) o (belowO n (nth .free s.heap o)) b → Has g o (nth .free s.heap o) b := fun o b hh => by
    by_cases ho : o < n
    · cases hq : nth .free s.heap o <;> rw [hq] at hh <;> first | (simp [Has, belowO, ho] at hh; done) | simpa [Has, belowO, ho] using hh
    · cases hq : nth .free s.heap o <;> rw [hq] at hh <;> simp [Has, belowO, ho] at hh
  have hnth : ∀ o, o < (s.heap.take n).length → nth .free ((s.heap.take n).map (belowO n)) o = belowO n (nth .free s.heap o) := fun o ho => by
    rw [nth_map _ _ rfl]
    congr 1
    rw [nth_get, nth_get, List.getD_eq_getElem?_getD, List.getD_eq_getElem?_getD, List.getElem?_take, if_pos (by simp at ho; omega)]
  refine ⟨Fz, fun o => if o < n then g o else none, ⟨F.defers, ?_, fun i hi => ?_⟩, ⟨H.below, H.base, H.fz, fun o ho => ?_, fun o ho => ?_, fun o b ho hh => ?_, fun o o' b ho ho' hh hh' => ?_⟩, ⟨hon.same, hon.fz, fun o x hx => ?_, hon.new, hon.size⟩, hg⟩
  · show (keepT live n 0 s.tmps).length = _
    rw [keepT_length]; exact F.size
  · have hi' : i < s.tmps.length := by simpa [Sh.keep, keepT_length] using hi
    show SR w Fz _ a (nth .top (keepT live n 0 s.tmps) i) _
    rcases nth_keepT live n s.tmps 0 i with e | e
    · rw [e]; exact .top _
    · rw [e]
      have hs := F.slots i hi'
      generalize nth AV.top s.tmps i = q at hs
      by_cases hw : ∃ d b x, q = .when d b x
      · obtain ⟨d, b, x, rfl⟩ := hw; exact .top _
      · exact SR.of (below2_vr hgn (hs.vr fun d b x e => hw ⟨d, b, x, e⟩))
  · by_cases ho' : o < n
    · have : s.heap.length ≤ o := by simp [Sh.keep] at ho; omega
      simp only [ho', if_true]; exact H.free o this
    · simp [ho']
  · have ho1 : o < (s.heap.take n).length := by simpa [Sh.keep] using ho
    have ho2 : o < s.heap.length := by simp at ho1; omega
    have ho3 : o < n := by simp at ho1; omega
    show OR w Fz _ o (nth .free ((s.heap.take n).map (belowO n)) o)
    rw [hnth o ho1]
    have hO := H.objs o ho2
    have hgo : ∀ x, g o = x → (fun o => if o < n then g o else none : Gh) o = x := fun x hx => by simp [ho3, hx]
    cases hq : nth .free s.heap o with
    | free => rw [hq] at hO; exact hgo _ hO
    | dead => trivial
    | lit z cells =>
      rw [hq] at hO
      obtain ⟨b, κ, cs, t, h1, h2, h3, h4, h5⟩ := hO
      exact ⟨b, κ, cs, t, hgo _ h1, by simpa using h2, h3, by simpa using h4, fun i hi => by rw [map_top rfl]; exact below1_vr hgn (h5 i (by simpa using hi))⟩
    | rows z m row =>
      rw [hq] at hO
      obtain ⟨b, κ, h1, h2, h3⟩ := hO
      exact ⟨b, κ, hgo _ h1, h2, h3.imp id fun ⟨cs, t, q1, q2, q3⟩ => ⟨cs, t, q1, q2, fun i hi j hj => by rw [map_top rfl]; exact below0_vr hgn (q3 i hi j hj)⟩⟩
  · have ho1 : o < (s.heap.take n).length := by simpa [Sh.keep] using ho
    have hh' : Has _ o (nth .free ((s.heap.take n).map (belowO n)) o) b := hh
    rw [hnth o ho1] at hh'
    exact H.own o b (by simp at ho1; omega) (hHas o b hh')
  · have ho1 : o < (s.heap.take n).length := by simpa [Sh.keep] using ho
    have ho1' : o' < (s.heap.take n).length := by simpa [Sh.keep] using ho'
    have h1 : Has _ o (nth .free ((s.heap.take n).map (belowO n)) o) b := hh
    have h2 : Has _ o' (nth .free ((s.heap.take n).map (belowO n)) o') b := hh'
    rw [hnth o ho1] at h1; rw [hnth o' ho1'] at h2
    exact H.sep o o' b (by simp at ho1; omega) (by simp at ho1'; omega) (hHas o b h1) (hHas o' b h2)
  · have : o < E.base := by
      rcases Nat.lt_or_ge o E.base with e | e
      · exact e
      · rw [hg o e] at hx; cases hx
    have ho : o < n := by omega
    simp only [ho, if_true]
    exact hon.gh o x hx
theorem St.grow : ∀ {nils : List (Nat × Nat)} {s : AState}, St E s a w → St E (grow nils s) a w
  | [], s, h => h
  | (t, z) :: r, s, h => by
    simp only [Sh.grow]
    split
    · rename_i hq
      refine St.grow ?_
      obtain ⟨Fz, g, F, H, hon, hg⟩ := h
      have hgn : g s.heap.length = none := H.free _ (Nat.le_refl _)
      have hext : ∀ o' x, g o' = some x → ext g s.heap.length (0, 0) o' = some x := fun o' x hx => by
        by_cases eo : o' = s.heap.length
        · subst eo; rw [hgn] at hx; cases hx
        · simp [ext, eo, hx]
      have hon' : On w w Fz Fz g (ext g s.heap.length (0, 0)) := ⟨Same.refl _ _, fun _ x => x, hext, fun _ x => .inl x, Nat.le_refl _⟩
      have H' : HR E.B0 E.w0 w Fz (ext g s.heap.length (0, 0)) (put1 s.heap.length (.rows z 0 fun _ => []) s.heap) :=
        H.change H.below (Nat.le_refl _) (Nat.le_refl _) (fun _ _ _ => rfl) (fun o' e => by simp [ext, e]) (fun x hx => by rw [hgn] at hx; cases hx) ⟨0, 0, by simp [ext], Nat.le_refl _, .inl rfl⟩ (fun b hb => by obtain ⟨κ, e, hκ⟩ := hb; simp [ext] at e; exact absurd e.2.symm hκ)
      have e1 : put1 s.heap.length (.rows z 0 fun _ => []) s.heap = s.heap ++ [.rows z 0 fun _ => []] := by unfold put1; rw [blt_f (by omega)]; rfl
      rw [e1] at H'
      have F' := hon'.fr F
      refine ⟨Fz, _, ⟨F.defers, by simpa [setNth_length] using F.size, fun i hi => ?_⟩, H', hon.trans hon', hg⟩
      have hi' : i < s.tmps.length := by simpa [setNth_length] using hi
      show SR w Fz _ a (nth .top (setNth s.tmps t _) i) _
      rw [nth_setNth]
      by_cases e : t = i ∧ i < s.tmps.length
      · rw [if_pos e]
        obtain ⟨rfl, _⟩ := e
        have hv := F.slots t hi'
        unfold getTmp at hq
        rw [hq] at hv
        have hv' : VR w Fz g .nilsl (a.tmps.getD t undef) := hv
        have hX : a.tmps.getD t undef = .slice none 0 0 := by generalize a.tmps.getD t undef = q at hv'; cases hv'; rfl
        rw [hX]
        exact .sle _ _ _ _ _ 0 (by simp [ext]) (fun n hn => by cases hn)
      · rw [if_neg e]; exact F'.slots i hi'
    · exact St.grow h
theorem St.seq {s s' : AState} (he : SEq s s') (h : St E s a w) : St E s' a w := by
  obtain ⟨Fz, g, F, H, hon, hg⟩ := h
  obtain ⟨e1, e2, e3⟩ := he
  have hHas : ∀ o b, o < s.heap.length → (Has g o (nth .free s'.heap o) b ↔ Has g o (nth .free s.heap o) b) := fun o b ho => by
    have := e3 o ho
    cases hq : nth .free s.heap o <;> cases hq' : nth .free s'.heap o <;> rw [hq, hq'] at this <;> simp [OEq] at this <;> simp [Has]
  refine ⟨Fz, g, by rw [← e1]; exact F, ⟨H.below, H.base, H.fz, fun o ho => H.free o (by omega), fun o ho => ?_, fun o b ho hh => H.own o b (by omega) ((hHas o b (by omega)).mp hh), fun o o' b ho ho' hh hh' => H.sep o o' b (by omega) (by omega) ((hHas o b (by omega)).mp hh) ((hHas o' b (by omega)).mp hh')⟩, hon, hg⟩
  have hO := H.objs o (by omega)
  have := e3 o (by omega)
  cases hq : nth .free s.heap o with
  | rows z n row =>
    cases hq' : nth .free s'.heap o with
    | rows z' n' row' =>
      rw [hq, hq'] at this
      simp only [OEq] at this
      obtain ⟨rfl, rfl, hr⟩ := this
      rw [hq] at hO
      obtain ⟨b, κ, h1, h2, h3⟩ := hO
      exact ⟨b, κ, h1, h2, h3.imp id fun ⟨cs, t, q1, q2, q3⟩ => ⟨cs, t, q1, q2, fun i hi j hj => by rw [← hr i hi]; exact q3 i hi j hj⟩⟩
    | _ => rw [hq, hq'] at this; simp [OEq] at this
  | _ =>
    rw [hq] at hO this
    cases hq' : nth .free s'.heap o <;> rw [hq'] at this <;> simp [OEq] at this
    all_goals first | exact hO | (rw [← this.1, ← this.2]; exact hO)
def exitOf : EX → Exit
  | .normal => .normal
  | .exit i => .exit i
  | .ret => .ret
theorem flags_ok {fs : Foots} {flags : List (Nat × Nat)} {n : Nat} {rs ws : Nat → List Nat} (hf : flagsOk ([] ++ (List.range n).map fun q => (0 + q, rs (0 + q), ws (0 + q))) flags = true) : ∀ i j, (i, j) ∈ flags → (∀ x ∈ ws i, x ∉ rs j ∧ x ∉ ws j) ∧ ∀ x ∈ ws j, x ∉ rs i := by
  intro i j hij
  have hfoot : ∀ (l : List Nat) (q : Nat), footOf (l.map fun q => (0 + q, rs (0 + q), ws (0 + q))) q = none ∨ footOf (l.map fun q => (0 + q, rs (0 + q), ws (0 + q))) q = some (rs q, ws q) := fun l q => by
    induction l with
    | nil => exact .inl rfl
    | cons x l ih =>
      simp only [List.map_cons, footOf]
      cases e : Nat.beq (0 + x) q with
      | true => have := beq_eq e; rw [← this]; exact .inr rfl
      | false => exact ih
  have := List.all_eq_true.mp hf (i, j) hij
  simp only [List.nil_append] at this
  rcases hfoot (List.range n) i with e | e <;> rcases hfoot (List.range n) j with e' | e' <;> rw [e, e'] at this <;> simp at this
  simp only [disj, Bool.and_eq_true, List.all_eq_true] at this
  obtain ⟨h1, h2⟩ := this
  refine ⟨fun x hx => ?_, fun x hx => ?_⟩
  · have := h1 x hx
    simp at this
    exact this
  · have := h2 x hx
    simpa using this
theorem least {p : Nat → Prop} (h : ∃ n, p n) : ∃ n, p n ∧ ∀ m, p m → n ≤ m := by
  obtain ⟨n, hn⟩ := h
  induction n using Nat.strongRecOn with
  | _ n ih =>
    by_cases hc : ∃ m, m < n ∧ p m
    · obtain ⟨m, h1, h2⟩ := hc
      exact ih m h1 h2
    · exact ⟨n, hn, fun m hm => by
        rcases Nat.lt_or_ge m n with e | e
        · exact absurd ⟨m, e, hm⟩ hc
        · exact e⟩
open Classical in
theorem awp_sound {c : Cfg} (hc : CfgOK P c) (hb : E.base = c.base) : ∀ (code : Code) (K : EX → AState → Prop) (s : AState) (a : Act) (w : World) (Q : Exit → Act → World → Prop), awp c code K s → St E s a w → (∀ e s' a' w', K e s' → St E s' a' w' → Q (exitOf e) a' w') → code.wp P Q a w := by
  intro code
  induction code with
  | skip => exact fun K s a w Q h hs hk => wp_skip (hk _ _ _ _ h hs)
  | label l => exact fun K s a w Q h hs hk => wp_label (hk _ _ _ _ h hs)
  | exit id => exact fun K s a w Q h hs hk => wp_exit (hk _ _ _ _ h hs)
  | ret => exact fun K s a w Q h hs hk => wp_ret (hk _ _ _ _ h hs)
  | region id ops d =>
    intro K s a w Q h hs hk
    obtain ⟨ts, hp⟩ := s
    cases d with
    | false =>
      refine wp_region ?_
      have := runOps_sound (Q := Q) hc hb ops ops.toList 0 (by simp) [] ts hp (fun s' => K .normal s') a w h hs (fun s' a' w' h' hs' => hk _ _ _ _ h' hs')
      rwa [Nat.sub_zero, ← List.range_eq_range'] at this
    | true =>
      obtain ⟨flags, hst, hr⟩ := h
      simp only [fL_map (g := AV.unguard) (fun v k => f3_eq _ k)] at hr
      replace hr : runDraw c ops.toList flags ops.toList 0 hp.length [] [] (ts.map AV.unguard) (hp ++ List.replicate (allocs ops.toList) .free) (fun s' => K .normal s') := by
        cases flags with
        | nil => exact draw0 _ _ _ _ _ _ _ _ hr
        | cons p r => exact hr
      refine wp_region_any hc.mixed ?_
      obtain ⟨sts, rs, ws, q1, q2, q3, q4, q5⟩ := runDraw_sts _ _ _ _ _ _ _ _ hr
      have hst' := static_of hst
      have hsteps : ∀ i, i < ops.size → ∃ o, ops[i]? = some o ∧ DStep c ops.toList o (sts i) (sts (i + 1)) (rs i) (ws i) := fun i hi => by
        obtain ⟨o, a1, a2⟩ := q2 i (by simpa using hi)
        rw [Nat.zero_add] at a2
        exact ⟨o, by simpa using a1, a2⟩
      have h0 : ∀ x d b v, getTmp (sts 0) x ≠ .when d b v := fun x d b v e => by
        rw [q1] at e
        simp only [getTmp, map_top (f := AV.unguard) rfl] at e
        exact unguard_not _ d b v e
      rw [Nat.zero_add, Array.length_toList] at q5
      refine draw_any (Q := Q) hc hb hst' hsteps h0 (flags_ok (fs := []) q4) (fun a' w' hs' => hk .normal _ a' w' q5 hs') ops.size _ (sts 0) a _ (by simp) ?_ ⟨rfl, rfl, fun t => ⟨0, by omega, rfl, fun i o hi hd => ?_⟩, fun x => ⟨0, by omega, rfl, fun i hi hx => ?_⟩, fun x d b v e => absurd e (h0 x d b v), fun i o hL ho => ?_⟩ ?_
      · have : ∀ n, n ≤ ops.size → cnt (fun i => (Array.replicate ops.size false).getD i false) n = n := fun n => by
          induction n with
          | zero => intro _; rfl
          | succ n ih => intro hn; simp only [cnt]; rw [ih (by omega)]; simp [Array.getD]
        exact this _ (Nat.le_refl _)
      · simp [Array.getD]
      · simp [Array.getD]
      · simp [Array.getD] at hL
      · rw [q1]
        obtain ⟨Fz, g, F, H, hon, hg⟩ := hs.drew
        exact ⟨Fz, g, F.unguard, H.reserve _, hon, hg⟩
  | seq x y ih1 ih2 =>
    intro K s a w Q h hs hk
    refine wp_seq (ih1 _ s a w _ h hs fun e s' a' w' h' hs' => ?_)
    cases e with
    | normal => exact ih2 K s' a' w' Q h' hs' hk
    | exit i => exact hk _ _ _ _ h' hs'
    | ret => exact hk _ _ _ _ h' hs'
  | cond x y z ih1 ih2 =>
    intro K s a w Q h hs hk
    simp only [awp] at h
    split at h
    · rename_i v hv
      obtain ⟨Fz, g, F, H, hon, hg⟩ := hs
      have hx := ev_vr F (Chained.nil a) x
      rw [hv] at hx
      refine wp_cond_split (inv_bool hx) (fun e => ?_) (fun e => ?_)
      · exact ih1 K s a w Q (h.1 e) ⟨Fz, g, F, H, hon, hg⟩ hk
      · exact ih2 K s a w Q (h.2 e) ⟨Fz, g, F, H, hon, hg⟩ hk
    · exact h.elim
  | block id b ih =>
    intro K s a w Q h hs hk
    refine wp_block (ih _ s a w _ h hs fun e s' a' w' h' hs' => ?_)
    cases e with
    | normal => exact hk _ _ _ _ h' hs'
    | exit i =>
      simp only [exitOf, Exit.inBlock]
      simp only at h'
      cases hi : (i == id) with
      | true => rw [hi] at h'; rw [if_pos (by simpa using hi)]; exact hk _ _ _ _ h' hs'
      | false => rw [hi] at h'; rw [if_neg (by simpa using hi)]; exact hk _ _ _ _ h' hs'
    | ret => exact hk _ _ _ _ h' hs'
  | loop b ih =>
    intro K s a w Q h hs hk
    obtain ⟨nils, live, n, I, hbn, ⟨m0, s0, hse, hI0⟩, hround⟩ := h
    let J : Act → World → Nat → Prop := fun a w m => ∃ s', I m s' ∧ St E s' a w
    refine wp_loop (fun a w => ∃ m, J a w m) (fun a w => if h : ∃ m, J a w m then (least h).choose else 0) ⟨m0, s0, hI0, (hs.grow.keep (by rw [hb]; exact hbn)).seq hse⟩ fun a w hex => ?_
    obtain ⟨s', hI', hs'⟩ := (least hex).choose_spec.1
    refine ih _ s' a w _ (hround _ s' hI') hs' fun e s'' a' w' h' hs'' => ?_
    cases e with
    | normal =>
      obtain ⟨m', s3, hlt, hse3, hI3⟩ := h'
      have hJ : J a' w' m' := ⟨s3, hI3, (hs''.keep (by rw [hb]; exact hbn)).seq hse3⟩
      refine ⟨⟨m', hJ⟩, ?_⟩
      have hex' : ∃ m, J a' w' m := ⟨m', hJ⟩
      rw [dif_pos hex', dif_pos hex]
      exact Nat.lt_of_le_of_lt ((least hex').choose_spec.2 _ hJ) hlt
    | exit i => exact hk _ _ _ _ h' hs''
    | ret => exact hk _ _ _ _ h' hs''
  | _ => exact fun K s a w Q h => h.elim
end
end Go.Proofs.Ytepbibbeifbokaa.Sh
