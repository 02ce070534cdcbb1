/- The shadow machine: texts whose drawn regions end in operations that wait for all ahead of them. -/
import Derived.Test.YtepbibbeifbokaaShT
namespace Go.Proofs.Ytepbibbeifbokaa.Sh
open Go Go.RowKit
set_option linter.unusedVariables false
set_option linter.unusedSimpArgs false
def bitsTo (b : Nat) : Nat → Bool
  | 0 => true
  | i + 1 => hasBit b i && bitsTo b i
def tailRows (bs : List Nat) : Nat → Nat → Bool
  | 0, _ => true
  | k + 1, j => bitsTo (nth 0 bs j) j && tailRows bs k (j + 1)
/-- From the n-th on each waits for all ahead of it. -/
def tailOk (ops : Array Oper) (n : Nat) : Bool := Nat.blt n ops.size && ((ops.toList.take n).all (fun o => o.guard.isNone) && (staticFast (ops.toList.take n).toArray [] && (edgeRows ops.toList 0 && befMasks ops.toList [] fun bs => tailRows bs (ops.size - n) n)))
def awpU (c : Cfg) : Code → (EX → AState → Prop) → AState → Prop
  | .skip, K, s => K .normal s
  | .label _, K, s => K .normal s
  | .region _ ops d, K, s => match s with
    | ⟨ts, h⟩ => match d with
      | false => runOps c ops.toList ops.toList [] ts h fun s' => K .normal s'
      | true => ∃ n, tailOk ops n = true ∧ fL (fun v k => f3 v.unguard k) ts fun ts => runDraw0 c (ops.toList.take n) (ops.toList.take n) h.length [] ts (h ++ List.replicate (allocs (ops.toList.take n)) .free) fun s' => match s' with
        | ⟨ts, h⟩ => runOps c ops.toList (ops.toList.drop n) [] ts h fun s' => K .normal s'
  | .seq a b, K, s => awpU c a (fun e s' => match e with | .normal => awpU c b K s' | e => K e s') s
  | .cond x a b, K, s => match ev [] s x with
    | .bool v => (v = true → awpU c a K s) ∧ (v = false → awpU c b K s)
    | _ => False
  | .block id b, K, s => awpU c b (fun e s' => match e with | .exit i => bif i == id then K .normal s' else K (.exit i) s' | e => K e s') s
  | .loop b, K, s => ∃ (nils : List (Nat × Nat)) (live : List Nat) (n : Nat) (I : Nat → AState → Prop), c.base ≤ n ∧ (∃ m s', SEq (keep live n (grow nils s)) s' ∧ I m s') ∧
      ∀ m s', I m s' → awpU c b (fun e s'' => match e with | .normal => ∃ m' s₃, m' < m ∧ SEq (keep live n s'') s₃ ∧ I m' s₃ | e => K e s'') s'
  | .exit id, K, s => K (.exit id) s
  | .ret, K, s => K .ret s
  | _, _, _ => False
def afnU (c : Cfg) (fn : Func) (args : List AV) (h : List AO) (K : AV → List AO → Prop) : Prop :=
  match fn.body with
  | some b => fL f2 (args ++ List.replicate (fn.ntmps - args.length) .top) fun ts => awpU c b (fun e s => match e with
    | .exit _ => False
    | _ => match retVal c.T fn s with
      | some r => K r s.heap
      | none => False) ⟨ts, h⟩
  | none => False
theorem bitsTo_spec {b : Nat} : ∀ {n : Nat}, bitsTo b n = true → ∀ i, i < n → b.testBit i = true
  | 0, _, i, hi => by omega
  | n + 1, h, i, hi => by
    simp only [bitsTo, Bool.and_eq_true] at h
    by_cases e : i = n
    · subst e; exact hasBit_true h.1
    · exact bitsTo_spec h.2 i (by omega)
theorem tailRows_spec {bs : List Nat} : ∀ {k j : Nat}, tailRows bs k j = true → ∀ q, j ≤ q → q < j + k → ∀ i, i < q → (nth 0 bs q).testBit i = true
  | 0, j, _, q, h1, h2 => by omega
  | k + 1, j, h, q, h1, h2 => by
    simp only [tailRows, Bool.and_eq_true] at h
    by_cases e : q = j
    · subst e; exact bitsTo_spec h.1
    · exact tailRows_spec h.2 q (by omega) (by omega)
section
variable {P : Program} {c : Cfg} {E : En} {Q : Exit → Act → World → Prop} {ops : Array Oper} {sts : Nat → AState} {rs ws : Nat → List Nat}
theorem bef_down2 (hedge : ∀ (j : Nat) (o : Oper), ops[j]? = some o → ∀ e ∈ o.after.toList, Region.binds .any e = true → e.on < j) {L : Nat → Prop} (hL : ∀ (i : Nat) (o : Oper), L i → ops[i]? = some o → ∀ e ∈ o.after.toList, Region.binds .any e = true → L e.on) :
    ∀ (i k : Nat) (o : Oper), ops[i]? = some o → (∀ e ∈ o.after.toList, Region.binds .any e = true → L e.on) → k ∈ (befores ops.toList []).getD i [] → L k := by
  intro i
  induction i using Nat.strongRecOn with
  | _ i ih =>
    intro k o ho hr hk
    obtain ⟨e, he, hb, hk⟩ := before_step (all := ops.toList) (by simpa using ho) (hedge i o ho) hk
    have hlt := hedge i o ho e he hb
    rcases hk with rfl | hk
    · exact hr e he hb
    · have hlt2 : e.on < ops.size := by have := lt_of_get ho; omega
      obtain ⟨o', ho'⟩ : ∃ o', ops[e.on]? = some o' := ⟨_, Array.getElem?_eq_getElem hlt2⟩
      exact ih e.on hlt k o' ho' (hL e.on o' (hr e he hb) ho') hk
theorem set_iff {listed : Array Bool} {j : Nat} (hsz : listed.size = ops.size) (hjl : j < ops.size) (i : Nat) : (listed.setIfInBounds j true).getD i false = true ↔ (listed.getD i false = true ∨ i = j) := by
  simp only [Array.getD_eq_getD_getElem?, Array.getElem?_setIfInBounds]
  by_cases e : j = i
  · subst e; simp [hsz, hjl]
  · rw [if_neg e]; constructor
    · exact .inl
    · rintro (h | h)
      · exact h
      · exact absurd h.symm e
theorem tail_any (hedge : ∀ (j : Nat) (o : Oper), ops[j]? = some o → ∀ e ∈ o.after.toList, Region.binds .any e = true → e.on < j) {n : Nat} (hT : ∀ j, n ≤ j → j < ops.size → ∀ i, i < j → i ∈ (befores ops.toList []).getD j []) :
    ∀ (k j : Nat) (listed : Array Bool) (a : Act) (w : World), j + k = ops.size → listed.size = ops.size → (∀ i, listed.getD i false = true ↔ i < j) → n ≤ j → wpOps P ops Q (List.range' j k) a w → wpAny P .any ops Q k listed a w
  | 0, j, listed, a, w, hjk, hsz, hl, hn, h => by
    refine ⟨?_, h⟩
    apply List.eq_nil_iff_forall_not_mem.mpr
    intro i hi
    obtain ⟨o, ho, hli, _⟩ := ready_mem hi
    have hlt := lt_of_get ho
    have : listed.getD i true = listed.getD i false := by simp [Array.getD, hsz, hlt]
    rw [this] at hli
    have := (hl i).mpr (by omega)
    rw [hli] at this
    cases this
  | k + 1, j, listed, a, w, hjk, hsz, hl, hn, h => by
    have hjl : j < ops.size := by omega
    have hoj : ops[j]? = some ops[j] := Array.getElem?_eq_getElem hjl
    have hd : ∀ i, i < ops.size → listed.getD i true = listed.getD i false := fun i hi => by simp [Array.getD, hsz, hi]
    have hjf : listed.getD j false = false := by
      cases hq : listed.getD j false with
      | false => rfl
      | true => have := (hl j).mp hq; omega
    have hjr : j ∈ Region.ready .any ops listed := mem_ready hoj (by rw [hd j hjl]; exact hjf) fun e he hb => (hl _).mpr (hedge j _ hoj e he hb)
    refine ⟨fun hr => (by rw [hr] at hjr; simp at hjr), fun i hi => ?_⟩
    obtain ⟨o, ho, hli, hre⟩ := ready_mem hi
    have hil := lt_of_get ho
    rw [hd i hil] at hli
    have hij : i = j := by
      by_cases e : i = j
      · exact e
      · exfalso
        have hge : j ≤ i := by
          rcases Nat.lt_or_ge i j with h' | h'
          · have := (hl i).mpr h'; rw [hli] at this; cases this
          · exact h'
        have hlt : j < i := by omega
        have := bef_down2 hedge (L := fun i => listed.getD i false = true) (fun q o' hq ho' e he hb => (hl _).mpr (by have h1 := hedge q o' ho' e he hb; have h2 := (hl q).mp hq; omega)) i j o ho hre (hT i (by omega) hil j hlt)
        rw [hjf] at this
        cases this
    subst hij
    rw [List.range'_succ, wpOps_cons] at h
    refine wpOp_mono (fun a' w' h' => ?_) h
    refine tail_any hedge hT k (i + 1) _ a' w' (by omega) (by simpa using hsz) (fun q => ?_) (by omega) h'
    rw [set_iff hsz hjl q, hl q]
    omega
theorem cnt_tail {f : Nat → Bool} {n : Nat} (h1 : ∀ i, i < n → f i = true) (h2 : ∀ i, n ≤ i → f i = false) : ∀ k, cnt f (n + k) = k
  | 0 => by
    have : ∀ m, m ≤ n → cnt f m = 0 := fun m => by
      induction m with
      | zero => intro _; rfl
      | succ m ih => intro hm; simp only [cnt]; rw [ih (by omega), h1 m (by omega)]; rfl
    exact this n (Nat.le_refl _)
  | k + 1 => by
    show cnt f (n + k) + (if f (n + k) then 0 else 1) = k + 1
    rw [cnt_tail h1 h2 k, h2 (n + k) (by omega)]
    rfl
theorem draw_tail (hc : CfgOK P c) (hb : E.base = c.base) {n : Nat} {pre : Array Oper} (hpre : ∀ i, i < n → pre[i]? = ops[i]?) (hps : pre.size = n) (hn : n < ops.size) (hst : Static pre []) (hng : ∀ (i : Nat) (o : Oper), pre[i]? = some o → o.guard = none)
    (hsteps : ∀ i, i < pre.size → ∃ o, pre[i]? = some o ∧ DStep c pre.toList o (sts i) (sts (i + 1)) (rs i) (ws i)) (h0 : ∀ x d b v, getTmp (sts 0) x ≠ .when d b v)
    (hedge : ∀ (j : Nat) (o : Oper), ops[j]? = some o → ∀ e ∈ o.after.toList, Region.binds .any e = true → e.on < j) (hT : ∀ j, n ≤ j → j < ops.size → ∀ i, i < j → i ∈ (befores ops.toList []).getD j [])
    (Kt : ∀ a w, St E ⟨(sts n).tmps.map AV.unguard, (sts n).heap⟩ a w → wpOps P ops Q (List.range' n (ops.size - n)) a w) :
    ∀ (fuel : Nat) (listed : Array Bool) (τ : AState) (a : Act) (w : World), listed.size = ops.size → cnt (fun i => listed.getD i false) ops.size = fuel → (∀ i, n ≤ i → listed.getD i false = false) → DInv pre sts ws (fun i => listed.getD i false = true) τ → St E τ a w → wpAny P .any ops Q fuel listed a w := by
  have hfl : ∀ i j, (i, j) ∈ ([] : List (Nat × Nat)) → (∀ x ∈ ws i, x ∉ rs j ∧ x ∉ ws j) ∧ ∀ x ∈ ws j, x ∉ rs i := fun i j h => by simp at h
  have getD_eq : ∀ {listed : Array Bool} {i : Nat}, listed.size = ops.size → i < ops.size → listed.getD i true = listed.getD i false := fun {l i} h hi => by
    simp [Array.getD, h, hi]
  intro fuel
  induction fuel with
  | zero =>
    intro listed τ a w hsz hcnt htl hI hs
    exfalso
    have := cnt_set (f := fun i => listed.getD i false) (g := fun k => listed.getD k false || k == n) (j := n) (htl n (Nat.le_refl _)) (by simp) (fun k hk => by simp [hk]) _ hn
    omega
  | succ fuel ih =>
    intro listed τ a w hsz hcnt htl hI hs
    have hdown : ∀ (i : Nat) (o : Oper), listed.getD i false = true → ops[i]? = some o → ∀ e ∈ o.after.toList, Region.binds .any e = true → listed.getD e.on false = true := fun i o hL ho => by
      have hin : i < n := by
        rcases Nat.lt_or_ge i n with h | h
        · exact h
        · rw [htl i h] at hL; cases hL
      exact hI.down i o hL (by rw [hpre i hin]; exact ho)
    refine ⟨fun hr => ?_, fun j hjr => ?_⟩
    · exfalso
      have hall : ∀ i, i < ops.size → listed.getD i false = true := by
        intro i
        induction i using Nat.strongRecOn with
        | _ i ih =>
          intro hi
          cases hl : listed.getD i false with
          | true => rfl
          | false =>
            exfalso
            have ho : ops[i]? = some ops[i] := Array.getElem?_eq_getElem hi
            have := mem_ready (listed := listed) ho (by rw [getD_eq hsz hi]; exact hl) (fun e he hbn => by
              have := hedge i _ ho e he hbn
              exact ih e.on this (by omega))
            rw [hr] at this; simp at this
      have := hall n hn
      rw [htl n (Nat.le_refl _)] at this
      cases this
    · obtain ⟨oj, hj, hl, hr⟩ := ready_mem hjr
      have hjl := lt_of_get hj
      rw [getD_eq hsz hjl] at hl
      have hnj : ¬ (listed.getD j false = true) := by rw [hl]; simp
      rcases Nat.lt_or_ge j n with hjn | hjn
      · have hjp : pre[j]? = some oj := by rw [hpre j hjn]; exact hj
        have next : ∀ τ' a' w', DInv pre sts ws (fun i => listed.getD i false = true ∨ i = j) τ' → St E τ' a' w' → wpAny P .any ops Q fuel (listed.setIfInBounds j true) a' w' := fun τ' a' w' hI' hs' => by
          refine ih _ τ' a' w' (by simpa using hsz) ?_ (fun i hi => ?_) ?_ hs'
          · have := cnt_set (f := fun i => listed.getD i false) (g := fun i => (listed.setIfInBounds j true).getD i false) (j := j) hl ((set_iff hsz hjl j).mpr (.inr rfl)) (fun i hi => by
              simp only [Array.getD_eq_getD_getElem?, Array.getElem?_setIfInBounds]
              rw [if_neg (fun e => hi e.symm)]) _ hjl
            omega
          · cases hq : (listed.setIfInBounds j true).getD i false with
            | false => rfl
            | true =>
              rcases (set_iff hsz hjl i).mp hq with h | h
              · rw [htl i hi] at h; cases h
              · omega
          · have : (fun i => (listed.setIfInBounds j true).getD i false = true) = (fun i => listed.getD i false = true ∨ i = j) := funext fun i => propext (set_iff hsz hjl i)
            rw [this]; exact hI'
        obtain ⟨oj', hj', hD⟩ := hsteps j (by omega)
        rw [hjp] at hj'; cases hj'
        obtain ⟨Fz, g, F, H, hon, hg⟩ := hs
        have agt : ∀ t, t ∈ usesOf pre.toList oj → getTmp τ t = getTmp (sts j) t := fun t ht => agree_tmp hst hsteps h0 hI hjp hnj hr (.inl ht)
        have agh : ∀ x, x ∈ rs j → nth .free τ.heap x = nth .free (sts j).heap x := fun x hx => agree_heap hst hsteps h0 hfl hI hjp hnj hr (.inl hx)
        have hlen : (sts j).heap.length = τ.heap.length := by rw [hI.hlen]; exact (can_len hst hsteps h0 j (by omega)).2
        have hgn := hng j oj hjp
        have hgs' : guardSlot ops.toList oj = some none := by unfold guardSlot; rw [hgn]
        unfold wpOp
        rw [hj]
        simp only
        rcases hD with ⟨hgs, nid, ob, val, upd, d1, d2, d3, d4, d5, d6, d7, d8⟩ | ⟨d, b, hgs, _⟩
        · rw [if_pos ((guard_wanted (a := a) hgs').1 rfl)]
          refine .inl ?_
          obtain ⟨k1, _⟩ := core_local (G := c.G) (T := c.T) (eqs := c.eqs) (base := c.base) (nid := nid) (ch := []) (s := sts j) (s' := τ) (op := oj.op) (fun t ht => (agt t (List.mem_append.mpr (.inl ht))).symm) (fun x hx => (agh x (by rw [d6]; exact List.mem_append.mpr (.inr hx))).symm)
          have hcore : core c.G c.T c.eqs c.base oj.op [] τ nid = some ⟨ob, val, upd, none⟩ := by rw [← k1]; exact d1
          obtain ⟨nid', hcore', hnn, hf⟩ : ∃ nid', core c.G c.T c.eqs c.base oj.op [] τ nid' = some ⟨ob, val, upd, none⟩ ∧ nid' ≤ τ.heap.length ∧ nth .free τ.heap nid' = .free := by
            cases hal : isAlloc oj.op with
            | false => exact ⟨τ.heap.length, by rw [core_nid (m := nid) hal]; exact hcore, Nat.le_refl _, nth_length _⟩
            | true =>
              have hid : nid ∈ rs j := by rw [d6]; simp [idOf, hal]
              simp only [freeAt, hal, Bool.not_true, Bool.false_or, Bool.and_eq_true] at d2
              obtain ⟨f1, f2⟩ := d2
              refine ⟨nid, hcore, by have := blt_lt f1; omega, ?_⟩
              rw [agh nid hid]
              cases hq : nth .free (sts j).heap nid with
              | free => rfl
              | _ => rw [hq] at f2; simp at f2
          refine (core_goes hc.tab hc.eqs hc.env F H (Chained.nil a) hnn hf hcore' d5).1 rfl _ _ fun cc w' Fz' g' hv hH hon' => ?_
          have hvu : val.unguard = val := by
            have := vr_not_when hv
            cases val <;> first | rfl | exact absurd rfl (this _ _ _)
          rw [hvu] at d8
          exact next _ _ _ (DInv.step hst hsteps h0 hfl hI hjp hnj hr d8 d3 d7 (fun t d b v hvw => absurd hvw (unwhen_not (vr_not_when hv) d b v))) ⟨Fz', g', (hon'.fr F).put_vr oj.dst hv, hH, hon.trans hon', hg⟩
        · exfalso
          unfold guardSlot at hgs
          rw [hgn] at hgs
          cases hgs
      · have hbefore : ∀ i, i < j → listed.getD i false = true := fun i hi => bef_down2 hedge hdown j i oj hj hr (hT j hjn hjl i hi)
        have hjn' : j = n := by
          rcases Nat.lt_or_ge n j with h | h
          · have := hbefore n h
            rw [htl n (Nat.le_refl _)] at this
            cases this
          · omega
        subst hjn'
        have e1 : τ.tmps = (sts j).tmps := ext_nth .top _ _ (hI.len.trans (can_len hst hsteps h0 j (by omega)).1.symm) fun t => by
          obtain ⟨m, hm, he, hw⟩ := hI.tm t
          exact he.trans (can_tmp hst hsteps h0 hm (by omega) fun i o hi hd => by
            have h1 := hw i o hi hd
            have hip := lt_of_get hi
            have := h1.mp (hbefore i (by omega))
            omega)
        have e2 : τ.heap = (sts j).heap := ext_nth .free _ _ (hI.hlen.trans (can_len hst hsteps h0 j (by omega)).2.symm) fun t => by
          obtain ⟨m, hm, he, hw⟩ := hI.hp t
          exact he.trans (can_heap hst hsteps h0 hm (by omega) fun i hi hd => by
            have := (hw i hi hd).mp (hbefore i (by omega))
            omega)
        obtain ⟨Fz, g, F, H, hon, hg⟩ := hs
        have hK := Kt a w ⟨Fz, g, by rw [← e1]; exact F.unguard, by rw [← e2]; exact H, hon, hg⟩
        have hall : ∀ i, listed.getD i false = true ↔ i < j := fun i => ⟨fun h => by
          rcases Nat.lt_or_ge i j with h' | h'
          · exact h'
          · rw [htl i h'] at h; exact absurd h (by simp), hbefore i⟩
        have hfuel : fuel + 1 = ops.size - j := by
          have := cnt_tail (f := fun i => listed.getD i false) (n := j) (fun i hi => hbefore i hi) (fun i hi => htl i hi) (ops.size - j)
          rw [show j + (ops.size - j) = ops.size by omega] at this
          omega
        rw [← hfuel] at hK
        exact (tail_any hedge hT (fuel + 1) j listed a w (by omega) hsz hall (Nat.le_refl _) hK).2 j hjr
theorem awpU_sound {c : Cfg} (hc : CfgOK P c) (hb : E.base = c.base) : ∀ (code : Code) (K : EX → AState → Prop) (s : AState) (a : Act) (w : World) (Q : Exit → Act → World → Prop), awpU c code K s → St E s a w → (∀ e s' a' w', K e s' → St E s' a' w' → Q (exitOf e) a' w') → code.wp P Q a w := by
  intro code
  induction code with
  | skip => exact fun K s a w Q h hs hk => wp_skip (hk _ _ _ _ h hs)
  | label l => exact fun K s a w Q h hs hk => wp_label (hk _ _ _ _ h hs)
  | exit id => exact fun K s a w Q h hs hk => wp_exit (hk _ _ _ _ h hs)
  | ret => exact fun K s a w Q h hs hk => wp_ret (hk _ _ _ _ h hs)
  | region id ops d =>
    intro K s a w Q h hs hk
    obtain ⟨ts, hp⟩ := s
    cases d with
    | false =>
      refine wp_region ?_
      have := runOps_sound (Q := Q) hc hb ops ops.toList 0 (by simp) [] ts hp (fun s' => K .normal s') a w h hs (fun s' a' w' h' hs' => hk _ _ _ _ h' hs')
      rwa [Nat.sub_zero, ← List.range_eq_range'] at this
    | true =>
      obtain ⟨n, htl, hr⟩ := h
      simp only [fL_map (g := AV.unguard) (fun v k => f3_eq _ k)] at hr
      unfold tailOk at htl
      rw [Bool.and_eq_true, Bool.and_eq_true, Bool.and_eq_true, Bool.and_eq_true] at htl
      obtain ⟨t1, t2, t3, t4, t5⟩ := htl
      have hn := blt_lt t1
      have hpl : (ops.toList.take n).length = n := by simp; omega
      obtain ⟨bs, b1, b2⟩ := befMasks_spec _ [] [] _ rfl (fun j x hx => by simp [nth] at hx) t5
      refine wp_region_any hc.mixed ?_
      obtain ⟨sts, rs, ws, q1, q2, q3, q4, q5⟩ := runDraw_sts _ 0 _ _ [] _ _ _ (draw0 _ 0 _ _ [] _ _ _ hr)
      have hst' := static_of t3
      have hsteps : ∀ i, i < (ops.toList.take n).toArray.size → ∃ o, (ops.toList.take n).toArray[i]? = some o ∧ DStep c (ops.toList.take n).toArray.toList o (sts i) (sts (i + 1)) (rs i) (ws i) := fun i hi => by
        obtain ⟨o, a1, a2⟩ := q2 i (by simpa using hi)
        rw [Nat.zero_add] at a2
        exact ⟨o, by simpa using a1, a2⟩
      have h0 : ∀ x d b v, getTmp (sts 0) x ≠ .when d b v := fun x d b v e => by
        rw [q1] at e
        simp only [getTmp, map_top (f := AV.unguard) rfl] at e
        exact unguard_not _ d b v e
      rw [Nat.zero_add, hpl] at q5
      have hpre : ∀ i, i < n → (ops.toList.take n).toArray[i]? = ops[i]? := fun i hi => by
        simp [List.getElem?_take, hi]
      have hng : ∀ (i : Nat) (o : Oper), (ops.toList.take n).toArray[i]? = some o → o.guard = none := fun i o ho => by
        have hm : o ∈ ops.toList.take n := List.mem_of_getElem? (by simpa using ho)
        have := List.all_eq_true.mp t2 o hm
        simpa using this
      refine draw_tail (Q := Q) hc hb (sts := sts) (rs := rs) (ws := ws) hpre (by simpa using hpl) hn hst' hng hsteps h0 (fun j o hj e he hbn => by
          have := edgeRows_spec _ _ t4 j o (by simpa using hj) e he hbn
          omega) (fun j h1 h2 i hi => b2 j i (tailRows_spec b1 j h1 (by omega) i hi)) (fun a' w' hs' => ?_) ops.size _ (sts 0) a _ (by simp) ?_ (fun i hi => by simp [Array.getD]) ⟨rfl, rfl, fun t => ⟨0, by omega, rfl, fun i o hi hd => ?_⟩, fun x => ⟨0, by omega, rfl, fun i hi hx => ?_⟩, fun x d b v e => absurd e (h0 x d b v), fun i o hL ho => ?_⟩ ?_
      · exact runOps_sound (Q := Q) hc hb ops (ops.toList.drop n) n rfl [] _ _ (fun s' => K .normal s') a' w' q5 hs' (fun s' a' w' h' hs' => hk _ _ _ _ h' hs')
      · have : ∀ n, n ≤ ops.size → cnt (fun i => (Array.replicate ops.size false).getD i false) n = n := fun n => by
          induction n with
          | zero => intro _; rfl
          | succ n ih => intro hn; simp only [cnt]; rw [ih (by omega)]; simp [Array.getD]
        exact this _ (Nat.le_refl _)
      · simp [Array.getD]
      · simp [Array.getD]
      · simp [Array.getD] at hL
      · rw [q1]
        obtain ⟨Fz, g, F, H, hon, hg⟩ := hs.drew
        exact ⟨Fz, g, F.unguard, H.reserve _, hon, hg⟩
  | seq x y ih1 ih2 =>
    intro K s a w Q h hs hk
    refine wp_seq (ih1 _ s a w _ h hs fun e s' a' w' h' hs' => ?_)
    cases e with
    | normal => exact ih2 K s' a' w' Q h' hs' hk
    | exit i => exact hk _ _ _ _ h' hs'
    | ret => exact hk _ _ _ _ h' hs'
  | cond x y z ih1 ih2 =>
    intro K s a w Q h hs hk
    simp only [awpU] at h
    split at h
    · rename_i v hv
      obtain ⟨Fz, g, F, H, hon, hg⟩ := hs
      have hx := ev_vr F (Chained.nil a) x
      rw [hv] at hx
      refine wp_cond_split (inv_bool hx) (fun e => ?_) (fun e => ?_)
      · exact ih1 K s a w Q (h.1 e) ⟨Fz, g, F, H, hon, hg⟩ hk
      · exact ih2 K s a w Q (h.2 e) ⟨Fz, g, F, H, hon, hg⟩ hk
    · exact h.elim
  | block id b ih =>
    intro K s a w Q h hs hk
    refine wp_block (ih _ s a w _ h hs fun e s' a' w' h' hs' => ?_)
    cases e with
    | normal => exact hk _ _ _ _ h' hs'
    | exit i =>
      simp only [exitOf, Exit.inBlock]
      simp only at h'
      cases hi : (i == id) with
      | true => rw [hi] at h'; rw [if_pos (by simpa using hi)]; exact hk _ _ _ _ h' hs'
      | false => rw [hi] at h'; rw [if_neg (by simpa using hi)]; exact hk _ _ _ _ h' hs'
    | ret => exact hk _ _ _ _ h' hs'
  | loop b ih =>
    intro K s a w Q h hs hk
    obtain ⟨nils, live, n, I, hbn, ⟨m0, s0, hse, hI0⟩, hround⟩ := h
    let J : Act → World → Nat → Prop := fun a w m => ∃ s', I m s' ∧ St E s' a w
    classical
    refine wp_loop (fun a w => ∃ m, J a w m) (fun a w => if h : ∃ m, J a w m then (least h).choose else 0) ⟨m0, s0, hI0, (hs.grow.keep (by rw [hb]; exact hbn)).seq hse⟩ fun a w hex => ?_
    obtain ⟨s', hI', hs'⟩ := (least hex).choose_spec.1
    refine ih _ s' a w _ (hround _ s' hI') hs' fun e s'' a' w' h' hs'' => ?_
    cases e with
    | normal =>
      obtain ⟨m', s3, hlt, hse3, hI3⟩ := h'
      have hJ : J a' w' m' := ⟨s3, hI3, (hs''.keep (by rw [hb]; exact hbn)).seq hse3⟩
      refine ⟨⟨m', hJ⟩, ?_⟩
      have hex' : ∃ m, J a' w' m := ⟨m', hJ⟩
      rw [dif_pos hex', dif_pos hex]
      exact Nat.lt_of_le_of_lt ((least hex').choose_spec.2 _ hJ) hlt
    | exit i => exact hk _ _ _ _ h' hs''
    | ret => exact hk _ _ _ _ h' hs''
  | _ => exact fun K s a w Q h => h.elim
theorem scall_ofU {h : List AO} {c : Cfg} (hc : CfgOK P c) {f : FuncId} {fn : Func} (hf : P.funcs[f]? = some fn) (hname : (fn.name == "runtime.NumGoroutine") = false) {args : List AV} {K : AV → List AO → Prop} (hbase : c.base = h.length) (H : afnU c fn args h K) : SCall P f args h K := by
  unfold afnU at H
  cases hb : fn.body with
  | none => rw [hb] at H; exact H.elim
  | some b =>
    rw [hb] at H
    simp only [fL_eq f2_eq] at H
    refine ⟨⟨fn, hf, hname, by rw [hb]; rfl⟩, fun B0 w0 w Fz g xs hH hl hv => calls_of_wp hf hb ?_⟩
    let E : En := ⟨B0, w0, w, Fz, g, h.length⟩
    refine awpU_sound (E := E) hc hbase.symm b _ _ _ w _ H ⟨Fz, g, ⟨rfl, by simp [hl], fun i hi => ?_⟩, hH, On.refl _ _ _, fun o ho => hH.free o ho⟩ fun e s' a' w' hk hs => ?_
    · show SR w Fz g _ (nth .top (args ++ List.replicate (fn.ntmps - args.length) .top) i) ((xs ++ Array.replicate (fn.ntmps - xs.size) undef).getD i undef)
      rw [nth_append]
      by_cases hi2 : i < args.length
      · rw [if_pos hi2]
        have : (xs ++ Array.replicate (fn.ntmps - xs.size) undef).getD i undef = xs.getD i undef := by
          simp only [Array.getD_eq_getD_getElem?]; rw [Array.getElem?_append_left (by omega)]
        rw [this]
        exact SR.of (hv i hi2)
      · rw [if_neg hi2]
        have : nth AV.top (List.replicate (fn.ntmps - args.length) AV.top) (i - args.length) = .top := by
          rw [nth_get, List.getD_eq_getElem?_getD, List.getElem?_replicate]; split <;> rfl
        rw [this]; exact .top _
    · obtain ⟨Fz', g', F, H', hon, _⟩ := hs
      have fin : (match retVal c.T fn s' with | some r => K r s'.heap | none => False) → a'.defers = [] ∧ ∃ v, (results fn a'.tmps).run P w' = .ok v w' ∧ ∃ r cc h' Fz' g', Ending.returned v = .returned cc ∧ K r h' ∧ VR w' Fz' g' r cc ∧ HR B0 w0 w' Fz' g' h' ∧ On w w' Fz Fz' g g' := fun hk => by
        split at hk
        · rename_i r hr
          obtain ⟨cc, h1, h2⟩ := results_run (P := P) hc.tab F H' hr
          exact ⟨F.defers, cc, h1, r, cc, s'.heap, Fz', g', rfl, hk, h2, H', hon⟩
        · exact hk.elim
      cases e with
      | normal => exact fin hk
      | exit i => exact hk.elim
      | ret => exact fin hk
end
end Go.Proofs.Ytepbibbeifbokaa.Sh
