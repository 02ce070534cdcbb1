/- Part 20 of a proof over the shadow machine. -/
import Derived.Test.YtnnoplgabnfdiaaGreatDoorN19
/- The shadow machine: texts whose drawn regions end in operations that wait for all ahead of them, but for a first one that moves a value and may come when it will. -/
namespace Go.Proofs.YtnnoplgabnfdiaaGreatDoor.Sh
open Go Go.RowKit
set_option linter.unusedVariables false
set_option linter.unusedSimpArgs false
def bitsBut (b : Nat) : Nat → Bool
  | 0 => true
  | i + 1 => (Nat.beq i 0 || hasBit b i) && bitsBut b i
def tailRowsF (bs : List Nat) : Nat → Nat → Bool
  | 0, _ => true
  | k + 1, j => bitsBut (nth 0 bs j) j && tailRowsF bs k (j + 1)
def firstMove (ops : Array Oper) : Bool := match ops[0]? with
  | some o => o.guard.isNone && (match o.op with | .move _ => true | _ => false)
  | none => false
/-- The first one moves a value; from the n-th on each waits for all ahead of it, but for the first. -/
def tailOkF (ops : Array Oper) (n : Nat) (flags : List (Nat × Nat)) : Bool := firstMove ops && (Region.noSelect ops && (Region.free .any ops (Array.replicate ops.size false) 0 && ((Region.ready .any ops (Array.replicate ops.size false)).contains 0 && (Nat.blt n ops.size && (Nat.blt 0 n && ((ops.toList.take n).all (fun o => o.guard.isNone) && (staticFast (ops.toList.take n).toArray flags && (edgeRows ops.toList 0 && befMasks ops.toList [] fun bs => tailRowsF bs (ops.size - n) n))))))))
def awpV (c : Cfg) : Code → (EX → AState → Prop) → AState → Prop
  | .skip, K, s => K .normal s
  | .label _, K, s => K .normal s
  | .region i ops d, K, s => match d with
    | false => awp c (.region i ops false) K s
    | true => (∃ n flags, tailOkF ops n flags = true ∧ match s with
      | ⟨ts, h⟩ => fL fU1 ts fun ts => runDraw c (ops.toList.take n) flags (ops.toList.take n) 0 h.length [] [] ts (h ++ List.replicate (allocs (ops.toList.take n)) .free) fun s' => match s' with
        | ⟨ts, h⟩ => runTail c (fun v s' => K (.panic v) s') ops.toList (ops.toList.drop n) ts h fun s' => K .normal s') ∨ awp c (.region i ops true) K s
  | .seq a b, K, s => awpV c a (fun e s' => match e with | .normal => awpV c b K s' | e => K e s') s
  | .cond x a b, K, s => match ev [] s x with
    | .bool v => bcond v (awpV c a K s) (awpV c b K s)
    | _ => False
  | .block id b, K, s => awpV c b (fun e s' => match e with | .exit i => bif i == id then K .normal s' else K (.exit i) s' | e => K e s') s
  | .loop b, K, s => (∃ n : List Unit, unroll (awpV c b) n K s) ∨ ∃ (nils : List (Nat × Nat)) (live : List Nat) (n : Nat) (I : Nat → AState → Prop), c.base ≤ n ∧ (∃ m s', SEq (keep live n (grow nils s)) s' ∧ I m s') ∧
      ∀ m s', I m s' → awpV c b (fun e s'' => match e with | .normal => ∃ m' s₃, m' < m ∧ SEq (keep live n s'') s₃ ∧ I m' s₃ | e => K e s'') s'
  | .exit id, K, s => K (.exit id) s
  | .ret, K, s => K .ret s
  | _, _, _ => False
def afnV (c : Cfg) (fn : Func) (args : List AV) (h : List AO) (K : AR → List AO → Prop) : Prop :=
  match fn.body with
  | some b => fL f2 (args ++ List.replicate (fn.ntmps - args.length) .top) fun ts => awpV c b (fun e s => match e with
    | .exit _ => False
    | .panic v => K (.pan v) s.heap
    | _ => match retVal c.T fn s with
      | some r => K (.ret r) s.heap
      | none => False) ⟨ts, h⟩
  | none => False
theorem bitsBut_spec {b : Nat} : ∀ {n : Nat}, bitsBut b n = true → ∀ i, i < n → i ≠ 0 → b.testBit i = true
  | 0, _, i, hi, _ => by omega
  | n + 1, h, i, hi, h0 => by
    simp only [bitsBut, Bool.and_eq_true, Bool.or_eq_true] at h
    by_cases e : i = n
    · subst e
      rcases h.1 with h' | h'
      · exact absurd (Nat.eq_of_beq_eq_true h') h0
      · exact hasBit_true h'
    · exact bitsBut_spec h.2 i (by omega) h0
theorem tailRowsF_spec {bs : List Nat} : ∀ {k j : Nat}, tailRowsF bs k j = true → ∀ q, j ≤ q → q < j + k → ∀ i, i < q → i ≠ 0 → (nth 0 bs q).testBit i = true
  | 0, j, _, q, h1, h2 => by omega
  | k + 1, j, h, q, h1, h2 => by
    simp only [tailRowsF, Bool.and_eq_true] at h
    by_cases e : q = j
    · subst e; exact bitsBut_spec h.1
    · exact tailRowsF_spec h.2 q (by omega) (by omega)
section
variable {P : Program} {c : Cfg} {E : En} {Q : Exit → Act → World → Prop} {ops : Array Oper} {sts : Nat → AState} {rs ws : Nat → List Nat}
theorem tail_anyF (hedge : ∀ (j : Nat) (o : Oper), ops[j]? = some o → ∀ e ∈ o.after.toList, Region.binds .any e = true → e.on < j) {n : Nat} (hn0 : 0 < n) (hT : ∀ j, n ≤ j → j < ops.size → ∀ i, i < j → i ≠ 0 → i ∈ (befores ops.toList []).getD j []) :
    ∀ (k j : Nat) (listed : Array Bool) (a : Act) (w : World), j + k = ops.size → listed.size = ops.size → (∀ i, listed.getD i false = true ↔ i < j) → n ≤ j → wpOps P ops Q (List.range' j k) a w → wpAny P .any ops Q k listed a w
  | 0, j, listed, a, w, hjk, hsz, hl, hn, h => by
    refine ⟨?_, h⟩
    apply List.eq_nil_iff_forall_not_mem.mpr
    intro i hi
    obtain ⟨o, ho, hli, _⟩ := ready_mem hi
    have hlt := lt_of_get ho
    have : listed.getD i true = listed.getD i false := by simp [Array.getD, hsz, hlt]
    rw [this] at hli
    have := (hl i).mpr (by omega)
    rw [hli] at this
    cases this
  | k + 1, j, listed, a, w, hjk, hsz, hl, hn, h => by
    have hjl : j < ops.size := by omega
    have hoj : ops[j]? = some ops[j] := Array.getElem?_eq_getElem hjl
    have hd : ∀ i, i < ops.size → listed.getD i true = listed.getD i false := fun i hi => by simp [Array.getD, hsz, hi]
    have hjf : listed.getD j false = false := by
      cases hq : listed.getD j false with
      | false => rfl
      | true => have := (hl j).mp hq; omega
    have hjr : j ∈ Region.ready .any ops listed := mem_ready hoj (by rw [hd j hjl]; exact hjf) fun e he hb => (hl _).mpr (hedge j _ hoj e he hb)
    refine ⟨fun hr => (by rw [hr] at hjr; simp at hjr), fun i hi => ?_⟩
    obtain ⟨o, ho, hli, hre⟩ := ready_mem hi
    have hil := lt_of_get ho
    rw [hd i hil] at hli
    have hij : i = j := by
      by_cases e : i = j
      · exact e
      · exfalso
        have hge : j ≤ i := by
          rcases Nat.lt_or_ge i j with h' | h'
          · have := (hl i).mpr h'; rw [hli] at this; cases this
          · exact h'
        have hlt : j < i := by omega
        have := bef_down2 hedge (L := fun i => listed.getD i false = true) (fun q o' hq ho' e he hb => (hl _).mpr (by have h1 := hedge q o' ho' e he hb; have h2 := (hl q).mp hq; omega)) i j o ho hre (hT i (by omega) hil j hlt (by omega))
        rw [hjf] at this
        cases this
    subst hij
    rw [List.range'_succ, wpOps_cons] at h
    refine wpOp_mono (fun a' w' h' => ?_) h
    refine tail_anyF hedge hn0 hT k (i + 1) _ a' w' (by omega) (by simpa using hsz) (fun q => ?_) (by omega) h'
    rw [set_iff hsz hjl q, hl q]
    omega
theorem draw_tailF (hc : CfgOK P c) (hb : E.base = c.base) {n : Nat} {pre : Array Oper} (hpre : ∀ i, i < n → pre[i]? = ops[i]?) (hps : pre.size = n) (hn : n < ops.size) {flags : List (Nat × Nat)} (hst : Static pre flags) (hfl : ∀ i j, (i, j) ∈ flags → (∀ x ∈ ws i, x ∉ rs j ∧ x ∉ ws j) ∧ ∀ x ∈ ws j, x ∉ rs i) (hng : ∀ (i : Nat) (o : Oper), pre[i]? = some o → o.guard = none)
    (hsteps : ∀ i, i < pre.size → ∃ o, pre[i]? = some o ∧ DStep c pre.toList o (sts i) (sts (i + 1)) (rs i) (ws i)) (h0 : ∀ x d b v, getTmp (sts 0) x ≠ .when d b v)
    (hedge : ∀ (j : Nat) (o : Oper), ops[j]? = some o → ∀ e ∈ o.after.toList, Region.binds .any e = true → e.on < j) (hn0 : 0 < n) (hT : ∀ j, n ≤ j → j < ops.size → ∀ i, i < j → i ≠ 0 → i ∈ (befores ops.toList []).getD j [])
    (Kt : ∀ a w, St E ⟨(sts n).tmps.map AV.unguard, (sts n).heap⟩ a w → wpOps P ops Q (List.range' n (ops.size - n)) a w) :
    ∀ (fuel : Nat) (listed : Array Bool) (τ : AState) (a : Act) (w : World), listed.size = ops.size → cnt (fun i => listed.getD i false) ops.size = fuel → (∀ i, n ≤ i → listed.getD i false = false) → listed.getD 0 false = true → DInv pre sts ws (fun i => listed.getD i false = true) τ → St E τ a w → wpAny P .any ops Q fuel listed a w := by
  have getD_eq : ∀ {listed : Array Bool} {i : Nat}, listed.size = ops.size → i < ops.size → listed.getD i true = listed.getD i false := fun {l i} h hi => by
    simp [Array.getD, h, hi]
  intro fuel
  induction fuel with
  | zero =>
    intro listed τ a w hsz hcnt htl hl0 hI hs
    exfalso
    have := cnt_set (f := fun i => listed.getD i false) (g := fun k => listed.getD k false || k == n) (j := n) (htl n (Nat.le_refl _)) (by simp) (fun k hk => by simp [hk]) _ hn
    omega
  | succ fuel ih =>
    intro listed τ a w hsz hcnt htl hl0 hI hs
    have hdown : ∀ (i : Nat) (o : Oper), listed.getD i false = true → ops[i]? = some o → ∀ e ∈ o.after.toList, Region.binds .any e = true → listed.getD e.on false = true := fun i o hL ho => by
      have hin : i < n := by
        rcases Nat.lt_or_ge i n with h | h
        · exact h
        · rw [htl i h] at hL; cases hL
      exact hI.down i o hL (by rw [hpre i hin]; exact ho)
    refine ⟨fun hr => ?_, fun j hjr => ?_⟩
    · exfalso
      have hall : ∀ i, i < ops.size → listed.getD i false = true := by
        intro i
        induction i using Nat.strongRecOn with
        | _ i ih =>
          intro hi
          cases hl : listed.getD i false with
          | true => rfl
          | false =>
            exfalso
            have ho : ops[i]? = some ops[i] := Array.getElem?_eq_getElem hi
            have := mem_ready (listed := listed) ho (by rw [getD_eq hsz hi]; exact hl) (fun e he hbn => by
              have := hedge i _ ho e he hbn
              exact ih e.on this (by omega))
            rw [hr] at this; simp at this
      have := hall n hn
      rw [htl n (Nat.le_refl _)] at this
      cases this
    · obtain ⟨oj, hj, hl, hr⟩ := ready_mem hjr
      have hjl := lt_of_get hj
      rw [getD_eq hsz hjl] at hl
      have hnj : ¬ (listed.getD j false = true) := by rw [hl]; simp
      rcases Nat.lt_or_ge j n with hjn | hjn
      · have hjp : pre[j]? = some oj := by rw [hpre j hjn]; exact hj
        have next : ∀ τ' a' w', DInv pre sts ws (fun i => listed.getD i false = true ∨ i = j) τ' → St E τ' a' w' → wpAny P .any ops Q fuel (listed.setIfInBounds j true) a' w' := fun τ' a' w' hI' hs' => by
          refine ih _ τ' a' w' (by simpa using hsz) ?_ (fun i hi => ?_) ((set_iff hsz hjl 0).mpr (.inl hl0)) ?_ hs'
          · have := cnt_set (f := fun i => listed.getD i false) (g := fun i => (listed.setIfInBounds j true).getD i false) (j := j) hl ((set_iff hsz hjl j).mpr (.inr rfl)) (fun i hi => by
              simp only [Array.getD_eq_getD_getElem?, Array.getElem?_setIfInBounds]
              rw [if_neg (fun e => hi e.symm)]) _ hjl
            omega
          · cases hq : (listed.setIfInBounds j true).getD i false with
            | false => rfl
            | true =>
              rcases (set_iff hsz hjl i).mp hq with h | h
              · rw [htl i hi] at h; cases h
              · omega
          · have : (fun i => (listed.setIfInBounds j true).getD i false = true) = (fun i => listed.getD i false = true ∨ i = j) := funext fun i => propext (set_iff hsz hjl i)
            rw [this]; exact hI'
        obtain ⟨oj', hj', hD⟩ := hsteps j (by omega)
        rw [hjp] at hj'; cases hj'
        obtain ⟨Fz, g, F, H, hon, hg⟩ := hs
        have agt : ∀ t, t ∈ usesOf pre.toList oj → getTmp τ t = getTmp (sts j) t := fun t ht => agree_tmp hst hsteps h0 hI hjp hnj hr (.inl ht)
        have agh : ∀ x, x ∈ rs j → nth .free τ.heap x = nth .free (sts j).heap x := fun x hx => agree_heap hst hsteps h0 hfl hI hjp hnj hr (.inl hx)
        have hlen : (sts j).heap.length = τ.heap.length := by rw [hI.hlen]; exact (can_len hst hsteps h0 j (by omega)).2
        have hgn := hng j oj hjp
        have hgs' : guardSlot ops.toList oj = some none := by unfold guardSlot; rw [hgn]
        unfold wpOp
        rw [hj]
        simp only
        rcases hD with ⟨hgs, nid, ob, val, upd, d1, d2, d3, d4, d5, d6, d7, d8⟩ | ⟨d, b, hgs, _⟩
        · rw [if_pos ((guard_wanted (a := a) hgs').1 rfl)]
          refine .inl ?_
          obtain ⟨k1, _⟩ := core_local (G := c.G) (T := c.T) (eqs := c.eqs) (base := c.base) (nid := nid) (ch := []) (s := sts j) (s' := τ) (op := oj.op) hlen (fun t ht => (agt t (List.mem_append.mpr (.inl ht))).symm) (fun x hx => (agh x (by rw [d6]; exact List.mem_append.mpr (.inr hx))).symm)
          have hcore : core c.G c.T c.eqs c.base oj.op [] τ nid = some ⟨ob, val, upd, none⟩ := by rw [← k1]; exact d1
          obtain ⟨nid', hcore', hnn, hf⟩ : ∃ nid', core c.G c.T c.eqs c.base oj.op [] τ nid' = some ⟨ob, val, upd, none⟩ ∧ nid' ≤ τ.heap.length ∧ nth .free τ.heap nid' = .free := by
            cases hal : isAlloc oj.op with
            | false => exact ⟨τ.heap.length, by rw [core_nid (m := nid) hal]; exact hcore, Nat.le_refl _, nth_length _⟩
            | true =>
              have hid : nid ∈ rs j := by rw [d6]; simp [idOf, hal]
              simp only [freeAt, hal, Bool.not_true, Bool.false_or, Bool.and_eq_true] at d2
              obtain ⟨f1, f2⟩ := d2
              refine ⟨nid, hcore, by have := blt_lt f1; omega, ?_⟩
              rw [agh nid hid]
              cases hq : nth .free (sts j).heap nid with
              | free => rfl
              | _ => rw [hq] at f2; simp at f2
          refine (core_goes hc.tab hc.eqs hc.st hc.env F H (Chained.nil a) hnn hf hcore' d5).1 rfl _ _ fun cc w' Fz' g' hv hH hon' => ?_
          have hvu : val.unguard = val := by
            have := vr_not_when hv
            cases val <;> first | rfl | exact absurd rfl (this _ _ _)
          rw [hvu] at d8
          exact next _ _ _ (DInv.step hst hsteps h0 hfl hI hjp hnj hr d8 d3 d7 (fun t d b v hvw => absurd hvw (unwhen_not (vr_not_when hv) d b v))) ⟨Fz', g', (hon'.fr F).put_vr oj.dst hv, hH, hon.trans hon', hg⟩
        · exfalso
          unfold guardSlot at hgs
          rw [hgn] at hgs
          cases hgs
      · have hbefore : ∀ i, i < j → listed.getD i false = true := fun i hi => by
          by_cases hi0 : i = 0
          · rw [hi0]; exact hl0
          · exact bef_down2 hedge hdown j i oj hj hr (hT j hjn hjl i hi hi0)
        have hjn' : j = n := by
          rcases Nat.lt_or_ge n j with h | h
          · have := hbefore n h
            rw [htl n (Nat.le_refl _)] at this
            cases this
          · omega
        subst hjn'
        have e1 : τ.tmps = (sts j).tmps := ext_nth .top _ _ (hI.len.trans (can_len hst hsteps h0 j (by omega)).1.symm) fun t => by
          obtain ⟨m, hm, he, hw⟩ := hI.tm t
          exact he.trans (can_tmp hst hsteps h0 hm (by omega) fun i o hi hd => by
            have h1 := hw i o hi hd
            have hip := lt_of_get hi
            have := h1.mp (hbefore i (by omega))
            omega)
        have e2 : τ.heap = (sts j).heap := ext_nth .free _ _ (hI.hlen.trans (can_len hst hsteps h0 j (by omega)).2.symm) fun t => by
          obtain ⟨m, hm, he, hw⟩ := hI.hp t
          exact he.trans (can_heap hst hsteps h0 hm (by omega) fun i hi hd => by
            have := (hw i hi hd).mp (hbefore i (by omega))
            omega)
        obtain ⟨Fz, g, F, H, hon, hg⟩ := hs
        have hK := Kt a w ⟨Fz, g, by rw [← e1]; exact F.unguard, by rw [← e2]; exact H, hon, hg⟩
        have hall : ∀ i, listed.getD i false = true ↔ i < j := fun i => ⟨fun h => by
          rcases Nat.lt_or_ge i j with h' | h'
          · exact h'
          · rw [htl i h'] at h; exact absurd h (by simp), hbefore i⟩
        have hfuel : fuel + 1 = ops.size - j := by
          have := cnt_tail (f := fun i => listed.getD i false) (n := j) (fun i hi => hbefore i hi) (fun i hi => htl i hi) (ops.size - j)
          rw [show j + (ops.size - j) = ops.size by omega] at this
          omega
        rw [← hfuel] at hK
        exact (tail_anyF hedge hn0 hT (fuel + 1) j listed a w (by omega) hsz hall (Nat.le_refl _) hK).2 j hjr
open Classical in
theorem awpV_sound {c : Cfg} (hc : CfgOK P c) (hb : E.base = c.base) : ∀ (code : Code) (K : EX → AState → Prop) (s : AState) (a : Act) (w : World) (Q : Exit → Act → World → Prop), awpV c code K s → St E s a w → (∀ e s' a' w' x, K e s' → StE E e s' a' w' x → Q x a' w') → (∀ ch d v (a : Act) w, Q (.panic ch) (a.put d v) w → Q (.panic ch) a w) → code.wp P Q a w := by
  intro code
  induction code with
  | skip => exact fun K s a w Q h hs hk hq => wp_skip (hk _ _ _ _ _ h ⟨rfl, hs⟩)
  | label l => exact fun K s a w Q h hs hk hq => wp_label (hk _ _ _ _ _ h ⟨rfl, hs⟩)
  | exit id => exact fun K s a w Q h hs hk hq => wp_exit (hk _ _ _ _ _ h ⟨rfl, hs⟩)
  | ret => exact fun K s a w Q h hs hk hq => wp_ret (hk _ _ _ _ _ h ⟨rfl, hs⟩)
  | region id ops d =>
    intro K s a w Q h hs hk hq
    obtain ⟨ts, hp⟩ := s
    cases d with
    | false => exact awp_sound hc hb (.region id ops false) K ⟨ts, hp⟩ a w Q (by simpa only [awpV] using h) hs hk
    | true =>
      rcases h with ⟨n, flags, htl, hr⟩ | h
      case inr => exact awp_sound hc hb (.region id ops true) K ⟨ts, hp⟩ a w Q h hs hk
      simp only [fL_map (g := AV.unguard) fU1_eq] at hr
      unfold tailOkF at htl
      simp only [Bool.and_eq_true] at htl
      obtain ⟨f1, f2, f3, f4, t1, t0, t2, t3, t4, t5⟩ := htl
      have hn := blt_lt t1
      have hn0 := blt_lt t0
      have hpl : (ops.toList.take n).length = n := by simp; omega
      obtain ⟨bs, b1, b2⟩ := befMasks_spec _ [] [] _ rfl (fun j x hx => by simp [nth] at hx) t5
      refine wp_region_any hc.mixed ?_
      obtain ⟨sts, rs, ws, q1, q2, q3, q4, q5⟩ := runDraw_sts _ _ _ _ _ _ _ _ hr
      have hfl := flags_ok (fs := []) q4
      have hst' := static_of t3
      have hsteps : ∀ i, i < (ops.toList.take n).toArray.size → ∃ o, (ops.toList.take n).toArray[i]? = some o ∧ DStep c (ops.toList.take n).toArray.toList o (sts i) (sts (i + 1)) (rs i) (ws i) := fun i hi => by
        obtain ⟨o, a1, a2⟩ := q2 i (by simpa using hi)
        rw [Nat.zero_add] at a2
        exact ⟨o, by simpa using a1, a2⟩
      have h0 : ∀ x d b v, getTmp (sts 0) x ≠ .when d b v := fun x d b v e => by
        rw [q1] at e
        simp only [getTmp, map_top (f := AV.unguard) rfl] at e
        exact unguard_not _ d b v e
      rw [Nat.zero_add, hpl] at q5
      have hpre : ∀ i, i < n → (ops.toList.take n).toArray[i]? = ops[i]? := fun i hi => by
        simp [List.getElem?_take, hi]
      have hng : ∀ (i : Nat) (o : Oper), (ops.toList.take n).toArray[i]? = some o → o.guard = none := fun i o ho => by
        have hm : o ∈ ops.toList.take n := List.mem_of_getElem? (by simpa using ho)
        have := List.all_eq_true.mp t2 o hm
        simpa using this
      have hedge : ∀ (j : Nat) (o : Oper), ops[j]? = some o → ∀ e ∈ o.after.toList, Region.binds .any e = true → e.on < j := fun j o hj e he hbn => by
        have := edgeRows_spec _ _ t4 j o (by simpa using hj) e he hbn
        omega
      obtain ⟨o0, ho0⟩ : ∃ o, ops[0]? = some o := ⟨_, Array.getElem?_eq_getElem (by omega)⟩
      have hfm := f1
      unfold firstMove at hfm
      rw [ho0] at hfm
      simp only [Bool.and_eq_true] at hfm
      obtain ⟨g1, g2⟩ := hfm
      obtain ⟨x0, hx0⟩ : ∃ x, o0.op = .move x := by
        split at g2
        · rename_i x e; exact ⟨x, e⟩
        · simp at g2
      have hI0 : DInv (ops.toList.take n).toArray sts ws (fun i => (Array.replicate ops.size false).getD i false = true) (sts 0) := by
        refine ⟨rfl, rfl, fun t => ⟨0, by omega, rfl, fun i o hi hd => ?_⟩, fun x => ⟨0, by omega, rfl, fun i hi hx => ?_⟩, fun x d b v e => absurd e (h0 x d b v), fun i o hL ho => ?_⟩
        · simp [Array.getD]
        · simp [Array.getD]
        · simp [Array.getD] at hL
      have hs0 : St E (sts 0) a { w with drawn := w.drawn + 1 } := by
        rw [q1]
        obtain ⟨Fz, g, F, H, hon, hg⟩ := hs.drew
        exact ⟨Fz, g, F.unguard, H.reserve _, hon, hg⟩
      generalize ({ w with drawn := w.drawn + 1 } : World) = w1 at hs0
      have hrun : (execOp a.eval o0).run P w1 = .ok (.value (a.eval x0)) w1 := by
        unfold execOp; rw [hx0]; rfl
      have hgs0 : guardSlot ops.toList o0 = some none := by
        unfold guardSlot
        cases hg : o0.guard with
        | none => rfl
        | some p => rw [hg] at g1; simp at g1
      have hsz0 : (Array.replicate ops.size false).size = ops.size := by simp
      have hstep : ∃ τ', DInv (ops.toList.take n).toArray sts ws (fun i => ((Array.replicate ops.size false).setIfInBounds 0 true).getD i false = true) τ' ∧ St E τ' (a.put o0.dst (a.eval x0)) w1 := by
        have hj : (ops.toList.take n).toArray[0]? = some o0 := by rw [hpre 0 hn0]; exact ho0
        obtain ⟨oj', hj', hD⟩ := hsteps 0 (by simp; omega)
        rw [hj] at hj'; cases hj'
        obtain ⟨Fz, g, F, H, hon, hg⟩ := hs0
        have hnj : ¬ ((Array.replicate ops.size false).getD 0 false = true) := by simp [Array.getD]
        have hr0 : ∀ e ∈ o0.after.toList, Region.binds .any e = true → (Array.replicate ops.size false).getD e.on false = true := fun e he hbn => by
          have := hedge 0 o0 ho0 e he hbn
          omega
        rcases hD with ⟨hgs, nid, ob, val, upd, d1, d2, d3, d4, d5, d6, d7, d8⟩ | ⟨d, b, hgs, _⟩
        · have hal : isAlloc o0.op = false := by rw [hx0]; rfl
          have hcore : core c.G c.T c.eqs c.base o0.op [] (sts 0) (sts 0).heap.length = some ⟨ob, val, upd, none⟩ := by rw [core_nid (m := nid) hal]; exact d1
          have hw : o0.wp P a w1 (fun a' w' => ∃ τ', DInv (ops.toList.take n).toArray sts ws (fun i => ((Array.replicate ops.size false).setIfInBounds 0 true).getD i false = true) τ' ∧ St E τ' a' w') (fun _ _ _ => True) := by
            refine (core_goes hc.tab hc.eqs hc.st hc.env F H (Chained.nil a) (Nat.le_refl _) (nth_length _) hcore d5).1 rfl _ _ fun cc w' Fz' g' hv hH hon' => ?_
            have hvu : val.unguard = val := by
              have := vr_not_when hv
              cases val <;> first | rfl | exact absurd rfl (this _ _ _)
            rw [hvu] at d8
            refine ⟨⟨(AState.put (sts 0) o0.dst val).tmps, apply upd (sts 0).heap⟩, ?_, Fz', g', (hon'.fr F).put_vr o0.dst hv, hH, hon.trans hon', hg⟩
            have := DInv.step hst' hsteps h0 hfl hI0 hj hnj hr0 d8 d3 d7 (fun t d b v hvw => absurd hvw (unwhen_not (vr_not_when hv) d b v))
            have e : (fun i => ((Array.replicate ops.size false).setIfInBounds 0 true).getD i false = true) = (fun i => (Array.replicate ops.size false).getD i false = true ∨ i = 0) := funext fun i => propext (set_iff hsz0 (by omega) i)
            rw [e]; exact this
          unfold Oper.wp at hw
          rw [hrun, Oper.upon_value] at hw
          exact hw
        · exfalso
          unfold guardSlot at hgs
          rw [hng 0 o0 hj] at hgs
          cases hgs
      obtain ⟨τ', hI', hs'⟩ := hstep
      suffices H : ∀ k, k = ops.size → wpAny P .any ops Q k (Array.replicate ops.size false) a w1 from H _ rfl
      intro k hk'
      cases k with
      | zero => omega
      | succ m =>
        refine wpAny_take (i := 0) ho0 f2 f3 f4 (fun ch a w h => hq ch _ _ a w h) (.inl ⟨(guard_wanted (a := a) hgs0).1 rfl, fun w => by unfold execOp; rw [hx0]; rfl⟩) ?_
        refine draw_tailF (Q := Q) hc hb (sts := sts) (rs := rs) (ws := ws) hpre (by simpa using hpl) hn hst' hfl hng hsteps h0 hedge hn0 (fun j h1 h2 i hi hi0 => b2 j i (tailRowsF_spec b1 j h1 (by omega) i hi hi0)) (fun a' w' hs' => ?_) m _ τ' _ _ (by simp) ?_ (fun i hi => ?_) ((set_iff hsz0 (by omega) 0).mpr (.inr rfl)) hI' hs'
        · exact runTail_sound (Q := Q) hc hb (KP := fun v s' => K (.panic v) s') (fun v s' a' w' x h' hs' => hk _ _ _ _ _ h' ⟨x, rfl, hs'⟩) ops (ops.toList.drop n) n rfl _ _ (fun s' => K .normal s') a' w' q5 hs' (fun s' a' w' h' hs' => hk _ _ _ _ _ h' ⟨rfl, hs'⟩)
        · have h1 : ∀ n, n ≤ ops.size → cnt (fun i => (Array.replicate ops.size false).getD i false) n = n := fun n => by
            induction n with
            | zero => intro _; rfl
            | succ n ih => intro hn; simp only [cnt]; rw [ih (by omega)]; simp [Array.getD]
          have h2 := h1 _ (Nat.le_refl _)
          have h3 := cnt_set (f := fun i => (Array.replicate ops.size false).getD i false) (g := fun i => ((Array.replicate ops.size false).setIfInBounds 0 true).getD i false) (j := 0) (by simp [Array.getD]) ((set_iff hsz0 (by omega) 0).mpr (.inr rfl)) (fun i hi => by
            simp only [Array.getD_eq_getD_getElem?, Array.getElem?_setIfInBounds]
            rw [if_neg (fun e => hi e.symm)]) _ (show 0 < ops.size by omega)
          omega
        · cases hq' : ((Array.replicate ops.size false).setIfInBounds 0 true).getD i false with
          | false => rfl
          | true =>
            rcases (set_iff hsz0 (by omega) i).mp hq' with h | h
            · simp [Array.getD] at h
            · omega
  | seq x y ih1 ih2 =>
    intro K s a w Q h hs hk hq
    refine wp_seq (ih1 _ s a w _ h hs (fun e s' a' w' x h' hs' => ?_) fun ch d v a w h => hq ch d v a w h)
    cases e with
    | normal => obtain ⟨rfl, hs'⟩ := hs'; exact ih2 K s' a' w' Q h' hs' hk hq
    | exit i => have := hs'.1; subst this; exact hk _ _ _ _ _ h' hs'
    | ret => have := hs'.1; subst this; exact hk _ _ _ _ _ h' hs'
    | panic v => obtain ⟨y, rfl, hs'⟩ := hs'; exact hk _ _ _ _ _ h' ⟨y, rfl, hs'⟩
  | cond x y z ih1 ih2 =>
    intro K s a w Q h hs hk hq
    simp only [awpV] at h
    split at h
    · rename_i v hv
      obtain ⟨Fz, g, F, H, hon, hg⟩ := hs
      have hx := ev_vr F (Chained.nil a) x
      rw [hv] at hx
      obtain ⟨h1, h2⟩ := bcond_iff.mp h
      refine wp_cond_split (inv_bool hx) (fun e => ?_) (fun e => ?_)
      · exact ih1 K s a w Q (h1 e) ⟨Fz, g, F, H, hon, hg⟩ hk hq
      · exact ih2 K s a w Q (h2 e) ⟨Fz, g, F, H, hon, hg⟩ hk hq
    · exact h.elim
  | block id b ih =>
    intro K s a w Q h hs hk hq
    refine wp_block (ih _ s a w _ h hs (fun e s' a' w' x h' hs' => ?_) fun ch d v a w h => hq ch d v a w h)
    cases e with
    | normal => obtain ⟨rfl, hs'⟩ := hs'; exact hk _ _ _ _ _ h' ⟨rfl, hs'⟩
    | exit i =>
      obtain ⟨rfl, hs'⟩ := hs'
      simp only [Exit.inBlock]
      simp only at h'
      cases hi : (i == id) with
      | true => rw [hi] at h'; rw [if_pos (by simpa using hi)]; exact hk _ _ _ _ _ h' ⟨rfl, hs'⟩
      | false => rw [hi] at h'; rw [if_neg (by simpa using hi)]; exact hk _ _ _ _ _ h' ⟨rfl, hs'⟩
    | ret => obtain ⟨rfl, hs'⟩ := hs'; exact hk _ _ _ _ _ h' ⟨rfl, hs'⟩
    | panic v => obtain ⟨y, rfl, hs'⟩ := hs'; exact hk _ _ _ _ _ h' ⟨y, rfl, hs'⟩
  | loop b ih =>
    intro K s a w Q h hs hk hq
    rcases h with ⟨l0, h⟩ | ⟨nils, live, n, I, hbn, ⟨m0, s0, hse, hI0⟩, hround⟩
    · let J : Act → World → Nat → Prop := fun a w m => ∃ (l : List Unit) (s' : AState), l.length = m ∧ unroll (awpV c b) l K s' ∧ St E s' a w
      refine wp_loop (fun a w => ∃ m, J a w m) (fun a w => if h : ∃ m, J a w m then (least h).choose else 0) ⟨l0.length, l0, s, rfl, h, hs⟩ fun a w hex => ?_
      obtain ⟨l, s', hl, hu, hs'⟩ := (least hex).choose_spec.1
      cases l with
      | nil => exact hu.elim
      | cons u l =>
        refine ih _ s' a w _ hu hs' (fun e s'' a' w' x h' hs'' => ?_) fun ch d v a w h => hq ch d v a w h
        cases e with
        | normal =>
          obtain ⟨rfl, hs''⟩ := hs''
          have hJ : J a' w' l.length := ⟨l, s'', rfl, h', hs''⟩
          refine ⟨⟨_, hJ⟩, ?_⟩
          have hex' : ∃ m, J a' w' m := ⟨_, hJ⟩
          rw [dif_pos hex', dif_pos hex]
          refine Nat.lt_of_le_of_lt ((least hex').choose_spec.2 _ hJ) ?_
          have : l.length + 1 = (least hex).choose := hl
          omega
        | exit i => obtain ⟨rfl, hs''⟩ := hs''; exact hk _ _ _ _ _ h' ⟨rfl, hs''⟩
        | ret => obtain ⟨rfl, hs''⟩ := hs''; exact hk _ _ _ _ _ h' ⟨rfl, hs''⟩
        | panic v => obtain ⟨y, rfl, hs''⟩ := hs''; exact hk _ _ _ _ _ h' ⟨y, rfl, hs''⟩
    · let J : Act → World → Nat → Prop := fun a w m => ∃ s', I m s' ∧ St E s' a w
      refine wp_loop (fun a w => ∃ m, J a w m) (fun a w => if h : ∃ m, J a w m then (least h).choose else 0) ⟨m0, s0, hI0, (hs.grow.keep (by rw [hb]; exact hbn)).seq hse⟩ fun a w hex => ?_
      obtain ⟨s', hI', hs'⟩ := (least hex).choose_spec.1
      refine ih _ s' a w _ (hround _ s' hI') hs' (fun e s'' a' w' x h' hs'' => ?_) fun ch d v a w h => hq ch d v a w h
      cases e with
      | normal =>
        obtain ⟨rfl, hs''⟩ := hs''
        obtain ⟨m', s3, hlt, hse3, hI3⟩ := h'
        have hJ : J a' w' m' := ⟨s3, hI3, (hs''.keep (by rw [hb]; exact hbn)).seq hse3⟩
        refine ⟨⟨m', hJ⟩, ?_⟩
        have hex' : ∃ m, J a' w' m := ⟨m', hJ⟩
        rw [dif_pos hex', dif_pos hex]
        exact Nat.lt_of_le_of_lt ((least hex').choose_spec.2 _ hJ) hlt
      | exit i => obtain ⟨rfl, hs''⟩ := hs''; exact hk _ _ _ _ _ h' ⟨rfl, hs''⟩
      | ret => obtain ⟨rfl, hs''⟩ := hs''; exact hk _ _ _ _ _ h' ⟨rfl, hs''⟩
      | panic v => obtain ⟨y, rfl, hs''⟩ := hs''; exact hk _ _ _ _ _ h' ⟨y, rfl, hs''⟩
  | _ => exact fun K s a w Q h => h.elim
theorem scall_ofV {h : List AO} {c : Cfg} (hc : CfgOK P c) {f : FuncId} {fn : Func} (hf : P.funcs[f]? = some fn) (hname : (fn.name == "runtime.NumGoroutine") = false) {args : List AV} {K : AR → List AO → Prop} (hbase : c.base = h.length) (H : afnV c fn args h K) : SCall P f args h K := by
  unfold afnV at H
  cases hb : fn.body with
  | none => rw [hb] at H; exact H.elim
  | some b =>
    rw [hb] at H
    simp only [fL_eq f2_eq] at H
    refine fun B0 w0 w Fz g xs hH hl hv => .inl ⟨⟨fn, hf, hname, by rw [hb]; rfl⟩, calls_of_wp hf hb ?_⟩
    let E : En := ⟨B0, w0, w, Fz, g, h.length, []⟩
    refine awpV_sound (E := E) hc hbase.symm b _ _ _ w _ H ⟨Fz, g, start_fr (h := h) hl hv, hH, On.refl _ _ _, fun o ho => hH.free o ho⟩ (fun e s' a' w' x hk hs => ?_) fun ch d v a w h => ⟨(by cases d <;> exact And.left h), And.right h⟩
    have fin : St E s' a' w' → (match retVal c.T fn s' with | some r => K (.ret r) s'.heap | none => False) → a'.defers = [] ∧ ∃ v, (results fn a'.tmps).run P w' = .ok v w' ∧ ∃ r cc h' Fz' g', Ending.returned v = r.end_ cc ∧ K r h' ∧ VR w' Fz' g' r.val cc ∧ HR B0 w0 w' Fz' g' h' ∧ On w w' Fz Fz' g g' := fun hs hk => by
      obtain ⟨Fz', g', F, H', hon, _⟩ := hs
      split at hk
      · rename_i r hr
        obtain ⟨cc, h1, h2⟩ := results_run (P := P) hc.tab F H' hr
        exact ⟨F.defers, cc, h1, .ret r, cc, s'.heap, Fz', g', rfl, hk, h2, H', hon⟩
      · exact hk.elim
    cases e with
    | normal => obtain ⟨rfl, hs⟩ := hs; exact fin hs hk
    | exit i => exact hk.elim
    | ret => obtain ⟨rfl, hs⟩ := hs; exact fin hs hk
    | panic v =>
      obtain ⟨y, rfl, Fz', g', F, H', hon, _, hv'⟩ := hs
      exact ⟨F.defers, .pan v, y, s'.heap, Fz', g', rfl, hk, hv', H', hon⟩
end
end Go.Proofs.YtnnoplgabnfdiaaGreatDoor.Sh
/- The shadow machine over this program: what a day brings to a loan. -/
namespace Go.Proofs.YtnnoplgabnfdiaaGreatDoor.Sh
open Go Go.RowKit
set_option linter.unusedVariables false
set_option linter.unusedSimpArgs false
set_option maxRecDepth 100000
set_option maxHeartbeats 4000000
/-- The cells of a state while its plan is made. -/
def boxC (p : PR) (pl : AV) (P C : Int) : List AV := [.int .i64 19723, .bool true, .int .i64 19723, pl, .int .i64 1, .int .i64 p.rt, .int .i64 P, .int .i64 0, .ro 4 0 none fun _ => [], .int .i64 0, .int .i64 0, .int .i64 0, .int .i64 C, .int .i64 0, .int .i64 0, .int .i64 0, .int .i64 0, .int .i64 0, .int .i64 0]

theorem dueD3 (p : PR) (x0 x1 x2 x4 x5 x6 x7 xt xu : AO) : SCall Tryz.prog 108 [.ptr 3 1 1 0 0, (s0 p).av, .int .i64 (s0 p).nx] [x0, x1, x2, runL p false 0 .nilsl, x4, x5, x6, x7, .lit 1 (s0 p).cells, xt, xu] fun r h' => r = .ret (.tup [.cint .i64 0, .bool false]) ∧ h' = [x0, x1, x2, runL p false 0 .nilsl, x4, x5, x6, x7, .lit 1 (s0 p).cells, xt, xu] := by
  refine kept_of2 rfl (.inl rfl) (fun o ho => .inl rfl) ?_
  refine scall_of (cfg_ok envR2_ok 11) Tryz.func108 (by kernel_rfl) rfl ?_
  generalize hK : Kept2 _ _ _ = K
  conv => whnf
  subst hK
  exact ⟨rfl, _, rfl⟩
theorem roll3 (p : PR) (x0 x1 x2 x4 x5 x6 x7 xt xu : AO) : SCall Tryz.prog 210 [.ptr 3 1 1 0 0, .ptr 8 1 1 0 0] [x0, x1, x2, runL p false 0 .nilsl, x4, x5, x6, x7, .lit 1 (s0 p).cells, xt, xu] fun r h' => r = .ret (.tup []) ∧ h' = [x0, x1, x2, runL p false 0 .nilsl, x4, x5, x6, x7, .lit 1 (s0 p).cells, xt, xu] := by
  refine kept_of2 rfl (.inl rfl) (fun o ho => .inl rfl) ?_
  refine scall_of (cfg_ok env_nil 11) Tryz.func210 (by kernel_rfl) rfl ?_
  generalize hK : Kept2 _ _ _ = K
  conv => whnf
  refine (dueD3 p x0 x1 x2 x4 x5 x6 x7 xt xu).mono fun r h' ⟨e1, e2⟩ => ?_
  subst e1 e2
  conv => whnf
  subst hK
  exact ⟨rfl, _, rfl⟩
theorem lateD3_1 (p : PR) (P C : Int) (x0 x1 x2 x4 x5 x6 x7 xb xt xu y11 y12 y13 y14 y15 y16 : AO) : SCall Tryz.prog 212 [.ptr 3 1 1 0 0, .agg (boxC p (.sl 16 1 0 1 none) P C)] [x0, x1, x2, runL p false 0 .nilsl, x4, x5, x6, x7, xb, xt, xu, y11, y12, y13, y14, y15, y16] fun r h' => r = .ret (.tup [.cint .i64 0, .cint .i64 0]) ∧ h' = [x0, x1, x2, runL p false 0 .nilsl, x4, x5, x6, x7, xb, xt, xu, y11, y12, y13, y14, y15, y16] := by
  refine kept_of2 rfl (.inl rfl) (fun o ho => .inl rfl) ?_
  refine scall_of (cfg_ok env_nil 17) Tryz.func212 (by kernel_rfl) rfl ?_
  generalize hK : Kept2 _ _ _ = K
  conv => whnf
  subst hK
  exact ⟨rfl, _, rfl⟩
theorem lateD3_12 (p : PR) (P C : Int) (x0 x1 x2 x4 x5 x6 x7 xb xt xu y11 y12 y13 y14 y15 y16 y17 y18 y19 y20 y21 y22 y23 y24 y25 y26 y27 y28 y29 y30 y31 y32 y33 y34 y35 y36 y37 y38 y39 y40 y41 y42 y43 y44 y45 y46 y47 y48 y49 : AO) : SCall Tryz.prog 212 [.ptr 3 1 1 0 0, .agg (boxC p (.sl 49 1 0 12 none) P C)] [x0, x1, x2, runL p false 0 .nilsl, x4, x5, x6, x7, xb, xt, xu, y11, y12, y13, y14, y15, y16, y17, y18, y19, y20, y21, y22, y23, y24, y25, y26, y27, y28, y29, y30, y31, y32, y33, y34, y35, y36, y37, y38, y39, y40, y41, y42, y43, y44, y45, y46, y47, y48, y49] fun r h' => r = .ret (.tup [.cint .i64 0, .cint .i64 0]) ∧ h' = [x0, x1, x2, runL p false 0 .nilsl, x4, x5, x6, x7, xb, xt, xu, y11, y12, y13, y14, y15, y16, y17, y18, y19, y20, y21, y22, y23, y24, y25, y26, y27, y28, y29, y30, y31, y32, y33, y34, y35, y36, y37, y38, y39, y40, y41, y42, y43, y44, y45, y46, y47, y48, y49] := by
  refine kept_of2 rfl (.inl rfl) (fun o ho => .inl rfl) ?_
  refine scall_of (cfg_ok env_nil 50) Tryz.func212 (by kernel_rfl) rfl ?_
  generalize hK : Kept2 _ _ _ = K
  conv => whnf
  subst hK
  exact ⟨rfl, _, rfl⟩
theorem dueD4 (p : PR) (s : ST) (hp : SHP p) (ho : s.op = true) (hs : s.start = 19723) (hn : s.nx = 1) (hpn : 1 ≤ s.pn) (x0 x1 x2 x3 x5 x6 x7 xt xu : AO) : SCall Tryz.prog 108 [.ptr 4 1 1 0 0, s.av, .int .i64 s.nx] [x0, x1, x2, x3, runL p true 19723 (.ro 1 p.tm.toNat none (dueRV p)), x5, x6, x7, .lit 1 s.cells, xt, xu] fun r h' => r = .ret (.tup [.int .i64 (dueF p.ev), .bool true]) ∧ h' = [x0, x1, x2, x3, runL p true 19723 (.ro 1 p.tm.toNat none (dueRV p)), x5, x6, x7, .lit 1 s.cells, xt, xu] := by
  refine kept_of2 rfl (.inl rfl) (fun o ho => .inl rfl) ?_
  refine scall_of (cfg_ok envR2_ok 11) Tryz.func108 (by kernel_rfl) rfl ?_
  generalize hK : Kept2 _ _ _ = K
  conv => whnf
  have hE := hp.sh
  refine bf (by rw [ho]; rfl) ?_
  conv => whnf
  refine ⟨[], by kernel_rfl, ?_⟩
  conv => whnf
  refine bf (by rw [hs]; rfl) ?_
  conv => whnf
  refine bf (by rw [hn]; simp; omega) ?_
  conv => whnf
  rw [show IntKind.i64.wrap (s.nx - 1) = 0 from by rw [hn]; rfl]
  refine ⟨⟨by omega, by omega⟩, ?_⟩
  rw [show p.ev * ((((0 : Int).toNat : Nat) : Int) + 1) = p.ev from by simp]
  conv => whnf
  subst hK
  exact ⟨rfl, _, rfl⟩
theorem roll4 (p : PR) (s : ST) (hp : SHP p) (ho : s.op = true) (hs : s.start = 19723) (hn : s.nx = 1) (hpn : 1 ≤ s.pn) (hd : dueF p.ev ≠ s.day) (x0 x1 x2 x3 x5 x6 x7 xt xu : AO) : SCall Tryz.prog 210 [.ptr 4 1 1 0 0, .ptr 8 1 1 0 0] [x0, x1, x2, x3, runL p true 19723 (.ro 1 p.tm.toNat none (dueRV p)), x5, x6, x7, .lit 1 s.cells, xt, xu] fun r h' => r = .ret (.tup []) ∧ h' = [x0, x1, x2, x3, runL p true 19723 (.ro 1 p.tm.toNat none (dueRV p)), x5, x6, x7, .lit 1 s.cells, xt, xu] := by
  refine kept_of2 rfl (.inl rfl) (fun o ho => .inl rfl) ?_
  refine scall_of (cfg_ok env_nil 11) Tryz.func210 (by kernel_rfl) rfl ?_
  generalize hK : Kept2 _ _ _ = K
  conv => whnf
  refine (dueD4 p s hp ho hs hn hpn x0 x1 x2 x3 x5 x6 x7 xt xu).mono fun r h' ⟨e1, e2⟩ => ?_
  subst e1 e2
  conv => whnf
  refine bt (bne_iff_ne.mpr hd) ?_
  conv => whnf
  subst hK
  exact ⟨rfl, _, rfl⟩
theorem lateD4 (p : PR) (s : ST) (x0 x1 x2 x3 x5 x6 x7 xb xt xu : AO) : SCall Tryz.prog 212 [.ptr 4 1 1 0 0, s.av] [x0, x1, x2, x3, runL p true 19723 (.ro 1 p.tm.toNat none (dueRV p)), x5, x6, x7, xb, xt, xu] fun r h' => r = .ret (.tup [.cint .i64 0, .cint .i64 0]) ∧ h' = [x0, x1, x2, x3, runL p true 19723 (.ro 1 p.tm.toNat none (dueRV p)), x5, x6, x7, xb, xt, xu] := by
  refine kept_of2 rfl (.inl rfl) (fun o ho => .inl rfl) ?_
  refine scall_of (cfg_ok env_nil 11) Tryz.func212 (by kernel_rfl) rfl ?_
  generalize hK : Kept2 _ _ _ = K
  conv => whnf
  subst hK
  exact ⟨rfl, _, rfl⟩
/-- A call that is known at these arguments alone, and where one object is this. -/
def sx (VS : List AV) (X : AO) (r : AV) (X' : AO) (vs : List AV) (x : AO) (_ : List AO) : Option (List Prop × AV × AO) := some ([vs = VS, x = X], r, X')
theorem sx_ok {f : FuncId} {N o : Nat} {w : Bool} {VS : List AV} {X X' : AO} {r : AV} {S : SEnv} (hN : N ≠ 0) (H : ∀ h : List AO, h.length = N → nth .free h o = X → SCall Tryz.prog f VS h fun r' h' => r' = .ret r ∧ h' = bif w then setNth h o X' else h) (hS : SOK Tryz.prog S) : SOK Tryz.prog ((f, ⟨N, o, w, sx VS X r X'⟩) :: S) := ⟨mk_ok, fun f' N' o' w' run' hg vs h ob r' x hl ho hr hob => by
  unfold SEnv.get at hg
  cases hf : (f == f') with
  | false => rw [hf] at hg; exact hS.2.1 f' N' o' w' run' hg vs h ob r' x hl ho hr hob
  | true =>
    rw [hf] at hg
    simp only [cond_true, Option.some.injEq, SS.mk.injEq] at hg
    obtain ⟨rfl, rfl, rfl, rfl⟩ := hg
    have e : f = f' := by simpa using hf
    subst e
    unfold sx at hr
    simp only [Option.some.injEq, Prod.mk.injEq] at hr
    obtain ⟨rfl, rfl, rfl⟩ := hr
    obtain ⟨rfl, h2⟩ := hob
    exact H h hl h2, fun f' o' w' run' hg => by
  unfold SEnv.get at hg
  cases hf : (f == f') with
  | false => rw [hf] at hg; exact hS.2.2 f' o' w' run' hg
  | true =>
    rw [hf] at hg
    simp only [cond_true, Option.some.injEq, SS.mk.injEq] at hg
    exact absurd hg.1 hN⟩
/-- A call that is known at these arguments alone, in whatever memory. -/
theorem nx_ok {f : FuncId} {VS : List AV} {X' : AO} {r : AV} {S : SEnv} (H : ∀ h : List AO, SCall Tryz.prog f VS h fun r' h' => r' = .ret r ∧ h' = h) (hS : SOK Tryz.prog S) : SOK Tryz.prog ((f, ⟨0, 0, false, sx VS .free r X'⟩) :: S) := ⟨mk_ok, fun f' N' o' w' run' hg vs h ob r' x hl ho hr hob => by
  unfold SEnv.get at hg
  cases hf : (f == f') with
  | false => rw [hf] at hg; exact hS.2.1 f' N' o' w' run' hg vs h ob r' x hl ho hr hob
  | true =>
    rw [hf] at hg
    simp only [cond_true, Option.some.injEq, SS.mk.injEq] at hg
    have := hg.1
    omega, fun f' o' w' run' hg vs h ob r' x hr hob => by
  unfold SEnv.get at hg
  cases hf : (f == f') with
  | false => rw [hf] at hg; exact hS.2.2 f' o' w' run' hg vs h ob r' x hr hob
  | true =>
    rw [hf] at hg
    simp only [cond_true, Option.some.injEq, SS.mk.injEq] at hg
    obtain ⟨_, rfl, rfl, rfl⟩ := hg
    have e : f = f' := by simpa using hf
    subst e
    unfold sx at hr
    simp only [Option.some.injEq, Prod.mk.injEq] at hr
    obtain ⟨rfl, rfl, rfl⟩ := hr
    rw [hob.1]
    exact H h⟩
/-- A call that is known at these arguments alone. -/
def exQ (VS : List AV) (r : AV) : QSpec := fun vs => some ([vs = VS], r)
theorem exQ_of {f : FuncId} {VS : List AV} {r : AV} (H : SCall Tryz.prog f VS [] (Told r)) : ∀ vs ob q, exQ VS r vs = some (ob, q) → conj ob → SCall Tryz.prog f vs [] (Told q) := fun vs ob q h hob => by
  unfold exQ at h
  simp only [Option.some.injEq, Prod.mk.injEq] at h
  obtain ⟨rfl, rfl⟩ := h
  have e : vs = VS := hob
  rw [e]; exact H
def kindsA : AV := .agg [.nilfn, .fn 277 [.ptr 3 1 1 0 0] [], .fn 278 [.ptr 3 1 1 0 0] [], .fn 279 [.ptr 3 1 1 0 0] [], .fn 280 [.ptr 3 1 1 0 0] [], .fn 281 [.ptr 3 1 1 0 0] []]
def SY1 (p : PR) : SEnv := [(253, ⟨13, 3, false, sx [.ptr 3 1 1 0 0] (runL p false 0 .nilsl) (.agg [.nilfn, .fn 277 [.ptr 3 1 1 0 0] [], .fn 278 [.ptr 3 1 1 0 0] [], .fn 279 [.ptr 3 1 1 0 0] [], .fn 280 [.ptr 3 1 1 0 0] [], .fn 281 [.ptr 3 1 1 0 0] []]) (runL p false 0 .nilsl)⟩)]
theorem kinds253 (h : List AO) (hl : h.length = 13) : SCall Tryz.prog 253 [.ptr 3 1 1 0 0] h fun r h' => r = .ret kindsA ∧ h' = h := by
  refine kept_of2 rfl (.inr (.inr ⟨by simp, fun w Fz g c hv => ?_⟩)) (fun o ho => .inl rfl) ?_
  · exact ⟨_, .agg _ #[_, _, _, _, _, _] rfl fun i hi => match i, hi with
      | 0, _ => .nilfn
      | 1, _ => .fn _ _ _ #[c] #[] rfl rfl (fun i hi => match i, hi with | 0, _ => hv) (fun i hi => absurd hi (by simp))
      | 2, _ => .fn _ _ _ #[c] #[] rfl rfl (fun i hi => match i, hi with | 0, _ => hv) (fun i hi => absurd hi (by simp))
      | 3, _ => .fn _ _ _ #[c] #[] rfl rfl (fun i hi => match i, hi with | 0, _ => hv) (fun i hi => absurd hi (by simp))
      | 4, _ => .fn _ _ _ #[c] #[] rfl rfl (fun i hi => match i, hi with | 0, _ => hv) (fun i hi => absurd hi (by simp))
      | 5, _ => .fn _ _ _ #[c] #[] rfl rfl (fun i hi => match i, hi with | 0, _ => hv) (fun i hi => absurd hi (by simp))⟩
  match h, hl with
  | [x0, x1, x2, x3, x4, x5, x6, x7, x8, x9, x10, x11, x12], _ =>
    refine scall_of (cfg_ok env_nil 13) Tryz.func253 (by kernel_rfl) rfl ?_
    generalize hK : Kept2 _ _ _ = K
    conv => whnf
    subst hK
    exact ⟨rfl, _, rfl⟩
theorem SY1_ok (p : PR) : SOK Tryz.prog (SY1 p) := sx_ok (by decide) (fun h hl _ => kinds253 h hl) st_nil
/-- The event, as a row. -/
def evR (a : Int) : Nat → List RV := fun _ => [.int .i64 1, .int .i64 1, .int .i64 19723, .int .i64 a, .int .i64 0]
/-- The loan that was paid out, with its plan. -/
def s1 (p : PR) (a : Int) (PP : Nat → Int) : ST := ⟨19723, true, 19723, p.tm.toNat, fun i => [.int .i64 (PP i)], 1, p.rt, a, 0, fun _ => [], 0, 0⟩
abbrev Plan (p : PR) (a : Int) (PP V L : Nat → Int) : Prop := SCall Tryz.prog 301 [p.av, .int .i64 19723, .int .i64 a] [] (Told (.tup [.ro 4 p.tm.toNat none (lineRV p PP V L), .int .i64 0]))
def planQ (p : PR) (a : Int) (PP V L : Nat → Int) : QSpec := fun vs => match vs with
  | [v, .int .i64 n, .int .i64 m] => some ([v = p.av ∧ n = 19723 ∧ m = a], .tup [.ro 4 p.tm.toNat none (lineRV p PP V L), .int .i64 0])
  | _ => none
theorem planQ_of {p : PR} {a : Int} {PP V L : Nat → Int} (H : Plan p a PP V L) : ∀ vs ob r, planQ p a PP V L vs = some (ob, r) → conj ob → SCall Tryz.prog 301 vs [] (Told r) := by
  intro vs ob q h hob
  unfold planQ at h
  split at h
  · simp only [Option.some.injEq, Prod.mk.injEq] at h
    obtain ⟨rfl, rfl⟩ := h
    obtain ⟨rfl, rfl, rfl⟩ := hob
    exact H
  · simp at h
end Go.Proofs.YtnnoplgabnfdiaaGreatDoor.Sh
