/- The shadow machine: texts of functions, and their calls. -/
import Derived.Test.YtepbibbeifbokaaSh19
namespace Go.Proofs.Ytepbibbeifbokaa.Sh
open Go Go.RowKit
set_option linter.unusedVariables false
set_option linter.unusedSimpArgs false

def cnt (f : Nat → Bool) : Nat → Nat
  | 0 => 0
  | n + 1 => cnt f n + (if f n then 0 else 1)
theorem cnt_same {f g : Nat → Bool} : ∀ n, (∀ i, i < n → f i = g i) → cnt f n = cnt g n
  | 0, _ => rfl
  | n + 1, h => by simp only [cnt]; rw [cnt_same n (fun i hi => h i (by omega)), h n (by omega)]
theorem cnt_set {f g : Nat → Bool} {j : Nat} (hf : f j = false) (hg : g j = true) (hs : ∀ i, i ≠ j → g i = f i) : ∀ n, j < n → cnt f n = cnt g n + 1
  | 0, h => by omega
  | n + 1, h => by
    simp only [cnt]
    by_cases e : j = n
    · subst e
      rw [hf, hg, cnt_same j (fun i hi => (hs i (by omega)).symm)]
      simp
    · rw [cnt_set hf hg hs n (by omega), hs n (fun h => e h.symm)]
      omega
theorem ext_nth {α : Type} (d : α) : ∀ (l m : List α), l.length = m.length → (∀ i, nth d l i = nth d m i) → l = m
  | [], [], _, _ => rfl
  | [], y :: m, h, _ => by simp at h
  | x :: l, [], h, _ => by simp at h
  | x :: l, y :: m, h, hn => by
    have h0 := hn 0
    simp only [nth] at h0
    rw [h0, ext_nth d l m (by simpa using h) (fun i => hn (i + 1))]
theorem chain_local {s s' : AState} : ∀ (n d : Nat) (b : Bool), (∀ p ∈ chain s n d b, getTmp s' p.1 = getTmp s p.1) → chain s' n d b = chain s n d b
  | 0, d, b, h => rfl
  | n + 1, d, b, h => by
    have h0 := h (d, b) (by simp [chain])
    simp only at h0
    simp only [chain, h0]
    congr 1
    cases hq : getTmp s d with
    | when d' b' v =>
      exact chain_local n d' b' fun p hp => h p (by simp only [chain, hq]; exact List.mem_cons_of_mem _ hp)
    | _ => rfl
theorem chainCond_local {s s' : AState} {R : Prop → Prop} : ∀ (ch : List (Nat × Bool)) (p : Prop), (∀ x ∈ ch, getTmp s' x.1 = getTmp s x.1) → chainCond s ch p R → chainCond s' ch p R
  | [], p, h, hc => hc
  | (d, b) :: r, p, h, hc => by
    have h0 := h (d, b) (by simp)
    simp only at h0
    have hr : ∀ x ∈ r, getTmp s' x.1 = getTmp s x.1 := fun x hx => h x (by simp [hx])
    unfold chainCond at hc ⊢
    rw [h0]
    split at hc
    · split at hc <;> exact chainCond_local r _ hr hc
    · split at hc <;> exact chainCond_local r _ hr hc
    · exact chainCond_local r _ hr hc
section
variable {P : Program} {c : Cfg} {E : En} {Q : Exit → Act → World → Prop} {ops : Array Oper} {flags : List (Nat × Nat)} {sts : Nat → AState} {rs ws : Nat → List Nat}
theorem ready_mem {listed : Array Bool} {i : Nat} (h : i ∈ Region.ready .any ops listed) : ∃ o, ops[i]? = some o ∧ listed.getD i true = false ∧ ∀ e ∈ o.after.toList, Region.binds .any e = true → listed.getD e.on false = true := by
  unfold Region.ready at h
  rw [List.mem_filter] at h
  obtain ⟨h1, h2⟩ := h
  rw [Bool.and_eq_true] at h2
  obtain ⟨h2, h3⟩ := h2
  cases ho : ops[i]? with
  | none => rw [ho] at h3; simp at h3
  | some o =>
    rw [ho] at h3
    refine ⟨o, rfl, by simpa using h2, fun e he hb => ?_⟩
    simp only [Option.map_some, Option.getD_some, Array.all_eq_true_iff_forall_mem] at h3
    have := h3 e (by simpa using he)
    rw [hb] at this
    simpa using this
theorem mem_ready {listed : Array Bool} {i : Nat} {o : Oper} (ho : ops[i]? = some o) (hl : listed.getD i true = false) (he : ∀ e ∈ o.after.toList, Region.binds .any e = true → listed.getD e.on false = true) : i ∈ Region.ready .any ops listed := by
  unfold Region.ready
  rw [List.mem_filter]
  refine ⟨List.mem_range.mpr (lt_of_get ho), ?_⟩
  rw [Bool.and_eq_true, ho]
  refine ⟨by simpa using hl, ?_⟩
  simp only [Option.map_some, Option.getD_some, Array.all_eq_true_iff_forall_mem]
  intro e hm
  cases hb : Region.binds .any e with
  | false => rfl
  | true => simpa using he e (by simpa using hm) hb
theorem draw_any (hc : CfgOK P c) (hb : E.base = c.base) (hst : Static ops flags) (hsteps : ∀ i, i < ops.size → ∃ o, ops[i]? = some o ∧ DStep c ops.toList o (sts i) (sts (i + 1)) (rs i) (ws i)) (h0 : ∀ x d b v, getTmp (sts 0) x ≠ .when d b v)
    (hfl : ∀ i j, (i, j) ∈ flags → (∀ x ∈ ws i, x ∉ rs j ∧ x ∉ ws j) ∧ ∀ x ∈ ws j, x ∉ rs i) (hQ : ∀ a w, St E ⟨(sts ops.size).tmps.map AV.unguard, (sts ops.size).heap⟩ a w → Q .normal a w) :
    ∀ (fuel : Nat) (listed : Array Bool) (τ : AState) (a : Act) (w : World), listed.size = ops.size → cnt (fun i => listed.getD i false) ops.size = fuel → DInv ops sts ws (fun i => listed.getD i false = true) τ → St E τ a w → wpAny P .any ops Q fuel listed a w := by
  have getD_eq : ∀ {listed : Array Bool} {i : Nat}, listed.size = ops.size → i < ops.size → listed.getD i true = listed.getD i false := fun {l i} h hi => by
    simp [Array.getD, h, hi]
  have fin : ∀ (listed : Array Bool) (τ : AState) (a : Act) (w : World), listed.size = ops.size → DInv ops sts ws (fun i => listed.getD i false = true) τ → St E τ a w → Region.ready .any ops listed = [] → Q .normal a w := by
    intro listed τ a w hsz hI hs hr
    have hall : ∀ i, i < ops.size → listed.getD i false = true := by
      intro i
      induction i using Nat.strongRecOn with
      | _ i ih =>
        intro hi
        cases hl : listed.getD i false with
        | true => rfl
        | false =>
          exfalso
          have ho : ops[i]? = some ops[i] := Array.getElem?_eq_getElem hi
          have := mem_ready (listed := listed) ho (by rw [getD_eq hsz hi]; exact hl) (fun e he hbn => by
            have := hst.edge i _ ho e he hbn
            exact ih e.on this (by omega))
          rw [hr] at this; simp at this
    have e1 : τ.tmps = (sts ops.size).tmps := ext_nth .top _ _ (hI.len.trans (can_len hst hsteps h0 ops.size (Nat.le_refl _)).1.symm) fun t => by
      obtain ⟨m, hm, he, hw⟩ := hI.tm t
      exact he.trans (can_tmp hst hsteps h0 hm (Nat.le_refl _) fun i o hi hd => by
        have h1 := hw i o hi hd
        have := h1.mp (hall i (lt_of_get hi))
        have := lt_of_get hi
        omega)
    have e2 : τ.heap = (sts ops.size).heap := ext_nth .free _ _ (hI.hlen.trans (can_len hst hsteps h0 ops.size (Nat.le_refl _)).2.symm) fun t => by
      obtain ⟨m, hm, he, hw⟩ := hI.hp t
      exact he.trans (can_heap hst hsteps h0 hm (Nat.le_refl _) fun i hi hd => by
        have := (hw i hi hd).mp (hall i hi)
        omega)
    obtain ⟨Fz, g, F, H, hon, hg⟩ := hs
    exact hQ a w ⟨Fz, g, by rw [← e1]; exact F.unguard, by rw [← e2]; exact H, hon, hg⟩
  intro fuel
  induction fuel with
  | zero =>
    intro listed τ a w hsz hcnt hI hs
    have hr : Region.ready .any ops listed = [] := by
      apply List.eq_nil_iff_forall_not_mem.mpr
      intro i hi
      obtain ⟨o, ho, hl, _⟩ := ready_mem hi
      have hlt := lt_of_get ho
      rw [getD_eq hsz hlt] at hl
      have : cnt (fun i => listed.getD i false) ops.size = cnt (fun k => listed.getD k false || k == i) ops.size + 1 := cnt_set (j := i) hl (by simp) (fun k hk => by simp [hk]) _ hlt
      omega
    exact ⟨hr, fin listed τ a w hsz hI hs hr⟩
  | succ fuel ih =>
    intro listed τ a w hsz hcnt hI hs
    refine ⟨fin listed τ a w hsz hI hs, fun j hjr => ?_⟩
    obtain ⟨oj, hj, hl, hr⟩ := ready_mem hjr
    have hjl := lt_of_get hj
    rw [getD_eq hsz hjl] at hl
    have hnj : ¬ (listed.getD j false = true) := by rw [hl]; simp
    have hset : ∀ i, (listed.setIfInBounds j true).getD i false = true ↔ (listed.getD i false = true ∨ i = j) := fun i => by
      simp only [Array.getD_eq_getD_getElem?, Array.getElem?_setIfInBounds]
      by_cases e : j = i
      · subst e; simp [hsz, hjl]
      · rw [if_neg e]; constructor
        · exact .inl
        · rintro (h | h)
          · exact h
          · exact absurd h.symm e
    have next : ∀ τ' a' w', DInv ops sts ws (fun i => listed.getD i false = true ∨ i = j) τ' → St E τ' a' w' → wpAny P .any ops Q fuel (listed.setIfInBounds j true) a' w' := fun τ' a' w' hI' hs' => by
      refine ih _ τ' a' w' (by simpa using hsz) ?_ ?_ hs'
      · have := cnt_set (f := fun i => listed.getD i false) (g := fun i => (listed.setIfInBounds j true).getD i false) (j := j) hl ((hset j).mpr (.inr rfl)) (fun i hi => by
          simp only [Array.getD_eq_getD_getElem?, Array.getElem?_setIfInBounds]
          rw [if_neg (fun e => hi e.symm)]) _ hjl
        omega
      · have : (fun i => (listed.setIfInBounds j true).getD i false = true) = (fun i => listed.getD i false = true ∨ i = j) := funext fun i => propext (hset i)
        rw [this]; exact hI'
    obtain ⟨oj', hj', hD⟩ := hsteps j hjl
    rw [hj] at hj'; cases hj'
    obtain ⟨Fz, g, F, H, hon, hg⟩ := hs
    have agt : ∀ t, t ∈ usesOf ops.toList oj → getTmp τ t = getTmp (sts j) t := fun t ht => agree_tmp hst hsteps h0 hI hj hnj hr (.inl ht)
    have agh : ∀ x, x ∈ rs j → nth .free τ.heap x = nth .free (sts j).heap x := fun x hx => agree_heap hst hsteps h0 hfl hI hj hnj hr (.inl hx)
    have hlen : (sts j).heap.length = τ.heap.length := by rw [hI.hlen]; exact (can_len hst hsteps h0 j (by omega)).2
    unfold wpOp
    rw [hj]
    simp only
    rcases hD with ⟨hgs, nid, ob, val, upd, d1, d2, d3, d4, d5, d6, d7, d8⟩ | ⟨d, b, hgs, d2, d3, nid, ob, val, d4, d5, d6, d7, d8, d9⟩
    · rw [if_pos ((guard_wanted (a := a) hgs).1 rfl)]
      refine .inl ?_
      obtain ⟨k1, _⟩ := core_local (G := c.G) (T := c.T) (eqs := c.eqs) (base := c.base) (nid := nid) (ch := []) (s := sts j) (s' := τ) (op := oj.op) (fun t ht => (agt t (List.mem_append.mpr (.inl ht))).symm) (fun x hx => (agh x (by rw [d6]; exact List.mem_append.mpr (.inr hx))).symm)
      have hcore : core c.G c.T c.eqs c.base oj.op [] τ nid = some ⟨ob, val, upd, none⟩ := by rw [← k1]; exact d1
      obtain ⟨nid', hcore', hn, hf⟩ : ∃ nid', core c.G c.T c.eqs c.base oj.op [] τ nid' = some ⟨ob, val, upd, none⟩ ∧ nid' ≤ τ.heap.length ∧ nth .free τ.heap nid' = .free := by
        cases hal : isAlloc oj.op with
        | false => exact ⟨τ.heap.length, by rw [core_nid (m := nid) hal]; exact hcore, Nat.le_refl _, nth_length _⟩
        | true =>
          have hid : nid ∈ rs j := by rw [d6]; simp [idOf, hal]
          simp only [freeAt, hal, Bool.not_true, Bool.false_or, Bool.and_eq_true] at d2
          obtain ⟨f1, f2⟩ := d2
          refine ⟨nid, hcore, by have := blt_lt f1; omega, ?_⟩
          rw [agh nid hid]
          cases hq : nth .free (sts j).heap nid with
          | free => rfl
          | _ => rw [hq] at f2; simp at f2
      refine (core_goes hc.tab hc.eqs hc.env F H (Chained.nil a) hn hf hcore' d5).1 rfl _ _ fun cc w' Fz' g' hv hH hon' => ?_
      have hvu : val.unguard = val := by
        have := vr_not_when hv
        cases val <;> first | rfl | exact absurd rfl (this _ _ _)
      rw [hvu] at d8
      exact next _ _ _ (DInv.step hst hsteps h0 hfl hI hj hnj hr d8 d3 d7 (fun t d b v hvw => absurd hvw (unwhen_not (vr_not_when hv) d b v))) ⟨Fz', g', (hon'.fr F).put_vr oj.dst hv, hH, hon.trans hon', hg⟩
    · have hw := (guard_wanted (a := a) hgs).2 d b rfl
      have hchl : ∀ p ∈ chain (sts j) 8 d b, getTmp τ p.1 = getTmp (sts j) p.1 := fun p hp => agt p.1 (List.mem_append.mpr (.inr (d2 p hp)))
      have hch : chain τ 8 d b = chain (sts j) 8 d b := chain_local 8 d b hchl
      have hV : ∀ t d' b' v, unwhen t (.when d b val) = .when d' b' v → d' ∈ gslots ops.toList 8 oj := fun t d' b' v hvw => by rw [unwhen_when hvw]; exact guardSlot_mem hgs
      have hstep : DInv ops sts ws (fun i => listed.getD i false = true ∨ i = j) ⟨(AState.put τ oj.dst (.when d b val)).tmps, τ.heap⟩ :=
        DInv.step (upd := []) hst hsteps h0 hfl hI hj hnj hr d9 (fun p hp => absurd hp (by simp)) (by simpa using d8) hV
      by_cases hwt : Region.wanted oj (yielded ops a.tmps) = true
      · rw [if_pos hwt]
        have hd := hw.mp hwt
        have hchd := chain_ok F 8 d b hd
        refine .inl ?_
        obtain ⟨k1, _⟩ := core_local (G := c.G) (T := c.T) (eqs := c.eqs) (base := c.base) (nid := nid) (ch := chain (sts j) 8 d b) (s := sts j) (s' := τ) (op := oj.op) (fun t ht => (agt t (List.mem_append.mpr (.inl ht))).symm) (fun x hx => (agh x (by rw [d7]; exact hx)).symm)
        have hcore : core c.G c.T c.eqs c.base oj.op (chain τ 8 d b) τ τ.heap.length = some ⟨ob, val, [], none⟩ := by
          rw [hch, core_nid (m := nid) d3, ← k1]; exact d4
        have hob : conj ob := by
          have := chainCond_local (s := sts j) (s' := τ) _ _ hchl d6
          rw [← hch] at this
          obtain ⟨q, hq, himp⟩ := chainCond_eq F _ _ _ (fun d' b' hm => hchd d' b' (inChain_mem hm)) this
          exact himp hq
        refine (core_goes hc.tab hc.eqs hc.env F H hchd (Nat.le_refl _) (nth_length _) hcore hob).1 rfl _ _ fun cc w' Fz' g' hv hH hon' => ?_
        exact next _ _ _ hstep ⟨Fz', g', (hon'.fr F).put oj.dst _ cc (fun t ht => by
          simp only [unwhen]
          cases e : (d == t) with
          | true => exact .top _
          | false =>
            have hne : d ≠ t := by simpa using e
            refine .inl ⟨?_, hv⟩
            rw [ht]; simp only [Act.put, getD_set]; rw [if_neg (by omega)]; exact hd), hH, hon.trans hon', hg⟩
      · rw [if_neg hwt]
        have hd : a.tmps.getD d undef ≠ .bool b := fun e => hwt (hw.mpr e)
        exact next _ _ _ hstep ⟨Fz, g, F.put oj.dst _ undef (fun t ht => by
          simp only [unwhen]
          cases e : (d == t) with
          | true => exact .top _
          | false =>
            have hne : d ≠ t := by simpa using e
            refine .inr ⟨rfl, ?_⟩
            rw [ht]; simp only [Act.put, getD_set]; rw [if_neg (by omega)]; exact hd), H, hon, hg⟩
end
end Go.Proofs.Ytepbibbeifbokaa.Sh
