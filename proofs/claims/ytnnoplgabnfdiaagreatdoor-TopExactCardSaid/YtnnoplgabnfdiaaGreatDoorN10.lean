/- Part 10 of a proof over the shadow machine. -/
import Derived.Test.YtnnoplgabnfdiaaGreatDoorN09
/- The shadow machine: every order comes to what the text's order comes to. -/
namespace Go.Proofs.YtnnoplgabnfdiaaGreatDoor.Sh
open Go Go.RowKit
set_option linter.unusedVariables false
set_option linter.unusedSimpArgs false

theorem put_get {s : AState} {t x : Nat} {v : AV} {h : List AO} (hno : ∀ b u, getTmp s x ≠ .when t b u) : getTmp ⟨(AState.put s (some t) v).tmps, h⟩ x = if t = x ∧ x < s.tmps.length then unwhen t v else getTmp s x := by
  simp only [getTmp, AState.put, nth_setNth, List.length_map]
  split
  · rfl
  · rw [map_top rfl]
    unfold getTmp at hno
    generalize nth AV.top s.tmps x = q at hno
    cases q <;> first | rfl | skip
    rename_i d b v
    simp only [unwhen]
    cases e : (d == t) with
    | false => rfl
    | true =>
      have : d = t := by simpa using e
      subst this
      exact absurd rfl (hno b v)
theorem put_length {s : AState} {d : Option Nat} {v : AV} : (AState.put s d v).tmps.length = s.tmps.length := by
  cases d <;> simp [AState.put, setNth_length]
theorem unguard_not (v : AV) : ∀ d b x, v.unguard ≠ .when d b x := by
  cases v <;> simp [AV.unguard]
theorem unwhen_not {t : Nat} {v : AV} (h : ∀ d b x, v ≠ .when d b x) : ∀ d b x, unwhen t v ≠ .when d b x := by
  rw [unwhen_of h]; exact h
theorem unwhen_when {t d : Nat} {b : Bool} {v x : AV} {d' : Nat} {b' : Bool} (h : unwhen t (.when d b v) = .when d' b' x) : d' = d := by
  simp only [unwhen] at h
  cases e : (d == t) with
  | true => rw [e] at h; simp at h
  | false => rw [e] at h; simp at h; exact h.1.symm
theorem apply_length : ∀ (upd : List (Nat × AO)) (h : List AO), (∀ p ∈ upd, p.1 < h.length) → (apply upd h).length = h.length
  | [], h, _ => rfl
  | p :: r, h, hp => by
    have h1 := hp p (by simp)
    have e : (bif Nat.blt p.1 h.length then setNth h p.1 p.2 else h ++ [p.2]) = setNth h p.1 p.2 := by rw [blt_t h1]; rfl
    simp only [apply, e]
    rw [apply_length r _ (fun q hq => by rw [setNth_length]; exact hp q (by simp [hq])), setNth_length]
theorem apply_out : ∀ (upd : List (Nat × AO)) (h : List AO) (x : Nat), (∀ p ∈ upd, p.1 < h.length) → x ∉ upd.map Prod.fst → nth .free (apply upd h) x = nth .free h x
  | [], h, x, _, _ => rfl
  | p :: r, h, x, hp, hx => by
    have h1 := hp p (by simp)
    have e : (bif Nat.blt p.1 h.length then setNth h p.1 p.2 else h ++ [p.2]) = setNth h p.1 p.2 := by rw [blt_t h1]; rfl
    simp only [apply, e]
    rw [apply_out r _ x (fun q hq => by rw [setNth_length]; exact hp q (by simp [hq])) (fun hm => hx (by simp at hm ⊢; exact .inr hm)), nth_setNth, if_neg (fun hc => hx (by simp [hc.1]))]
theorem apply_in : ∀ (upd : List (Nat × AO)) (h h' : List AO) (x : Nat), h.length = h'.length → (∀ p ∈ upd, p.1 < h.length) → x ∈ upd.map Prod.fst ∨ nth .free h x = nth .free h' x → nth .free (apply upd h) x = nth .free (apply upd h') x
  | [], h, h', x, hl, hp, hx => by
    rcases hx with hx | hx
    · simp at hx
    · exact hx
  | p :: r, h, h', x, hl, hp, hx => by
    have h1 := hp p (by simp)
    have e : (bif Nat.blt p.1 h.length then setNth h p.1 p.2 else h ++ [p.2]) = setNth h p.1 p.2 := by rw [blt_t h1]; rfl
    have e' : (bif Nat.blt p.1 h'.length then setNth h' p.1 p.2 else h' ++ [p.2]) = setNth h' p.1 p.2 := by rw [blt_t (by omega)]; rfl
    simp only [apply, e, e']
    refine apply_in r _ _ x (by rw [setNth_length, setNth_length]; exact hl) (fun q hq => by rw [setNth_length]; exact hp q (by simp [hq])) ?_
    by_cases hp1 : p.1 = x
    · refine .inr ?_
      rw [nth_setNth, nth_setNth, if_pos ⟨hp1, by omega⟩, if_pos ⟨hp1, by omega⟩]
    · rcases hx with hx | hx
      · simp only [List.map_cons, List.mem_cons] at hx
        rcases hx with hx | hx
        · exact absurd hx.symm hp1
        · exact .inl hx
      · refine .inr ?_
        rw [nth_setNth, nth_setNth, if_neg (fun hc => hp1 hc.1), if_neg (fun hc => hp1 hc.1)]
        exact hx
theorem guardSlot_mem {all : List Oper} {o : Oper} {d : Nat} {w : Bool} (h : guardSlot all o = some (some (d, w))) : d ∈ gslots all 8 o := by
  unfold guardSlot at h
  split at h
  · simp at h
  · rename_i j w' hg
    split at h
    · rename_i og hog
      split at h
      · rename_i d' hd
        simp only [Option.some.injEq, Prod.mk.injEq] at h
        show d ∈ gslots all (7 + 1) o
        rw [gslots]
        simp only [hg, hog, hd, h.1]
        simp
      · simp at h
    · simp at h

/-- What a step does, in short. -/
theorem DStep.short {c : Cfg} {all : List Oper} {o : Oper} {s s' : AState} {rs ws : List Nat} (h : DStep c all o s s' rs ws) : ∃ V upd, s' = ⟨(AState.put s o.dst V).tmps, apply upd s.heap⟩ ∧ (∀ p ∈ upd, p.1 < s.heap.length) ∧ ws = upd.map Prod.fst ∧
    (∀ t d b v, unwhen t V = .when d b v → d ∈ gslots all 8 o) := by
  rcases h with ⟨hg, nid, ob, val, upd, h1, h2, h3, h4, h5, h6, h7, h8⟩ | ⟨d, w, hg, h2, h3, nid, ob, val, h4, h5, h6, h7, h8, h9⟩
  · exact ⟨_, upd, h8, h3, h7, fun t d b v hv => absurd hv (unwhen_not (unguard_not val) d b v)⟩
  · exact ⟨_, [], h9, fun p hp => absurd hp (by simp), by simpa using h8, fun t d' b v hv => by rw [unwhen_when hv]; exact guardSlot_mem hg⟩

section
variable {c : Cfg} {ops : Array Oper} {flags : List (Nat × Nat)} {sts : Nat → AState} {rs ws : Nat → List Nat}
variable (hst : Static ops flags) (hsteps : ∀ i, i < ops.size → ∃ o, ops[i]? = some o ∧ DStep c ops.toList o (sts i) (sts (i + 1)) (rs i) (ws i)) (h0 : ∀ x d b v, getTmp (sts 0) x ≠ .when d b v)
include hst hsteps h0
theorem can_when : ∀ m, m ≤ ops.size → ∀ x d b v, getTmp (sts m) x = .when d b v → ∃ k o, k < m ∧ ops[k]? = some o ∧ d ∈ gslots ops.toList 8 o
  | 0, hm, x, d, b, v, hv => absurd hv (h0 x d b v)
  | m + 1, hm, x, d, b, v, hv => by
    obtain ⟨o, ho, hs⟩ := hsteps m (by omega)
    obtain ⟨V, upd, h1, h2, h3, h4⟩ := hs.short
    rw [h1] at hv
    have ih := can_when m (by omega)
    cases hd : o.dst with
    | none =>
      rw [hd] at hv
      obtain ⟨k, o', a1, a2⟩ := ih x d b v hv
      exact ⟨k, o', by omega, a2⟩
    | some t =>
      rw [hd] at hv
      by_cases hx : ∃ b u, getTmp (sts m) x = .when t b u
      · obtain ⟨b', u, hx⟩ := hx
        obtain ⟨k, o', a1, a2, a3⟩ := ih x t b' u hx
        have := hst.late k m o' o a2 ho (by omega)
        rw [hd] at this
        simp only [dstIn] at this
        exact absurd a3 (by simpa using this)
      · rw [put_get (fun b u e => hx ⟨b, u, e⟩)] at hv
        split at hv
        · exact ⟨m, o, by omega, ho, h4 _ _ _ _ hv⟩
        · obtain ⟨k, o', a1, a2⟩ := ih x d b v hv
          exact ⟨k, o', by omega, a2⟩
theorem can_get {i : Nat} (hi : i < ops.size) : ∃ o V upd, ops[i]? = some o ∧ (∀ p ∈ upd, p.1 < (sts i).heap.length) ∧ ws i = upd.map Prod.fst ∧ (sts (i + 1)).heap = apply upd (sts i).heap ∧ (sts (i + 1)).tmps.length = (sts i).tmps.length ∧
    (∀ x, getTmp (sts (i + 1)) x = match o.dst with | some t => if t = x ∧ x < (sts i).tmps.length then unwhen t V else getTmp (sts i) x | none => getTmp (sts i) x) ∧ (sts (i + 1)).tmps = (AState.put (sts i) o.dst V).tmps := by
  obtain ⟨o, ho, hs⟩ := hsteps i hi
  obtain ⟨V, upd, h1, h2, h3, h4⟩ := hs.short
  refine ⟨o, V, upd, ho, h2, h3, by rw [h1], by rw [h1]; exact put_length, fun x => ?_, by rw [h1]⟩
  rw [h1]
  cases hd : o.dst with
  | none => rfl
  | some t =>
    simp only
    refine put_get fun b u e => ?_
    obtain ⟨k, o', a1, a2, a3⟩ := can_when hst hsteps h0 i (by omega) x t b u e
    have := hst.late k i o' o a2 ho (by omega)
    rw [hd] at this
    simp only [dstIn] at this
    exact absurd a3 (by simpa using this)
theorem can_len : ∀ m, m ≤ ops.size → (sts m).tmps.length = (sts 0).tmps.length ∧ (sts m).heap.length = (sts 0).heap.length
  | 0, _ => ⟨rfl, rfl⟩
  | m + 1, hm => by
    obtain ⟨o, V, upd, h1, h2, h3, h4, h5, _⟩ := can_get hst hsteps h0 (i := m) (by omega)
    obtain ⟨a1, a2⟩ := can_len m (by omega)
    exact ⟨h5.trans a1, by rw [h4, apply_length _ _ h2]; exact a2⟩
theorem can_tmp_le {t : Nat} : ∀ (q m : Nat), m + q ≤ ops.size → (∀ i o, ops[i]? = some o → o.dst = some t → m ≤ i → i < m + q → False) → getTmp (sts m) t = getTmp (sts (m + q)) t
  | 0, m, h, hw => rfl
  | q + 1, m, h, hw => by
    rw [can_tmp_le q m (by omega) (fun i o a b c d => hw i o a b c (by omega))]
    obtain ⟨o, V, upd, h1, h2, h3, h4, h5, h6, _⟩ := can_get hst hsteps h0 (i := m + q) (by omega)
    have := h6 t
    cases hd : o.dst with
    | none => rw [hd] at this; exact this.symm
    | some t' =>
      rw [hd] at this
      by_cases e : t' = t
      · subst e; exact (hw (m + q) o h1 hd (by omega) (by omega)).elim
      · simp only at this; rw [if_neg (fun hc => e hc.1)] at this; exact this.symm
theorem can_tmp {t m m' : Nat} (hm : m ≤ ops.size) (hm' : m' ≤ ops.size) (hw : ∀ (i : Nat) (o : Oper), ops[i]? = some o → o.dst = some t → (i < m ↔ i < m')) : getTmp (sts m) t = getTmp (sts m') t := by
  rcases Nat.le_total m m' with h | h
  · obtain ⟨q, rfl⟩ : ∃ q, m' = m + q := ⟨m' - m, by omega⟩
    exact can_tmp_le hst hsteps h0 q m hm' (fun i o a b c d => by have := (hw i o a b).mpr d; omega)
  · obtain ⟨q, rfl⟩ : ∃ q, m = m' + q := ⟨m - m', by omega⟩
    exact (can_tmp_le hst hsteps h0 q m' hm (fun i o a b c d => by have := (hw i o a b).mp d; omega)).symm
theorem can_heap_le {x : Nat} : ∀ (q m : Nat), m + q ≤ ops.size → (∀ i, x ∈ ws i → m ≤ i → i < m + q → False) → nth .free (sts m).heap x = nth .free (sts (m + q)).heap x
  | 0, m, h, hw => rfl
  | q + 1, m, h, hw => by
    rw [can_heap_le q m (by omega) (fun i b c d => hw i b c (by omega))]
    obtain ⟨o, V, upd, h1, h2, h3, h4, h5, h6, _⟩ := can_get hst hsteps h0 (i := m + q) (by omega)
    show _ = nth .free (sts (m + q + 1)).heap x
    rw [h4, apply_out _ _ _ h2]
    rw [← h3]
    exact fun hx => hw (m + q) hx (by omega) (by omega)
theorem can_heap {x m m' : Nat} (hm : m ≤ ops.size) (hm' : m' ≤ ops.size) (hw : ∀ i, i < ops.size → x ∈ ws i → (i < m ↔ i < m')) : nth .free (sts m).heap x = nth .free (sts m').heap x := by
  rcases Nat.le_total m m' with h | h
  · obtain ⟨q, rfl⟩ : ∃ q, m' = m + q := ⟨m' - m, by omega⟩
    exact can_heap_le hst hsteps h0 q m hm' (fun i b c d => by have := (hw i (by omega) b).mpr d; omega)
  · obtain ⟨q, rfl⟩ : ∃ q, m = m' + q := ⟨m - m', by omega⟩
    exact (can_heap_le hst hsteps h0 q m' hm (fun i b c d => by have := (hw i (by omega) b).mp d; omega)).symm
end

/-- Where an order stands: L has been done. -/
structure DInv (ops : Array Oper) (sts : Nat → AState) (ws : Nat → List Nat) (L : Nat → Prop) (τ : AState) : Prop where
  len : τ.tmps.length = (sts 0).tmps.length
  hlen : τ.heap.length = (sts 0).heap.length
  tm : ∀ t, ∃ m, m ≤ ops.size ∧ getTmp τ t = getTmp (sts m) t ∧ ∀ (i : Nat) (o : Oper), ops[i]? = some o → o.dst = some t → (L i ↔ i < m)
  hp : ∀ x, ∃ m, m ≤ ops.size ∧ nth .free τ.heap x = nth .free (sts m).heap x ∧ ∀ i, i < ops.size → x ∈ ws i → (L i ↔ i < m)
  wh : ∀ x d b v, getTmp τ x = .when d b v → ∃ (k : Nat) (o : Oper), L k ∧ ops[k]? = some o ∧ d ∈ gslots ops.toList 8 o
  down : ∀ (i : Nat) (o : Oper), L i → ops[i]? = some o → ∀ e ∈ o.after.toList, Region.binds .any e = true → L e.on
theorem lt_of_get {ops : Array Oper} {i : Nat} {o : Oper} (h : ops[i]? = some o) : i < ops.size := by
  rcases Nat.lt_or_ge i ops.size with e | e
  · exact e
  · rw [Array.getElem?_eq_none e] at h; cases h
theorem bef_down {ops : Array Oper} {flags : List (Nat × Nat)} (hst : Static ops flags) {L : Nat → Prop} (hL : ∀ (i : Nat) (o : Oper), L i → ops[i]? = some o → ∀ e ∈ o.after.toList, Region.binds .any e = true → L e.on) :
    ∀ (i k : Nat) (o : Oper), ops[i]? = some o → (∀ e ∈ o.after.toList, Region.binds .any e = true → L e.on) → k ∈ (befores ops.toList []).getD i [] → L k := by
  intro i
  induction i using Nat.strongRecOn with
  | _ i ih =>
    intro k o ho hr hk
    obtain ⟨e, he, hb, hk⟩ := before_step (all := ops.toList) (by simpa using ho) (hst.edge i o ho) hk
    have hlt := hst.edge i o ho e he hb
    rcases hk with rfl | hk
    · exact hr e he hb
    · have hlt2 : e.on < ops.size := by have := lt_of_get ho; omega
      obtain ⟨o', ho'⟩ : ∃ o', ops[e.on]? = some o' := ⟨_, Array.getElem?_eq_getElem hlt2⟩
      exact ih e.on hlt k o' ho' (hL e.on o' (hr e he hb) ho') hk

section
variable {c : Cfg} {ops : Array Oper} {flags : List (Nat × Nat)} {sts : Nat → AState} {rs ws : Nat → List Nat} {L : Nat → Prop} {τ : AState} {j : Nat} {oj : Oper}
variable (hst : Static ops flags) (hsteps : ∀ i, i < ops.size → ∃ o, ops[i]? = some o ∧ DStep c ops.toList o (sts i) (sts (i + 1)) (rs i) (ws i)) (h0 : ∀ x d b v, getTmp (sts 0) x ≠ .when d b v)
variable (hfl : ∀ i j, (i, j) ∈ flags → (∀ x ∈ ws i, x ∉ rs j ∧ x ∉ ws j) ∧ ∀ x ∈ ws j, x ∉ rs i)
variable (hI : DInv ops sts ws L τ) (hj : ops[j]? = some oj) (hnj : ¬ L j) (hr : ∀ e ∈ oj.after.toList, Region.binds .any e = true → L e.on)
include hst hI hj hnj hr
/-- An operation that must not change places with this one has been done just if it stands ahead. -/
theorem meets_order {i : Nat} {oi : Oper} (hi : ops[i]? = some oi) (hm : (i < j → apartOps ops.toList flags i j oi oj = false) ∧ (j < i → apartOps ops.toList flags j i oj oi = false)) (hne : i ≠ j) : L i ↔ i < j := by
  rcases Nat.lt_or_gt_of_ne hne with h | h
  · rcases hst.pair i j oi oj h hi hj with hb | hb
    · exact ⟨fun _ => h, fun _ => bef_down hst hI.down j i oj hj hr hb⟩
    · rw [hm.1 h] at hb; cases hb
  · rcases hst.pair j i oj oi h hj hi with hb | hb
    · refine ⟨fun hL => absurd (bef_down hst hI.down i j oi hi (hI.down i oi hL hi) hb) hnj, fun h' => by omega⟩
    · rw [hm.2 h] at hb; cases hb
omit hst hI hj hnj hr in
theorem apart_tmp {i : Nat} {oi oj : Oper} {all : List Oper} {j : Nat} (h : apartOps all flags i j oi oj = true) : (∀ t, oi.dst = some t → t ∉ usesOf all oj ∧ oj.dst ≠ some t) ∧ ∀ t, oj.dst = some t → t ∉ usesOf all oi := by
  simp only [apartOps, Bool.and_eq_true] at h
  obtain ⟨⟨⟨h1, h2⟩, h3⟩, h4⟩ := h
  refine ⟨fun t ht => ⟨?_, ?_⟩, fun t ht => ?_⟩
  · rw [ht] at h1; simpa [dstIn] using h1
  · rw [ht] at h3; simpa using h3
  · rw [ht] at h2; simpa [dstIn] using h2
/-- An operation that writes slot t, which this one names, keeps its place. -/
theorem tmp_order {i t : Nat} {oi : Oper} (hi : ops[i]? = some oi) (hd : oi.dst = some t) (ht : t ∈ usesOf ops.toList oj ∨ oj.dst = some t) (hne : i ≠ j) : L i ↔ i < j := by
  refine meets_order hst hI hj hnj hr hi ⟨fun _ => ?_, fun _ => ?_⟩ hne
  · cases hb : apartOps ops.toList flags i j oi oj with
    | false => rfl
    | true =>
      obtain ⟨h1, h2⟩ := apart_tmp hb
      obtain ⟨a1, a2⟩ := h1 t hd
      rcases ht with ht | ht
      · exact absurd ht a1
      · exact absurd ht a2
  · cases hb : apartOps ops.toList flags j i oj oi with
    | false => rfl
    | true =>
      obtain ⟨h1, h2⟩ := apart_tmp hb
      rcases ht with ht | ht
      · exact absurd ht (h2 t hd)
      · exact absurd hd (h1 t ht).2
include hsteps h0
theorem agree_tmp {t : Nat} (ht : t ∈ usesOf ops.toList oj ∨ oj.dst = some t) : getTmp τ t = getTmp (sts j) t := by
  obtain ⟨m, hm, he, hw⟩ := hI.tm t
  rw [he]
  have hjl := lt_of_get hj
  refine can_tmp hst hsteps h0 hm (by omega) fun i o hi hd => ?_
  by_cases hij : i = j
  · subst hij
    have := hw i o hi hd
    exact ⟨fun h => absurd (this.mpr h) hnj, fun h => by omega⟩
  · rw [← hw i o hi hd]
    exact tmp_order hst hI hj hnj hr hi hd ht hij
omit hst hI hj hnj hr hsteps h0 in
theorem class_of {o : Oper} {c : Cfg} {all : List Oper} {s s' : AState} {rs ws : List Nat} (h : DStep c all o s s' rs ws) : (memClass o.op = 0 → rs = [] ∧ ws = []) ∧ (memClass o.op = 1 → ws = []) := by
  have key : ∀ {upd : List (Nat × AO)}, classOk o.op rs upd = true → (memClass o.op = 0 → rs = [] ∧ upd = []) ∧ (memClass o.op = 1 → upd = []) := fun {upd} hc => by
    simp only [classOk, Bool.and_eq_true, Bool.or_eq_true] at hc
    obtain ⟨h1, h2⟩ := hc
    refine ⟨fun h => ⟨?_, ?_⟩, fun h => ?_⟩
    · rcases h2 with h2 | h2
      · rw [h] at h2; simp at h2
      · simpa using h2
    · rcases h1 with h1 | h1
      · rw [h] at h1; simp at h1
      · simpa using h1
    · rcases h1 with h1 | h1
      · rw [h] at h1; simp at h1
      · simpa using h1
  rcases h with ⟨hg, nid, ob, val, upd, h1, h2, h3, h4, h5, h6, h7, h8⟩ | ⟨d, w, hg, h2, h3, nid, ob, val, h4, h5, h6, h7, h8, h9⟩
  · obtain ⟨k1, k2⟩ := key h4
    exact ⟨fun h => ⟨(k1 h).1, by rw [h7, (k1 h).2]; rfl⟩, fun h => by rw [h7, k2 h]; rfl⟩
  · obtain ⟨k1, k2⟩ := key h5
    exact ⟨fun h => ⟨(k1 h).1, h8⟩, fun h => h8⟩
include hfl
omit h0 in
/-- An operation that writes object x, which this one looks at or writes, keeps its place. -/
theorem heap_order {i x : Nat} (hi : i < ops.size) (hx : x ∈ ws i) (hxj : x ∈ rs j ∨ x ∈ ws j) (hne : i ≠ j) : L i ↔ i < j := by
  obtain ⟨oi, hoi, hsi⟩ := hsteps i hi
  obtain ⟨oj', hoj', hsj⟩ := hsteps j (lt_of_get hj)
  rw [hj] at hoj'; cases hoj'
  obtain ⟨c1, c2⟩ := class_of hsi
  obtain ⟨d1, d2⟩ := class_of hsj
  have no : ∀ {a b : Nat} {oa ob : Oper}, apartOps ops.toList flags a b oa ob = true → (memClass oa.op = 0 ∨ memClass ob.op = 0 ∨ (memClass oa.op = 1 ∧ memClass ob.op = 1)) ∨ (a, b) ∈ flags := fun {a b oa ob} h => by
    simp only [apartOps, Bool.and_eq_true, Bool.or_eq_true, beq_iff_eq] at h
    obtain ⟨_, h4⟩ := h
    rcases h4 with ((h4 | h4) | h4) | h4
    · exact .inl (.inl h4)
    · exact .inl (.inr (.inl h4))
    · exact .inl (.inr (.inr h4))
    · exact .inr (by simpa using h4)
  refine meets_order hst hI hj hnj hr hoi ⟨fun _ => ?_, fun _ => ?_⟩ hne
  · cases hb : apartOps ops.toList flags i j oi oj with
    | false => rfl
    | true =>
      exfalso
      rcases no hb with (h | h | ⟨h, _⟩) | h
      · rw [(c1 h).2] at hx; simp at hx
      · rw [(d1 h).1, (d1 h).2] at hxj; simp at hxj
      · rw [c2 h] at hx; simp at hx
      · obtain ⟨a1, _⟩ := hfl i j h
        rcases hxj with hxj | hxj
        · exact (a1 x hx).1 hxj
        · exact (a1 x hx).2 hxj
  · cases hb : apartOps ops.toList flags j i oj oi with
    | false => rfl
    | true =>
      exfalso
      rcases no hb with (h | h | ⟨_, h⟩) | h
      · rw [(d1 h).1, (d1 h).2] at hxj; simp at hxj
      · rw [(c1 h).2] at hx; simp at hx
      · rw [c2 h] at hx; simp at hx
      · obtain ⟨a1, a2⟩ := hfl j i h
        rcases hxj with hxj | hxj
        · exact a2 x hx hxj
        · exact (a1 x hxj).2 hx
theorem agree_heap {x : Nat} (hx : x ∈ rs j ∨ x ∈ ws j) : nth .free τ.heap x = nth .free (sts j).heap x := by
  obtain ⟨m, hm, he, hw⟩ := hI.hp x
  rw [he]
  have hjl := lt_of_get hj
  refine can_heap hst hsteps h0 hm (by omega) fun i hi hd => ?_
  by_cases hij : i = j
  · subst hij
    have := hw i hi hd
    exact ⟨fun h => absurd (this.mpr h) hnj, fun h => by omega⟩
  · rw [← hw i hi hd]
    exact heap_order hst hsteps hfl hI hj hnj hr hi hd hx hij
/-- The next state of an order. -/
theorem DInv.step {V : AV} {upd : List (Nat × AO)} (hs : (sts (j + 1)) = ⟨(AState.put (sts j) oj.dst V).tmps, apply upd (sts j).heap⟩) (hu : ∀ p ∈ upd, p.1 < (sts j).heap.length) (hws : ws j = upd.map Prod.fst) (hV : ∀ t d b v, unwhen t V = .when d b v → d ∈ gslots ops.toList 8 oj) :
    DInv ops sts ws (fun i => L i ∨ i = j) ⟨(AState.put τ oj.dst V).tmps, apply upd τ.heap⟩ := by
  have hjl := lt_of_get hj
  obtain ⟨l1, l2⟩ := can_len hst hsteps h0 j (by omega)
  have hu' : ∀ p ∈ upd, p.1 < τ.heap.length := fun p hp => by rw [hI.hlen, ← l2]; exact hu p hp
  have hno : ∀ t, oj.dst = some t → ∀ x b u, getTmp τ x ≠ .when t b u := fun t ht x b u e => by
    obtain ⟨k, o, hL, ho, hg⟩ := hI.wh x t b u e
    by_cases hjk : j < k
    · have hkj : k ≠ j := by omega
      have hap : apartOps ops.toList flags j k oj o = false := by
        cases hb : apartOps ops.toList flags j k oj o with
        | false => rfl
        | true =>
          obtain ⟨h1, _⟩ := apart_tmp hb
          exact absurd (List.mem_append.mpr (.inr hg)) (h1 t ht).1
      have := (meets_order hst hI hj hnj hr ho ⟨fun h => by omega, fun _ => hap⟩ hkj).mp hL
      omega
    · have := hst.late k j o oj ho hj (by omega)
      rw [ht] at this
      simp only [dstIn] at this
      exact absurd hg (by simpa using this)
  have hnoc : ∀ t, oj.dst = some t → ∀ x b u, getTmp (sts j) x ≠ .when t b u := fun t ht x b u e => by
    obtain ⟨k, o, a1, a2, a3⟩ := can_when hst hsteps h0 j (by omega) x t b u e
    have := hst.late k j o oj a2 hj (by omega)
    rw [ht] at this
    simp only [dstIn] at this
    exact absurd a3 (by simpa using this)
  have hget : ∀ x, getTmp ⟨(AState.put τ oj.dst V).tmps, apply upd τ.heap⟩ x = match oj.dst with | some t => if t = x ∧ x < τ.tmps.length then unwhen t V else getTmp τ x | none => getTmp τ x := fun x => by
    cases hd : oj.dst with
    | none => rfl
    | some t => exact put_get (fun b u e => hno t hd x b u e)
  have hgetc : ∀ x, getTmp (sts (j + 1)) x = match oj.dst with | some t => if t = x ∧ x < (sts j).tmps.length then unwhen t V else getTmp (sts j) x | none => getTmp (sts j) x := fun x => by
    rw [hs]
    cases hd : oj.dst with
    | none => rfl
    | some t => exact put_get (fun b u e => hnoc t hd x b u e)
  refine ⟨by rw [put_length]; exact hI.len, by rw [apply_length _ _ hu']; exact hI.hlen, fun t => ?_, fun x => ?_, fun x d b v hv => ?_, fun i o hL ho e he hb => ?_⟩
  · by_cases hd : oj.dst = some t
    · refine ⟨j + 1, by omega, ?_, fun i o hi hdi => ?_⟩
      · rw [hget, hgetc, hd]
        simp only
        rw [hI.len, l1]
        by_cases hlt : t < (sts 0).tmps.length
        · simp only [hlt, and_self, if_true]
        · simp only [hlt, and_false, if_false]
          exact agree_tmp hst hsteps h0 hI hj hnj hr (.inr hd)
      · by_cases hij : i = j
        · subst hij; exact ⟨fun _ => by omega, fun _ => .inr rfl⟩
        · have := tmp_order hst hI hj hnj hr hi hdi (.inr hd) hij
          constructor
          · rintro (h | h)
            · have := this.mp h; omega
            · exact absurd h hij
          · intro h; exact .inl (this.mpr (by omega))
    · obtain ⟨m, hm, he, hw⟩ := hI.tm t
      refine ⟨m, hm, ?_, fun i o hi hdi => ?_⟩
      · rw [hget, ← he]
        cases hd2 : oj.dst with
        | none => rfl
        | some t' =>
          simp only
          rw [if_neg (fun hc => hd (by rw [hd2, hc.1]))]
      · rw [← hw i o hi hdi]
        have : i ≠ j := fun e => by subst e; rw [hj] at hi; cases hi; exact hd hdi
        exact ⟨fun h => h.elim id (fun e => absurd e this), .inl⟩
  · by_cases hx : x ∈ ws j
    · refine ⟨j + 1, by omega, ?_, fun i hi hxi => ?_⟩
      · show nth .free (apply upd τ.heap) x = _
        rw [hs]
        exact apply_in _ _ _ x (by rw [hI.hlen, l2]) hu' (.inl (by rw [← hws]; exact hx))
      · by_cases hij : i = j
        · subst hij; exact ⟨fun _ => by omega, fun _ => .inr rfl⟩
        · have := heap_order hst hsteps hfl hI hj hnj hr hi hxi (.inr hx) hij
          constructor
          · rintro (h | h)
            · have := this.mp h; omega
            · exact absurd h hij
          · intro h; exact .inl (this.mpr (by omega))
    · obtain ⟨m, hm, he, hw⟩ := hI.hp x
      refine ⟨m, hm, ?_, fun i hi hxi => ?_⟩
      · show nth .free (apply upd τ.heap) x = _
        rw [apply_out _ _ _ hu' (by rw [← hws]; exact hx)]
        exact he
      · rw [← hw i hi hxi]
        have : i ≠ j := fun e => by subst e; exact hx hxi
        exact ⟨fun h => h.elim id (fun e => absurd e this), .inl⟩
  · rw [hget] at hv
    cases hd : oj.dst with
    | none =>
      rw [hd] at hv
      obtain ⟨k, o, a1, a2⟩ := hI.wh x d b v hv
      exact ⟨k, o, .inl a1, a2⟩
    | some t =>
      rw [hd] at hv
      simp only at hv
      split at hv
      · exact ⟨j, oj, .inr rfl, hj, hV _ _ _ _ hv⟩
      · obtain ⟨k, o, a1, a2⟩ := hI.wh x d b v hv
        exact ⟨k, o, .inl a1, a2⟩
  · rcases hL with hL | hL
    · exact .inl (hI.down i o hL ho e he hb)
    · subst hL; rw [hj] at ho; cases ho; exact .inl (hr e he hb)
end
end Go.Proofs.YtnnoplgabnfdiaaGreatDoor.Sh
/- The shadow machine: texts of functions, and their calls. -/
namespace Go.Proofs.YtnnoplgabnfdiaaGreatDoor.Sh
open Go Go.RowKit
set_option linter.unusedVariables false
set_option linter.unusedSimpArgs false

def cnt (f : Nat → Bool) : Nat → Nat
  | 0 => 0
  | n + 1 => cnt f n + (if f n then 0 else 1)
theorem cnt_same {f g : Nat → Bool} : ∀ n, (∀ i, i < n → f i = g i) → cnt f n = cnt g n
  | 0, _ => rfl
  | n + 1, h => by simp only [cnt]; rw [cnt_same n (fun i hi => h i (by omega)), h n (by omega)]
theorem cnt_set {f g : Nat → Bool} {j : Nat} (hf : f j = false) (hg : g j = true) (hs : ∀ i, i ≠ j → g i = f i) : ∀ n, j < n → cnt f n = cnt g n + 1
  | 0, h => by omega
  | n + 1, h => by
    simp only [cnt]
    by_cases e : j = n
    · subst e
      rw [hf, hg, cnt_same j (fun i hi => (hs i (by omega)).symm)]
      simp
    · rw [cnt_set hf hg hs n (by omega), hs n (fun h => e h.symm)]
      omega
theorem ext_nth {α : Type} (d : α) : ∀ (l m : List α), l.length = m.length → (∀ i, nth d l i = nth d m i) → l = m
  | [], [], _, _ => rfl
  | [], y :: m, h, _ => by simp at h
  | x :: l, [], h, _ => by simp at h
  | x :: l, y :: m, h, hn => by
    have h0 := hn 0
    simp only [nth] at h0
    rw [h0, ext_nth d l m (by simpa using h) (fun i => hn (i + 1))]
theorem chain_local {s s' : AState} : ∀ (n d : Nat) (b : Bool), (∀ p ∈ chain s n d b, getTmp s' p.1 = getTmp s p.1) → chain s' n d b = chain s n d b
  | 0, d, b, h => rfl
  | n + 1, d, b, h => by
    have h0 := h (d, b) (by simp [chain])
    simp only at h0
    simp only [chain, h0]
    congr 1
    cases hq : getTmp s d with
    | when d' b' v =>
      exact chain_local n d' b' fun p hp => h p (by simp only [chain, hq]; exact List.mem_cons_of_mem _ hp)
    | _ => rfl
theorem chainCond_local {s s' : AState} {R : Prop → Prop} : ∀ (ch : List (Nat × Bool)) (p : Prop), (∀ x ∈ ch, getTmp s' x.1 = getTmp s x.1) → chainCond s ch p R → chainCond s' ch p R
  | [], p, h, hc => hc
  | (d, b) :: r, p, h, hc => by
    have h0 := h (d, b) (by simp)
    simp only at h0
    have hr : ∀ x ∈ r, getTmp s' x.1 = getTmp s x.1 := fun x hx => h x (by simp [hx])
    unfold chainCond at hc ⊢
    rw [h0]
    split at hc
    · split at hc <;> exact chainCond_local r _ hr hc
    · split at hc <;> exact chainCond_local r _ hr hc
    · exact chainCond_local r _ hr hc
section
variable {P : Program} {c : Cfg} {E : En} {Q : Exit → Act → World → Prop} {ops : Array Oper} {flags : List (Nat × Nat)} {sts : Nat → AState} {rs ws : Nat → List Nat}
theorem ready_mem {listed : Array Bool} {i : Nat} (h : i ∈ Region.ready .any ops listed) : ∃ o, ops[i]? = some o ∧ listed.getD i true = false ∧ ∀ e ∈ o.after.toList, Region.binds .any e = true → listed.getD e.on false = true := by
  unfold Region.ready at h
  rw [List.mem_filter] at h
  obtain ⟨h1, h2⟩ := h
  rw [Bool.and_eq_true] at h2
  obtain ⟨h2, h3⟩ := h2
  cases ho : ops[i]? with
  | none => rw [ho] at h3; simp at h3
  | some o =>
    rw [ho] at h3
    refine ⟨o, rfl, by simpa using h2, fun e he hb => ?_⟩
    simp only [Option.map_some, Option.getD_some, Array.all_eq_true_iff_forall_mem] at h3
    have := h3 e (by simpa using he)
    rw [hb] at this
    simpa using this
theorem mem_ready {listed : Array Bool} {i : Nat} {o : Oper} (ho : ops[i]? = some o) (hl : listed.getD i true = false) (he : ∀ e ∈ o.after.toList, Region.binds .any e = true → listed.getD e.on false = true) : i ∈ Region.ready .any ops listed := by
  unfold Region.ready
  rw [List.mem_filter]
  refine ⟨List.mem_range.mpr (lt_of_get ho), ?_⟩
  rw [Bool.and_eq_true, ho]
  refine ⟨by simpa using hl, ?_⟩
  simp only [Option.map_some, Option.getD_some, Array.all_eq_true_iff_forall_mem]
  intro e hm
  cases hb : Region.binds .any e with
  | false => rfl
  | true => simpa using he e (by simpa using hm) hb
theorem draw_any (hc : CfgOK P c) (hb : E.base = c.base) (hst : Static ops flags) (hsteps : ∀ i, i < ops.size → ∃ o, ops[i]? = some o ∧ DStep c ops.toList o (sts i) (sts (i + 1)) (rs i) (ws i)) (h0 : ∀ x d b v, getTmp (sts 0) x ≠ .when d b v)
    (hfl : ∀ i j, (i, j) ∈ flags → (∀ x ∈ ws i, x ∉ rs j ∧ x ∉ ws j) ∧ ∀ x ∈ ws j, x ∉ rs i) (hQ : ∀ a w, St E ⟨(sts ops.size).tmps.map AV.unguard, (sts ops.size).heap⟩ a w → Q .normal a w) :
    ∀ (fuel : Nat) (listed : Array Bool) (τ : AState) (a : Act) (w : World), listed.size = ops.size → cnt (fun i => listed.getD i false) ops.size = fuel → DInv ops sts ws (fun i => listed.getD i false = true) τ → St E τ a w → wpAny P .any ops Q fuel listed a w := by
  have getD_eq : ∀ {listed : Array Bool} {i : Nat}, listed.size = ops.size → i < ops.size → listed.getD i true = listed.getD i false := fun {l i} h hi => by
    simp [Array.getD, h, hi]
  have fin : ∀ (listed : Array Bool) (τ : AState) (a : Act) (w : World), listed.size = ops.size → DInv ops sts ws (fun i => listed.getD i false = true) τ → St E τ a w → Region.ready .any ops listed = [] → Q .normal a w := by
    intro listed τ a w hsz hI hs hr
    have hall : ∀ i, i < ops.size → listed.getD i false = true := by
      intro i
      induction i using Nat.strongRecOn with
      | _ i ih =>
        intro hi
        cases hl : listed.getD i false with
        | true => rfl
        | false =>
          exfalso
          have ho : ops[i]? = some ops[i] := Array.getElem?_eq_getElem hi
          have := mem_ready (listed := listed) ho (by rw [getD_eq hsz hi]; exact hl) (fun e he hbn => by
            have := hst.edge i _ ho e he hbn
            exact ih e.on this (by omega))
          rw [hr] at this; simp at this
    have e1 : τ.tmps = (sts ops.size).tmps := ext_nth .top _ _ (hI.len.trans (can_len hst hsteps h0 ops.size (Nat.le_refl _)).1.symm) fun t => by
      obtain ⟨m, hm, he, hw⟩ := hI.tm t
      exact he.trans (can_tmp hst hsteps h0 hm (Nat.le_refl _) fun i o hi hd => by
        have h1 := hw i o hi hd
        have := h1.mp (hall i (lt_of_get hi))
        have := lt_of_get hi
        omega)
    have e2 : τ.heap = (sts ops.size).heap := ext_nth .free _ _ (hI.hlen.trans (can_len hst hsteps h0 ops.size (Nat.le_refl _)).2.symm) fun t => by
      obtain ⟨m, hm, he, hw⟩ := hI.hp t
      exact he.trans (can_heap hst hsteps h0 hm (Nat.le_refl _) fun i hi hd => by
        have := (hw i hi hd).mp (hall i hi)
        omega)
    obtain ⟨Fz, g, F, H, hon, hg⟩ := hs
    exact hQ a w ⟨Fz, g, by rw [← e1]; exact F.unguard, by rw [← e2]; exact H, hon, hg⟩
  intro fuel
  induction fuel with
  | zero =>
    intro listed τ a w hsz hcnt hI hs
    have hr : Region.ready .any ops listed = [] := by
      apply List.eq_nil_iff_forall_not_mem.mpr
      intro i hi
      obtain ⟨o, ho, hl, _⟩ := ready_mem hi
      have hlt := lt_of_get ho
      rw [getD_eq hsz hlt] at hl
      have : cnt (fun i => listed.getD i false) ops.size = cnt (fun k => listed.getD k false || k == i) ops.size + 1 := cnt_set (j := i) hl (by simp) (fun k hk => by simp [hk]) _ hlt
      omega
    exact ⟨hr, fin listed τ a w hsz hI hs hr⟩
  | succ fuel ih =>
    intro listed τ a w hsz hcnt hI hs
    refine ⟨fin listed τ a w hsz hI hs, fun j hjr => ?_⟩
    obtain ⟨oj, hj, hl, hr⟩ := ready_mem hjr
    have hjl := lt_of_get hj
    rw [getD_eq hsz hjl] at hl
    have hnj : ¬ (listed.getD j false = true) := by rw [hl]; simp
    have hset : ∀ i, (listed.setIfInBounds j true).getD i false = true ↔ (listed.getD i false = true ∨ i = j) := fun i => by
      simp only [Array.getD_eq_getD_getElem?, Array.getElem?_setIfInBounds]
      by_cases e : j = i
      · subst e; simp [hsz, hjl]
      · rw [if_neg e]; constructor
        · exact .inl
        · rintro (h | h)
          · exact h
          · exact absurd h.symm e
    have next : ∀ τ' a' w', DInv ops sts ws (fun i => listed.getD i false = true ∨ i = j) τ' → St E τ' a' w' → wpAny P .any ops Q fuel (listed.setIfInBounds j true) a' w' := fun τ' a' w' hI' hs' => by
      refine ih _ τ' a' w' (by simpa using hsz) ?_ ?_ hs'
      · have := cnt_set (f := fun i => listed.getD i false) (g := fun i => (listed.setIfInBounds j true).getD i false) (j := j) hl ((hset j).mpr (.inr rfl)) (fun i hi => by
          simp only [Array.getD_eq_getD_getElem?, Array.getElem?_setIfInBounds]
          rw [if_neg (fun e => hi e.symm)]) _ hjl
        omega
      · have : (fun i => (listed.setIfInBounds j true).getD i false = true) = (fun i => listed.getD i false = true ∨ i = j) := funext fun i => propext (hset i)
        rw [this]; exact hI'
    obtain ⟨oj', hj', hD⟩ := hsteps j hjl
    rw [hj] at hj'; cases hj'
    obtain ⟨Fz, g, F, H, hon, hg⟩ := hs
    have agt : ∀ t, t ∈ usesOf ops.toList oj → getTmp τ t = getTmp (sts j) t := fun t ht => agree_tmp hst hsteps h0 hI hj hnj hr (.inl ht)
    have agh : ∀ x, x ∈ rs j → nth .free τ.heap x = nth .free (sts j).heap x := fun x hx => agree_heap hst hsteps h0 hfl hI hj hnj hr (.inl hx)
    have hlen : (sts j).heap.length = τ.heap.length := by rw [hI.hlen]; exact (can_len hst hsteps h0 j (by omega)).2
    unfold wpOp
    rw [hj]
    simp only
    rcases hD with ⟨hgs, nid, ob, val, upd, d1, d2, d3, d4, d5, d6, d7, d8⟩ | ⟨d, b, hgs, d2, d3, nid, ob, val, d4, d5, d6, d7, d8, d9⟩
    · rw [if_pos ((guard_wanted (a := a) hgs).1 rfl)]
      refine .inl ?_
      obtain ⟨k1, _⟩ := core_local (G := c.G) (T := c.T) (eqs := c.eqs) (base := c.base) (nid := nid) (ch := []) (s := sts j) (s' := τ) (op := oj.op) hlen (fun t ht => (agt t (List.mem_append.mpr (.inl ht))).symm) (fun x hx => (agh x (by rw [d6]; exact List.mem_append.mpr (.inr hx))).symm)
      have hcore : core c.G c.T c.eqs c.base oj.op [] τ nid = some ⟨ob, val, upd, none⟩ := by rw [← k1]; exact d1
      obtain ⟨nid', hcore', hn, hf⟩ : ∃ nid', core c.G c.T c.eqs c.base oj.op [] τ nid' = some ⟨ob, val, upd, none⟩ ∧ nid' ≤ τ.heap.length ∧ nth .free τ.heap nid' = .free := by
        cases hal : isAlloc oj.op with
        | false => exact ⟨τ.heap.length, by rw [core_nid (m := nid) hal]; exact hcore, Nat.le_refl _, nth_length _⟩
        | true =>
          have hid : nid ∈ rs j := by rw [d6]; simp [idOf, hal]
          simp only [freeAt, hal, Bool.not_true, Bool.false_or, Bool.and_eq_true] at d2
          obtain ⟨f1, f2⟩ := d2
          refine ⟨nid, hcore, by have := blt_lt f1; omega, ?_⟩
          rw [agh nid hid]
          cases hq : nth .free (sts j).heap nid with
          | free => rfl
          | _ => rw [hq] at f2; simp at f2
      refine (core_goes hc.tab hc.eqs hc.st hc.env F H (Chained.nil a) hn hf hcore' d5).1 rfl _ _ fun cc w' Fz' g' hv hH hon' => ?_
      have hvu : val.unguard = val := by
        have := vr_not_when hv
        cases val <;> first | rfl | exact absurd rfl (this _ _ _)
      rw [hvu] at d8
      exact next _ _ _ (DInv.step hst hsteps h0 hfl hI hj hnj hr d8 d3 d7 (fun t d b v hvw => absurd hvw (unwhen_not (vr_not_when hv) d b v))) ⟨Fz', g', (hon'.fr F).put_vr oj.dst hv, hH, hon.trans hon', hg⟩
    · have hw := (guard_wanted (a := a) hgs).2 d b rfl
      have hchl : ∀ p ∈ chain (sts j) 8 d b, getTmp τ p.1 = getTmp (sts j) p.1 := fun p hp => agt p.1 (List.mem_append.mpr (.inr (d2 p hp)))
      have hch : chain τ 8 d b = chain (sts j) 8 d b := chain_local 8 d b hchl
      have hV : ∀ t d' b' v, unwhen t (.when d b val) = .when d' b' v → d' ∈ gslots ops.toList 8 oj := fun t d' b' v hvw => by rw [unwhen_when hvw]; exact guardSlot_mem hgs
      have hstep : DInv ops sts ws (fun i => listed.getD i false = true ∨ i = j) ⟨(AState.put τ oj.dst (.when d b val)).tmps, τ.heap⟩ :=
        DInv.step (upd := []) hst hsteps h0 hfl hI hj hnj hr d9 (fun p hp => absurd hp (by simp)) (by simpa using d8) hV
      by_cases hwt : Region.wanted oj (yielded ops a.tmps) = true
      · rw [if_pos hwt]
        have hd := hw.mp hwt
        have hchd := chain_ok F 8 d b hd
        refine .inl ?_
        obtain ⟨k1, _⟩ := core_local (G := c.G) (T := c.T) (eqs := c.eqs) (base := c.base) (nid := nid) (ch := chain (sts j) 8 d b) (s := sts j) (s' := τ) (op := oj.op) hlen (fun t ht => (agt t (List.mem_append.mpr (.inl ht))).symm) (fun x hx => (agh x (by rw [d7]; exact hx)).symm)
        have hcore : core c.G c.T c.eqs c.base oj.op (chain τ 8 d b) τ τ.heap.length = some ⟨ob, val, [], none⟩ := by
          rw [hch, core_nid (m := nid) d3, ← k1]; exact d4
        have hob : conj ob := by
          have := chainCond_local (s := sts j) (s' := τ) _ _ hchl d6
          rw [← hch] at this
          obtain ⟨q, hq, himp⟩ := chainCond_eq F _ _ _ (fun d' b' hm => hchd d' b' (inChain_mem hm)) this
          exact himp hq
        refine (core_goes hc.tab hc.eqs hc.st hc.env F H hchd (Nat.le_refl _) (nth_length _) hcore hob).1 rfl _ _ fun cc w' Fz' g' hv hH hon' => ?_
        exact next _ _ _ hstep ⟨Fz', g', (hon'.fr F).put oj.dst _ cc (fun t ht => by
          simp only [unwhen]
          cases e : (d == t) with
          | true => exact .top _
          | false =>
            have hne : d ≠ t := by simpa using e
            refine .inl ⟨?_, hv⟩
            rw [ht]; simp only [Act.put, getD_set]; rw [if_neg (by omega)]; exact hd), hH, hon.trans hon', hg⟩
      · rw [if_neg hwt]
        have hd : a.tmps.getD d undef ≠ .bool b := fun e => hwt (hw.mpr e)
        exact next _ _ _ hstep ⟨Fz, g, F.put oj.dst _ undef (fun t ht => by
          simp only [unwhen]
          cases e : (d == t) with
          | true => exact .top _
          | false =>
            have hne : d ≠ t := by simpa using e
            refine .inr ⟨rfl, ?_⟩
            rw [ht]; simp only [Act.put, getD_set]; rw [if_neg (by omega)]; exact hd), H, hon, hg⟩
end
end Go.Proofs.YtnnoplgabnfdiaaGreatDoor.Sh
