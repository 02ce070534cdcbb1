/- The shadow machine: regions that draw their order. -/
import Derived.Test.YtepbibbeifbokaaSh17
import Derived.Orders
namespace Go.Proofs.Ytepbibbeifbokaa.Sh
open Go Go.RowKit
set_option linter.unusedVariables false
set_option linter.unusedSimpArgs false

/-! ### What comes ahead of what -/
theorem befores_spec : ∀ (os : List Oper) (acc : List (List Nat)), (befores os acc).length = acc.length + os.length ∧ (∀ q, q < acc.length → (befores os acc).getD q [] = acc.getD q []) ∧
    ∀ q o, os[q]? = some o → ∃ pre : List (List Nat), (∀ x, x < acc.length + q → pre.getD x [] = (befores os acc).getD x []) ∧ (befores os acc).getD (acc.length + q) [] = beforeOf o.after.toList pre
  | [], acc => ⟨by simp [befores], fun q hq => rfl, fun q o h => by simp at h⟩
  | o :: os, acc => by
    obtain ⟨h1, h2, h3⟩ := befores_spec os (acc ++ [beforeOf o.after.toList acc])
    simp only [befores]
    have hacc : ∀ q, q < acc.length → (acc ++ [beforeOf o.after.toList acc]).getD q [] = acc.getD q [] := fun q hq => by
      simp only [List.getD_eq_getElem?_getD]; rw [List.getElem?_append_left hq]
    refine ⟨by rw [h1]; simp; omega, fun q hq => by rw [h2 q (by simp; omega)]; exact hacc q hq, fun q o' hq => ?_⟩
    cases q with
    | zero =>
      simp only [List.getElem?_cons_zero, Option.some.injEq] at hq
      subst hq
      refine ⟨acc, fun x hx => ?_, ?_⟩
      · rw [h2 x (by simp; omega), hacc x (by omega)]
      · rw [Nat.add_zero, h2 _ (by simp)]
        simp [List.getD_eq_getElem?_getD]
    | succ q =>
      simp only [List.getElem?_cons_succ] at hq
      obtain ⟨pre, e1, e2⟩ := h3 q o' hq
      refine ⟨pre, fun x hx => e1 x (by simp; omega), ?_⟩
      have : acc.length + (q + 1) = (acc ++ [beforeOf o.after.toList acc]).length + q := by simp; omega
      rw [this]; exact e2
/-- Of what is known ahead of j: it is ahead of j by an edge, or ahead of such. -/
theorem before_step {all : List Oper} {j k : Nat} {o : Oper} (ho : all[j]? = some o) (hedge : ∀ e ∈ o.after.toList, Region.binds .any e = true → e.on < j) (hk : k ∈ (befores all []).getD j []) : ∃ e ∈ o.after.toList, Region.binds .any e = true ∧ (k = e.on ∨ k ∈ (befores all []).getD e.on []) := by
  obtain ⟨_, _, h3⟩ := befores_spec all []
  obtain ⟨pre, e1, e2⟩ := h3 j o ho
  simp only [List.length_nil, Nat.zero_add] at e1 e2
  rw [e2] at hk
  simp only [beforeOf, List.mem_flatMap] at hk
  obtain ⟨e, he, hk⟩ := hk
  by_cases hb : Region.binds .any e = true
  · rw [if_pos hb] at hk
    refine ⟨e, he, hb, ?_⟩
    rcases List.mem_cons.mp hk with h | h
    · exact .inl h
    · rw [e1 _ (hedge e he hb)] at h; exact .inr h
  · rw [if_neg hb] at hk; simp at hk
structure Static (ops : Array Oper) (flags : List (Nat × Nat)) : Prop where
  edge : ∀ (j : Nat) (o : Oper), ops[j]? = some o → ∀ e ∈ o.after.toList, Region.binds .any e = true → e.on < j
  late : ∀ (j i : Nat) (oj oi : Oper), ops[j]? = some oj → ops[i]? = some oi → j ≤ i → dstIn oi.dst (gslots ops.toList 8 oj) = false
  pair : ∀ (i j : Nat) (oi oj : Oper), i < j → ops[i]? = some oi → ops[j]? = some oj → i ∈ (befores ops.toList []).getD j [] ∨ apartOps ops.toList flags i j oi oj = true
theorem bit_iff (x y : Nat) : (Nat.shiftLeft 1 x).testBit y = true ↔ y = x := by
  show (1 <<< x).testBit y = true ↔ y = x
  rw [Nat.one_shiftLeft, Nat.testBit_two_pow]; simp [eq_comm]
theorem lor_iff (a b y : Nat) : (Nat.lor a b).testBit y = true ↔ a.testBit y = true ∨ b.testBit y = true := by
  show (a ||| b).testBit y = true ↔ _
  rw [Nat.testBit_or]; simp
theorem mask_iff : ∀ (l : List Nat) (y : Nat), (maskOf l).testBit y = true ↔ y ∈ l
  | [], y => by simp [maskOf]
  | x :: r, y => by simp only [maskOf, lor_iff, bit_iff, mask_iff r, List.mem_cons]
theorem land_zero {a b : Nat} (h : Nat.beq (Nat.land a b) 0 = true) (y : Nat) (ha : a.testBit y = true) (hb : b.testBit y = true) : False := by
  have h' : a &&& b = 0 := Nat.eq_of_beq_eq_true h
  have := congrArg (fun n => n.testBit y) h'
  simp [Nat.testBit_and, ha, hb] at this
theorem hasBit_true {m x : Nat} (h : hasBit m x = true) : m.testBit x = true := by
  unfold hasBit at h
  unfold Nat.testBit
  cases hb : (1 &&& (m >>> x)) with
  | zero => exact absurd h (by show ¬ (!Nat.beq (1 &&& (m >>> x)) 0) = true; rw [hb]; simp)
  | succ n => rfl
theorem fBig_eq {R : Sort _} (n : Nat) (k : Nat → R) : fBig n k = k n := by cases n <;> rfl
theorem fApp_eq {α : Type} {R : Sort _} : ∀ (l : List α) (x : α) (k : List α → R), fApp l x k = k (l ++ [x])
  | [], x, k => rfl
  | y :: r, x, k => by simp only [fApp, fApp_eq r, List.cons_append]
theorem nth_getD {α : Type} (d : α) : ∀ (l : List α) (i : Nat), nth d l i = l.getD i d
  | [], i => by simp [nth]
  | x :: r, 0 => rfl
  | x :: r, i + 1 => by simpa [nth] using nth_getD d r i
theorem befMask_spec {acc : List Nat} {accB : List (List Nat)} (hR : ∀ j x, (nth 0 acc j).testBit x = true → x ∈ accB.getD j []) : ∀ (l : List Edge) (x : Nat), (befMask l acc).testBit x = true → x ∈ beforeOf l accB
  | [], x, h => by simp [befMask] at h
  | e :: r, x, h => by
    simp only [befMask] at h
    simp only [beforeOf, List.flatMap_cons, List.mem_append]
    cases hb : Region.binds .any e with
    | false => rw [hb] at h; exact .inr (befMask_spec hR r x h)
    | true =>
      rw [hb] at h
      simp only [cond_true, lor_iff, bit_iff] at h
      rw [if_pos rfl]
      rcases h with (h | h) | h
      · exact .inl (by simp [h])
      · exact .inl (List.mem_cons_of_mem _ (hR _ _ h))
      · exact .inr (befMask_spec hR r x h)
theorem befMasks_spec : ∀ (os : List Oper) (acc : List Nat) (accB : List (List Nat)) (k : List Nat → Bool), acc.length = accB.length → (∀ j x, (nth 0 acc j).testBit x = true → x ∈ accB.getD j []) → befMasks os acc k = true → ∃ bs, k bs = true ∧ ∀ j x, (nth 0 bs j).testBit x = true → x ∈ (befores os accB).getD j []
  | [], acc, accB, k, hl, hR, h => ⟨acc, h, hR⟩
  | o :: os, acc, accB, k, hl, hR, h => by
    simp only [befMasks, fBig_eq, fApp_eq] at h
    refine befMasks_spec os _ (accB ++ [beforeOf o.after.toList accB]) k (by simp [hl]) (fun j x hx => ?_) h
    rw [nth_getD] at hx
    simp only [List.getD_eq_getElem?_getD] at hx ⊢
    rcases Nat.lt_trichotomy j acc.length with e | e | e
    · rw [List.getElem?_append_left e] at hx
      rw [List.getElem?_append_left (by omega)]
      have := hR j x (by rw [nth_getD, List.getD_eq_getElem?_getD]; exact hx)
      rwa [List.getD_eq_getElem?_getD] at this
    · subst e
      rw [List.getElem?_append_right (Nat.le_refl _), Nat.sub_self] at hx
      rw [hl, List.getElem?_append_right (Nat.le_refl _), Nat.sub_self]
      exact befMask_spec hR _ _ hx
    · rw [List.getElem?_eq_none (by simp; omega)] at hx
      simp at hx
def siOf (all : List Oper) (o : Oper) : SI := ⟨maskOf o.dst.toList, Nat.lor (maskOf (tmpsOf o.op)) (maskOf (gslots all 8 o)), maskOf (gslots all 8 o), memClass o.op⟩
theorem siMasks_eq (all : List Oper) : ∀ (os : List Oper) (k : List SI → Bool), siMasks all os k = k (os.map (siOf all))
  | [], k => rfl
  | o :: os, k => by simp only [siMasks, fBig_eq, siMasks_eq all os]; rfl
theorem dstIn_false {d : Option Nat} {l : List Nat} (h : ∀ t, d = some t → t ∈ l → False) : dstIn d l = false := by
  unfold dstIn
  split
  · rename_i t
    cases hb : l.elem t with
    | false => rfl
    | true => exact (h t rfl (by simpa using hb)).elim
  · rfl
theorem apart_of {all : List Oper} {flags : List (Nat × Nat)} {i j : Nat} {oi oj : Oper} (h : apart3 flags i j (siOf all oi) (siOf all oj) = true) : apartOps all flags i j oi oj = true := by
  simp only [apart3, Bool.and_eq_true] at h
  obtain ⟨h1, h2, h3, h4⟩ := h
  have hu : ∀ {o : Oper} {t : Nat}, t ∈ usesOf all o → (siOf all o).u.testBit t = true := fun {o t} ht => by
    simp only [siOf, lor_iff, mask_iff]
    simpa [usesOf] using ht
  have hd : ∀ {o : Oper} {t : Nat}, o.dst = some t → (siOf all o).d.testBit t = true := fun {o t} ht => by simp [siOf, mask_iff, ht]
  simp only [apartOps, Bool.and_eq_true]
  refine ⟨⟨⟨?_, ?_⟩, ?_⟩, ?_⟩
  · rw [dstIn_false fun t e m => land_zero h1 t (hd e) (hu m)]; rfl
  · rw [dstIn_false fun t e m => land_zero h2 t (hd e) (hu m)]; rfl
  · split
    · rename_i t ht
      cases hb : (oj.dst == some t) with
      | false => rfl
      | true => exact (land_zero h3 t (hd ht) (hd (by simpa using hb))).elim
    · rfl
  · simp only [Bool.or_eq_true, Bool.and_eq_true] at h4 ⊢
    simp only [beq_iff_eq]
    rcases h4 with h | h | ⟨h, h'⟩ | h
    · exact .inl (.inl (.inl (Nat.eq_of_beq_eq_true h)))
    · exact .inl (.inl (.inr (Nat.eq_of_beq_eq_true h)))
    · exact .inl (.inr ⟨Nat.eq_of_beq_eq_true h, Nat.eq_of_beq_eq_true h'⟩)
    · exact .inr h
theorem rowOk_spec {flags : List (Nat × Nat)} {sj : SI} {b j : Nat} : ∀ (l : List SI) (i : Nat), rowOk flags sj b j l i = true → ∀ k si, l[k]? = some si → (i + k < j → (hasBit b (i + k) || apart3 flags (i + k) j si sj) = true) ∧ (j ≤ i + k → Nat.beq (Nat.land si.d sj.g) 0 = true)
  | [], i, h, k, si, hk => by simp at hk
  | s :: r, i, h, k, si, hk => by
    simp only [rowOk] at h
    have h2 : rowOk flags sj b j r (i + 1) = true := by
      cases hb : Nat.blt i j <;> rw [hb] at h <;> simp only [cond_true, cond_false, Bool.and_eq_true] at h <;> exact h.2
    cases k with
    | zero =>
      simp only [List.getElem?_cons_zero, Option.some.injEq] at hk
      subst hk
      refine ⟨fun hlt => ?_, fun hle => ?_⟩
      · rw [show Nat.blt i j = true from Nat.ble_eq_true_of_le (by omega)] at h
        simp only [cond_true, Bool.and_eq_true] at h
        exact h.1
      · rw [blt_f (by omega)] at h
        simp only [cond_false, Bool.and_eq_true] at h
        exact h.1
    | succ k =>
      have := rowOk_spec r (i + 1) h2 k si (by simpa using hk)
      rwa [show i + 1 + k = i + (k + 1) by omega] at this
theorem rowsOk_spec {flags : List (Nat × Nat)} {all : List SI} : ∀ (l : List SI) (bs : List Nat) (j : Nat), rowsOk flags all l bs j = true → ∀ k sj, l[k]? = some sj → rowOk flags sj (nth 0 bs k) (j + k) all 0 = true
  | [], bs, j, h, k, sj, hk => by simp at hk
  | s :: r, [], j, h, k, sj, hk => by simp [rowsOk] at h
  | s :: r, b :: bs, j, h, k, sj, hk => by
    simp only [rowsOk, Bool.and_eq_true] at h
    cases k with
    | zero =>
      simp only [List.getElem?_cons_zero, Option.some.injEq] at hk
      subst hk
      exact h.1
    | succ k =>
      have := rowsOk_spec r bs (j + 1) h.2 k sj (by simpa using hk)
      rwa [show j + 1 + k = j + (k + 1) by omega] at this
theorem edgeRows_spec : ∀ (l : List Oper) (j : Nat), edgeRows l j = true → ∀ k o, l[k]? = some o → ∀ e ∈ o.after.toList, Region.binds .any e = true → e.on < j + k
  | [], j, h, k, o, hk => by simp at hk
  | s :: r, j, h, k, o, hk => by
    simp only [edgeRows, Bool.and_eq_true] at h
    cases k with
    | zero =>
      simp only [List.getElem?_cons_zero, Option.some.injEq] at hk
      subst hk
      intro e he hb
      have := List.all_eq_true.mp h.1 e he
      rw [hb] at this
      exact blt_lt (by simpa using this)
    | succ k =>
      have := edgeRows_spec r (j + 1) h.2 k o (by simpa using hk)
      rwa [show j + 1 + k = j + (k + 1) by omega] at this
theorem static_of {ops : Array Oper} {flags : List (Nat × Nat)} (h : staticFast ops flags = true) : Static ops flags := by
  unfold staticFast at h
  rw [Bool.and_eq_true] at h
  obtain ⟨h1, h2⟩ := h
  obtain ⟨bs, h2, h3⟩ := befMasks_spec _ [] [] _ rfl (fun j x hx => by simp [nth] at hx) h2
  rw [siMasks_eq] at h2
  have hl : ∀ {j : Nat} {o : Oper}, ops[j]? = some o → ops.toList[j]? = some o ∧ (ops.toList.map (siOf ops.toList))[j]? = some (siOf ops.toList o) := fun {j o} hj => by
    have : ops.toList[j]? = some o := by simpa using hj
    exact ⟨this, by rw [List.getElem?_map, this]; rfl⟩
  have row : ∀ {i j : Nat} {oi oj : Oper}, ops[i]? = some oi → ops[j]? = some oj → _ := fun {i j oi oj} hi hj => rowOk_spec _ _ (rowsOk_spec _ _ _ h2 j _ (hl hj).2) i _ (hl hi).2
  refine ⟨fun j o hj e he hb => ?_, fun j i oj oi hj hi hji => ?_, fun i j oi oj hij hi hj => ?_⟩
  · have := edgeRows_spec _ _ h1 j o (hl hj).1 e he hb
    omega
  · have := (row hi hj).2 (by omega)
    exact dstIn_false fun t e m => land_zero this t (by simp [siOf, mask_iff, e]) (by simpa [siOf, mask_iff] using m)
  · have := (row hi hj).1 (by omega)
    rw [Nat.zero_add, Nat.zero_add, Bool.or_eq_true] at this
    rcases this with h | h
    · exact .inl (h3 _ _ (hasBit_true h))
    · exact .inr (apart_of h)

/-! ### The run in the text's order -/
def DStep (c : Cfg) (all : List Oper) (o : Oper) (s s' : AState) (rs ws : List Nat) : Prop :=
  (guardSlot all o = some none ∧ ∃ nid ob val upd, core c.G c.T c.eqs c.base o.op [] s nid = some ⟨ob, val, upd, none⟩ ∧ freeAt o.op s.heap nid = true ∧ (∀ p ∈ upd, p.1 < s.heap.length) ∧ classOk o.op rs upd = true ∧ conj ob ∧ rs = idOf o.op nid ++ heapReads [] s o.op ∧ ws = upd.map Prod.fst ∧
    s' = ⟨(AState.put s o.dst val.unguard).tmps, apply upd s.heap⟩) ∨
  (∃ d w, guardSlot all o = some (some (d, w)) ∧ (∀ p ∈ chain s 8 d w, p.1 ∈ gslots all 8 o) ∧ isAlloc o.op = false ∧ ∃ nid ob val, core c.G c.T c.eqs c.base o.op (chain s 8 d w) s nid = some ⟨ob, val, [], none⟩ ∧ classOk o.op rs [] = true ∧ chainCond s (chain s 8 d w) (conj ob) (fun q => q) ∧
    rs = heapReads (chain s 8 d w) s o.op ∧ ws = [] ∧ s' = ⟨(AState.put s o.dst (.when d w val)).tmps, s.heap⟩)
theorem chainCond_both {s : AState} : ∀ (ch : List (Nat × Bool)) (p : Prop) (R : Prop → Prop), chainCond s ch p R → (∀ q, R q → q) → chainCond s ch p (fun q => q) ∧ ∃ q, R q
  | [], p, R, h, hR => ⟨hR _ h, p, h⟩
  | (d, b) :: r, p, R, h, hR => by
    unfold chainCond at h ⊢
    split at h
    · split at h <;> exact chainCond_both r _ R h hR
    · split at h <;> exact chainCond_both r _ R h hR
    · exact chainCond_both r _ R h hR
theorem chainCond_some {s : AState} : ∀ (ch : List (Nat × Bool)) (p : Prop) (R : Prop → Prop), chainCond s ch p R → ∃ q, R q
  | [], p, R, h => ⟨p, h⟩
  | (d, b) :: r, p, R, h => by
    unfold chainCond at h
    split at h
    · split at h <;> exact chainCond_some r _ R h
    · split at h <;> exact chainCond_some r _ R h
    · exact chainCond_some r _ R h
theorem chainCond_true {s : AState} : ∀ (ch : List (Nat × Bool)) (p : Prop), p → chainCond s ch p (fun q => q)
  | [], p, h => h
  | (d, b) :: r, p, h => by
    unfold chainCond
    split
    · split <;> exact chainCond_true r _ fun _ => h
    · split <;> exact chainCond_true r _ fun _ => h
    · exact chainCond_true r _ h
theorem fNs_eq {R : Sort _} : ∀ (l : List Nat) (k : List Nat → R), fNs l k = k l
  | [], k => rfl
  | n :: r, k => by simp only [fNs, fNat_eq, fNs_eq r]
theorem runDraw_sts {c : Cfg} {all : List Oper} {flags : List (Nat × Nat)} : ∀ (os : List Oper) (i nid : Nat) (obs : List Prop) (fs : Foots) (ts : List AV) (h : List AO) (K : AState → Prop), runDraw c all flags os i nid obs fs ts h K →
    ∃ (sts : Nat → AState) (rs ws : Nat → List Nat), sts i = ⟨ts, h⟩ ∧ (∀ q, q < os.length → ∃ o, os[q]? = some o ∧ DStep c all o (sts (i + q)) (sts (i + q + 1)) (rs (i + q)) (ws (i + q))) ∧ conj obs ∧
      flagsOk (fs ++ (List.range os.length).map fun q => (i + q, rs (i + q), ws (i + q))) flags = true ∧ K ⟨(sts (i + os.length)).tmps.map AV.unguard, (sts (i + os.length)).heap⟩
  | [], i, nid, obs, fs, ts, h, K, hr => by
    simp only [runDraw, fL_map (g := AV.unguard) (fun v k => f3_eq _ k)] at hr
    obtain ⟨h1, h2, h3⟩ := need_iff.mp hr
    exact ⟨fun _ => ⟨ts, h⟩, fun _ => [], fun _ => [], rfl, fun q hq => absurd hq (by simp), h1, by simpa using h2, h3⟩
  | o :: os, i, nid, obs, fs, ts, h, K, hr => by
    simp only [runDraw, fL_eq f3_eq, f3_eq, fH_eq, fNs_eq] at hr
    have next : ∀ (obs' : List Prop) (rs0 ws0 : List Nat) (ts' : List AV) (h' : List AO) (nid' : Nat), (conj obs' → DStep c all o ⟨ts, h⟩ ⟨ts', h'⟩ rs0 ws0) → (conj obs' → conj obs) → runDraw c all flags os (i + 1) nid' obs' (fs ++ [(i, rs0, ws0)]) ts' h' K →
        ∃ (sts : Nat → AState) (rs ws : Nat → List Nat), sts i = ⟨ts, h⟩ ∧ (∀ q, q < (o :: os).length → ∃ o', (o :: os)[q]? = some o' ∧ DStep c all o' (sts (i + q)) (sts (i + q + 1)) (rs (i + q)) (ws (i + q))) ∧ conj obs ∧
          flagsOk (fs ++ (List.range (o :: os).length).map fun q => (i + q, rs (i + q), ws (i + q))) flags = true ∧ K ⟨(sts (i + (o :: os).length)).tmps.map AV.unguard, (sts (i + (o :: os).length)).heap⟩ := fun obs' rs0 ws0 ts' h' nid' hD hO hr => by
      obtain ⟨sts, rs, ws, q1, q2, q3, q4, q5⟩ := runDraw_sts os (i + 1) nid' obs' _ ts' h' K hr
      refine ⟨fun q => if q = i then ⟨ts, h⟩ else sts q, fun q => if q = i then rs0 else rs q, fun q => if q = i then ws0 else ws q, by simp, fun q hq => ?_, hO q3, ?_, ?_⟩
      · cases q with
        | zero => exact ⟨o, rfl, by simp [q1]; exact hD q3⟩
        | succ q =>
          obtain ⟨o', a1, a2⟩ := q2 q (by simpa using hq)
          refine ⟨o', a1, ?_⟩
          have e1 : i + (q + 1) ≠ i := by omega
          have e2 : i + (q + 1) + 1 ≠ i := by omega
          simp only [if_neg e1, if_neg e2]
          rw [show i + (q + 1) = i + 1 + q by omega]
          exact a2
      · show flagsOk (fs ++ (List.range (o :: os).length).map (fun q => (i + q, (if i + q = i then rs0 else rs (i + q)), (if i + q = i then ws0 else ws (i + q))))) flags = true
        have : (List.range (o :: os).length).map (fun q => (i + q, (if i + q = i then rs0 else rs (i + q)), (if i + q = i then ws0 else ws (i + q)))) = (i, rs0, ws0) :: (List.range os.length).map fun q => (i + 1 + q, rs (i + 1 + q), ws (i + 1 + q)) := by
          rw [List.length_cons, List.range_succ_eq_map, List.map_cons, List.map_map]
          congr 1
          · simp
          · apply List.map_congr_left
            intro q _
            simp only [Function.comp]
            rw [if_neg (by omega), if_neg (by omega), show i + (q + 1) = i + 1 + q by omega]
        rw [this]
        simpa using q4
      · have e1 : i + (o :: os).length ≠ i := by simp
        simp only [if_neg e1]
        rw [show i + (o :: os).length = i + 1 + os.length by simp; omega]
        exact q5
    split at hr
    · rename_i hgs
      split at hr
      · rename_i ob val upd hcore
        cases hb : (freeAt o.op h nid && (upd.all (fun p => Nat.blt p.1 h.length) && classOk o.op (idOf o.op nid ++ heapReads [] ⟨ts, h⟩ o.op) upd)) with
        | false => rw [hb] at hr; exact hr.elim
        | true =>
          rw [hb] at hr
          simp only [cond_true] at hr
          rw [Bool.and_eq_true, Bool.and_eq_true] at hb
          obtain ⟨b1, b2, b3⟩ := hb
          have hD : conj ob → DStep c all o ⟨ts, h⟩ ⟨(AState.put ⟨ts, h⟩ o.dst val.unguard).tmps, apply upd h⟩ (idOf o.op nid ++ heapReads [] ⟨ts, h⟩ o.op) (upd.map Prod.fst) := fun hob =>
            .inl ⟨hgs, nid, ob, val, upd, hcore, b1, fun p hp => blt_lt (List.all_eq_true.mp b2 p hp), b3, hob, rfl, rfl, rfl⟩
          split at hr
          · exact next _ _ _ _ _ _ (fun _ => hD trivial) id hr
          · exact next _ _ _ _ _ _ (fun hh => hD (conj_append.mp hh).2) (fun hh => (conj_append.mp hh).1) hr
      · exact hr.elim
    · rename_i d w hgs
      cases hb : ((chain ⟨ts, h⟩ 8 d w).all (fun p => (gslots all 8 o).elem p.1) && (!isAlloc o.op && classOk o.op (heapReads (chain ⟨ts, h⟩ 8 d w) ⟨ts, h⟩ o.op) [])) with
      | false => rw [hb] at hr; exact hr.elim
      | true =>
        rw [hb] at hr
        simp only [cond_true] at hr
        rw [Bool.and_eq_true, Bool.and_eq_true] at hb
        obtain ⟨b1, b2, b3⟩ := hb
        split at hr
        · rename_i ob val hcore
          have hD : chainCond ⟨ts, h⟩ (chain ⟨ts, h⟩ 8 d w) (conj ob) (fun q => q) → DStep c all o ⟨ts, h⟩ ⟨(AState.put ⟨ts, h⟩ o.dst (.when d w val)).tmps, h⟩ (heapReads (chain ⟨ts, h⟩ 8 d w) ⟨ts, h⟩ o.op) [] := fun hob =>
            .inr ⟨d, w, hgs, fun p hp => by simpa using List.all_eq_true.mp b1 p hp, by simpa using b2, nid, ob, val, hcore, b3, hob, rfl, rfl, rfl⟩
          cases ob with
          | nil =>
            obtain ⟨q, hq⟩ := chainCond_some _ _ _ hr
            exact next _ _ _ _ _ _ (fun _ => hD (chainCond_true _ _ trivial)) id hq
          | cons p ps =>
            have hall : ∀ q, runDraw c all flags os (i + 1) nid (obs ++ [q]) (fs ++ [(i, heapReads (chain ⟨ts, h⟩ 8 d w) ⟨ts, h⟩ o.op, [])]) (AState.put ⟨ts, h⟩ o.dst (.when d w val)).tmps h K → q := fun q hq => by
              obtain ⟨_, _, _, _, _, hcj, _⟩ := runDraw_sts os _ _ _ _ _ _ K hq
              exact (conj_append.mp hcj).2
            obtain ⟨e1, q, hq⟩ := chainCond_both _ _ _ hr hall
            exact next _ _ _ _ _ _ (fun _ => hD e1) (fun hh => (conj_append.mp hh).1) hq
        · exact hr.elim
    · exact hr.elim
theorem chainCond_mono {s : AState} {R R' : Prop → Prop} (hR : ∀ q, R q → R' q) : ∀ (ch : List (Nat × Bool)) (p : Prop), chainCond s ch p R → chainCond s ch p R'
  | [], p, h => hR _ h
  | (d, b) :: r, p, h => by
    unfold chainCond at h ⊢
    split at h
    · split at h <;> exact chainCond_mono hR r _ h
    · split at h <;> exact chainCond_mono hR r _ h
    · exact chainCond_mono hR r _ h
theorem chainCond_k {s : AState} {A : Prop} : ∀ (ch : List (Nat × Bool)) (p : Prop), A → chainCond s ch p (fun _ => A)
  | [], p, h => h
  | (d, b) :: r, p, h => by
    unfold chainCond
    split
    · split <;> exact chainCond_k r _ h
    · split <;> exact chainCond_k r _ h
    · exact chainCond_k r _ h
theorem draw0 {c : Cfg} {all : List Oper} : ∀ (os : List Oper) (i nid : Nat) (obs : List Prop) (fs : Foots) (ts : List AV) (h : List AO) (K : AState → Prop), runDraw0 c all os nid obs ts h K → runDraw c all [] os i nid obs fs ts h K
  | [], i, nid, obs, fs, ts, h, K, hr => by
    simp only [runDraw0] at hr
    simp only [runDraw]
    rw [need_iff] at hr ⊢
    exact ⟨hr.1, rfl, hr.2⟩
  | o :: os, i, nid, obs, fs, ts, h, K, hr => by
    simp only [runDraw0, fL_eq f3_eq, f3_eq, fH_eq, fNat_eq] at hr
    simp only [runDraw, fL_eq f3_eq, f3_eq, fH_eq, fNs_eq]
    split at hr
    · split at hr
      · rename_i ob val upd hcore
        cases hb : (freeAt o.op h nid && (upd.all (fun p => Nat.blt p.1 h.length) && classOk o.op (idOf o.op nid ++ heapReads [] ⟨ts, h⟩ o.op) upd)) with
        | false => rw [hb] at hr; exact hr.elim
        | true =>
          rw [hb] at hr
          simp only [cond_true] at hr ⊢
          split at hr
          · exact draw0 os _ _ _ _ _ _ K hr
          · exact draw0 os _ _ _ _ _ _ K hr
      · exact hr.elim
    · rename_i d w hgs
      cases hb : ((chain ⟨ts, h⟩ 8 d w).all (fun p => (gslots all 8 o).elem p.1) && (!isAlloc o.op && classOk o.op (heapReads (chain ⟨ts, h⟩ 8 d w) ⟨ts, h⟩ o.op) [])) with
      | false => rw [hb] at hr; exact hr.elim
      | true =>
        rw [hb] at hr
        simp only [cond_true] at hr ⊢
        split at hr
        · rename_i ob val hcore
          cases ob with
          | nil => exact chainCond_k _ _ (draw0 os _ _ _ _ _ _ K hr)
          | cons p ps => exact chainCond_mono (fun q hq => draw0 os _ _ _ _ _ _ K hq) _ _ hr
        · exact hr.elim
    · exact hr.elim
end Go.Proofs.Ytepbibbeifbokaa.Sh
