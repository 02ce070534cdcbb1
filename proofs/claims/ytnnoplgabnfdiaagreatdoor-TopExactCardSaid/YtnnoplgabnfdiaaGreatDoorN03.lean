/- Part 3 of a proof over the shadow machine. -/
import Derived.Test.YtnnoplgabnfdiaaGreatDoorN02
/- The shadow machine: memory operations. -/
namespace Go.Proofs.YtnnoplgabnfdiaaGreatDoor.Sh
open Go Go.RowKit
set_option linter.unusedVariables false
set_option linter.unusedSimpArgs false
section
variable {D : List Deferred} {P : Program} {T : Tab} {B0 : Nat} {w0 w : World} {Fz : Nat → Prop} {g : Gh} {h : List AO} {a : Act} {o : Oper} {ob : List Prop} {val : AV} {upd : List (Nat × AO)}

theorem alloc_size (w : World) (o : Obj) : w.heap.size ≤ (w.alloc o).heap.size := by show w.heap.size ≤ (w.heap.push _).size; simp
theorem oneCell_vr {v : AV} {c : Value} (hv : VR w Fz g v c) (h1 : oneCell? v = true) : c.oneCell' = true ∧ c.cells = #[c] := by
  cases hv <;> first
    | exact ⟨rfl, rfl⟩
    | (simp [oneCell?] at h1; done)
    | (rename_i hr; cases hr; exact ⟨rfl, rfl⟩)
theorem cells_vr {v : AV} {c : Value} (hv : VR w Fz g v c) (h1 : cellsOk v = true) : v.cells.length = c.cells.size ∧ ∀ i, i < v.cells.length → VR w Fz g (nth .top v.cells i) (c.cells.getD i undef) := by
  by_cases hag : ∃ cs, v = .agg cs
  · obtain ⟨cs, rfl⟩ := hag
    obtain ⟨vs, rfl, hl, hh⟩ := inv_agg hv
    exact ⟨hl, hh⟩
  · have e1 : v.cells = [v] := by cases v <;> first | rfl | exact absurd ⟨_, rfl⟩ hag
    have e2 : oneCell? v = true := by cases v <;> first | exact h1 | exact absurd ⟨_, rfl⟩ hag
    have e3 := (oneCell_vr hv e2).2
    rw [e1, e3]
    refine ⟨rfl, fun i hi => ?_⟩
    have : i = 0 := by simp at hi; omega
    subst this
    exact hv

theorem nth_over : ∀ (cs vs : List AV) (q : Nat), nth .top (over cs vs) q = if q < vs.length ∧ q < cs.length then nth .top vs q else nth .top cs q
  | [], vs, q => by simp [over, nth]
  | c :: cs, [], q => by simp [over]
  | c :: cs, v :: vs, 0 => by simp [over, nth]
  | c :: cs, v :: vs, q + 1 => by simp only [over, nth]; rw [nth_over cs vs q]; simp
theorem over_length : ∀ (cs vs : List AV), (over cs vs).length = cs.length
  | [], vs => rfl
  | c :: cs, [] => rfl
  | c :: cs, v :: vs => by simp [over, over_length cs vs]
theorem nth_paste' : ∀ (cs : List AV) (j : Nat) (vs : List AV) (q : Nat), nth .top (paste cs j vs) q = if j ≤ q ∧ q < j + vs.length ∧ q < cs.length then nth .top vs (q - j) else nth .top cs q
  | [], j, vs, q => by simp [paste]
  | c :: cs, 0, vs, q => by simp only [paste]; rw [nth_over]; simp
  | c :: cs, j + 1, vs, 0 => by simp [paste, nth]
  | c :: cs, j + 1, vs, q + 1 => by
    simp only [paste, nth]; rw [nth_paste' cs j vs q]
    by_cases h : j ≤ q ∧ q < j + vs.length ∧ q < cs.length
    · rw [if_pos h, if_pos (by simp; omega)]; congr 1; omega
    · rw [if_neg h, if_neg (by simp; omega)]
theorem nth_paste (vs cs : List AV) (j q : Nat) : nth .top (paste cs j vs) q = if j ≤ q ∧ q < j + vs.length ∧ q < cs.length then nth .top vs (q - j) else nth .top cs q := nth_paste' cs j vs q
theorem paste_length' : ∀ (cs : List AV) (j : Nat) (vs : List AV), (paste cs j vs).length = cs.length
  | [], j, vs => rfl
  | c :: cs, 0, vs => by simp only [paste]; exact over_length _ _
  | c :: cs, j + 1, vs => by simp [paste, paste_length' cs j vs]
theorem paste_length (vs cs : List AV) (j : Nat) : (paste cs j vs).length = cs.length := paste_length' cs j vs
theorem writeDyn_length (s i : Nat) (v : AV) : ∀ (n : Nat) (cells : List AV) (k p : Nat), (writeDyn s i v cells k p n).length = cells.length
  | 0, cells, k, p => rfl
  | n + 1, cells, k, p => by simp only [writeDyn]; rw [writeDyn_length s i v n, setNth_length]
/-- Each place is what it was, or the new value at just the one place. -/
theorem nth_writeDyn (s i : Nat) (v : AV) (hs : 0 < s) (q : Nat) : ∀ (n : Nat) (cells : List AV) (k p : Nat), q < cells.length →
    (nth .top (writeDyn s i v cells k p n) q = nth .top cells q ∧ ∀ e, e < n → q ≠ p + e * s) ∨ ∃ e, e < n ∧ q = p + e * s ∧ nth .top (writeDyn s i v cells k p n) q = merge (i == k + e) v (nth .top cells q)
  | 0, cells, k, p, hq => .inl ⟨rfl, fun e he => by omega⟩
  | n + 1, cells, k, p, hq => by
    simp only [writeDyn]
    have ih := nth_writeDyn s i v hs q n (setNth cells p (merge (i == k) v (nth .top cells p))) (k + 1) (p + s) (by rw [setNth_length]; exact hq)
    by_cases hp : q = p
    · subst hp
      refine .inr ⟨0, by omega, by simp, ?_⟩
      rcases ih with ⟨ih, _⟩ | ⟨e, _, he, _⟩
      · rw [ih, nth_setNth, if_pos ⟨rfl, hq⟩, Nat.add_zero]
      · omega
    · have hset : nth .top (setNth cells p (merge (i == k) v (nth .top cells p))) q = nth .top cells q := by rw [nth_setNth, if_neg (by omega)]
      rw [hset] at ih
      rcases ih with ⟨ih, hne⟩ | ⟨e, he, hq', ih⟩
      · refine .inl ⟨ih, fun e he => ?_⟩
        cases e with
        | zero => simpa using hp
        | succ e => have := hne e (by omega); rw [Nat.add_mul]; omega
      · exact .inr ⟨e + 1, by omega, by rw [Nat.add_mul]; omega, by rw [ih, show k + 1 + e = k + (e + 1) by omega]⟩
theorem splice_get (cur : Array Value) (vs : List Value) (p q : Nat) (hp : p + vs.length ≤ cur.size) :
    ((cur.toList.take p ++ vs ++ cur.toList.drop (p + vs.length)).toArray).getD q undef = if p ≤ q ∧ q < p + vs.length then vs.getD (q - p) undef else cur.getD q undef := by
  simp only [Array.getD_eq_getD_getElem?, List.getElem?_toArray, List.getD_eq_getElem?_getD]
  have hl : (cur.toList.take p).length = p := by simp; omega
  by_cases h1 : q < p
  · rw [if_neg (by omega), List.append_assoc, List.getElem?_append_left (by omega), List.getElem?_take, if_pos h1]; simp
  · by_cases h2 : q < p + vs.length
    · rw [if_pos (by omega), List.append_assoc, List.getElem?_append_right (by omega), hl, List.getElem?_append_left (by omega)]
    · rw [if_neg (by omega), List.append_assoc, List.getElem?_append_right (by omega), hl, List.getElem?_append_right (by omega), List.getElem?_drop, show p + vs.length + (q - p - vs.length) = q by omega]; simp
theorem splice_size (cur : Array Value) (vs : List Value) (p : Nat) (hp : p + vs.length ≤ cur.size) : (cur.toList.take p ++ vs ++ cur.toList.drop (p + vs.length)).toArray.size = cur.size := by
  simp; omega
theorem setRow_at (w : World) {b : Nat} {cur cs : Array Value} {t : TypeId} (hb : w.heap[b]? = some (.cells cur t (0, 0))) : (w.setRow b cs).heap[b]? = some (.cells cs t (0, 0)) := setRow_heap w b cur cs t (0, 0) hb
/-- A store of cells into the machine's memory. -/
theorem store_run (hT : TabOK P T) {t : TypeId} {ti : TI} (ht : T.get t = some ti) {b p : Nat} {cur : Array Value} {tt : TypeId} {c : Value} (hb : w.heap[b]? = some (.cells cur tt (0, 0))) (hs : c.cells.size = ti.size) (hp : p + ti.size ≤ cur.size) (h1 : ∀ v ∈ c.cells.toList, v.oneCell' = true) :
    (Instr.storeAt t (.pointer (some ⟨b, p, none⟩)) c).run P w = .ok () (w.setRow b (cur.toList.take p ++ c.cells.toList ++ cur.toList.drop (p + c.cells.toList.length)).toArray) := by
  have hsz := hT.size (w := w) ht
  have hst := run_storeCells_at P b p tt c.cells.toList 0 cur w hb (by simp; omega) h1
  simp only [Nat.add_zero] at hst
  simp [Instr.storeAt, Instr.sureAddr, storeVar, hsz, hs, hst]
theorem cellsOk_of {v : AV} (h1 : v.cells.all oneCell? = true) : cellsOk v = true := by
  cases v <;> first | rfl | (simp [AV.cells, oneCell?] at h1; done)
theorem mem_oneCell {cs : List AV} {vs : Array Value} (h1 : cs.all oneCell? = true) (hl : cs.length = vs.size) (hv : ∀ i, i < cs.length → VR w Fz g (nth .top cs i) (vs.getD i undef)) : ∀ v ∈ vs.toList, v.oneCell' = true := by
  intro v hm
  obtain ⟨i, hi, rfl⟩ := List.getElem_of_mem hm
  have hi' : i < vs.size := by simpa using hi
  have := hv i (by omega)
  have hone : oneCell? (nth .top cs i) = true := by
    rw [nth_get, List.getD_eq_getElem?_getD, List.getElem?_eq_getElem (by omega)]
    exact List.all_eq_true.mp h1 _ (List.getElem_mem _)
  have h2 := (oneCell_vr this hone).1
  simpa [Array.getD, hi'] using h2
/-- What a store does to an object of the call's own. -/
theorem obj_store (H : HR B0 w0 w Fz g h) {o i s j b κ : Nat} (hg : g o = some (b, κ)) {vs : List AV} {us : Array Value} (hl : vs.length = us.size) (hv : ∀ i, i < vs.length → VR w Fz g (nth .top vs i) (us.getD i undef))
    (N : Nat) (hpos : 0 < vs.length) (ob : AO)
    (hk : (∃ u cells cs, nth .free h o = .lit u cells ∧ writeLit N s i cells j vs = some cs ∧ ob = .lit u cs ∧ (N ≤ 1 ∨ i < N)) ∨ (∃ n row, nth .free h o = .rows s n row ∧ j + vs.length ≤ s ∧ i < n ∧ ob = .rows s n fun r => merges (r == i) (paste (row r) j vs) (row r))) :
    ∃ cur t, w.heap[b]? = some (.cells cur t (0, 0)) ∧ i * s + j + us.size ≤ cur.size ∧
      HR B0 w0 (w.setRow b (cur.toList.take (i * s + j) ++ us.toList ++ cur.toList.drop (i * s + j + us.toList.length)).toArray) Fz g (put1 o ob h) ∧
      Same Fz w (w.setRow b (cur.toList.take (i * s + j) ++ us.toList ++ cur.toList.drop (i * s + j + us.toList.length)).toArray) := by
  have hol : o < h.length := by
    rcases Nat.lt_or_ge o h.length with e | e
    · exact e
    · rw [H.free o e] at hg; cases hg
  have hO := H.objs o hol
  rcases hk with ⟨u, cells, cs, hoo, hw, rfl, hN⟩ | ⟨n, row, hoo, hj, hi, rfl⟩
  · rw [hoo] at hO
    obtain ⟨b', κ', cur, t, e1, e2, e3, e4, e5⟩ := hO
    rw [hg] at e1
    obtain ⟨rfl, rfl⟩ : b = b' ∧ κ = κ' := by simpa using e1
    have key : i * s + j + us.size ≤ cells.length ∧ cs.length = cells.length ∧ (∀ q, q < cells.length →
        (nth .top cs q = nth .top cells q ∧ ¬ (i * s + j ≤ q ∧ q < i * s + j + vs.length)) ∨ (i * s + j ≤ q ∧ q < i * s + j + vs.length ∧ nth .top cs q = nth .top vs (q - (i * s + j))) ∨
        (∃ x, nth .top cs q = merge (decide (q = i * s + j)) x (nth .top cells q) ∧ vs = [x])) := by
      unfold writeLit at hw
      split at hw
      all_goals try
        (cases e : (Nat.beq i 0 && Nat.ble (j + vs.length) cells.length) with
        | false => rw [e] at hw; simp at hw
        | true =>
          rw [e] at hw
          simp only [cond_true, Option.some.injEq] at hw
          rw [Bool.and_eq_true] at e
          have hi0 := beq_eq e.1; have hb := ble_le e.2
          subst hi0; subst hw
          refine ⟨by rw [← hl]; omega, paste_length _ _ _, fun q hq => ?_⟩
          rw [nth_paste]
          by_cases hc : j ≤ q ∧ q < j + vs.length ∧ q < cells.length
          · rw [if_pos hc]; exact .inr (.inl ⟨by omega, by omega, by simp⟩)
          · rw [if_neg hc]; exact .inl ⟨rfl, by omega⟩)
      split at hw
      · rename_i hn0 hn1 _ x
        cases e : (Nat.blt ((N - 1) * s + j) cells.length && Nat.blt 0 s) with
        | false => rw [e] at hw; simp at hw
        | true =>
          rw [e] at hw
          simp only [cond_true, Option.some.injEq] at hw
          rw [Bool.and_eq_true] at e
          have hb := blt_lt e.1; have hs := blt_lt e.2
          subst hw
          have hlt : i < N := by
            rcases hN with hN | hN
            · exfalso; have : N = 0 ∨ N = 1 := by omega
              rcases this with e | e
              · exact hn0 e
              · exact hn1 e
            · exact hN
          have hle : i * s ≤ (N - 1) * s := Nat.mul_le_mul_right _ (by omega)
          have h1 : us.size = 1 := by rw [← hl]; rfl
          refine ⟨by omega, writeDyn_length _ _ _ _ _ _ _, fun q hq => ?_⟩
          rcases nth_writeDyn s i x hs q N cells 0 j hq with ⟨h2, h3⟩ | ⟨e, he, hqe, h2⟩
          · have := h3 i hlt
            exact .inl ⟨h2, by simp only [List.length_cons, List.length_nil]; omega⟩
          · refine .inr (.inr ⟨x, ?_, rfl⟩)
            rw [h2, Nat.zero_add]
            congr 1
            by_cases hie : i = e
            · subst hie; simp; omega
            · have : q ≠ i * s + j := by
                intro hc
                have : e * s = i * s := by omega
                exact hie (Nat.eq_of_mul_eq_mul_right hs this).symm
              simp [hie, this]
      · simp at hw
    obtain ⟨hlen, hcl, hq⟩ := key
    have hfit : i * s + j + us.toList.length ≤ cur.size := by simp; omega
    refine ⟨cur, t, e3, by omega, ?_⟩
    refine H.setRow hol (b := b) (by rw [hoo]; exact ⟨κ, hg⟩) _ _ (fun b' hb' => ?_) (fun hS => ?_)
    · obtain ⟨κ', e⟩ := hb'; rw [hg] at e; simp at e; exact e.1.symm
    · refine ⟨b, κ, _, t, hg, by rw [hcl]; exact e2, setRow_at w e3, by rw [splice_size _ _ _ hfit]; omega, fun q hqq => ?_⟩
      rw [hcl] at hqq
      rw [splice_get _ _ _ _ hfit]
      have hold := (e5 q hqq).mono (w' := w.setRow b (cur.toList.take (i * s + j) ++ us.toList ++ cur.toList.drop (i * s + j + us.toList.length)).toArray) hS (fun _ x => x) (fun _ _ x => x)
      have hnew : ∀ m, m < vs.length → VR (w.setRow b (cur.toList.take (i * s + j) ++ us.toList ++ cur.toList.drop (i * s + j + us.toList.length)).toArray) Fz g (nth .top vs m) (us.toList.getD m undef) := fun m hm => by
        have := (hv m hm).mono (w' := w.setRow b (cur.toList.take (i * s + j) ++ us.toList ++ cur.toList.drop (i * s + j + us.toList.length)).toArray) hS (fun _ x => x) (fun _ _ x => x)
        have e : us.getD m undef = us.toList.getD m undef := by simp [Array.getD_eq_getD_getElem?, List.getD_eq_getElem?_getD]
        rwa [e] at this
      rcases hq q hqq with ⟨h1, h2⟩ | ⟨h1, h2, h3⟩ | ⟨x, h1, h2⟩
      · rw [h1, if_neg (by simp; omega)]; exact hold
      · rw [h3, if_pos (by simp; omega)]; exact hnew _ (by omega)
      · rw [h1]
        refine merge_vr (fun e => ?_) (fun e => ?_)
        · have e' : q = i * s + j := by simpa using e
          subst h2
          rw [if_pos (by rw [← Array.length_toList] at hl; simp at hl ⊢; omega), e', Nat.sub_self]
          exact hnew 0 (by simp)
        · have e' : q ≠ i * s + j := by simpa using e
          subst h2
          rw [if_neg (by rw [← Array.length_toList] at hl; simp at hl ⊢; omega)]
          exact hold
  · rw [hoo] at hO
    obtain ⟨b', κ', e1, e2, e3⟩ := hO
    rw [hg] at e1
    obtain ⟨rfl, rfl⟩ : b = b' ∧ κ = κ' := by simpa using e1
    rcases e3 with e3 | ⟨cur, t, e3, e4, e5⟩
    · omega
    · have hbig : i * s + s ≤ κ * s := by
        have : (i + 1) * s ≤ κ * s := Nat.mul_le_mul_right _ (by omega)
        rwa [Nat.add_mul, Nat.one_mul] at this
      have hfit : i * s + j + us.toList.length ≤ cur.size := by simp; omega
      refine ⟨cur, t, e3, by simpa using hfit, ?_⟩
      refine H.setRow hol (b := b) (by rw [hoo]; exact ⟨κ, hg, by omega⟩) _ _ (fun b' hb' => ?_) (fun hS => ?_)
      · obtain ⟨κ', e, _⟩ := hb'; rw [hg] at e; simp at e; exact e.1.symm
      · refine ⟨b, κ, hg, e2, .inr ⟨_, t, setRow_at w e3, by rw [splice_size _ _ _ hfit]; omega, fun r hr q hq => ?_⟩⟩
        rw [splice_get _ _ _ _ hfit]
        have hold := (e5 r hr q hq).mono (w' := w.setRow b (cur.toList.take (i * s + j) ++ us.toList ++ cur.toList.drop (i * s + j + us.toList.length)).toArray) hS (fun _ x => x) (fun _ _ x => x)
        have hnew : ∀ m, m < vs.length → VR (w.setRow b (cur.toList.take (i * s + j) ++ us.toList ++ cur.toList.drop (i * s + j + us.toList.length)).toArray) Fz g (nth .top vs m) (us.toList.getD m undef) := fun m hm => by
          have := (hv m hm).mono (w' := w.setRow b (cur.toList.take (i * s + j) ++ us.toList ++ cur.toList.drop (i * s + j + us.toList.length)).toArray) hS (fun _ x => x) (fun _ _ x => x)
          have e : us.getD m undef = us.toList.getD m undef := by simp [Array.getD_eq_getD_getElem?, List.getD_eq_getElem?_getD]
          rwa [e] at this
        have hul : us.toList.length = vs.length := by simp; omega
        refine merges_vr (fun e => ?_) (fun e => ?_)
        · have e' : r = i := by simpa using e
          subst e'
          rw [nth_paste]
          by_cases hc : j ≤ q ∧ q < j + vs.length ∧ q < (row r).length
          · rw [if_pos hc, if_pos (by omega), show r * s + q - (r * s + j) = q - j by omega]; exact hnew _ (by omega)
          · rw [if_neg hc]
            by_cases hc2 : q < (row r).length
            · rw [if_neg (by omega)]; exact hold
            · rw [nth_ge _ _ _ (by omega)]; exact .top _
        · have e' : r ≠ i := by simpa using e
          rw [if_neg ?_]
          · exact hold
          · intro hc
            rcases Nat.lt_or_gt_of_ne e' with hlt | hlt
            · have : (r + 1) * s ≤ i * s := Nat.mul_le_mul_right _ (by omega)
              rw [Nat.add_mul, Nat.one_mul] at this; omega
            · have : (i + 1) * s ≤ r * s := Nat.mul_le_mul_right _ (by omega)
              rw [Nat.add_mul, Nat.one_mul] at this; omega
section ops
variable {G : Env} {eqs : List Nat} {base nid : Nat} {ch : List (Nat × Bool)} {s : AState} {kl : Option Nat}
variable (F : FR D w Fz g s.tmps a) (H : HR B0 w0 w Fz g s.heap) (hch : Chained ch a)
include F H hch
theorem go_load {t : TypeId} {x : Operand} (hob : conj ob) (hT : TabOK P T) (hop : o.op = .load t x) (hc : core1 G T eqs base (.load t x) ch s nid = some ⟨ob, val, upd, kl⟩) : Goes P B0 w0 w Fz g a o val (apply upd s.heap) ∧ kl = none := by
  have hx := ev_vr F hch x
  simp only [core1] at hc
  split at hc
  · rename_i ti e0
    cases hz : Nat.beq ti.size 0 with
    | true => rw [hz] at hc; simp at hc
    | false =>
      rw [hz] at hc
      simp only [cond_false] at hc
      split at hc
      · rename_i p cs e1
        simp only [Option.some.injEq, Out.mk.injEq] at hc; obtain ⟨rfl, rfl, rfl, rfl⟩ := hc
        obtain ⟨ad, f, hX, hl, hcell, hv⟩ := rd_vr H e1 hob hx
        have hpos : 0 < ti.size := by
          rcases Nat.eq_zero_or_pos ti.size with e | e
          · rw [e] at hz; simp at hz
          · exact e
        have hag := hT.agg (w := w) e0
        have hsz := hT.size (w := w) e0
        have hpk := pack_vr (b := ti.agg) (f := f) (fun q hq => hv q (by omega)) (fun _ => by omega)
        refine ⟨goes_sem (e := Instr.loadAt t (a.eval x)) (by simp only [execOp, hop]) ?_ hpk H, rfl⟩
        cases hb : ti.agg with
        | true =>
          rw [hb] at hag
          simp [Instr.loadAt, hX, Instr.sureAddr, loadVar, hag, hsz, run_loadCells w ad ti.size f hcell, hl]
        | false =>
          rw [hb] at hag
          have h0 := hcell 0 hpos
          rw [add_zero'] at h0
          simp [Instr.loadAt, hX, Instr.sureAddr, loadVar, hag, load, Sem.run, h0]
      · simp at hc
  · simp at hc
omit F hch in
theorem go_alloc {t : TypeId} (hT : TabOK P T) (hn : nid ≤ s.heap.length) (hfree : nth .free s.heap nid = .free) (hop : o.op = .alloc t) (hc : core1 G T eqs base (.alloc t) ch s nid = some ⟨ob, val, upd, kl⟩) : Goes P B0 w0 w Fz g a o val (apply upd s.heap) ∧ kl = none := by
  simp only [core1] at hc
  split at hc
  · rename_i ti e0
    simp only [Option.some.injEq, Out.mk.injEq] at hc; obtain ⟨rfl, rfl, rfl, rfl⟩ := hc
    obtain ⟨z, hz, hzv, hzs, hzl⟩ := hT.zero (w := w) e0
    obtain ⟨h1, h2, h3⟩ := H.alloc hn hfree z.cells t ti.zero.cells.length (.lit 1 ti.zero.cells) (fun w' hs hb => by
      have hcv := cells_vr (hzv w' Fz (ext g nid (w.heap.size, ti.zero.cells.length))) hzs
      exact ⟨w.heap.size, ti.zero.cells.length, z.cells, t, by simp [ext], by simp, hb, hcv.1.symm, hcv.2⟩)
    refine ⟨goes_semTo (e := Instr.alloc t true (.tuple #[])) (by simp only [execOp, hop]) (by simp [Instr.alloc, hz, newVar, newRow]) (.ptr nid 1 1 0 0 w.heap.size ti.zero.cells.length (by simp [ext])) h1 ⟨h2, fun _ x => x, h3, fun _ x => .inl x, alloc_size _ _, ext_newg⟩, rfl⟩
  · simp at hc
theorem go_box {t : TypeId} {x : Operand} (hn : nid ≤ s.heap.length) (hfree : nth .free s.heap nid = .free) (hop : o.op = .box t x) (hc : core1 G T eqs base (.box t x) ch s nid = some ⟨ob, val, upd, kl⟩) : Goes P B0 w0 w Fz g a o val (apply upd s.heap) ∧ kl = none := by
  have hx := ev_vr F hch x
  simp only [core1] at hc
  cases hk : cellsOk (ev ch s x) with
  | false => rw [hk] at hc; simp at hc
  | true =>
    rw [hk] at hc
    simp only [cond_true, Option.some.injEq, Out.mk.injEq] at hc; obtain ⟨rfl, rfl, rfl, rfl⟩ := hc
    have hcv := cells_vr hx hk
    obtain ⟨h1, h2, h3⟩ := H.alloc hn hfree (a.eval x).cells t (ev ch s x).cells.length (.lit 1 (ev ch s x).cells) (fun w' hs hb => by
      refine ⟨w.heap.size, (ev ch s x).cells.length, (a.eval x).cells, t, by simp [ext], by simp, hb, hcv.1.symm, fun i hi => (hcv.2 i hi).mono hs (fun _ x => x) (fun o' y hy => ?_)⟩
      by_cases e : o' = nid
      · subst e
        exfalso
        by_cases hl : o' < s.heap.length
        · have := H.objs o' hl; rw [hfree] at this; rw [this] at hy; cases hy
        · rw [H.free o' (by omega)] at hy; cases hy
      · simp [ext, e, hy])
    exact ⟨goes_semTo (e := Instr.box t (a.eval x)) (by simp only [execOp, hop]) (by simp [Instr.box, newVar, newRow]) (.ptr nid 1 1 0 0 w.heap.size (ev ch s x).cells.length (by simp [ext])) h1 ⟨h2, fun _ x => x, h3, fun _ x => .inl x, alloc_size _ _, ext_newg⟩, rfl⟩
theorem go_store {t : TypeId} {x y : Operand} (hob : conj ob) (hT : TabOK P T) (hop : o.op = .store t x y) (hc : core1 G T eqs base (.store t x y) ch s nid = some ⟨ob, val, upd, kl⟩) : Goes P B0 w0 w Fz g a o val (apply upd s.heap) ∧ kl = none := by
  have hx := ev_vr F hch x
  have hy := ev_vr F hch y
  simp only [core1] at hc
  split at hc
  · rename_i ti e0
    cases hz : (Nat.beq ti.size (ev ch s y).cells.length && (ev ch s y).cells.all oneCell?) with
    | false => rw [hz] at hc; simp at hc
    | true =>
      rw [hz] at hc
      simp only [cond_true] at hc
      rw [Bool.and_eq_true] at hz
      have hsize := beq_eq hz.1
      obtain ⟨hl, hv⟩ := cells_vr hy (cellsOk_of hz.2)
      have h1 := mem_oneCell hz.2 hl hv
      cases hex : ev ch s x with
      | ptr oo N st ix j =>
        rw [hex] at hc hx
        obtain ⟨b, κ, hg, hX⟩ : ∃ b κ, g oo = some (b, κ) ∧ a.eval x = .pointer (some ⟨b, ix * st + j, none⟩) := by
          generalize a.eval x = c at hx; cases hx; exact ⟨_, _, by assumption, rfl⟩
        have fin : ∀ ob', 0 < (ev ch s y).cells.length → ((∃ u cells cs, nth .free s.heap oo = .lit u cells ∧ writeLit N st ix cells j (ev ch s y).cells = some cs ∧ ob' = .lit u cs ∧ (N ≤ 1 ∨ ix < N)) ∨ (∃ n row, nth .free s.heap oo = .rows st n row ∧ j + (ev ch s y).cells.length ≤ st ∧ ix < n ∧ ob' = .rows st n fun r => merges (r == ix) (paste (row r) j (ev ch s y).cells) (row r))) →
            Goes P B0 w0 w Fz g a o .top (put1 oo ob' s.heap) := fun ob' hpos hk => by
          obtain ⟨cur, tt, hb, hfit, hH, hS⟩ := obj_store H hg hl hv N hpos ob' hk
          refine goes_skip ?_ hH ⟨hS, fun _ x => x, fun _ _ x => x, fun _ x => .inl x, by simp [World.setRow], fun _ _ _ x => .inl x⟩
          have hr := store_run (P := P) (T := T) (c := a.eval y) (p := ix * st + j) hT e0 hb (by omega) (by omega) h1
          simp [execOp, hop, hX, hr]
        have hpos : 0 < (ev ch s y).cells.length ∨ (ev ch s y).cells.length = 0 := by omega
        have hz0 : ¬ (ev ch s y).cells.length = 0 → 0 < (ev ch s y).cells.length := by omega
        simp only at hc
        cases hbz : Nat.blt 0 (ev ch s y).cells.length with
        | false => rw [hbz] at hc; simp at hc
        | true =>
        rw [hbz] at hc
        simp only [cond_true] at hc
        have hpos := blt_lt hbz
        split at hc
        · rename_i u cells hoo
          split at hc
          · rename_i cs hw
            split at hc
            · simp only [Option.some.injEq, Out.mk.injEq] at hc; obtain ⟨rfl, rfl, rfl, rfl⟩ := hc
              exact ⟨fin _ hpos (.inl ⟨u, cells, cs, hoo, hw, rfl, .inl (by omega)⟩), rfl⟩
            · simp only [Option.some.injEq, Out.mk.injEq] at hc; obtain ⟨rfl, rfl, rfl, rfl⟩ := hc
              exact ⟨fin _ hpos (.inl ⟨u, cells, cs, hoo, hw, rfl, .inl (by omega)⟩), rfl⟩
            · simp only [Option.some.injEq, Out.mk.injEq] at hc; obtain ⟨rfl, rfl, rfl, rfl⟩ := hc
              exact ⟨fin _ hpos (.inl ⟨u, cells, cs, hoo, hw, rfl, .inr hob⟩), rfl⟩
          · simp at hc
        · rename_i s' n row hoo
          cases hb2 : (st == s' && Nat.ble (j + (ev ch s y).cells.length) st) with
          | false => rw [hb2] at hc; simp at hc
          | true =>
            rw [hb2] at hc
            simp only [cond_true, Option.some.injEq, Out.mk.injEq] at hc; obtain ⟨rfl, rfl, rfl, rfl⟩ := hc
            rw [Bool.and_eq_true] at hb2
            have hs : st = s' := by simpa using hb2.1
            subst hs
            exact ⟨fin _ hpos (.inr ⟨n, row, hoo, ble_le hb2.2, hob, rfl⟩), rfl⟩
        · simp at hc
      | _ => rw [hex] at hc; simp at hc
  · simp at hc
theorem go_index {t : TypeId} {x y : Operand} (hob : conj ob) (hT : TabOK P T) (hop : o.op = .index t x y) (hc : core1 G T eqs base (.index t x y) ch s nid = some ⟨ob, val, upd, kl⟩) : Goes P B0 w0 w Fz g a o val (apply upd s.heap) ∧ kl = none := by
  have hx := ev_vr F hch x
  have hy := ev_vr F hch y
  have fin : ∀ {n e : Nat} {sz by_ : Nat} {z : AV} {ei : TI} {cs : List AV} {k : IntKind} {q : Int} {ds : List AV}, T.get t = some ⟨.arr n e, sz, by_, z⟩ → T.get e = some ei → ev ch s x = .agg cs → a.eval y = .int k q →
      (Nat.blt 0 ei.size && Nat.beq cs.length (n * ei.size)) = true → 0 ≤ q ∧ q < n → ds.length = ei.size →
      (∀ (vs : Array Value), cs.length = vs.size → (∀ i, i < cs.length → VR w Fz g (nth .top cs i) (vs.getD i undef)) → ∀ p, p < ei.size → VR w Fz g (nth .top ds p) (vs.getD (q.toNat * ei.size + p) undef)) →
      Goes P B0 w0 w Fz g a o (pack ei.agg ds) s.heap := by
    intro n e sz by_ z ei cs k q ds e0 e1 e2 hY hb hq hdl hds
    rw [Bool.and_eq_true] at hb
    have hpos := blt_lt hb.1
    have hlen := beq_eq hb.2
    rw [e2] at hx
    obtain ⟨vs, hX, hl, hv⟩ := inv_agg hx
    obtain ⟨d, hd, hk⟩ := hT.und (w := w) e0
    simp only [kOK] at hk; subst hk
    have hqn : q.toNat < n := by omega
    have hle : (q.toNat + 1) * ei.size ≤ n * ei.size := Nat.mul_le_mul_right _ (by omega)
    rw [Nat.add_mul, Nat.one_mul] at hle
    have hag := hT.agg (w := w) e1
    have hsz := hT.size (w := w) e1
    have hp := hds vs hl hv
    cases hb' : ei.agg with
    | true =>
      rw [hb'] at hag
      refine goes_sem (e := Instr.index t (a.eval x) (a.eval y)) (c := .agg (vs.extract (q.toNat * ei.size) (q.toNat * ei.size + ei.size))) (by simp only [execOp, hop]) (by simp [Instr.index, hY, asIntOf, hd, hX, hq, hsz, part, hag]) ?_ H
      refine .agg _ _ (by rw [hdl]; simp; omega) fun i hi => ?_
      have : (vs.extract (q.toNat * ei.size) (q.toNat * ei.size + ei.size)).getD i undef = vs.getD (q.toNat * ei.size + i) undef := by
        simp only [Array.getD_eq_getD_getElem?, Array.getElem?_extract]
        rw [if_pos (by omega)]
      rw [this]
      exact hp i (by omega)
    | false =>
      rw [hb'] at hag
      have hlt : q.toNat * ei.size < vs.size := by omega
      have h0 := hp 0 hpos
      simp only [Array.getD, Nat.add_zero, hlt, dif_pos] at h0
      exact goes_sem (e := Instr.index t (a.eval x) (a.eval y)) (c := vs[q.toNat * ei.size]) (by simp only [execOp, hop]) (by simp [Instr.index, hY, asIntOf, hd, hX, hq, hsz, part, hag, hlt]) h0 H
  simp only [core1] at hc
  split at hc
  · rename_i n e sz by_ z cs k q e0 e2 e3
    split at hc
    · rename_i ei e1
      cases hb : (Nat.blt 0 ei.size && Nat.beq cs.length (n * ei.size)) with
      | false => rw [hb] at hc; simp at hc
      | true =>
        rw [hb] at hc
        simp only [cond_true, Option.some.injEq, Out.mk.injEq] at hc; obtain ⟨rfl, rfl, rfl, rfl⟩ := hc
        rw [e3] at hy
        have hq : 0 ≤ q ∧ q < n := hob
        refine ⟨fin e0 e1 e2 (inv_cint hy) hb hq (cut_length _ _ _ _) fun vs hl hv p hp => ?_, rfl⟩
        rw [nth_cut _ _ _ _ _ hp]
        rw [Bool.and_eq_true] at hb
        have hlen := beq_eq hb.2
        have hle : (q.toNat + 1) * ei.size ≤ n * ei.size := Nat.mul_le_mul_right _ (by omega)
        rw [Nat.add_mul, Nat.one_mul] at hle
        exact hv _ (by omega)
    · simp at hc
  · rename_i n e sz by_ z cs k q e0 e2 e3
    split at hc
    · rename_i ei e1
      cases hb : (Nat.blt 0 ei.size && Nat.beq cs.length (n * ei.size)) with
      | false => rw [hb] at hc; simp at hc
      | true =>
        rw [hb] at hc
        simp only [cond_true, Option.some.injEq, Out.mk.injEq] at hc; obtain ⟨rfl, rfl, rfl, rfl⟩ := hc
        rw [e3] at hy
        have hq : 0 ≤ q ∧ q < n := hob
        refine ⟨fin e0 e1 e2 (inv_int hy) hb hq (readLit_length _ _ _ _ _ _) fun vs hl hv p hp => ?_, rfl⟩
        rw [nth_readLit _ _ _ _ _ _ _ hp, Nat.zero_add]
        rw [Bool.and_eq_true] at hb
        have hlen := beq_eq hb.2
        have hle : (q.toNat + 1) * ei.size ≤ n * ei.size := Nat.mul_le_mul_right _ (by omega)
        rw [Nat.add_mul, Nat.one_mul] at hle
        exact placeLit_vr (f := fun i => vs.getD i undef) (.inr (by omega)) (hv _ (by omega))
    · simp at hc
  · simp at hc
end ops
end
end Go.Proofs.YtnnoplgabnfdiaaGreatDoor.Sh
