/- The shadow machine: append and clear, seen from both sides. -/
import Derived.Test.YtepbibbeifbokaaSh9
namespace Go.Proofs.Ytepbibbeifbokaa.Sh
open Go Go.RowKit
set_option linter.unusedVariables false
set_option linter.unusedSimpArgs false
section
variable {P : Program} {T : Tab} {B0 : Nat} {w0 w w' : World} {Fz : Nat → Prop} {g g' : Gh} {h : List AO} {a : Act} {o : Oper} {ob : List Prop} {val : AV} {upd : List (Nat × AO)}

def newsOf (f : Nat → Value) (n : Nat) : List Value := (List.range n).map f
theorem newsOf_length (f : Nat → Value) (n : Nat) : (newsOf f n).length = n := by simp [newsOf]
theorem newsOf_get (f : Nat → Value) (n j : Nat) (v : Value) (h : (newsOf f n)[j]? = some v) : j < n ∧ v = f j := by
  simp only [newsOf, List.getElem?_map, Option.map_eq_some_iff] at h
  obtain ⟨q, h1, h2⟩ := h
  have hj : j < n := by
    rcases Nat.lt_or_ge j n with e | e
    · exact e
    · simp [List.getElem?_eq_none (l := List.range n) (i := j) (by simp; exact e)] at h1
  rw [List.getElem?_range hj] at h1
  cases h1
  exact ⟨hj, h2.symm⟩
theorem newsOf_getD (f : Nat → Value) (n j : Nat) (h : j < n) : (newsOf f n).getD j undef = f j := by
  simp [newsOf, List.getD_eq_getElem?_getD, h]

theorem append_none (t ty e : TypeId) (i : TypeInfo) (ht : P.underlying t = some (.slice e)) (hi : P.info? e = some i) (A A2 : Option Addr) (n c c2 : Nat) (hn : n ≤ c) :
    (Builtin.append_ #[t, t] ty #[.slice A n c, .slice A2 0 c2]).run P w = .ok (.slice A n c) w := by
  cases A <;> cases A2 <;> simp [Builtin.append_, run_underlying ht, sizeOf, typeInfo, hi, Builtin.lenOf, hn, Builtin.firstCells, loadCells, loadCellsFrom, storeCells]
theorem append_room (t ty e : TypeId) (i : TypeInfo) (ht : P.underlying t = some (.slice e)) (hi : P.info? e = some i) (b sLen sCap : Nat) (cur : Array Value) (tt : TypeId) (hg : w.heap[b]? = some (.cells cur tt (0, 0)))
    (ad : Addr) (m c : Nat) (news : List Value) (hl : news.length = m * i.size) (hnews : ∀ j u, news[j]? = some u → w.cell? (ad.add j) = some u) (h1 : ∀ u ∈ news, u.oneCell' = true)
    (hroom : sLen + m ≤ sCap) (hfit : sLen * i.size + news.length ≤ cur.size) :
    (Builtin.append_ #[t, t] ty #[.slice (some ⟨b, 0, none⟩) sLen sCap, .slice (some ad) m c]).run P w =
      .ok (.slice (some ⟨b, 0, none⟩) (sLen + m) sCap) (w.setRow b (cur.toList.take (sLen * i.size) ++ news ++ cur.toList.drop (sLen * i.size + news.length)).toArray) := by
  have hf := run_firstCells_some (P := P) w i.size m ad m c news hl hnews
  have hst := run_storeCells_at P b (sLen * i.size) tt news 0 cur w hg (by simpa using hfit) h1
  simp only [Nat.add_zero] at hst
  simp [Builtin.append_, run_underlying ht, sizeOf, typeInfo, hi, Builtin.lenOf, hroom, hf, Addr.add_lit, hst]

/-- What an append comes to that makes a new row. -/
theorem append_new (t ty e : TypeId) (i : TypeInfo) (z : Value) (ht : P.underlying t = some (.slice e)) (hi : P.info? e = some i) (hz : i.zero = some z) (hzs : z.cells.size = i.size) (A : Option Addr) (n c : Nat) (old : Nat → Value) (hold : n = 0 ∨ ∃ ad, A = some ad ∧ ∀ q, q < n * i.size → w.cell? (ad.add q) = some (old q)) (hA : A = none → c = 0 ∧ n = 0)
    (ad : Addr) (m c2 : Nat) (f : Nat → Value) (hf : ∀ q, q < m * i.size → w.cell? (ad.add q) = some (f q)) (hgr : c < n + m) (hbig : (n + m) * i.bytes ≤ 140737488355328) (hby : 0 < i.bytes) :
    ∃ κ cells, n + m ≤ κ ∧ (Builtin.append_ #[t, t] ty #[.slice A n c, .slice (some ad) m c2]).run P w = .ok (.slice (some ⟨w.heap.size, 0, none⟩) (n + m) κ) (w.drew.alloc (.cells cells e)) ∧ cells.size = κ * i.size ∧
      (∀ q, q < n * i.size → cells.getD q undef = old q) ∧ ∀ q, q < m * i.size → cells.getD (n * i.size + q) undef = f q := by
  have hnm : n + m ≤ 140737488355328 := Nat.le_trans (Nat.le_mul_of_pos_right _ hby) hbig
  have hge := grownCap_ge w (n + m) c e
  have hnews : ∀ j v, (newsOf f (m * i.size))[j]? = some v → w.cell? (ad.add j) = some v := fun j v hj => by
    obtain ⟨h1, rfl⟩ := newsOf_get _ _ _ _ hj
    exact hf j h1
  cases A with
  | none =>
    obtain ⟨rfl, rfl⟩ := hA rfl
    have hr := run_append_nil (P := P) w t ty e i z ht hi hz ad m c2 (newsOf f (m * i.size)) (newsOf_length _ _) hnews (by omega) (by omega) (by simp only [Nat.zero_add] at hbig; omega)
    rw [Nat.zero_add] at hge ⊢
    refine ⟨_, _, hge, hr, ?_, fun q hq => by simp at hq, fun q hq => ?_⟩
    · simp only [Array.size_append, List.size_toArray, newsOf_length, size_zeroCells, hzs, ← Nat.add_mul]
      congr 1; omega
    · rw [Nat.zero_mul, Nat.zero_add]
      have : (((newsOf f (m * i.size)).toArray ++ Builtin.zeroCells z.cells (grownCap w m 0 e - m)).getD q undef) = (newsOf f (m * i.size)).getD q undef := by
        simp only [Array.getD_eq_getD_getElem?, List.getD_eq_getElem?_getD]
        rw [Array.getElem?_append_left (by simp [newsOf_length]; exact hq)]
        simp
      rw [this, newsOf_getD _ _ _ hq]
  | some b =>
    have holds : ∀ j v, (newsOf old (n * i.size))[j]? = some v → w.cell? (b.add j) = some v := fun j v hj => by
      obtain ⟨h1, rfl⟩ := newsOf_get _ _ _ _ hj
      rcases hold with h0 | ⟨ad', hA', hc⟩
      · subst h0; simp at h1
      · cases hA'; exact hc j h1
    have hr := run_append_grow (P := P) w t ty e i z ht hi hz b n c (newsOf old (n * i.size)) (newsOf_length _ _) holds ad m c2 (newsOf f (m * i.size)) (newsOf_length _ _) hnews hgr (by omega) (growslice_fits hgr hbig)
    refine ⟨_, _, hge, hr, ?_, fun q hq => ?_, fun q hq => ?_⟩
    · simp only [Array.size_append, List.size_toArray, newsOf_length, size_zeroCells, hzs, ← Nat.add_mul]
      congr 1; omega
    · have : (((newsOf old (n * i.size)).toArray ++ (newsOf f (m * i.size)).toArray ++ Builtin.zeroCells z.cells (grownCap w (n + m) c e - (n + m))).getD q undef) = (newsOf old (n * i.size)).getD q undef := by
        simp only [Array.getD_eq_getD_getElem?, List.getD_eq_getElem?_getD]
        rw [Array.getElem?_append_left (by simp [newsOf_length]; omega), Array.getElem?_append_left (by simp [newsOf_length]; omega)]
        simp
      rw [this, newsOf_getD _ _ _ hq]
    · have : (((newsOf old (n * i.size)).toArray ++ (newsOf f (m * i.size)).toArray ++ Builtin.zeroCells z.cells (grownCap w (n + m) c e - (n + m))).getD (n * i.size + q) undef) = (newsOf f (m * i.size)).getD q undef := by
        simp only [Array.getD_eq_getD_getElem?, List.getD_eq_getElem?_getD]
        rw [Array.getElem?_append_left (by simp [newsOf_length]; omega), Array.getElem?_append_right (by simp [newsOf_length])]
        simp [newsOf_length]
      rw [this, newsOf_getD _ _ _ hq]

theorem call_builtin {c : Call} {b : Builtin} (hop : o.op = .call c) (hcal : c.callee = .builtin b) {r : Value} (hr : ∀ consts, (builtin b c.argTypes o.type consts (c.args.map a.eval)).run P w = .ok (.value r) w') : (execOp a.eval o).run P w = .ok (.value r) w' := by
  simp only [execOp, hop, resolve, hcal, Sem.run_bind, Sem.run_pure, Result.andThen_ok, invoke]
  exact hr _
theorem call_append {c : Call} {X Y : Operand} {t : TypeId} (hop : o.op = .call c) (hcal : c.callee = .builtin .append) (hargs : c.args = #[X, Y]) (hty : c.argTypes = #[t, t]) {r : Value} (hr : (Builtin.append_ #[t, t] o.type #[a.eval X, a.eval Y]).run P w = .ok r w') : (execOp a.eval o).run P w = .ok (.value r) w' := by
  refine call_builtin hop hcal fun consts => ?_
  rw [hargs, hty]
  simp [builtin, hr]
theorem args_two {ch : List (Nat × Bool)} {s : AState} {c : Call} {x y : AV} (h : c.args.toList.map (ev ch s) = [x, y]) : ∃ X Y, c.args = #[X, Y] ∧ ev ch s X = x ∧ ev ch s Y = y := by
  obtain ⟨l, hl⟩ : ∃ l, c.args.toList = l := ⟨_, rfl⟩
  rw [hl] at h
  match l, h with
  | [X, Y], h =>
    simp only [List.map_cons, List.map_nil, List.cons.injEq, and_true] at h
    exact ⟨X, Y, by rw [← Array.toArray_toList (xs := c.args), hl], h.1, h.2⟩
theorem types_two {c : Call} {t t' : TypeId} (h : c.argTypes.toList = [t, t']) : c.argTypes = #[t, t'] := by rw [← Array.toArray_toList (xs := c.argTypes), h]

/-- How the world may have gone on, when what led to object k was forgotten. -/
def GoesK (P : Program) (B0 : Nat) (w0 w : World) (Fz : Nat → Prop) (g : Gh) (a : Act) (o : Oper) (k : Nat) (val : AV) (h' : List AO) : Prop :=
  ∀ (K : Act → World → Prop) (Q : Exit → Act → World → Prop), (∀ c w' g', VR w' Fz g' val c → HR B0 w0 w' Fz g' h' → Same Fz w w' → w.heap.size ≤ w'.heap.size → (∀ o' x, o' ≠ k → g o' = some x → g' o' = some x) → K (a.put o.dst c) w') → o.wp P a w K Q
theorem goesK_to {k : Nat} {h' : List AO} {c : Value} (hr : (execOp a.eval o).run P w = .ok (.value c) w') (hv : VR w' Fz g' val c) (H : HR B0 w0 w' Fz g' h') (h1 : Same Fz w w') (h2 : w.heap.size ≤ w'.heap.size) (h3 : ∀ o' x, o' ≠ k → g o' = some x → g' o' = some x) : GoesK P B0 w0 w Fz g a o k val h' := fun K Q hK => by
  unfold Oper.wp
  rw [hr, Oper.upon_value]
  exact hK c w' g' hv H h1 h2 h3

/-- A fresh row, out of an append to nothing. -/
theorem append_fresh {nid : Nat} (hT : TabOK P T) (H : HR B0 w0 w Fz g h) (hn : nid ≤ h.length) (hfree : nth .free h nid = .free) {t e sz by_ : Nat} {z : AV} {ei : TI} (e0 : T.get t = some ⟨.slice e, sz, by_, z⟩) (e1 : T.get e = some ei) (hz : 0 < ei.size) (hb : 0 < ei.bytes)
    {A : Option Addr} {y : AV} {c2 : Value} {pr : List Prop} {m : Nat} {r : Nat → List AV} (hs : srcRows (fun o => nth .free h o) ei.size y = some (pr, m, r)) (hpr : conj pr) (hv : VR w Fz g y c2) (hbig : m * ei.bytes ≤ 140737488355328) (ty : TypeId) :
    ∃ v w' g', (Builtin.append_ #[t, t] ty #[.slice A 0 0, c2]).run P w = .ok v w' ∧ VR w' Fz g' (.sl nid ei.size 0 m none) v ∧ HR B0 w0 w' Fz g' (put1 nid (.rows ei.size m r) h) ∧ On w w' Fz Fz g g' := by
  have hgn : g nid = none := by
    by_cases e : nid < h.length
    · have := H.objs nid e; rw [hfree] at this; exact this
    · exact H.free nid (by omega)
  obtain ⟨A2, cc, f, rfl, hsrc, hrows⟩ := src_vr H hz hs hpr hv
  obtain ⟨i, zz, i1, i2, i3, i4, i5, i6, i7⟩ := (hT e ei e1).info
  obtain ⟨d, hd, hk⟩ := (hT t _ e0).und
  simp only [kOK] at hk; subst hk
  have hext : ∀ κ o' x, g o' = some x → ext g nid κ o' = some x := fun κ o' x hx => by
    by_cases eo : o' = nid
    · subst eo; rw [hgn] at hx; cases hx
    · simp [ext, eo, hx]
  by_cases hm : m = 0
  · subst hm
    refine ⟨.slice A 0 0, w, ext g nid (0, 0), append_none t ty e i hd i1 A A2 0 0 cc (Nat.le_refl _), .sle _ _ _ _ _ 0 (by simp [ext]) (fun n hn => by cases hn), ?_, ⟨Same.refl _ _, fun _ x => x, hext _, fun _ x => .inl x, Nat.le_refl _⟩⟩
    exact H.change H.below (Nat.le_refl _) hn (fun _ _ _ => rfl) (fun o' e => by simp [ext, e]) (fun x hx => by rw [hgn] at hx; cases hx) ⟨0, 0, by simp [ext], Nat.le_refl _, .inl rfl⟩ (fun b hb => by obtain ⟨κ, e, hκ⟩ := hb; simp [ext] at e; exact absurd e.2.symm hκ)
  · rcases hsrc with h0 | ⟨ad, rfl, hcell⟩
    · exact absurd h0 hm
    · have hzs : zz.cells.size = i.size := by
        have := cells_vr (i5 w Fz g) i6
        omega
      obtain ⟨κ, cells, hκ, hrun, hcs, _, hnew⟩ := append_new (P := P) (w := w) t ty e i zz hd i1 i4 hzs A 0 0 (fun _ => undef) (.inl rfl) (fun _ => ⟨rfl, rfl⟩) ad m cc f (fun q hq => hcell q (by rw [← i2]; exact hq)) (by omega) (by rw [i3, Nat.zero_add]; exact hbig) (by omega)
      simp only [Nat.zero_add, Nat.zero_mul] at hκ hrun hnew
      obtain ⟨g1, g2, g3⟩ := (H.drew).alloc hn hfree cells e κ (.rows ei.size m r) (fun w' hs' hbb => ⟨w.heap.size, κ, by simp [ext], hκ, .inr ⟨cells, e, hbb, by rw [hcs, i2], fun q hq j hj => by
        have hb : q * ei.size + j < m * i.size := by
          have h1 : (q + 1) * ei.size ≤ m * ei.size := Nat.mul_le_mul_right _ (by omega)
          rw [Nat.add_mul, Nat.one_mul] at h1; rw [i2]; omega
        rw [hnew _ hb]
        exact (VR.mono (w := w) (w' := w') (fun b hb => hs' b hb) (fun _ x => x) (hext _) (hrows q hq j hj))⟩⟩)
      refine ⟨_, _, _, hrun, ?_, g1, ⟨fun b hb => g2 b hb, fun _ x => x, hext _, fun _ x => .inl x, alloc_size w.drew _⟩⟩
      have := VR.sl (w := w.drew.alloc (.cells cells e)) (Fz := Fz) (g := ext g nid (w.drew.heap.size, κ)) nid ei.size 0 m none w.heap.size κ (by simp [ext]) (by omega) (fun n hn => by cases hn)
      simpa using this
end
end Go.Proofs.Ytepbibbeifbokaa.Sh
