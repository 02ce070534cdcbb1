/- Part 19 of a proof over the shadow machine. -/
import Derived.Test.YtnnoplgabnfdiaaGreatDoorN18
/- The shadow machine: an append that may move, as an object of its own. -/
namespace Go.Proofs.YtnnoplgabnfdiaaGreatDoor.Sh
open Go Go.RowKit
set_option linter.unusedVariables false
set_option linter.unusedSimpArgs false
section
variable {D : List Deferred} {P : Program} {T : Tab} {B0 : Nat} {w0 w w' : World} {Fz : Nat → Prop} {g g' : Gh} {h : List AO} {a : Act} {o : Oper} {ob : List Prop} {val : AV} {upd : List (Nat × AO)}
theorem HR.fork {k : Nat} {ob : AO} {b' κ' : Nat} (H : HR B0 w0 w Fz g h) (hB : Below B0 w0 w') (hs : w.heap.size ≤ w'.heap.size) (hk : k < h.length)
    (hsame : ∀ b, b < w.heap.size → (Fz b ∨ ∃ o', o' ≠ k ∧ o' < h.length ∧ Has g o' (nth .free h o') b) → w'.heap[b]? = w.heap[b]?)
    (hob : OR w' Fz (ext g h.length (b', κ')) h.length ob) (hown : ∀ b, Has (ext g h.length (b', κ')) h.length ob b → B0 ≤ b ∧ b < w'.heap.size ∧ ¬ Fz b ∧ ∀ o', o' ≠ k → o' < h.length → ¬ Has g o' (nth .free h o') b) :
    HR B0 w0 w' Fz (ext g h.length (b', κ')) (setNth h k .dead ++ [ob]) := by
  have hl := setNth_length h k AO.dead
  have hnth : ∀ o, nth .free (setNth h k .dead) o = if k = o ∧ o < h.length then .dead else nth .free h o := fun o => nth_setNth .free h k o .dead
  have hHas : ∀ o b, Has g o (nth .free (setNth h k .dead) o) b → o ≠ k ∧ Has g o (nth .free h o) b := fun o b hh => by
    rw [hnth] at hh
    split at hh
    · exact hh.elim
    · rename_i hc
      refine ⟨fun e => ?_, hh⟩
      subst e
      exact hc ⟨rfl, hk⟩
  have H1 : HR B0 w0 w Fz g (setNth h k .dead) := by
    refine ⟨H.below, H.base, H.fz, fun o ho => H.free o (by omega), fun o ho => ?_, fun o b ho hh => H.own o b (by omega) (hHas o b hh).2, fun o o' b ho ho' hh hh' => H.sep o o' b (by omega) (by omega) (hHas o b hh).2 (hHas o' b hh').2, H.gl⟩
    rw [hnth]
    split
    · trivial
    · exact H.objs o (by omega)
  have e : put1 h.length ob (setNth h k .dead) = setNth h k .dead ++ [ob] := by
    unfold put1
    rw [blt_f (by omega)]; rfl
  rw [← e]
  refine H1.change hB hs (by omega) (fun b hb hc => hsame b hb ?_) (fun o' ho => by unfold ext; rw [if_neg ho]) (fun x hx => by rw [H.free _ (Nat.le_refl _)] at hx; cases hx) hob (fun b hb => ?_)
  · rcases hc with hc | ⟨o', e1, e2, e3⟩
    · exact .inl hc
    · obtain ⟨q1, q2⟩ := hHas o' b e3
      exact .inr ⟨o', q1, by omega, q2⟩
  · obtain ⟨a1, a2, a3, a4⟩ := hown b hb
    exact ⟨a1, a2, a3, fun o' e1 e2 e3 => by
      obtain ⟨q1, q2⟩ := hHas o' b e3
      exact a4 o' q1 (by omega) q2⟩
theorem append_fork {k : Nat} (hT : TabOK P T) (H : HR B0 w0 w Fz g h) {t e sz by_ : Nat} {z : AV} {ei : TI} (e0 : T.get t = some ⟨.slice e, sz, by_, z⟩) (e1 : T.get e = some ei) (hz : 0 < ei.size) (hb : 0 < ei.bytes)
    {y : AV} {c1 c2 : Value} {pr : List Prop} {m len : Nat} {r row : Nat → List AV} (hs : srcRows (fun o => nth .free h o) ei.size y = some (pr, m, r)) (hpr : conj pr) (hv : VR w Fz g y c2)
    (hx : VR w Fz g (.sl k ei.size 0 len none) c1) (hk : nth .free h k = .rows ei.size len row) (hbig : (len + m) * ei.bytes ≤ 140737488355328) (hone : ∀ i, i < m → (r i).length = ei.size ∧ (r i).all oneCell? = true) (ty : TypeId) (hm : m ≠ 0) :
    ∃ v w' b' κ', (Builtin.append_ #[t, t] ty #[c1, c2]).run P w = .ok v w' ∧ VR w' Fz (ext g h.length (b', κ')) (.sl h.length ei.size 0 (len + m) none) v ∧
      HR B0 w0 w' Fz (ext g h.length (b', κ')) (setNth h k .dead ++ [.rows ei.size (len + m) fun i => merges (decide (i < len)) (row i) (r (i - len))]) ∧ Same Fz w w' ∧ w.heap.size ≤ w'.heap.size ∧ (g k = some (b', κ') ∨ w.heap.size ≤ b') := by
  obtain ⟨A2, cc, f, rfl, hsrc, hrows⟩ := src_vr H hz hs hpr hv
  obtain ⟨i, zz, i1, i2, i3, i4, i5, i6, i7⟩ := (hT e ei e1).info
  obtain ⟨d, hd, hkd⟩ := (hT t _ e0).und
  simp only [kOK] at hkd; subst hkd
  obtain ⟨b, κ, hg, hl, hcap, hX⟩ := inv_sl hx
  have hkl := lt_of_gh H hg
  have hO := H.objs k hkl
  rw [hk] at hO
  obtain ⟨b', κ', f1, f2, f3⟩ := hO
  rw [hg] at f1
  obtain ⟨rfl, rfl⟩ : b = b' ∧ κ = κ' := by simpa using f1
  have hgg : ∀ x o' y, g o' = some y → ext g h.length x o' = some y := fun x o' y hy => by
    have := lt_of_gh H hy
    unfold ext
    rw [if_neg (by omega)]
    exact hy
  -- a row out of cells
  have rows : ∀ (w' : World) (x : Nat × Nat) (cur' : Array Value), Same Fz w w' → (∀ q, q < len → ∀ j, j < ei.size → VR w Fz g (nth .top (row q) j) (cur'.getD (q * ei.size + j) undef)) → (∀ q, q < m → ∀ j, j < ei.size → cur'.getD ((len + q) * ei.size + j) undef = f (q * ei.size + j)) →
      ∀ q, q < len + m → ∀ j, j < ei.size → VR w' Fz (ext g h.length x) (nth .top (merges (decide (q < len)) (row q) (r (q - len))) j) (cur'.getD (q * ei.size + j) undef) := fun w' x cur' hS h1 h2 q hq j hj =>
    merges_vr (fun e => by
      have e' : q < len := by simpa using e
      exact (h1 q e' j hj).mono hS (fun _ x => x) (hgg x))
    (fun e => by
      have e' : ¬ q < len := by simpa using e
      obtain ⟨p, rfl⟩ : ∃ p, q = len + p := ⟨q - len, by omega⟩
      rw [h2 p (by omega) j hj, show len + p - len = p by omega]
      exact (hrows p (by omega) j hj).mono hS (fun _ x => x) (hgg x))
  have hown0 : ∀ b'', Has g k (nth .free h k) b'' → B0 ≤ b'' ∧ b'' < w.heap.size ∧ ¬ Fz b'' ∧ ∀ o', o' ≠ k → o' < h.length → ¬ Has g o' (nth .free h o') b'' := fun b'' hb'' => by
    obtain ⟨a1, a2, a3⟩ := H.own k b'' hkl hb''
    exact ⟨a1, a2, a3, fun o' e hl hh' => e (H.sep o' k b'' hl hkl hh' hb'')⟩
  · rcases hsrc with h0 | ⟨ad, rfl, hcell⟩
    · exact absurd h0 hm
    · have hzs : zz.cells.size = i.size := by
        have := cells_vr (i5 w Fz g) i6
        omega
      by_cases hroom : len + m ≤ κ
      · rcases hX with hX | ⟨h0, h1, A, hX⟩
        · rcases f3 with f3 | ⟨cur, tt, f3, f4, f5⟩
          · omega
          · have hX' : c1 = .slice (some ⟨b, 0, none⟩) len κ := by rw [hX]; simp
            have hfit : len * ei.size + (newsOf f (m * ei.size)).length ≤ cur.size := by rw [newsOf_length, f4, ← Nat.add_mul]; exact Nat.mul_le_mul_right _ (by omega)
            have hrun := append_room (P := P) (w := w) t ty e i hd i1 b len κ cur tt f3 ad m cc (newsOf f (m * ei.size)) (by rw [newsOf_length, i2]) (fun j u hj => by
              obtain ⟨h1, rfl⟩ := newsOf_get _ _ _ _ hj; exact hcell j h1) (ones_vr hz hone hrows) (by omega) (by rw [i2]; exact hfit)
            rw [i2] at hrun
            obtain ⟨a1, a2, a3, a4⟩ := hown0 b (by rw [hk]; exact ⟨κ, hg, by omega⟩)
            generalize hcs : (cur.toList.take (len * ei.size) ++ newsOf f (m * ei.size) ++ cur.toList.drop (len * ei.size + (newsOf f (m * ei.size)).length)).toArray = cur' at hrun
            have hS : Same Fz w (w.setRow b cur') := fun q hq => Sh.setRow_other _ _ _ _ (fun e => a3 (e ▸ hq))
            have hsize : cur'.size = κ * ei.size := by rw [← hcs, splice_size _ _ _ hfit]; exact f4
            have hget : ∀ q, cur'.getD q undef = if len * ei.size ≤ q ∧ q < len * ei.size + m * ei.size then (newsOf f (m * ei.size)).getD (q - len * ei.size) undef else cur.getD q undef := fun q => by
              rw [← hcs, splice_get _ _ _ _ hfit, newsOf_length]
            refine ⟨_, _, b, κ, by rw [hX']; exact hrun, ?_, H.fork (below_setRow H.below a1 cur') (by simp [World.setRow]) hkl (fun q hq hc => ?_) ⟨b, κ, by simp [ext], hroom, .inr ⟨cur', tt, setRow_at w f3, hsize, rows _ _ cur' hS (fun q hq j hj => ?_) (fun q hq j hj => ?_)⟩⟩ (fun b'' hb'' => ?_), hS, by simp [World.setRow], .inl hg⟩
            · have := VR.sl (w := w.setRow b cur') (Fz := Fz) (g := ext g h.length (b, κ)) h.length ei.size 0 (len + m) none b κ (by simp [ext]) (by omega) (fun q hq => by cases hq)
              simpa using this
            · rcases hc with hc | ⟨o', e, hl', hh'⟩
              · exact hS q hc
              · exact Sh.setRow_other _ _ _ _ (fun eq => a4 o' e hl' (eq ▸ hh'))
            · rw [hget, if_neg (fun hc => by have := (in_row hj).mp hc; omega)]
              exact f5 q hq j hj
            · rw [hget, if_pos ((in_row hj).mpr ⟨by omega, by omega⟩)]
              have : (len + q) * ei.size + j - len * ei.size = q * ei.size + j := by rw [Nat.add_mul]; omega
              rw [this, newsOf_getD _ _ _ (by
                have h1 : (q + 1) * ei.size ≤ m * ei.size := Nat.mul_le_mul_right _ (by omega)
                rw [Nat.add_mul, Nat.one_mul] at h1; omega)]
            · obtain ⟨κ'', e, hκ⟩ := hb''
              simp [ext] at e
              obtain ⟨rfl, rfl⟩ := e
              exact ⟨a1, by simp [World.setRow]; exact a2, a3, a4⟩
        · omega
      · have hgen : ∃ A, c1 = .slice A len κ ∧ (len = 0 ∨ ∃ ad', A = some ad' ∧ ∃ cur tt, w.heap[b]? = some (.cells cur tt (0, 0)) ∧ cur.size = κ * ei.size ∧ (∀ q, q < len * ei.size → w.cell? (ad'.add q) = some (cur.getD q undef)) ∧ (∀ i, i < len → ∀ j, j < ei.size → VR w Fz g (nth .top (row i) j) (cur.getD (i * ei.size + j) undef))) ∧ (A = none → κ = 0 ∧ len = 0) := by
          rcases hX with hX | ⟨h0, h1, A, hX⟩
          · refine ⟨some ⟨b, 0, none⟩, by rw [hX]; simp, ?_, fun h => by cases h⟩
            rcases f3 with f3 | ⟨cur, tt, f3, f4, f5⟩
            · exact .inl (by omega)
            · refine .inr ⟨_, rfl, cur, tt, f3, f4, fun q hq => ?_, f5⟩
              rw [add_mk, Nat.zero_add]
              have : len * ei.size ≤ κ * ei.size := Nat.mul_le_mul_right _ (by omega)
              exact cell_of f3 (by omega)
          · exact ⟨A, by rw [hX, h0, h1], .inl h0, fun _ => ⟨h1, h0⟩⟩
        obtain ⟨A, hc1, hold, hAn⟩ := hgen
        obtain ⟨oldf, hof, hov⟩ : ∃ oldf : Nat → Value, (len = 0 ∨ ∃ ad', A = some ad' ∧ ∀ q, q < len * i.size → w.cell? (ad'.add q) = some (oldf q)) ∧ (∀ q, q < len → ∀ j, j < ei.size → VR w Fz g (nth .top (row q) j) (oldf (q * ei.size + j))) := by
          rcases hold with h0 | ⟨ad', hA, cur, tt, q1, q2, q3, q4⟩
          · exact ⟨fun _ => undef, .inl h0, fun q hq => absurd hq (by omega)⟩
          · exact ⟨fun q => cur.getD q undef, .inr ⟨ad', hA, by rw [i2]; exact q3⟩, q4⟩
        obtain ⟨κ', cells, hκ, hrun, hcs, hold', hnew⟩ := append_new (P := P) (w := w) t ty e i zz hd i1 i4 hzs A len κ oldf hof hAn ad m cc f (fun q hq => hcell q (by rw [← i2]; exact hq)) (by omega) (by rw [i3]; exact hbig) (by omega)
        rw [i2] at hcs hold' hnew
        have hS : Same Fz w (w.drew.alloc (.cells cells e)) := fun q hq => Below.heap_alloc w.drew _ _ (H.fz q hq)
        refine ⟨_, _, w.heap.size, κ', by rw [hc1]; exact hrun, ?_, H.fork ((H.below.drew).alloc H.base _) (alloc_size w.drew _) hkl (fun q hq _ => Below.heap_alloc w.drew _ _ hq) ⟨w.heap.size, κ', by simp [ext], hκ, .inr ⟨cells, e, by show (w.heap.push _)[w.heap.size]? = _; simp, hcs, rows _ _ cells hS (fun q hq j hj => ?_) (fun q hq j hj => ?_)⟩⟩ (fun b'' hb'' => ?_), hS, alloc_size w.drew _, .inr (Nat.le_refl _)⟩
        · have := VR.sl (w := w.drew.alloc (.cells cells e)) (Fz := Fz) (g := ext g h.length (w.heap.size, κ')) h.length ei.size 0 (len + m) none w.heap.size κ' (by simp [ext]) (by omega) (fun q hq => by cases hq)
          simpa using this
        · have hlt : q * ei.size + j < len * ei.size := by
            have h1 : (q + 1) * ei.size ≤ len * ei.size := Nat.mul_le_mul_right _ (by omega)
            rw [Nat.add_mul, Nat.one_mul] at h1; omega
          rw [hold' _ hlt]
          exact hov q hq j hj
        · have hlt : q * ei.size + j < m * ei.size := by
            have h1 : (q + 1) * ei.size ≤ m * ei.size := Nat.mul_le_mul_right _ (by omega)
            rw [Nat.add_mul, Nat.one_mul] at h1; omega
          rw [Nat.add_mul, Nat.add_assoc, hnew _ hlt]
        · obtain ⟨κ'', e', hκ'⟩ := hb''
          simp [ext] at e'
          obtain ⟨rfl, rfl⟩ := e'
          exact ⟨H.base, by show w.heap.size < (w.heap.push _).size; simp, fun hf => Nat.lt_irrefl _ (H.fz _ hf), fun o' e hl hh => Nat.lt_irrefl _ (H.own o' _ hl hh).2.1⟩

/-- An append that may move: what it asks, what it tells, the object that falls away, and the new one. -/
def appFork (c : Cfg) (op : Op) (s : AState) : Option (List Prop × AV × Nat × AO) := match op with
  | .call k => match k.callee with
    | .builtin .append => match k.args.toList.map (ev [] s), k.argTypes.toList with
      | [.sl q st 0 len none, y], [t, t'] => bif t == t' then (match c.T.get t with
        | some ⟨.slice e, _, _, _⟩ => match c.T.get e with
          | some ei => bif Nat.blt 0 ei.size && (Nat.blt 0 ei.bytes && (st == ei.size && Nat.ble c.base q)) then (match srcRows (fun o => nth .free s.heap o) ei.size y, nth .free s.heap q with
            | some (pr, m, r), .rows s' n row => bif s' == st then some (pr ++ [n = len, m ≠ 0, (len + m) * ei.bytes ≤ 140737488355328, ∀ i, i < m → (r i).length = st ∧ (r i).all oneCell? = true], .sl s.heap.length st 0 (len + m) none, q, .rows st (len + m) fun i => merges (decide (i < len)) (row i) (r (i - len))) else none
            | _, _ => none) else none
          | none => none
        | _ => none) else none
      | _, _ => none
    | _ => none
  | _ => none
theorem appFork_goes {c : Cfg} {s : AState} {k : Nat} {x : AO} (hT : TabOK P c.T) (F : FR D w Fz g s.tmps a) (H : HR B0 w0 w Fz g s.heap) (hc : appFork c o.op s = some (ob, val, k, x)) (hob : conj ob) :
    c.base ≤ k ∧ k < s.heap.length ∧ ∃ v w' b' κ', (execOp a.eval o).run P w = .ok (.value v) w' ∧ VR w' Fz (ext g s.heap.length (b', κ')) val v ∧ HR B0 w0 w' Fz (ext g s.heap.length (b', κ')) (setNth s.heap k .dead ++ [x]) ∧ Same Fz w w' ∧ w.heap.size ≤ w'.heap.size ∧ (g k = some (b', κ') ∨ w.heap.size ≤ b') := by
  unfold appFork at hc
  split at hc
  · rename_i k' hop
    split at hc
    · rename_i hcal
      split at hc
      · rename_i q st len y t t' hargs htys
        cases ht : (t == t') with
        | false => rw [ht] at hc; simp at hc
        | true =>
          rw [ht] at hc
          simp only [cond_true] at hc
          have htt : t = t' := by simpa using ht
          subst htt
          split at hc
          · rename_i e sz by_ z e0
            split at hc
            · rename_i ei e1
              cases hb : (Nat.blt 0 ei.size && (Nat.blt 0 ei.bytes && (st == ei.size && Nat.ble c.base q))) with
              | false => rw [hb] at hc; simp at hc
              | true =>
                rw [hb] at hc
                simp only [cond_true] at hc
                simp only [Bool.and_eq_true] at hb
                obtain ⟨b1, b2, b3, b4⟩ := hb
                have b3 : st = ei.size := by simpa using b3
                subst b3
                split at hc
                · rename_i pr m r s' n row hs hq
                  cases hs' : (s' == ei.size) with
                  | false => rw [hs'] at hc; simp at hc
                  | true =>
                    rw [hs'] at hc
                    have es : s' = ei.size := by simpa using hs'
                    subst es
                    simp only [cond_true, Option.some.injEq, Prod.mk.injEq] at hc
                    obtain ⟨rfl, rfl, rfl, rfl⟩ := hc
                    rw [conj_append] at hob
                    obtain ⟨h1, h2, h3, h4, h5⟩ := hob
                    subst h2
                    obtain ⟨X, Y, hXY, hX, hY⟩ := args_two hargs
                    have hx := ev_vr F (Chained.nil a) X
                    have hy := ev_vr F (Chained.nil a) Y
                    rw [hX] at hx
                    rw [hY] at hy
                    obtain ⟨v, w', b', κ', hr, hv, hH, hS, hsz, hnb⟩ := append_fork hT H e0 e1 (blt_lt b1) (blt_lt b2) hs h1 hy hx hq h4 h5 o.type h3
                    have hty : k'.argTypes = #[t, t] := by
                      apply Array.toList_inj.mp
                      exact htys
                    obtain ⟨b0, κ0, hgk, _⟩ := inv_sl hx
                    exact ⟨ble_le b4, lt_of_gh H hgk, v, w', b', κ', call_append hop hcal hXY hty hr, hv, hH, hS, hsz, hnb⟩
                · simp at hc
            · simp at hc
          · simp at hc
      · simp at hc
    · simp at hc
  · simp at hc
end
/-- A tail whose first operation may be such an append. -/
def runTail (c : Cfg) (KP : AV → AState → Prop) (all : List Oper) (os : List Oper) (ts : List AV) (h : List AO) (K : AState → Prop) : Prop := match os with
  | [] => runOps c KP all [] [] ts h K
  | o :: os => match guardSlot all o with
    | some none => match appFork c o.op ⟨ts, h⟩ with
      | some (ob, val, k, x) => need ob (f3 val fun val => fP ts h o.dst val fun ts => fSet k .dead h fun h => fO x fun x => fApp h x fun h => runOps c KP all os [] ts h K)
      | none => runOps c KP all (o :: os) [] ts h K
    | _ => runOps c KP all (o :: os) [] ts h K
section
variable {P : Program} {c : Cfg} {E : En} {Q : Exit → Act → World → Prop}
theorem fork_sr {w w' : World} {Fz : Nat → Prop} {g g' : Gh} {a : Act} {v : AV} {cc : Value} (hS : Same Fz w w') (hg : ∀ o' y, g o' = some y → g' o' = some y) (h : SR w Fz g a v cc) : SR w' Fz g' a v cc := by
  unfold SR at *
  split at h
  · exact h.imp (fun x => ⟨x.1, x.2.mono hS (fun _ x => x) hg⟩) id
  · exact h.mono hS (fun _ x => x) hg
theorem runTail_sound (hc : CfgOK P c) (hb : E.base = c.base) {KP : AV → AState → Prop} (hkp : ∀ v s' a' w' x, KP v s' → StV E s' a' w' v x → Q (panEx x) a' w') (ops : Array Oper) (os : List Oper) (i : Nat) (hi : os = ops.toList.drop i) (ts : List AV) (h : List AO) (K : AState → Prop) (a : Act) (w : World)
    (hr : runTail c KP ops.toList os ts h K) (hs : St E ⟨ts, h⟩ a w) (hK : ∀ s' a' w', K s' → St E s' a' w' → Q .normal a' w') : wpOps P ops Q (List.range' i (ops.size - i)) a w := by
  unfold runTail at hr
  split at hr
  · exact runOps_sound hc hb hkp ops _ i hi [] ts h K a w hr hs hK
  · rename_i o os
    split at hr
    · rename_i hgs
      split at hr
      · rename_i ob val k x hap
        have hlt : i < ops.size := by
          have := congrArg List.length hi
          simp at this; omega
        have ho : ops[i]? = some o := by
          have := congrArg (fun l => l[0]?) hi
          simpa using this.symm
        have hos : os = ops.toList.drop (i + 1) := by
          have := congrArg List.tail hi
          simpa using this
        rw [range'_cons hlt, wpOps_cons]
        unfold wpOp
        rw [ho]
        simp only
        rw [if_pos ((guard_wanted (a := a) hgs).1 rfl)]
        refine .inl ?_
        obtain ⟨hobs, hrun⟩ := need_iff.mp hr
        simp only [f3_eq, fP_eq, fO_eq, fSet_eq, fApp_eq] at hrun
        obtain ⟨Fz, g, F, H, hon, hg⟩ := hs
        obtain ⟨hbk, hk, v, w', b', κ', hx, hv, hH, hS, hsz, hnb⟩ := appFork_goes hc.tab F H hap hobs
        have hnew : ∀ o' y, g o' = some y → ext g h.length (b', κ') o' = some y := fun o' y hy => by
          have := lt_of_gh H hy
          simp only at this
          unfold ext
          rw [if_neg (by omega)]
          exact hy
        unfold Oper.wp
        rw [hx, Oper.upon_value]
        rw [blt_t hk, cond_true] at hrun
        refine runOps_sound hc hb hkp ops os (i + 1) hos [] _ _ K _ _ hrun ⟨Fz, ext g h.length (b', κ'), ?_, hH, ⟨fun b hb => (hS b (hon.fz b hb)).trans (hon.same b hb), hon.fz, fun o' x hx => hnew o' x (hon.gh o' x hx), hon.new, Nat.le_trans hon.size hsz, fun o' b κ hb' => ?_⟩, hg⟩ hK
        · exact FR.put_vr ⟨F.defers, F.size, fun i hi => fork_sr hS hnew (F.slots i hi)⟩ o.dst hv
        · unfold ext at hb'
          split at hb'
          · simp only [Option.some.injEq, Prod.mk.injEq] at hb'
            obtain ⟨rfl, rfl⟩ := hb'
            rcases hnb with hnb | hnb
            · rcases hon.newg k _ _ hnb with y | y
              · rw [hg k (by rw [hb]; exact hbk)] at y; cases y
              · exact .inr y
            · exact .inr (.inl (Nat.le_trans hon.size hnb))
          · exact hon.newg o' b κ hb'
      · exact runOps_sound hc hb hkp ops _ i hi [] ts h K a w hr hs hK
    · exact runOps_sound hc hb hkp ops _ i hi [] ts h K a w hr hs hK
end
end Go.Proofs.YtnnoplgabnfdiaaGreatDoor.Sh
