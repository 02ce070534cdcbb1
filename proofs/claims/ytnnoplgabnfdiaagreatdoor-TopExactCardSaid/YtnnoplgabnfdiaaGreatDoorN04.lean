/- Part 4 of a proof over the shadow machine. -/
import Derived.Test.YtnnoplgabnfdiaaGreatDoorN03
import Derived.Room.AppendUpon
import Derived.Laws.MakeOwn
/- The shadow machine: addresses of elements, values out of parts. -/
namespace Go.Proofs.YtnnoplgabnfdiaaGreatDoor.Sh
open Go Go.RowKit
set_option linter.unusedVariables false
set_option linter.unusedSimpArgs false
section
variable {D : List Deferred} {P : Program} {T : Tab} {B0 : Nat} {w0 w : World} {Fz : Nat → Prop} {g : Gh} {h : List AO} {a : Act} {o : Oper} {ob : List Prop} {val : AV} {upd : List (Nat × AO)}

theorem indexAt_slice (hT : TabOK P T) {t e sz by_ : Nat} {z : AV} {ei : TI} (e0 : T.get t = some ⟨.slice e, sz, by_, z⟩) (e1 : T.get e = some ei) {ad : Addr} {len c : Nat} {k : IntKind} {n : Int} (hn : 0 ≤ n ∧ n < len) :
    (Instr.indexAt t (.slice (some ad) len c) (.int k n)).run P w = .ok (.pointer (some (ad.add (n.toNat * ei.size)))) w := by
  obtain ⟨d, hd, hk⟩ := hT.und (w := w) e0
  simp only [kOK] at hk; subst hk
  have hsz := hT.size (w := w) e1
  simp [Instr.indexAt, asIntOf, hd, hn, hsz]
theorem indexAt_arr (hT : TabOK P T) {t m e sz by_ : Nat} {z : AV} {ei : TI} (e0 : T.get t = some ⟨.arr m e, sz, by_, z⟩) (e1 : T.get e = some ei) {ad : Addr} {k : IntKind} {n : Int} (hn : 0 ≤ n ∧ n < m) :
    (Instr.indexAt t (.pointer (some ad)) (.int k n)).run P w = .ok (.pointer (some (ad.add (n.toNat * ei.size)))) w := by
  obtain ⟨d, hd, hk⟩ := hT.und (w := w) e0
  simp only [kOK] at hk; subst hk
  have hsz := hT.size (w := w) e1
  simp [Instr.indexAt, asIntOf, hd, hn, hsz, Instr.sureAddr]
theorem inv_ptr {o N s i j : Nat} {c : Value} (hv : VR w Fz g (.ptr o N s i j) c) : ∃ b κ, g o = some (b, κ) ∧ c = .pointer (some ⟨b, i * s + j, none⟩) := by
  cases hv with | ptr _ _ _ _ _ b κ h => exact ⟨b, κ, h, rfl⟩
theorem inv_sl {o s off len : Nat} {cap : Option Nat} {c : Value} (hv : VR w Fz g (.sl o s off len cap) c) : ∃ b κ, g o = some (b, κ) ∧ off + len ≤ κ ∧ (∀ n, cap = some n → κ - off = n) ∧ (c = .slice (some ⟨b, off * s, none⟩) len (κ - off) ∨ (len = 0 ∧ κ = off ∧ ∃ A, c = .slice A 0 0)) := by
  cases hv with
  | sl _ _ _ _ _ b κ h hl hc => exact ⟨b, κ, h, hl, hc, .inl rfl⟩
  | sle _ _ _ _ A b h hc => exact ⟨b, _, h, by omega, fun n hn => by rw [hc n hn]; omega, .inr ⟨rfl, rfl, A, rfl⟩⟩
theorem inv_ro {s len : Nat} {cap : Option Nat} {row : Nat → List RV} {c : Value} (hv : VR w Fz g (.ro s len cap row) c) : ∃ A cc, c = .slice A len cc ∧ len ≤ cc ∧ (∀ n, cap = some n → cc = n) ∧
    ∀ i, i < cap.getD len → ∀ j, j < s → ∃ a v, A = some a ∧ Fz a.block ∧ w.cell? (a.add (i * s + j)) = some v ∧ RR w Fz (nth .top (row i) j) v := by
  cases hv with | ro _ _ _ _ _ h =>
  cases h with | ro _ _ _ _ A cc cs hl hcap hc hr =>
  exact ⟨A, cc, rfl, hl, hcap, fun i hi j hj => let ⟨a, h1, h2, h3⟩ := hc i hi j hj; ⟨a, _, h1, h2, h3, hr i hi j hj⟩⟩
theorem foldl_set_aux (off : Nat) : ∀ (l : List Value) (k : Nat) (vs : Array Value), (∀ q, ((l.zipIdx k).foldl (fun cs x => cs.setIfInBounds (off + x.2) x.1) vs).getD q undef = if off + k ≤ q ∧ q < off + k + l.length ∧ q < vs.size then l.getD (q - (off + k)) undef else vs.getD q undef) ∧ ((l.zipIdx k).foldl (fun cs x => cs.setIfInBounds (off + x.2) x.1) vs).size = vs.size
  | [], k, vs => ⟨fun q => by rw [if_neg (by simp; omega)]; rfl, rfl⟩
  | v :: l, k, vs => by
    obtain ⟨h1, h2⟩ := foldl_set_aux off l (k + 1) (vs.setIfInBounds (off + k) v)
    refine ⟨fun q => ?_, by simpa using h2⟩
    simp only [List.zipIdx_cons, List.foldl_cons]
    rw [h1 q]
    simp only [Array.size_setIfInBounds, List.length_cons]
    by_cases hc : off + (k + 1) ≤ q ∧ q < off + (k + 1) + l.length ∧ q < vs.size
    · rw [if_pos hc, if_pos (by omega)]
      obtain ⟨m, rfl⟩ : ∃ m, q = off + k + 1 + m := ⟨q - (off + k + 1), by omega⟩
      rw [show off + k + 1 + m - (off + (k + 1)) = m by omega, show off + k + 1 + m - (off + k) = m + 1 by omega]
      simp
    · rw [if_neg hc]
      by_cases hq : q = off + k
      · subst hq
        by_cases hlt : off + k < vs.size
        · rw [if_pos (by omega), Nat.sub_self]; simp [Array.getD, hlt]
        · rw [if_neg (by omega)]; simp [Array.getD, hlt]
      · rw [if_neg (by omega)]
        simp only [Array.getD_eq_getD_getElem?, Array.getElem?_setIfInBounds]
        rw [if_neg (by omega)]
theorem foldl_set (off : Nat) (us vs : Array Value) (q : Nat) : (us.zipIdx.foldl (fun cs x => cs.setIfInBounds (off + x.2) x.1) vs).getD q undef = if off ≤ q ∧ q < off + us.size ∧ q < vs.size then us.getD (q - off) undef else vs.getD q undef := by
  have := (foldl_set_aux off us.toList 0 vs).1 q
  rw [← Array.foldl_toList, Array.toList_zipIdx]
  rw [this]
  simp [Array.getD_eq_getD_getElem?, List.getD_eq_getElem?_getD]
theorem foldl_set_size (off : Nat) (us vs : Array Value) : (us.zipIdx.foldl (fun cs x => cs.setIfInBounds (off + x.2) x.1) vs).size = vs.size := by
  have := (foldl_set_aux off us.toList 0 vs).2
  rw [← Array.foldl_toList, Array.toList_zipIdx]
  exact this
theorem fill_vr {place : Nat → Option (Nat × Nat)} : ∀ (ps : List (Nat × AV)) (cs ds : List AV) (vs : Array Value) (us : List (Nat × Value)), cs.length = vs.size → (∀ i, i < cs.length → VR w Fz g (nth .top cs i) (vs.getD i undef)) →
    ps.length = us.length → (∀ i (h1 : i < ps.length) (h2 : i < us.length), (ps[i]).1 = (us[i]).1 ∧ VR w Fz g (ps[i]).2 (us[i]).2) → fillParts place cs ps = some ds →
    ∃ vs', Instr.fill place vs us = some vs' ∧ ds.length = vs'.size ∧ ∀ i, i < ds.length → VR w Fz g (nth .top ds i) (vs'.getD i undef)
  | [], cs, ds, vs, us, hl, hv, hlen, hp, hf => by
    cases us with
    | cons u us => simp at hlen
    | nil =>
      simp only [fillParts, Option.some.injEq] at hf; subst hf
      exact ⟨vs, rfl, hl, hv⟩
  | (i, v) :: ps, cs, ds, vs, us, hl, hv, hlen, hp, hf => by
    cases us with
    | nil => simp at hlen
    | cons u us =>
      obtain ⟨j, c⟩ := u
      obtain ⟨hij, hvc⟩ := hp 0 (by simp) (by simp)
      simp only [List.getElem_cons_zero] at hij hvc
      subst hij
      simp only [fillParts, fS_eq] at hf
      split at hf
      · rename_i off size hpl
        cases hb : (cellsOk v && (Nat.beq v.cells.length size && Nat.ble (off + size) cs.length)) with
        | false => rw [hb] at hf; simp at hf
        | true =>
          rw [hb] at hf
          simp only [cond_true] at hf
          rw [Bool.and_eq_true, Bool.and_eq_true] at hb
          obtain ⟨hk, hs, hle⟩ := hb
          have hs := beq_eq hs; have hle := ble_le hle
          obtain ⟨hcl, hcv⟩ := cells_vr hvc hk
          simp only [Instr.fill, hpl]
          rw [if_neg (by simp; omega)]
          have hfold : ∀ q, (c.cells.zipIdx.foldl (fun cs x => cs.setIfInBounds (off + x.2) x.1) vs).getD q undef = if off ≤ q ∧ q < off + c.cells.size ∧ q < vs.size then c.cells.getD (q - off) undef else vs.getD q undef := foldl_set off c.cells vs
          have hsz : (c.cells.zipIdx.foldl (fun cs x => cs.setIfInBounds (off + x.2) x.1) vs).size = vs.size := foldl_set_size off c.cells vs
          refine fill_vr ps _ ds _ us (by rw [paste_length, hsz]; exact hl) (fun q hq => ?_) (by simpa using hlen) (fun i h1 h2 => hp (i + 1) (by simp; omega) (by simp; omega)) hf
          rw [paste_length] at hq
          rw [nth_paste, hfold]
          by_cases hc : off ≤ q ∧ q < off + v.cells.length ∧ q < cs.length
          · rw [if_pos hc, if_pos (by omega)]; exact hcv _ (by omega)
          · rw [if_neg hc, if_neg (by omega)]; exact hv q hq
      · simp at hf
theorem fill_parts {ch : List (Nat × Bool)} {s : AState} (F : FR D w Fz g s.tmps a) (hch : Chained ch a) {place : Nat → Option (Nat × Nat)} (parts : Array (Nat × Operand)) (cs ds : List AV) (vs : Array Value) (hl : cs.length = vs.size) (hv : ∀ i, i < cs.length → VR w Fz g (nth .top cs i) (vs.getD i undef))
    (hf : fillParts place cs (parts.toList.map fun p => (p.1, ev ch s p.2)) = some ds) : ∃ vs', Instr.fill place vs (parts.map fun (i, x) => (i, a.eval x)).toList = some vs' ∧ ds.length = vs'.size ∧ ∀ i, i < ds.length → VR w Fz g (nth .top ds i) (vs'.getD i undef) :=
  fill_vr _ cs ds vs _ hl hv (by simp) (fun i h1 h2 => by simp; exact ev_vr F hch _) hf
theorem fillParts_length {place : Nat → Option (Nat × Nat)} : ∀ {ps : List (Nat × AV)} {cs ds : List AV}, fillParts place cs ps = some ds → ds.length = cs.length
  | [], cs, ds, h => by simp only [fillParts, Option.some.injEq] at h; rw [h]
  | (i, v) :: ps, cs, ds, h => by
    simp only [fillParts, fS_eq] at h
    split at h
    · rename_i off size hp
      cases hb : (cellsOk v && (Nat.beq v.cells.length size && Nat.ble (off + size) cs.length)) with
      | false => rw [hb] at h; simp at h
      | true => rw [hb] at h; simp only [cond_true] at h; rw [fillParts_length h, paste_length]
    · simp at h
theorem zeros_length (zc : List AV) : ∀ n, (zeros zc n).length = n * zc.length
  | 0 => by simp [zeros]
  | n + 1 => by simp [zeros, zeros_length zc n, Nat.add_mul]; omega
theorem nth_zeros (zc : List AV) : ∀ n i, i < n * zc.length → nth .top (zeros zc n) i = nth .top zc (i % zc.length)
  | 0, i, h => by simp at h
  | n + 1, i, h => by
    simp only [zeros]
    rw [nth_append]
    by_cases hi : i < zc.length
    · rw [if_pos hi, Nat.mod_eq_of_lt hi]
    · rw [if_neg hi, nth_zeros zc n (i - zc.length) (by rw [Nat.add_mul] at h; omega), ← Nat.mod_eq_sub_mod (by omega)]
theorem mapM_places (hT : TabOK P T) : ∀ (l : List Field) (pl : List (Nat × Nat)), placesOf T (l.map fun f => (f.offset, f.type)) = some pl → (l.mapM fun f => (do pure (f.offset, ← sizeOf f.type) : Sem (Nat × Nat))).run P w = .ok pl w
  | [], pl, h => by simp only [List.map_nil, placesOf, Option.some.injEq] at h; subst h; rfl
  | f :: l, pl, h => by
    simp only [List.map_cons, placesOf] at h
    split at h
    · rename_i i l' e1 e2
      simp only [Option.some.injEq] at h; subst h
      have ih := mapM_places hT l l' e2
      have hs := hT.size (w := w) e1
      simp only [List.mapM_cons, Sem.run_bind, hs, Result.andThen_ok, Sem.run_pure, ih]
    · simp at h
theorem places_run (hT : TabOK P T) (Fs : Array Field) (pl : List (Nat × Nat)) (h : placesOf T (Fs.toList.map fun f => (f.offset, f.type)) = some pl) : (Fs.mapM fun f => (do pure (f.offset, ← sizeOf f.type) : Sem (Nat × Nat))).run P w = .ok pl.toArray w := by
  have := mapM_places (w := w) hT Fs.toList pl h
  rw [Array.mapM_eq_mapM_toList]
  simp only [map_eq_pure_bind, Sem.run_bind, this, Result.andThen_ok, Sem.run_pure]
section ops
variable {G : Env} {eqs : List Nat} {base nid : Nat} {ch : List (Nat × Bool)} {s : AState} {kl : Option Nat}
variable (F : FR D w Fz g s.tmps a) (H : HR B0 w0 w Fz g s.heap) (hch : Chained ch a)
include F H hch
theorem go_indexAddr {t : TypeId} {x y : Operand} (hob : conj ob) (hT : TabOK P T) (hop : o.op = .indexAddr t x y) (hc : core1 G T eqs base (.indexAddr t x y) ch s nid = some ⟨ob, val, upd, kl⟩) : Goes P B0 w0 w Fz g a o val (apply upd s.heap) ∧ kl = none := by
  have hx := ev_vr F hch x
  have hy := ev_vr F hch y
  have slc : ∀ {e sz by_ : Nat} {z : AV} {ei : TI} {oo st off len : Nat} {cap : Option Nat} {k : IntKind} {n : Int} (v : AV), T.get t = some ⟨.slice e, sz, by_, z⟩ → T.get e = some ei → ev ch s x = .sl oo st off len cap → a.eval y = .int k n → (ei.size == st) = true → 0 ≤ n ∧ n < len →
      (∀ b κ, g oo = some (b, κ) → VR w Fz g v (.pointer (some ⟨b, (off + n.toNat) * st, none⟩))) → Goes P B0 w0 w Fz g a o v s.heap := by
    intro e sz by_ z ei oo st off len cap k n v e0 e1 e2 hY hst hn hv
    rw [e2] at hx
    obtain ⟨b, κ, hg, h1, h2, h3⟩ := inv_sl hx
    have hst' : ei.size = st := by simpa using hst
    rcases h3 with h3 | ⟨h3, _⟩
    · refine goes_sem (e := Instr.indexAt t (a.eval x) (a.eval y)) (by simp only [execOp, hop]) (by rw [h3, hY]; exact indexAt_slice hT e0 e1 hn) ?_ H
      rw [hst', add_mk, ← Nat.add_mul]
      exact hv b κ hg
    · omega
  have ros : ∀ {e sz by_ : Nat} {z : AV} {ei : TI} {st len : Nat} {cap : Option Nat} {row : Nat → List RV} {k : IntKind} {n : Int}, T.get t = some ⟨.slice e, sz, by_, z⟩ → T.get e = some ei → ev ch s x = .ro st len cap row → a.eval y = .int k n → (ei.size == st && Nat.blt 0 st) = true → 0 ≤ n ∧ n < len →
      Goes P B0 w0 w Fz g a o (.rp st row n.toNat 0) s.heap := by
    intro e sz by_ z ei st len cap row k n e0 e1 e2 hY hst hn
    rw [e2] at hx
    obtain ⟨A, cc, hX, hl, hcap, hh⟩ := inv_ro hx
    rw [Bool.and_eq_true] at hst
    have hst' : ei.size = st := by simpa using hst.1
    have hpos := blt_lt hst.2
    have hi : n.toNat < cap.getD len := by
      cases hcc : cap with
      | none => simp; omega
      | some q => have := hcap q hcc; simp; omega
    obtain ⟨ad, v, hA, _⟩ := hh n.toNat hi 0 hpos
    subst hA
    refine goes_sem (e := Instr.indexAt t (a.eval x) (a.eval y)) (by simp only [execOp, hop]) (by rw [hX, hY]; exact indexAt_slice hT e0 e1 hn) (.rp _ _ _ _ _ fun m hm => ?_) H
    obtain ⟨ad', v, hA, hF, hcell, hr⟩ := hh n.toNat hi m (by omega)
    obtain rfl : ad = ad' := by simpa using hA
    rw [hst', add_add, add_block, Nat.zero_add]
    exact ⟨hF, v, hcell, hr⟩
  simp only [core1, indexAddrOp] at hc
  split at hc
  · rename_i e sz by_ z oo st off len cap k n e0 e2 e3
    split at hc
    · rename_i ei e1
      cases hb : (ei.size == st) with
      | false => rw [hb] at hc; simp at hc
      | true =>
        rw [hb] at hc
        simp only [cond_true, Option.some.injEq, Out.mk.injEq] at hc; obtain ⟨rfl, rfl, rfl, rfl⟩ := hc
        rw [e3] at hy
        refine ⟨slc _ e0 e1 e2 (inv_cint hy) hb hob fun b κ hg => ?_, rfl⟩
        cases hoo : nth .free s.heap oo <;> simp only
        all_goals first
          | (have := VR.ptr (w := w) (Fz := Fz) (g := g) oo 1 1 0 ((off + n.toNat) * st) b κ hg; simpa using this)
          | (have := VR.ptr (w := w) (Fz := Fz) (g := g) oo 0 st (off + n.toNat) 0 b κ hg; simpa using this)
    · simp at hc
  · rename_i e sz by_ z oo st off len cap k n e0 e2 e3
    split at hc
    · rename_i ei e1
      cases hb : (ei.size == st) with
      | false => rw [hb] at hc; simp at hc
      | true =>
        rw [hb] at hc
        simp only [cond_true, Option.some.injEq, Out.mk.injEq] at hc; obtain ⟨rfl, rfl, rfl, rfl⟩ := hc
        rw [e3] at hy
        refine ⟨slc _ e0 e1 e2 (inv_int hy) hb hob fun b κ hg => ?_, rfl⟩
        cases hoo : nth .free s.heap oo <;> simp only
        all_goals first
          | (have := VR.ptr (w := w) (Fz := Fz) (g := g) oo 0 st (off + n.toNat) 0 b κ hg; simpa using this)
          | (rename_i u cs; have := VR.ptr (w := w) (Fz := Fz) (g := g) oo (rowsN cs st) st (off + n.toNat) 0 b κ hg; simpa using this)
    · simp at hc
  · rename_i e sz by_ z st len cap row k n e0 e2 e3
    split at hc
    · rename_i ei e1
      cases hb : (ei.size == st && Nat.blt 0 st) with
      | false => rw [hb] at hc; simp at hc
      | true =>
        rw [hb] at hc
        simp only [cond_true, Option.some.injEq, Out.mk.injEq] at hc; obtain ⟨rfl, rfl, rfl, rfl⟩ := hc
        rw [e3] at hy
        exact ⟨ros e0 e1 e2 (inv_cint hy) hb hob, rfl⟩
    · simp at hc
  · rename_i e sz by_ z st len cap row k n e0 e2 e3
    split at hc
    · rename_i ei e1
      cases hb : (ei.size == st && Nat.blt 0 st) with
      | false => rw [hb] at hc; simp at hc
      | true =>
        rw [hb] at hc
        simp only [cond_true, Option.some.injEq, Out.mk.injEq] at hc; obtain ⟨rfl, rfl, rfl, rfl⟩ := hc
        rw [e3] at hy
        exact ⟨ros e0 e1 e2 (inv_int hy) hb hob, rfl⟩
    · simp at hc
  · rename_i n e sz by_ z oo N st i j k q e0 e2 e3
    split at hc
    · rename_i ei e1
      simp only [Option.some.injEq, Out.mk.injEq] at hc; obtain ⟨rfl, rfl, rfl, rfl⟩ := hc
      rw [e3] at hy; rw [e2] at hx
      obtain ⟨b, κ, hg, hX⟩ := inv_ptr hx
      refine ⟨goes_sem (e := Instr.indexAt t (a.eval x) (a.eval y)) (by simp only [execOp, hop]) (by rw [hX, inv_cint hy]; exact indexAt_arr hT e0 e1 hob) ?_ H, rfl⟩
      rw [add_mk, Nat.add_assoc]
      exact .ptr _ _ _ _ _ _ _ hg
    · simp at hc
  · rename_i n e sz by_ z oo j k q e0 e2 e3
    split at hc
    · rename_i ei e1
      simp only [Option.some.injEq, Out.mk.injEq] at hc; obtain ⟨rfl, rfl, rfl, rfl⟩ := hc
      rw [e3] at hy; rw [e2] at hx
      obtain ⟨b, κ, hg, hX⟩ := inv_ptr hx
      refine ⟨goes_sem (e := Instr.indexAt t (a.eval x) (a.eval y)) (by simp only [execOp, hop]) (by rw [hX, inv_int hy]; exact indexAt_arr hT e0 e1 hob) ?_ H, rfl⟩
      rw [add_mk, show 0 * 1 + j + q.toNat * ei.size = q.toNat * ei.size + j by omega]
      exact .ptr _ _ _ _ _ _ _ hg
    · simp at hc
  · simp at hc
theorem go_build {t : TypeId} {parts : Array (Nat × Operand)} (hT : TabOK P T) (hop : o.op = .build t parts) (hc : core1 G T eqs base (.build t parts) ch s nid = some ⟨ob, val, upd, kl⟩) : Goes P B0 w0 w Fz g a o val (apply upd s.heap) ∧ kl = none := by
  simp only [core1] at hc
  split at hc
  · rename_i ti e0
    obtain ⟨z, hz, hzv, hzs, hzl⟩ := hT.zero (w := w) e0
    obtain ⟨hzl2, hzv2⟩ := cells_vr (hzv w Fz g) hzs
    obtain ⟨d, hd, hk⟩ := hT.und (w := w) e0
    split at hc
    · rename_i fs ek
      split at hc
      · rename_i pl e1
        split at hc
        · rename_i cs e2
          simp only [Option.some.injEq, Out.mk.injEq] at hc; obtain ⟨rfl, rfl, rfl, rfl⟩ := hc
          rw [ek] at hk
          obtain ⟨Fs, rfl, hFs⟩ := hk
          obtain ⟨vs', h1, h2, h3⟩ := fill_parts F hch parts _ _ _ hzl2 hzv2 e2
          have hpl := places_run (P := P) (w := w) hT Fs pl (by rw [hFs]; exact e1)
          exact ⟨goes_sem (e := Instr.build t (parts.map fun (i, x) => (i, a.eval x))) (c := .agg vs') (by simp only [execOp, hop]) (by
            simp only [Instr.build, Sem.run_bind, hz, Result.andThen_ok, hd, Sem.run_pure, hpl]
            have : (fun f : Nat => pl[f]?) = (fun f : Nat => pl.toArray[f]?) := by funext f; simp
            rw [this] at h1
            rw [h1]; rfl) (.agg _ _ h2 h3) H, rfl⟩
        · simp at hc
      · simp at hc
    · rename_i n e ek
      split at hc
      · rename_i ei e1
        split at hc
        · rename_i cs e2
          simp only [Option.some.injEq, Out.mk.injEq] at hc; obtain ⟨rfl, rfl, rfl, rfl⟩ := hc
          rw [ek] at hk
          simp only [kOK] at hk; subst hk
          obtain ⟨vs', h1, h2, h3⟩ := fill_parts F hch parts _ _ _ hzl2 hzv2 e2
          have hsz := hT.size (w := w) e1
          exact ⟨goes_sem (e := Instr.build t (parts.map fun (i, x) => (i, a.eval x))) (c := .agg vs') (by simp only [execOp, hop]) (by
            simp only [Instr.build, Sem.run_bind, hz, Result.andThen_ok, hd, Sem.run_pure, hsz]
            rw [h1]; rfl) (.agg _ _ h2 h3) H, rfl⟩
        · simp at hc
      · simp at hc
    · simp at hc
  · simp at hc
theorem go_buildSlice {t : TypeId} {len : Nat} {parts : Array (Nat × Operand)} (hT : TabOK P T) (hn : nid ≤ s.heap.length) (hfree : nth .free s.heap nid = .free) (hop : o.op = .buildSlice t len parts) (hc : core1 G T eqs base (.buildSlice t len parts) ch s nid = some ⟨ob, val, upd, kl⟩) : Goes P B0 w0 w Fz g a o val (apply upd s.heap) ∧ kl = none := by
  simp only [core1] at hc
  split at hc
  · rename_i e sz by_ z0 e0
    split at hc
    · rename_i ei e1
      cases hz0 : (Nat.beq len 0 && parts.toList.isEmpty) with
      | true =>
        rw [hz0] at hc
        rw [Bool.and_eq_true] at hz0
        obtain ⟨hz1, hps⟩ := hz0
        have hz2 := Nat.eq_of_beq_eq_true hz1
        subst hz2
        simp only [cond_true, Option.some.injEq, Out.mk.injEq] at hc; obtain ⟨rfl, rfl, rfl, rfl⟩ := hc
        obtain ⟨d, hd, hk⟩ := hT.und (w := w) e0
        simp only [kOK] at hk; subst hk
        have hsz := hT.size (w := w) e1
        have hp0 : parts = #[] := by simpa using hps
        subst hp0
        obtain ⟨g1, g2, g3⟩ := H.alloc hn hfree #[] e 0 .dead (fun w' hs hbb => trivial)
        refine ⟨goes_semTo (e := Instr.buildSlice t 0 ((#[] : Array (Nat × Operand)).map fun (i, x) => (i, a.eval x))) (c := .slice (some ⟨w.heap.size, 0, none⟩) 0 0) (by simp only [execOp, hop]) ?_ ?_ g1 ⟨g2, fun _ x => x, g3, fun _ x => .inl x, alloc_size _ _, ext_newg⟩, rfl⟩
        · simp [Instr.buildSlice, hd, hsz, newRow, Instr.fill, show Array.range 0 = #[] from rfl]
        · exact .ro _ _ _ _ _ (.ro 0 0 (some 0) _ _ 0 (fun _ _ => undef) (Nat.le_refl _) (fun n hn => by simpa using hn) (fun i hi => absurd hi (by simp)) (fun i hi => absurd hi (by simp)))
      | false =>
      rw [hz0, cond_false] at hc
      cases hb : (Nat.blt 0 len && (Nat.blt 0 ei.size && Nat.ble (len * ei.size) 1000)) with
      | false => rw [hb] at hc; simp at hc
      | true =>
        rw [hb] at hc
        simp only [cond_true] at hc
        rw [Bool.and_eq_true, Bool.and_eq_true] at hb
        have hlen := blt_lt hb.1; have hes := blt_lt hb.2.1; have hle := ble_le hb.2.2
        split at hc
        · rename_i cs e2
          simp only [Option.some.injEq, Out.mk.injEq] at hc; obtain ⟨rfl, rfl, rfl, rfl⟩ := hc
          obtain ⟨z, hz, hzv, hzs, hzl⟩ := hT.zero (w := w) e1
          obtain ⟨hzl2, hzv2⟩ := cells_vr (hzv w Fz g) hzs
          obtain ⟨d, hd, hk⟩ := hT.und (w := w) e0
          simp only [kOK] at hk; subst hk
          have hsz := hT.size (w := w) e1
          have hpos : len * ei.size ≠ 0 := Nat.mul_ne_zero (by omega) (by omega)
          obtain ⟨vs', h1, h2, h3⟩ := fill_parts F hch parts _ _ ((Array.range (len * ei.size)).map (z.cells[· % z.cells.size]!)) (by rw [zeros_length, hzl]; simp) (fun i hi => by
            rw [zeros_length, hzl] at hi
            rw [nth_zeros _ _ _ (by rw [hzl]; exact hi)]
            have hm : i % ei.zero.cells.length < ei.zero.cells.length := Nat.mod_lt _ (by omega)
            have := hzv2 _ hm
            have hm2 : i % z.cells.size < z.cells.size := by rw [← hzl2]; exact hm
            rw [hzl2] at this ⊢
            simp only [Array.getD_eq_getD_getElem?, Array.getElem?_map, Array.getElem?_range, hi, if_true, Option.map_some, Option.getD_some]
            rw [getElem!_pos z.cells _ hm2]
            simpa [Array.getD, hm2] using this) e2
          have hcl : cs.length = len * ei.size := by rw [fillParts_length e2, zeros_length, hzl]
          obtain ⟨g1, g2, g3⟩ := H.alloc hn hfree vs' e len (.lit ei.size cs) (fun w' hs hbb => ⟨w.heap.size, len, vs', e, by simp [ext], hcl.symm, hbb, h2.symm, fun i hi => (h3 i hi).mono hs (fun _ x => x) (fun o' y hy => by
            by_cases eo : o' = nid
            · subst eo
              exfalso
              by_cases hl : o' < s.heap.length
              · have := H.objs o' hl; rw [hfree] at this; rw [this] at hy; cases hy
              · rw [H.free o' (by omega)] at hy; cases hy
            · simp [ext, eo, hy])⟩)
          refine ⟨goes_semTo (e := Instr.buildSlice t len (parts.map fun (i, x) => (i, a.eval x))) (c := .slice (some ⟨w.heap.size, 0, none⟩) len len) (by simp only [execOp, hop]) ?_ ?_ g1 ⟨g2, fun _ x => x, g3, fun _ x => .inl x, alloc_size _ _, ext_newg⟩, rfl⟩
          · have h24 : ¬ (len * ei.size > 2 ^ 24) := by omega
            simp only [Instr.buildSlice, Sem.run_bind, hd, Result.andThen_ok, hsz, if_neg h24, if_neg hpos, hz, Sem.run_pure]
            rw [h1]
            simp [newRow]
          · have := VR.sl (w := w.alloc (.cells vs' e)) (Fz := Fz) (g := ext g nid (w.heap.size, len)) nid ei.size 0 len (some len) w.heap.size len (by simp [ext]) (by omega) (fun n hn => by simpa using hn)
            simpa using this
        · simp at hc
    · simp at hc
  · simp at hc
end ops
end
end Go.Proofs.YtnnoplgabnfdiaaGreatDoor.Sh
/- The shadow machine: slices. -/
namespace Go.Proofs.YtnnoplgabnfdiaaGreatDoor.Sh
open Go Go.RowKit
set_option linter.unusedVariables false
set_option linter.unusedSimpArgs false
section
variable {D : List Deferred} {P : Program} {T : Tab} {B0 : Nat} {w0 w : World} {Fz : Nat → Prop} {g : Gh} {h : List AO} {a : Act} {o : Oper} {ob : List Prop} {val : AV} {upd : List (Nat × AO)}

theorem i64_wrap_of {n : Int} (h1 : -9223372036854775808 ≤ n) (h2 : n ≤ 9223372036854775807) : IntKind.i64.wrap n = n := by
  unfold IntKind.wrap
  simp [IntKind.signed, IntKind.bits, IntKind.max]
  omega
theorem bmod_any : True := trivial
/-- What the bounds come to. -/
theorem bound_run {v : Option AV} {c : Option Value} {d : Nat} {b : Option Int} {h y : Nat} {code : BoundsCode} (hb : boundOf v d = some (b, h)) (hv : ∀ x, v = some x → ∃ u, c = some u ∧ VR w Fz g x u) (hn : v = none → c = none) (hok : loOk b y) :
    (match c with | some u => Instr.sliceBound u y code | none => pure d).run P w = .ok h w ∧ (b = none → h = d) ∧ (∀ n, b = some n → h = n.toNat ∧ h ≤ y) := by
  cases v with
  | none =>
    simp only [boundOf, Option.some.injEq, Prod.mk.injEq] at hb
    obtain ⟨rfl, rfl⟩ := hb
    rw [hn rfl]
    exact ⟨rfl, fun _ => rfl, fun n hn => by cases hn⟩
  | some x =>
    simp only [boundOf] at hb
    split at hb
    · rename_i k n e
      simp only [Option.some.injEq, Prod.mk.injEq] at hb
      obtain ⟨rfl, rfl⟩ := hb
      obtain ⟨u, rfl, hu⟩ := hv x rfl
      have hU := intOf_vr e hu
      subst hU
      have hok' : 0 ≤ n ∧ n ≤ (y : Int) := hok
      exact ⟨by simp [Instr.sliceBound, asIntOf, hok'], (fun h => by cases h), (fun m hm => by cases hm; exact ⟨rfl, by omega⟩)⟩
    · simp at hb
theorem slice_run (hT : TabOK P T) {t e sz by_ : Nat} {z : AV} {ei : TI} (e0 : T.get t = some ⟨.slice e, sz, by_, z⟩) (e1 : T.get e = some ei) {A : Option Addr} {len c l h : Nat} {lo hi : Option Value}
    (hh : (match hi with | some u => Instr.sliceBound u c .sliceAcap | none => pure len : Sem Nat).run P w = .ok h w) (hl : (match lo with | some u => Instr.sliceBound u h .sliceB | none => pure 0 : Sem Nat).run P w = .ok l w) :
    (Instr.sliceAt t (.slice A len c) lo hi none).run P w = .ok (.slice (if c = l then A else A.map (·.add (l * ei.size))) (h - l) (c - l)) w := by
  obtain ⟨d, hd, hk⟩ := hT.und (w := w) e0
  simp only [kOK] at hk; subst hk
  have hsz := hT.size (w := w) e1
  have hsb : (Instr.sliceBounds true len c lo hi none).run P w = .ok (l, h, c) w := by
    cases hi <;> cases lo <;> simp only at hh hl <;> simp [Instr.sliceBounds, hh, hl]
    all_goals first
      | (simp at hh hl; omega)
      | (simp at hh; subst hh; simp [hl])
      | (simp at hl; exact hl)
      | skip
  simp only [Instr.sliceAt, Sem.run_bind, hd, Result.andThen_ok, Instr.slice, hsb, hsz, Sem.run_pure]
theorem inv_ro2 {s len : Nat} {cap : Option Nat} {row : Nat → List RV} {c : Value} (hv : VR w Fz g (.ro s len cap row) c) : ∃ (A : Option Addr) (cc : Nat) (cs : Nat → Nat → Value), c = .slice A len cc ∧ len ≤ cc ∧ (∀ n, cap = some n → cc = n) ∧
    (∀ i, i < cap.getD len → ∀ j, j < s → ∃ a, A = some a ∧ Fz a.block ∧ w.cell? (a.add (i * s + j)) = some (cs i j)) ∧ ∀ i, i < cap.getD len → ∀ j, j < s → RR w Fz (nth .top (row i) j) (cs i j) := by
  cases hv with | ro _ _ _ _ _ h =>
  cases h with | ro _ _ _ _ A cc cs hl hcap hc hr => exact ⟨A, cc, cs, rfl, hl, hcap, hc, hr⟩
/-- A part of what stays. -/
theorem ro_cut {s len cc : Nat} {cap : Option Nat} {row : Nat → List RV} {A : Option Addr} {cs : Nat → Nat → Value} {lb : Option Int} {l h : Nat} (hl : len ≤ cc) (hcap : ∀ n, cap = some n → cc = n)
    (hc : ∀ i, i < cap.getD len → ∀ j, j < s → ∃ a, A = some a ∧ Fz a.block ∧ w.cell? (a.add (i * s + j)) = some (cs i j)) (hr : ∀ i, i < cap.getD len → ∀ j, j < s → RR w Fz (nth .top (row i) j) (cs i j))
    (hh : h ≤ cap.getD len) (hlh : l ≤ h) (hl0 : lb = none → l = 0) (hln : ∀ n, lb = some n → l = n.toNat) :
    RR w Fz (.ro s (natLess lb h) (capLess lb cap) (rowsFrom lb row)) (.slice (if cc = l then A else A.map (·.add (l * s))) (h - l) (cc - l)) := by
  have hcc : cap.getD len ≤ cc := by cases hcp : cap with | none => simpa using hl | some m => have := hcap m hcp; simp; omega
  cases lb with
  | none =>
    have := hl0 rfl
    subst this
    simp only [natLess, capLess, rowsFrom, Nat.zero_mul, Nat.sub_zero]
    have hA : (if cc = 0 then A else A.map (·.add 0)) = A := by split <;> first | rfl | (cases A <;> simp [add_zero'])
    rw [hA]
    refine .ro _ _ _ _ _ _ cs (by omega) hcap (fun i hi => hc i ?_) (fun i hi => hr i ?_)
    all_goals (cases hcp : cap <;> simp [hcp] at hi hh ⊢ <;> omega)
  | some n =>
    have := hln n rfl
    subst this
    simp only [natLess, capLess, rowsFrom]
    have hcs : ∀ i, i < (capSub cap n.toNat).getD (h - n.toNat) → n.toNat + i < cap.getD len ∧ cc ≠ n.toNat := fun i hi => by
      cases hcp : cap with
      | none => simp [hcp, capSub] at hi hh ⊢; omega
      | some m => have := hcap m hcp; simp [hcp, capSub] at hi hh ⊢; omega
    refine .ro _ _ _ _ _ _ (fun i j => cs (n.toNat + i) j) (by omega) (fun m hm => ?_) (fun i hi j hj => ?_) (fun i hi j hj => hr _ (hcs i hi).1 j hj)
    · cases hcp : cap with
      | none => rw [hcp] at hm; cases hm
      | some q => rw [hcp] at hm; simp [capSub] at hm; have := hcap q hcp; omega
    · obtain ⟨h1, h2⟩ := hcs i hi
      obtain ⟨ad, hA, hF, hcell⟩ := hc _ h1 j hj
      rw [if_neg h2]
      refine ⟨ad.add (n.toNat * s), by rw [hA]; rfl, by rw [add_block]; exact hF, ?_⟩
      rw [add_add, show n.toNat * s + (i * s + j) = (n.toNat + i) * s + j by rw [Nat.add_mul]; omega]
      exact hcell
theorem getD_cases {cap : Option Nat} {len c : Nat} (hcap : ∀ n, cap = some n → c = n) (hl : len ≤ c) : len ≤ cap.getD len ∧ cap.getD len ≤ c ∧ (cap = none → cap.getD len = len) ∧ (∀ n, cap = some n → cap.getD len = c) := by
  cases cap with
  | none => exact ⟨Nat.le_refl _, hl, fun _ => rfl, (fun n h => by cases h)⟩
  | some n => have := hcap n rfl; subst this; exact ⟨hl, Nat.le_refl _, (fun h => by cases h), fun m h => rfl⟩
section ops
variable {G : Env} {eqs : List Nat} {base nid : Nat} {ch : List (Nat × Bool)} {s : AState} {kl : Option Nat}
variable (F : FR D w Fz g s.tmps a) (H : HR B0 w0 w Fz g s.heap) (hch : Chained ch a)
include F H hch
theorem go_makeSlice {t : TypeId} {x y : Operand} (hob : conj ob) (hT : TabOK P T) (hn : nid ≤ s.heap.length) (hfree : nth .free s.heap nid = .free) (hop : o.op = .makeSlice t x y) (hc : core1 G T eqs base (.makeSlice t x y) ch s nid = some ⟨ob, val, upd, kl⟩) : Goes P B0 w0 w Fz g a o val (apply upd s.heap) ∧ kl = none := by
  have hx := ev_vr F hch x
  have hy := ev_vr F hch y
  simp only [core1] at hc
  split at hc
  · rename_i e sz by_ z0 e0
    split at hc
    · rename_i ei k1 n k2 m e1 e2 e3
      cases hb : (Nat.blt 0 ei.bytes && Nat.blt 0 ei.size) with
      | false => rw [hb] at hc; simp at hc
      | true =>
        rw [hb] at hc
        simp only [cond_true, Option.some.injEq, Out.mk.injEq] at hc; obtain ⟨rfl, rfl, rfl, rfl⟩ := hc
        rw [Bool.and_eq_true] at hb
        have hby := blt_lt hb.1; have hsp := blt_lt hb.2
        have hX := intOf_vr e2 hx
        have hY := intOf_vr e3 hy
        obtain ⟨h0, h1, h2⟩ : 0 ≤ n ∧ n ≤ m ∧ m * (ei.bytes : Int) ≤ 281474976710656 := hob
        have hm : m ≤ 281474976710656 := by
          have : m * 1 ≤ m * (ei.bytes : Int) := Int.mul_le_mul_of_nonneg_left (by omega) (by omega)
          omega
        obtain ⟨d, hd, hk⟩ := hT.und (w := w) e0
        simp only [kOK] at hk; subst hk
        obtain ⟨z, hz, hzv, hzs, hzl⟩ := hT.zero (w := w) e1
        have hsz := hT.size (w := w) e1
        obtain ⟨i, z', i1, i2, i3, i4, _⟩ := (hT e ei e1).info
        have hcell : ∀ w', Same Fz w w' → ∀ r, r < m.toNat → ∀ j, j < ei.size → VR w' Fz (ext g nid (w.heap.size, m.toNat)) (nth .top ei.zero.cells j) (((Array.range (m.toNat * ei.size)).map (z.cells[· % z.cells.size]!)).getD (r * ei.size + j) undef) := fun w' hs r hr j hj => by
          obtain ⟨hzl2, hzv2⟩ := cells_vr (hzv w' Fz (ext g nid (w.heap.size, m.toNat))) hzs
          have hi : r * ei.size + j < m.toNat * ei.size := by
            have : (r + 1) * ei.size ≤ m.toNat * ei.size := Nat.mul_le_mul_right _ (by omega)
            rw [Nat.add_mul, Nat.one_mul] at this; omega
          have hzc : z.cells.size = ei.size := by omega
          have hmod : (r * ei.size + j) % z.cells.size = j := by rw [hzc, Nat.add_comm, Nat.add_mul_mod_self_right, Nat.mod_eq_of_lt hj]
          have hj2 : j < z.cells.size := by omega
          simp only [Array.getD_eq_getD_getElem?, Array.getElem?_map, Array.getElem?_range, hi, if_true, Option.map_some, Option.getD_some, hmod]
          rw [getElem!_pos z.cells _ hj2]
          have := hzv2 j (by omega)
          simpa [Array.getD, hj2] using this
        obtain ⟨g1, g2, g3⟩ := H.alloc hn hfree ((Array.range (m.toNat * ei.size)).map (z.cells[· % z.cells.size]!)) e m.toNat (.rows ei.size m.toNat fun _ => ei.zero.cells) (fun w' hs hbb => ⟨w.heap.size, m.toNat, by simp [ext], Nat.le_refl _, .inr ⟨_, e, hbb, by simp, fun r hr j hj => hcell w' hs r hr j hj⟩⟩)
        refine ⟨goes_semTo (e := Instr.makeSlice t (a.eval x) (a.eval y)) (c := .slice (some ⟨w.heap.size, 0, none⟩) n.toNat m.toNat) (by simp only [execOp, hop]) ?_ ?_ g1 ⟨g2, fun _ x => x, g3, fun _ x => .inl x, alloc_size _ _, ext_newg⟩, rfl⟩
        · obtain ⟨d, hd, hk⟩ := (hT t _ e0).und
          simp only [kOK] at hk; subst hk
          have hr := run_make (P := P) w t e i z' hd i1 i4 k1 k2 n m h0 h1 (by rw [i3, Int.mul_comm]; exact h2) (by omega)
          have hzz : z = z' := by
            have h1 := hz
            simp [zeroValue, typeInfo, i1, i4] at h1
            exact h1.symm
          rw [hX, hY, hr, i2, ← hzz]
          rfl
        · have := VR.sl (w := w.alloc (.cells ((Array.range (m.toNat * ei.size)).map (z.cells[· % z.cells.size]!)) e)) (Fz := Fz) (g := ext g nid (w.heap.size, m.toNat)) nid ei.size 0 n.toNat (some m.toNat) w.heap.size m.toNat (by simp [ext]) (by omega) (fun n hn => by simpa using hn)
          simpa using this
    · simp at hc
  · simp at hc
theorem go_slice {t : TypeId} {x : Operand} {lo hi : Option Operand} (hob : conj ob) (hT : TabOK P T) (hop : o.op = .slice t x lo hi none) (hc : core1 G T eqs base (.slice t x lo hi none) ch s nid = some ⟨ob, val, upd, kl⟩) : Goes P B0 w0 w Fz g a o val (apply upd s.heap) ∧ kl = none := by
  have hx := ev_vr F hch x
  have hbv : ∀ (q : Option Operand) y, q.map (ev ch s) = some y → ∃ u, q.map a.eval = some u ∧ VR w Fz g y u := fun q y hy => by
    cases q with
    | none => cases hy
    | some q => simp only [Option.map_some, Option.some.injEq] at hy; subst hy; exact ⟨_, rfl, ev_vr F hch q⟩
  have hbn : ∀ (q : Option Operand), q.map (ev ch s) = none → q.map a.eval = none := fun q hq => by cases q <;> simp_all
  have hexec : execOp a.eval o = (do pure (Next.value (← Instr.sliceAt t (a.eval x) (lo.map a.eval) (hi.map a.eval) none))) := by simp only [execOp, hop, Option.map_none]
  simp only [core1, sliceOp] at hc
  split at hc
  · rename_i e sz by_ z e0 e2
    split at hc
    · rename_i ei hb h lb l e1 e3 e4
      simp only [Option.some.injEq, Out.mk.injEq] at hc; obtain ⟨rfl, rfl, rfl, rfl⟩ := hc
      obtain ⟨hob1, hob2⟩ : loOk hb 0 ∧ loOk lb 0 := hob
      rw [e2] at hx
      have hX : a.eval x = .slice none 0 0 := by generalize a.eval x = c at hx; cases hx; rfl
      obtain ⟨r1, r2, r3⟩ := bound_run (P := P) (w := w) (code := .sliceAcap) e3 (hbv hi) (hbn hi) hob1
      have h0 : h = 0 := by cases hb with | none => exact r2 rfl | some n => have := (r3 n rfl).2; omega
      subst h0
      obtain ⟨s1, s2, s3⟩ := bound_run (P := P) (w := w) (code := .sliceB) e4 (hbv lo) (hbn lo) hob2
      have l0 : l = 0 := by cases lb with | none => exact s2 rfl | some n => have := (s3 n rfl).2; omega
      subst l0
      exact ⟨goes_sem hexec (by rw [hX]; exact slice_run hT e0 e1 r1 s1) .nilsl H, rfl⟩
    · simp at hc
  · rename_i e sz by_ z st len cap row e0 e2
    split at hc
    · rename_i ei hb h lb l e1 e3 e4
      cases hsz : (ei.size == st) with
      | false => rw [hsz] at hc; simp at hc
      | true =>
        rw [hsz] at hc
        simp only [cond_true, Option.some.injEq, Out.mk.injEq] at hc; obtain ⟨rfl, rfl, rfl, rfl⟩ := hc
        have hst : ei.size = st := by simpa using hsz
        rw [e2] at hx
        obtain ⟨A, cc, cs, hX, hl, hcap, hcc, hrr⟩ := inv_ro2 hx
        obtain ⟨q1, q2, q3, q4⟩ := getD_cases hcap hl
        obtain ⟨hob1, hob2⟩ : loOk hb (cap.getD len) ∧ loOk lb h := hob
        have hob1' : loOk hb cc := by cases hb with | none => trivial | some n => exact ⟨hob1.1, by have := hob1.2; omega⟩
        obtain ⟨r1, r2, r3⟩ := bound_run (P := P) (w := w) (code := .sliceAcap) e3 (hbv hi) (hbn hi) hob1'
        obtain ⟨s1, s2, s3⟩ := bound_run (P := P) (w := w) (code := .sliceB) e4 (hbv lo) (hbn lo) hob2
        have hhlen : h ≤ cap.getD len := by
          cases hb with
          | none => rw [r2 rfl]; exact q1
          | some n => have := hob1.2; have := (r3 n rfl).1; have := hob1.1; omega
        have hlh : l ≤ h := by
          cases lb with
          | none => rw [s2 rfl]; omega
          | some n => exact (s3 n rfl).2
        refine ⟨goes_sem hexec (by rw [hX]; exact slice_run hT e0 e1 r1 s1) (.ro _ _ _ _ _ ?_) H, rfl⟩
        rw [hst]
        exact ro_cut hl hcap hcc hrr hhlen hlh s2 (fun n hn => (s3 n hn).1)
    · simp at hc
  · rename_i e sz by_ z oo st off len cap e0 e2
    split at hc
    · rename_i ei hb h lb l e1 e3 e4
      cases hsz : (ei.size == st) with
      | false => rw [hsz] at hc; simp at hc
      | true =>
        rw [hsz] at hc
        simp only [cond_true, Option.some.injEq, Out.mk.injEq] at hc; obtain ⟨rfl, rfl, rfl, rfl⟩ := hc
        have hst : ei.size = st := by simpa using hsz
        rw [e2] at hx
        obtain ⟨b, κ, hg, h1, h2, h3⟩ := inv_sl hx
        obtain ⟨q1, q2, q3, q4⟩ := getD_cases (len := len) h2 (by omega)
        obtain ⟨hob1, hob2⟩ : loOk hb (cap.getD len) ∧ loOk lb h := hob
        have hob1' : loOk hb (κ - off) := by cases hb with | none => trivial | some n => exact ⟨hob1.1, by have := hob1.2; omega⟩
        obtain ⟨r1, r2, r3⟩ := bound_run (P := P) (w := w) (code := .sliceAcap) e3 (hbv hi) (hbn hi) hob1'
        obtain ⟨s1, s2, s3⟩ := bound_run (P := P) (w := w) (code := .sliceB) e4 (hbv lo) (hbn lo) hob2
        have hhlen : h ≤ cap.getD len := by
          cases hb with
          | none => rw [r2 rfl]; exact q1
          | some n => have := hob1.2; have := (r3 n rfl).1; have := hob1.1; omega
        have hlh : l ≤ h := by
          cases lb with
          | none => rw [s2 rfl]; omega
          | some n => exact (s3 n rfl).2
        have hnf : natFrom lb off = off + l := by cases lb with | none => rw [s2 rfl]; rfl | some n => rw [(s3 n rfl).1]; rfl
        have hnl : natLess lb h = h - l := by cases lb with | none => rw [s2 rfl]; rfl | some n => rw [(s3 n rfl).1]; rfl
        have hcl : ∀ n, capLess lb cap = some n → κ - (off + l) = n := fun n hn => by
          cases lb with
          | none => have := h2 n hn; rw [s2 rfl]; exact this
          | some m =>
            rw [(s3 m rfl).1]
            cases hcp : cap with
            | none => rw [hcp] at hn; cases hn
            | some q => rw [hcp] at hn; simp [capLess, capSub] at hn; have := h2 q hcp; omega
        have hX : a.eval x = .slice (some ⟨b, off * st, none⟩) len (κ - off) ∨ (κ = off ∧ ∃ A, a.eval x = .slice A len (κ - off)) := by
          rcases h3 with h3 | ⟨h4, h5, A, h3⟩
          · exact .inl h3
          · exact .inr ⟨h5, A, by rw [h3, h4, h5]; simp⟩
        rcases hX with hX | ⟨h5, A, hX⟩
        · refine ⟨goes_sem hexec (by rw [hX]; exact slice_run hT e0 e1 r1 s1) ?_ H, rfl⟩
          rw [hnf, hnl]
          by_cases hk : κ - off = l
          · rw [if_pos hk]
            have e1 : h - l = 0 := by omega
            have e2 : κ - off - l = 0 := by omega
            rw [e1, e2]
            exact .sle _ _ _ _ _ b (by rw [hg]; congr 2; omega) (fun n hn => by have := hcl n hn; omega)
          · rw [if_neg hk, Option.map_some, add_mk, hst, ← Nat.add_mul, show κ - off - l = κ - (off + l) by omega]
            exact .sl _ _ _ _ _ b κ hg (by omega) hcl
        · refine ⟨goes_sem hexec (by rw [hX]; exact slice_run hT e0 e1 r1 s1) ?_ H, rfl⟩
          rw [hnf, hnl]
          have e0 : l = 0 := by omega
          have e1 : h - l = 0 := by omega
          have e2 : κ - off - l = 0 := by omega
          rw [e1, e2]
          exact .sle _ _ _ _ _ b (by rw [hg]; congr 2; omega) (fun n hn => by have := hcl n hn; omega)
    · simp at hc
  · rename_i n e sz by_ z oo e0 e2
    split at hc
    · rename_i ei cells e1 e3 e4 e5
      cases hb : (ei.size == 1 && (cells.length == n && Nat.blt 0 n)) with
      | false => rw [hb] at hc; simp at hc
      | true =>
        rw [hb] at hc
        simp only [cond_true, Option.some.injEq, Out.mk.injEq] at hc; obtain ⟨rfl, rfl, rfl, rfl⟩ := hc
        rw [Bool.and_eq_true, Bool.and_eq_true] at hb
        have hs1 : ei.size = 1 := by simpa using hb.1
        have hcn : cells.length = n := by simpa using hb.2.1
        have hn0 := blt_lt hb.2.2
        rw [e2] at hx
        obtain ⟨b, κ, hg, hX⟩ := inv_ptr hx
        have hol : oo < s.heap.length := by
          rcases Nat.lt_or_ge oo s.heap.length with e | e
          · exact e
          · rw [H.free oo e] at hg; cases hg
        have hO := H.objs oo hol
        rw [e5] at hO
        obtain ⟨b', κ', cs, tt, f1, f2, _⟩ := hO
        rw [hg] at f1
        obtain ⟨rfl, rfl⟩ : b = b' ∧ κ = κ' := by simpa using f1
        have hlo : lo = none := by cases lo with | none => rfl | some _ => simp at e1
        have hhi : hi = none := by cases hi with | none => rfl | some _ => simp at e3
        subst hlo; subst hhi
        obtain ⟨d, hd, hk⟩ := hT.und (w := w) e0
        simp only [kOK] at hk; subst hk
        have hsz := hT.size (w := w) e4
        refine ⟨goes_sem hexec (c := .slice (some ⟨b, 0 * 1, none⟩) n (n - 0)) ?_ ?_ H, rfl⟩
        · rw [hX]
          have hne : ¬ (n = 0) := by omega
          simp [Instr.sliceAt, hd, Instr.sureAddr, Instr.sliceBounds, hsz, hne, add_zero']
        · have hκ : κ = n := by omega
          have := VR.sl (w := w) (Fz := Fz) (g := g) oo 1 0 n (some n) b κ hg (by omega) (fun m hm => by simp at hm; omega)
          rw [hκ] at this
          exact this
    · simp at hc
  · simp at hc
theorem go_sliceMax {t : TypeId} {x : Operand} {lo hi : Option Operand} {mx : Operand} (hob : conj ob) (hT : TabOK P T) (hop : o.op = .slice t x lo hi (some mx)) (hc : core1 G T eqs base (.slice t x lo hi (some mx)) ch s nid = some ⟨ob, val, upd, kl⟩) : Goes P B0 w0 w Fz g a o val (apply upd s.heap) ∧ kl = none := by
  have hx := ev_vr F hch x
  have hexec : execOp a.eval o = (do pure (Next.value (← Instr.sliceAt t (a.eval x) (lo.map a.eval) (hi.map a.eval) (some (a.eval mx))))) := by simp only [execOp, hop, Option.map_some]
  simp only [core1, sliceMax, Option.map_some] at hc
  split at hc
  · rename_i e sz by_ z k1 k2 e0 e1 e2 e3
    split at hc
    · rename_i ei e4
      have fin : ∀ A len c, a.eval x = .slice A len c → Goes P B0 w0 w Fz g a o (.ro 0 0 (some 0) fun _ => []) s.heap := fun A len c hX => by
        obtain ⟨d, hd, hk⟩ := hT.und (w := w) e0
        simp only [kOK] at hk; subst hk
        have hsz := hT.size (w := w) e4
        have hlo : lo = none := by cases lo with | none => rfl | some _ => simp at e1
        have hhi : ∃ q, hi = some q ∧ a.eval q = .int k1 0 := by
          cases hi with
          | none => simp at e2
          | some q => simp only [Option.map_some, Option.some.injEq] at e2; have := ev_vr F hch q; rw [e2] at this; exact ⟨q, rfl, inv_cint this⟩
        obtain ⟨q, rfl, hq⟩ := hhi
        have hm : a.eval mx = .int k2 0 := by have := ev_vr F hch mx; simp only [Option.some.injEq] at e3; rw [e3] at this; exact inv_cint this
        subst hlo
        refine goes_sem hexec (c := .slice A 0 0) ?_ (.ro _ _ _ _ _ (.ro _ _ _ _ _ _ (fun _ _ => undef) (Nat.le_refl _) (fun n hn => by simpa using hn) (fun i hi => absurd hi (by simp)) (fun i hi => absurd hi (by simp)))) H
        rw [hX, hm]
        simp [Instr.sliceAt, hd, Instr.slice, Instr.sliceBounds, Instr.sliceBound, asIntOf, hq, hsz]
      split at hc
      · rename_i st len cap row e5
        simp only [Option.some.injEq, Out.mk.injEq] at hc; obtain ⟨rfl, rfl, rfl, rfl⟩ := hc
        rw [e5] at hx
        obtain ⟨A, cc, hX, _⟩ := inv_ro hx
        exact ⟨fin _ _ _ hX, rfl⟩
      · rename_i oo st off len cap e5
        simp only [Option.some.injEq, Out.mk.injEq] at hc; obtain ⟨rfl, rfl, rfl, rfl⟩ := hc
        rw [e5] at hx
        obtain ⟨b, κ, _, _, _, h3⟩ := inv_sl hx
        rcases h3 with h3 | ⟨_, _, A, h3⟩
        · exact ⟨fin _ _ _ h3, rfl⟩
        · exact ⟨fin _ _ _ h3, rfl⟩
      · rename_i e5
        simp only [Option.some.injEq, Out.mk.injEq] at hc; obtain ⟨rfl, rfl, rfl, rfl⟩ := hc
        rw [e5] at hx
        have hX : a.eval x = .slice none 0 0 := by generalize a.eval x = c at hx; cases hx; rfl
        exact ⟨fin _ _ _ hX, rfl⟩
      · simp at hc
    · simp at hc
  · simp at hc
end ops
end
end Go.Proofs.YtnnoplgabnfdiaaGreatDoor.Sh
