/- Part 5 of a proof over the shadow machine. -/
import Derived.Test.YtnnoplgabnfdiaaGreatDoorN04
/- The shadow machine: append. -/
namespace Go.Proofs.YtnnoplgabnfdiaaGreatDoor.Sh
open Go Go.RowKit
set_option linter.unusedVariables false
set_option linter.unusedSimpArgs false
section
variable {P : Program} {T : Tab} {B0 : Nat} {w0 w w' : World} {Fz : Nat → Prop} {g g' : Gh} {h : List AO} {a : Act} {o : Oper} {ob : List Prop} {val : AV} {upd : List (Nat × AO)}

theorem inv_fn {f : FuncId} {xs ys : List AV} {c : Value} (hv : VR w Fz g (.fn f xs ys) c) : ∃ us vs : Array Value, c = .func (.func f) us vs ∧ xs.length = us.size ∧ ys.length = vs.size ∧ (∀ i, i < xs.length → VR w Fz g (nth .top xs i) (us.getD i undef)) ∧ ∀ i, i < ys.length → VR w Fz g (nth .top ys i) (vs.getD i undef) := by
  cases hv with | fn _ _ _ us vs ha hb h1 h2 => exact ⟨us, vs, rfl, ha, hb, h1, h2⟩
theorem inv_iface {t : TypeId} {x : AV} {c : Value} (hv : VR w Fz g (.iface t x) c) : ∃ v, c = .iface t v ∧ VR w Fz g x v := by
  cases hv with | iface _ _ v h => exact ⟨v, rfl, h⟩
theorem kill0_vr {o : Nat} {v : AV} {c : Value} (hg : ∀ o' x, o' ≠ o → g o' = some x → g' o' = some x) (hv : VR w Fz g v c) : VR w Fz g' (kill0 o v) c := by
  cases hv with
  | top v => exact .top _
  | cint k n => exact .cint _ _
  | int k n => exact .int _ _
  | bool b => exact .bool _
  | str s => exact .str _
  | nilp => exact .nilp
  | nilsl => exact .nilsl
  | nilfn => exact .nilfn
  | nilif => exact .nilif
  | ptr o' N s i j b κ h =>
    simp only [kill0]
    cases e : (o' == o) with
    | true => exact .top _
    | false => exact .ptr _ _ _ _ _ _ _ (hg _ _ (by simpa using e) h)
  | rp s row i j ad h => exact .rp _ _ _ _ _ h
  | sl o' s off len cap b κ h hl hc =>
    simp only [kill0]
    cases e : (o' == o) with
    | true => exact .top _
    | false => exact .sl _ _ _ _ _ _ _ (hg _ _ (by simpa using e) h) hl hc
  | sle o' s off cap A b h hc =>
    simp only [kill0]
    cases e : (o' == o) with
    | true => exact .top _
    | false => exact .sle _ _ _ _ _ _ (hg _ _ (by simpa using e) h) hc
  | ro s len cap row v h => exact .ro _ _ _ _ _ h
  | fn f xs ys us vs ha hb h1 h2 =>
    cases xs <;> cases ys <;> first
      | exact .fn f [] [] us vs ha hb (fun i hi => absurd hi (by simp)) (fun i hi => absurd hi (by simp))
      | exact .top _
  | iface t x v h => exact .top _
  | agg cs vs hl h => exact .top _
  | tup cs vs hl h => exact .top _
  | nilmp => exact .nilmp
  | mp o' b κ h =>
    simp only [kill0]
    cases e : (o' == o) with
    | true => exact .top _
    | false => exact .mp _ _ _ (hg _ _ (by simpa using e) h)
theorem map_top {f : AV → AV} (hf : f .top = .top) (l : List AV) (i : Nat) : nth .top (l.map f) i = f (nth .top l i) := nth_map .top f hf l i
theorem kill1_vr {o : Nat} {v : AV} {c : Value} (hg : ∀ o' x, o' ≠ o → g o' = some x → g' o' = some x) (hv : VR w Fz g v c) : VR w Fz g' (kill1 o v) c := by
  by_cases hag : ∃ cs, v = .agg cs
  · obtain ⟨cs, rfl⟩ := hag
    obtain ⟨vs, rfl, hl, hh⟩ := inv_agg hv
    exact .agg _ _ (by simpa using hl) fun i hi => by
      rw [map_top rfl]; exact kill0_vr hg (hh i (by simpa using hi))
  · have : kill1 o v = kill0 o v := by cases v <;> first | rfl | exact absurd ⟨_, rfl⟩ hag
    rw [this]; exact kill0_vr hg hv
theorem kill2_vr {o : Nat} {v : AV} {c : Value} (hg : ∀ o' x, o' ≠ o → g o' = some x → g' o' = some x) (hv : VR w Fz g v c) : VR w Fz g' (kill2 o v) c := by
  cases v with
  | tup cs =>
    obtain ⟨vs, rfl, hl, hh⟩ := inv_tup hv
    exact .tup _ _ (by simpa using hl) fun i hi => by
      rw [map_top rfl]; exact kill1_vr hg (hh i (by simpa using hi))
  | fn f xs ys =>
    obtain ⟨us, vs, rfl, ha, hb, h1, h2⟩ := inv_fn hv
    exact .fn _ _ _ _ _ (by simpa using ha) (by simpa using hb) (fun i hi => by rw [map_top rfl]; exact kill1_vr hg (h1 i (by simpa using hi))) (fun i hi => by rw [map_top rfl]; exact kill1_vr hg (h2 i (by simpa using hi)))
  | iface t x =>
    obtain ⟨v, rfl, h⟩ := inv_iface hv
    exact .iface _ _ _ (kill1_vr hg h)
  | when d b v => cases hv
  | _ => exact kill1_vr hg hv
/-- An object is put anew, elsewhere; what led to it is forgotten. -/
theorem HR.renew {o : Nat} {ob : AO} {b' κ' : Nat} (H : HR B0 w0 w Fz g h) (hB : Below B0 w0 w') (hs : w.heap.size ≤ w'.heap.size) (ho : o < h.length)
    (hsame : ∀ b, b < w.heap.size → (Fz b ∨ ∃ o', o' ≠ o ∧ o' < h.length ∧ Has g o' (nth .free h o') b) → w'.heap[b]? = w.heap[b]?)
    (hob : OR w' Fz (ext g o (b', κ')) o ob) (hown : ∀ b, Has (ext g o (b', κ')) o ob b → B0 ≤ b ∧ b < w'.heap.size ∧ ¬ Fz b ∧ ∀ o', o' ≠ o → o' < h.length → ¬ Has g o' (nth .free h o') b) :
    HR B0 w0 w' Fz (ext g o (b', κ')) (put1 o ob (h.map (killO o))) := by
  have hFs : Same Fz w w' := fun b hb => hsame b (H.fz b hb) (.inl hb)
  have hg : ∀ o' x, o' ≠ o → g o' = some x → ext g o (b', κ') o' = some x := fun o' x e hx => by simp [ext, e, hx]
  have hlen := put1_length (h := h.map (killO o)) (ob := ob) (o := o) (by simp; omega)
  rw [List.length_map, if_neg (by omega)] at hlen
  have hnth : ∀ j, nth .free (put1 o ob (h.map (killO o))) j = if j = o then ob else killO o (nth .free h j) := fun j => by
    rw [nth_put1 (by simp; omega), nth_map _ _ rfl]
  have hHas : ∀ o' b, o' ≠ o → (Has (ext g o (b', κ')) o' (killO o (nth .free h o')) b ↔ Has g o' (nth .free h o') b) := fun o' b e => by
    cases nth .free h o' <;> simp [Has, killO, ext, e]
  refine ⟨hB, Nat.le_trans H.base hs, fun b hb => Nat.lt_of_lt_of_le (H.fz b hb) hs, fun o' h' => ?_, fun o' h' => ?_, fun o' b h' hh => ?_, fun o1 o2 b h1 h2 hh1 hh2 => ?_, H.gl⟩
  · rw [hlen] at h'
    simp only [ext]; rw [if_neg (by omega)]
    exact H.free o' h'
  · rw [hlen] at h'
    rw [hnth]
    by_cases e : o' = o
    · subst e; rw [if_pos rfl]; exact hob
    · rw [if_neg e]
      have hO := H.objs o' h'
      have hblk : ∀ b, Has g o' (nth .free h o') b → w'.heap[b]? = w.heap[b]? := fun b hb => hsame b (H.own o' b h' hb).2.1 (.inr ⟨o', e, h', hb⟩)
      have hgo : ∀ x, g o' = x → ext g o (b', κ') o' = x := fun x hx => by simp [ext, e, hx]
      cases hoo : nth .free h o' with
      | free => rw [hoo] at hO; exact hgo _ hO
      | dead => trivial
      | emap =>
        rw [hoo] at hO hblk
        obtain ⟨b, κ, h1, h2⟩ := hO
        exact ⟨b, κ, hgo _ h1, (hblk b ⟨κ, h1⟩).trans h2⟩
      | xmap =>
        rw [hoo] at hO hblk
        obtain ⟨b, κ, es, n, h1, h2⟩ := hO
        exact ⟨b, κ, es, n, hgo _ h1, (hblk b ⟨κ, h1⟩).trans h2⟩
      | lit s cells =>
        rw [hoo] at hO hblk
        obtain ⟨b, κ, cs, t, h1, h2, h3, h4, h5⟩ := hO
        exact ⟨b, κ, cs, t, hgo _ h1, by simpa using h2, (hblk b ⟨κ, h1⟩).trans h3, by simpa using h4, fun i hi => by
          rw [map_top rfl]; exact kill1_vr hg ((h5 i (by simpa using hi)).mono hFs (fun _ x => x) (fun _ _ x => x))⟩
      | rows s n row =>
        rw [hoo] at hO hblk
        obtain ⟨b, κ, h1, h2, h3⟩ := hO
        refine ⟨b, κ, hgo _ h1, h2, ?_⟩
        rcases h3 with h3 | ⟨cs, t, h3, h4, h5⟩
        · exact .inl h3
        · by_cases hk : κ = 0
          · exact .inl hk
          · exact .inr ⟨cs, t, (hblk b ⟨κ, h1, hk⟩).trans h3, h4, fun i hi j hj => by
              rw [map_top rfl]; exact kill0_vr hg ((h5 i hi j hj).mono hFs (fun _ x => x) (fun _ _ x => x))⟩
  · rw [hlen] at h'
    rw [hnth] at hh
    by_cases e : o' = o
    · subst e; rw [if_pos rfl] at hh; obtain ⟨a1, a2, a3, _⟩ := hown b hh; exact ⟨a1, a2, a3⟩
    · rw [if_neg e] at hh
      obtain ⟨a1, a2, a3⟩ := H.own o' b h' ((hHas o' b e).mp hh)
      exact ⟨a1, Nat.lt_of_lt_of_le a2 hs, a3⟩
  · rw [hlen] at h1 h2
    rw [hnth] at hh1 hh2
    by_cases e1 : o1 = o <;> by_cases e2 : o2 = o
    · rw [e1, e2]
    · subst e1; rw [if_pos rfl] at hh1; rw [if_neg e2] at hh2
      exact absurd ((hHas o2 b e2).mp hh2) ((hown b hh1).2.2.2 o2 e2 h2)
    · subst e2; rw [if_pos rfl] at hh2; rw [if_neg e1] at hh1
      exact absurd ((hHas o1 b e1).mp hh1) ((hown b hh2).2.2.2 o1 e1 h1)
    · rw [if_neg e1] at hh1; rw [if_neg e2] at hh2
      exact H.sep o1 o2 b h1 h2 ((hHas o1 b e1).mp hh1) ((hHas o2 b e2).mp hh2)

/-- Where an append reads. -/
theorem src_vr {z m : Nat} {pr : List Prop} {r : Nat → List AV} {y : AV} {c : Value} (H : HR B0 w0 w Fz g h) (hz : 0 < z) (hs : srcRows (fun o => nth .free h o) z y = some (pr, m, r)) (hpr : conj pr) (hv : VR w Fz g y c) :
    ∃ (A : Option Addr) (cc : Nat) (f : Nat → Value), c = .slice A m cc ∧ (m = 0 ∨ ∃ ad, A = some ad ∧ ∀ q, q < m * z → w.cell? (ad.add q) = some (f q)) ∧ ∀ i, i < m → ∀ j, j < z → VR w Fz g (nth .top (r i) j) (f (i * z + j)) := by
  have bound : ∀ {i j m : Nat}, i < m → j < z → i * z + j < m * z := fun {i j m} hi hj => by
    have : (i + 1) * z ≤ m * z := Nat.mul_le_mul_right _ (by omega)
    rw [Nat.add_mul, Nat.one_mul] at this; omega
  unfold srcRows at hs
  split at hs
  · simp only [Option.some.injEq, Prod.mk.injEq] at hs
    obtain ⟨rfl, rfl, rfl⟩ := hs
    cases hv
    exact ⟨none, 0, fun _ => undef, rfl, .inl rfl, fun i hi => absurd hi (by omega)⟩
  · simp only [Option.some.injEq, Prod.mk.injEq] at hs
    obtain ⟨rfl, rfl, rfl⟩ := hs
    obtain ⟨A, cc, cs, rfl, hl, hcap, h1, h2⟩ := inv_ro2 hv
    exact ⟨A, cc, fun _ => undef, rfl, .inl rfl, fun i hi => absurd hi (by omega)⟩
  · rename_i s len cap row _
    cases hb : (s == z) with
    | false => rw [hb] at hs; simp at hs
    | true =>
      rw [hb] at hs
      simp only [cond_true, Option.some.injEq, Prod.mk.injEq] at hs
      obtain ⟨rfl, rfl, rfl⟩ := hs
      have hsz : s = z := by simpa using hb
      subst hsz
      obtain ⟨A, cc, cs, rfl, hl, hcap, h1, h2⟩ := inv_ro2 hv
      have hq : len ≤ cap.getD len := (getD_cases hcap hl).1
      refine ⟨A, cc, fun q => cs (q / s) (q % s), rfl, ?_, fun i hi j hj => ?_⟩
      · by_cases h0 : len = 0
        · exact .inl h0
        · obtain ⟨ad, hA, _⟩ := h1 0 (by omega) 0 hz
          refine .inr ⟨ad, hA, fun q hq' => ?_⟩
          have hdiv : q / s < len := (Nat.div_lt_iff_lt_mul hz).mpr hq'
          obtain ⟨ad', hA', _, hc⟩ := h1 (q / s) (by omega) (q % s) (Nat.mod_lt _ hz)
          rw [hA] at hA'; cases hA'
          rw [show q / s * s + q % s = q by rw [Nat.mul_comm]; exact Nat.div_add_mod q s] at hc
          exact hc
      · have e1 : (i * s + j) / s = i := by rw [Nat.add_comm, Nat.add_mul_div_right _ _ hz, Nat.div_eq_of_lt hj, Nat.zero_add]
        have e2 : (i * s + j) % s = j := by rw [Nat.add_comm, Nat.add_mul_mod_self_right, Nat.mod_eq_of_lt hj]
        simp only [e1, e2, nth_map_av]
        exact (h2 i (by omega) j hj).av
  · rename_i o' s off len cap
    cases hb : (s == z) with
    | false => rw [hb] at hs; simp at hs
    | true =>
      rw [hb] at hs
      simp only [cond_true] at hs
      have hsz : s = z := by simpa using hb
      subst hsz
      obtain ⟨b, κ, hg, hl, hcap, hX⟩ := inv_sl hv
      have hol : o' < h.length := by
        rcases Nat.lt_or_ge o' h.length with e | e
        · exact e
        · rw [H.free o' e] at hg; cases hg
      have hO := H.objs o' hol
      have fin : ∀ (cur : Array Value) (t : TypeId) (r : Nat → List AV), w.heap[b]? = some (.cells cur t (0, 0)) → (off + len) * s ≤ cur.size → (∀ i, i < len → ∀ j, j < s → VR w Fz g (nth .top (r i) j) (cur.getD ((off + i) * s + j) undef)) →
          ∃ (A : Option Addr) (cc : Nat) (f : Nat → Value), c = .slice A len cc ∧ (len = 0 ∨ ∃ ad, A = some ad ∧ ∀ q, q < len * s → w.cell? (ad.add q) = some (f q)) ∧ ∀ i, i < len → ∀ j, j < s → VR w Fz g (nth .top (r i) j) (f (i * s + j)) := fun cur t r hb hsz hr => by
        have hf : ∀ i, i < len → ∀ j, j < s → VR w Fz g (nth .top (r i) j) (cur.getD (off * s + (i * s + j)) undef) := fun i hi j hj => by
          have := hr i hi j hj
          rwa [Nat.add_mul, Nat.add_assoc] at this
        rcases hX with hX | ⟨h0, _, A, hX⟩
        · refine ⟨_, _, fun q => cur.getD (off * s + q) undef, hX, .inr ⟨_, rfl, fun q hq => ?_⟩, hf⟩
          rw [add_mk]
          exact cell_of hb (by rw [Nat.add_mul] at hsz; omega)
        · subst h0
          exact ⟨A, 0, fun q => cur.getD (off * s + q) undef, hX, .inl rfl, hf⟩
      cases hoo : nth .free h o' with
      | free => rw [hoo] at hs; simp at hs
      | dead => rw [hoo] at hs; simp at hs
      | emap => rw [hoo] at hs; simp at hs
      | xmap => rw [hoo] at hs; simp at hs
      | rows s' n row =>
        rw [hoo] at hs hO
        simp only at hs
        cases hb2 : (s == s') with
        | false => rw [hb2] at hs; simp at hs
        | true =>
          rw [hb2] at hs
          simp only [cond_true, Option.some.injEq, Prod.mk.injEq] at hs
          obtain ⟨rfl, rfl, rfl⟩ := hs
          have hss : s = s' := by simpa using hb2
          subst hss
          have hn : off + len ≤ n := hpr
          obtain ⟨b', κ', e1, e2, e3⟩ := hO
          rw [hg] at e1
          obtain ⟨rfl, rfl⟩ : b = b' ∧ κ = κ' := by simpa using e1
          rcases e3 with e3 | ⟨cur, t, e3, e4, e5⟩
          · have h0 : len = 0 := by omega
            subst h0
            rcases hX with hX | ⟨_, _, A, hX⟩
            · exact ⟨_, _, fun _ => undef, hX, .inl rfl, fun i hi => absurd hi (by omega)⟩
            · exact ⟨_, _, fun _ => undef, hX, .inl rfl, fun i hi => absurd hi (by omega)⟩
          · exact fin cur t _ e3 (by rw [e4]; exact Nat.mul_le_mul_right _ (by omega)) (fun i hi j hj => e5 (off + i) (by omega) j hj)
      | lit u cells =>
        rw [hoo] at hs hO
        simp only at hs
        cases hb2 : (s == u) with
        | false => rw [hb2] at hs; simp at hs
        | true =>
          rw [hb2] at hs
          simp only [cond_true] at hs
          have hss : s = u := by simpa using hb2
          subst hss
          obtain ⟨b', κ', cur, t, e1, e2, e3, e4, e5⟩ := hO
          rw [hg] at e1
          obtain ⟨rfl, rfl⟩ : b = b' ∧ κ = κ' := by simpa using e1
          have hsz : (off + len) * s ≤ cur.size := by rw [e4, ← e2]; exact Nat.mul_le_mul_right _ hl
          split at hs
          · cases hb3 : Nat.ble (off * s + s) cells.length with
            | false => rw [hb3] at hs; simp at hs
            | true =>
              rw [hb3] at hs
              simp only [cond_true, Option.some.injEq, Prod.mk.injEq] at hs
              obtain ⟨rfl, rfl, rfl⟩ := hs
              have hle := ble_le hb3
              exact fin cur t _ e3 hsz (fun i hi j hj => by
                have : i = 0 := by omega
                subst this
                rw [nth_cut _ _ _ _ _ hj, Nat.add_zero]
                exact e5 _ (by omega))
          · simp only [Option.some.injEq, Prod.mk.injEq] at hs
            obtain ⟨rfl, rfl, rfl⟩ := hs
            exact fin cur t _ e3 hsz (fun i hi j hj => by
              rw [nth_readLit _ _ _ _ _ _ _ hj, Nat.zero_add]
              have hκ : cells.length / s = κ := by rw [← e2, Nat.mul_div_cancel _ hz]
              rw [hκ]
              have hb : (off + i) * s + j < cells.length := by
                have h1 : (off + i + 1) * s ≤ κ * s := Nat.mul_le_mul_right _ (by omega)
                rw [Nat.add_mul, Nat.one_mul] at h1; omega
              exact placeLit_vr (f := fun p => cur.getD p undef) (.inr (by omega)) (e5 _ hb))
  · simp at hs
end
end Go.Proofs.YtnnoplgabnfdiaaGreatDoor.Sh
/- The shadow machine: append and clear, seen from both sides. -/
namespace Go.Proofs.YtnnoplgabnfdiaaGreatDoor.Sh
open Go Go.RowKit
set_option linter.unusedVariables false
set_option linter.unusedSimpArgs false
section
variable {P : Program} {T : Tab} {B0 : Nat} {w0 w w' : World} {Fz : Nat → Prop} {g g' : Gh} {h : List AO} {a : Act} {o : Oper} {ob : List Prop} {val : AV} {upd : List (Nat × AO)}

def newsOf (f : Nat → Value) (n : Nat) : List Value := (List.range n).map f
theorem newsOf_length (f : Nat → Value) (n : Nat) : (newsOf f n).length = n := by simp [newsOf]
theorem newsOf_get (f : Nat → Value) (n j : Nat) (v : Value) (h : (newsOf f n)[j]? = some v) : j < n ∧ v = f j := by
  simp only [newsOf, List.getElem?_map, Option.map_eq_some_iff] at h
  obtain ⟨q, h1, h2⟩ := h
  have hj : j < n := by
    rcases Nat.lt_or_ge j n with e | e
    · exact e
    · simp [List.getElem?_eq_none (l := List.range n) (i := j) (by simp; exact e)] at h1
  rw [List.getElem?_range hj] at h1
  cases h1
  exact ⟨hj, h2.symm⟩
theorem newsOf_getD (f : Nat → Value) (n j : Nat) (h : j < n) : (newsOf f n).getD j undef = f j := by
  simp [newsOf, List.getD_eq_getElem?_getD, h]

theorem append_none (t ty e : TypeId) (i : TypeInfo) (ht : P.underlying t = some (.slice e)) (hi : P.info? e = some i) (A A2 : Option Addr) (n c c2 : Nat) (hn : n ≤ c) :
    (Builtin.append_ #[t, t] ty #[.slice A n c, .slice A2 0 c2]).run P w = .ok (.slice A n c) w := by
  cases A <;> cases A2 <;> simp [Builtin.append_, run_underlying ht, sizeOf, typeInfo, hi, Builtin.lenOf, hn, Builtin.firstCells, loadCells, loadCellsFrom, storeCells]
theorem append_room (t ty e : TypeId) (i : TypeInfo) (ht : P.underlying t = some (.slice e)) (hi : P.info? e = some i) (b sLen sCap : Nat) (cur : Array Value) (tt : TypeId) (hg : w.heap[b]? = some (.cells cur tt (0, 0)))
    (ad : Addr) (m c : Nat) (news : List Value) (hl : news.length = m * i.size) (hnews : ∀ j u, news[j]? = some u → w.cell? (ad.add j) = some u) (h1 : ∀ u ∈ news, u.oneCell' = true)
    (hroom : sLen + m ≤ sCap) (hfit : sLen * i.size + news.length ≤ cur.size) :
    (Builtin.append_ #[t, t] ty #[.slice (some ⟨b, 0, none⟩) sLen sCap, .slice (some ad) m c]).run P w =
      .ok (.slice (some ⟨b, 0, none⟩) (sLen + m) sCap) (w.setRow b (cur.toList.take (sLen * i.size) ++ news ++ cur.toList.drop (sLen * i.size + news.length)).toArray) := by
  have hf := run_firstCells_some (P := P) w i.size m ad m c news hl hnews
  have hst := run_storeCells_at P b (sLen * i.size) tt news 0 cur w hg (by simpa using hfit) h1
  simp only [Nat.add_zero] at hst
  simp [Builtin.append_, run_underlying ht, sizeOf, typeInfo, hi, Builtin.lenOf, hroom, hf, Addr.add_lit, hst]

/-- What an append comes to that makes a new row. -/
theorem append_new (t ty e : TypeId) (i : TypeInfo) (z : Value) (ht : P.underlying t = some (.slice e)) (hi : P.info? e = some i) (hz : i.zero = some z) (hzs : z.cells.size = i.size) (A : Option Addr) (n c : Nat) (old : Nat → Value) (hold : n = 0 ∨ ∃ ad, A = some ad ∧ ∀ q, q < n * i.size → w.cell? (ad.add q) = some (old q)) (hA : A = none → c = 0 ∧ n = 0)
    (ad : Addr) (m c2 : Nat) (f : Nat → Value) (hf : ∀ q, q < m * i.size → w.cell? (ad.add q) = some (f q)) (hgr : c < n + m) (hbig : (n + m) * i.bytes ≤ 140737488355328) (hby : 0 < i.bytes) :
    ∃ κ cells, n + m ≤ κ ∧ (Builtin.append_ #[t, t] ty #[.slice A n c, .slice (some ad) m c2]).run P w = .ok (.slice (some ⟨w.heap.size, 0, none⟩) (n + m) κ) (w.drew.alloc (.cells cells e)) ∧ cells.size = κ * i.size ∧
      (∀ q, q < n * i.size → cells.getD q undef = old q) ∧ ∀ q, q < m * i.size → cells.getD (n * i.size + q) undef = f q := by
  have hnm : n + m ≤ 140737488355328 := Nat.le_trans (Nat.le_mul_of_pos_right _ hby) hbig
  have hge := grownCap_ge w (n + m) c e
  have hnews : ∀ j v, (newsOf f (m * i.size))[j]? = some v → w.cell? (ad.add j) = some v := fun j v hj => by
    obtain ⟨h1, rfl⟩ := newsOf_get _ _ _ _ hj
    exact hf j h1
  cases A with
  | none =>
    obtain ⟨rfl, rfl⟩ := hA rfl
    have hr := run_append_nil (P := P) w t ty e i z ht hi hz ad m c2 (newsOf f (m * i.size)) (newsOf_length _ _) hnews (by omega) (by omega) (by simp only [Nat.zero_add] at hbig; omega)
    rw [Nat.zero_add] at hge ⊢
    refine ⟨_, _, hge, hr, ?_, fun q hq => by simp at hq, fun q hq => ?_⟩
    · simp only [Array.size_append, List.size_toArray, newsOf_length, size_zeroCells, hzs, ← Nat.add_mul]
      congr 1; omega
    · rw [Nat.zero_mul, Nat.zero_add]
      have : (((newsOf f (m * i.size)).toArray ++ Builtin.zeroCells z.cells (grownCap w m 0 e - m)).getD q undef) = (newsOf f (m * i.size)).getD q undef := by
        simp only [Array.getD_eq_getD_getElem?, List.getD_eq_getElem?_getD]
        rw [Array.getElem?_append_left (by simp [newsOf_length]; exact hq)]
        simp
      rw [this, newsOf_getD _ _ _ hq]
  | some b =>
    have holds : ∀ j v, (newsOf old (n * i.size))[j]? = some v → w.cell? (b.add j) = some v := fun j v hj => by
      obtain ⟨h1, rfl⟩ := newsOf_get _ _ _ _ hj
      rcases hold with h0 | ⟨ad', hA', hc⟩
      · subst h0; simp at h1
      · cases hA'; exact hc j h1
    have hr := run_append_grow (P := P) w t ty e i z ht hi hz b n c (newsOf old (n * i.size)) (newsOf_length _ _) holds ad m c2 (newsOf f (m * i.size)) (newsOf_length _ _) hnews hgr (by omega) (growslice_fits hgr hbig)
    refine ⟨_, _, hge, hr, ?_, fun q hq => ?_, fun q hq => ?_⟩
    · simp only [Array.size_append, List.size_toArray, newsOf_length, size_zeroCells, hzs, ← Nat.add_mul]
      congr 1; omega
    · have : (((newsOf old (n * i.size)).toArray ++ (newsOf f (m * i.size)).toArray ++ Builtin.zeroCells z.cells (grownCap w (n + m) c e - (n + m))).getD q undef) = (newsOf old (n * i.size)).getD q undef := by
        simp only [Array.getD_eq_getD_getElem?, List.getD_eq_getElem?_getD]
        rw [Array.getElem?_append_left (by simp [newsOf_length]; omega), Array.getElem?_append_left (by simp [newsOf_length]; omega)]
        simp
      rw [this, newsOf_getD _ _ _ hq]
    · have : (((newsOf old (n * i.size)).toArray ++ (newsOf f (m * i.size)).toArray ++ Builtin.zeroCells z.cells (grownCap w (n + m) c e - (n + m))).getD (n * i.size + q) undef) = (newsOf f (m * i.size)).getD q undef := by
        simp only [Array.getD_eq_getD_getElem?, List.getD_eq_getElem?_getD]
        rw [Array.getElem?_append_left (by simp [newsOf_length]; omega), Array.getElem?_append_right (by simp [newsOf_length])]
        simp [newsOf_length]
      rw [this, newsOf_getD _ _ _ hq]

theorem call_builtin {c : Call} {b : Builtin} (hop : o.op = .call c) (hcal : c.callee = .builtin b) {r : Value} (hr : ∀ consts, (builtin b c.argTypes o.type consts (c.args.map a.eval)).run P w = .ok (.value r) w') : (execOp a.eval o).run P w = .ok (.value r) w' := by
  simp only [execOp, hop, resolve, hcal, Sem.run_bind, Sem.run_pure, Result.andThen_ok, invoke]
  exact hr _
theorem call_append {c : Call} {X Y : Operand} {t : TypeId} (hop : o.op = .call c) (hcal : c.callee = .builtin .append) (hargs : c.args = #[X, Y]) (hty : c.argTypes = #[t, t]) {r : Value} (hr : (Builtin.append_ #[t, t] o.type #[a.eval X, a.eval Y]).run P w = .ok r w') : (execOp a.eval o).run P w = .ok (.value r) w' := by
  refine call_builtin hop hcal fun consts => ?_
  rw [hargs, hty]
  simp [builtin, hr]
theorem args_two {ch : List (Nat × Bool)} {s : AState} {c : Call} {x y : AV} (h : c.args.toList.map (ev ch s) = [x, y]) : ∃ X Y, c.args = #[X, Y] ∧ ev ch s X = x ∧ ev ch s Y = y := by
  obtain ⟨l, hl⟩ : ∃ l, c.args.toList = l := ⟨_, rfl⟩
  rw [hl] at h
  match l, h with
  | [X, Y], h =>
    simp only [List.map_cons, List.map_nil, List.cons.injEq, and_true] at h
    exact ⟨X, Y, by rw [← Array.toArray_toList (xs := c.args), hl], h.1, h.2⟩
theorem types_two {c : Call} {t t' : TypeId} (h : c.argTypes.toList = [t, t']) : c.argTypes = #[t, t'] := by rw [← Array.toArray_toList (xs := c.argTypes), h]

/-- How the world may have gone on, when what led to object k was forgotten. -/
def GoesK (P : Program) (B0 : Nat) (w0 w : World) (Fz : Nat → Prop) (g : Gh) (a : Act) (o : Oper) (k : Nat) (val : AV) (h' : List AO) : Prop :=
  ∀ (K : Act → World → Prop) (Q : Exit → Act → World → Prop), (∀ c w' g', VR w' Fz g' val c → HR B0 w0 w' Fz g' h' → Same Fz w w' → w.heap.size ≤ w'.heap.size → (∀ o' x, o' ≠ k → g o' = some x → g' o' = some x) → (∀ o' b κ, g' o' = some (b, κ) → g o' = some (b, κ) ∨ w.heap.size ≤ b ∨ b = 0) → K (a.put o.dst c) w') → o.wp P a w K Q
theorem goesK_to {k : Nat} {h' : List AO} {c : Value} (hr : (execOp a.eval o).run P w = .ok (.value c) w') (hv : VR w' Fz g' val c) (H : HR B0 w0 w' Fz g' h') (h1 : Same Fz w w') (h2 : w.heap.size ≤ w'.heap.size) (h3 : ∀ o' x, o' ≠ k → g o' = some x → g' o' = some x) (h4 : ∀ o' b κ, g' o' = some (b, κ) → g o' = some (b, κ) ∨ w.heap.size ≤ b ∨ b = 0) : GoesK P B0 w0 w Fz g a o k val h' := fun K Q hK => by
  unfold Oper.wp
  rw [hr, Oper.upon_value]
  exact hK c w' g' hv H h1 h2 h3 h4

/-- A fresh row, out of an append to nothing. -/
theorem append_fresh {nid : Nat} (hT : TabOK P T) (H : HR B0 w0 w Fz g h) (hn : nid ≤ h.length) (hfree : nth .free h nid = .free) {t e sz by_ : Nat} {z : AV} {ei : TI} (e0 : T.get t = some ⟨.slice e, sz, by_, z⟩) (e1 : T.get e = some ei) (hz : 0 < ei.size) (hb : 0 < ei.bytes)
    {A : Option Addr} {y : AV} {c2 : Value} {pr : List Prop} {m : Nat} {r : Nat → List AV} (hs : srcRows (fun o => nth .free h o) ei.size y = some (pr, m, r)) (hpr : conj pr) (hv : VR w Fz g y c2) (hbig : m * ei.bytes ≤ 140737488355328) (ty : TypeId) :
    ∃ v w' g', (Builtin.append_ #[t, t] ty #[.slice A 0 0, c2]).run P w = .ok v w' ∧ VR w' Fz g' (.sl nid ei.size 0 m none) v ∧ HR B0 w0 w' Fz g' (put1 nid (.rows ei.size m r) h) ∧ On w w' Fz Fz g g' := by
  have hgn : g nid = none := by
    by_cases e : nid < h.length
    · have := H.objs nid e; rw [hfree] at this; exact this
    · exact H.free nid (by omega)
  obtain ⟨A2, cc, f, rfl, hsrc, hrows⟩ := src_vr H hz hs hpr hv
  obtain ⟨i, zz, i1, i2, i3, i4, i5, i6, i7⟩ := (hT e ei e1).info
  obtain ⟨d, hd, hk⟩ := (hT t _ e0).und
  simp only [kOK] at hk; subst hk
  have hext : ∀ κ o' x, g o' = some x → ext g nid κ o' = some x := fun κ o' x hx => by
    by_cases eo : o' = nid
    · subst eo; rw [hgn] at hx; cases hx
    · simp [ext, eo, hx]
  by_cases hm : m = 0
  · subst hm
    refine ⟨.slice A 0 0, w, ext g nid (0, 0), append_none t ty e i hd i1 A A2 0 0 cc (Nat.le_refl _), .sle _ _ _ _ _ 0 (by simp [ext]) (fun n hn => by cases hn), ?_, ⟨Same.refl _ _, fun _ x => x, hext _, fun _ x => .inl x, Nat.le_refl _, ext_zero⟩⟩
    exact H.change H.below (Nat.le_refl _) hn (fun _ _ _ => rfl) (fun o' e => by simp [ext, e]) (fun x hx => by rw [hgn] at hx; cases hx) ⟨0, 0, by simp [ext], Nat.le_refl _, .inl rfl⟩ (fun b hb => by obtain ⟨κ, e, hκ⟩ := hb; simp [ext] at e; exact absurd e.2.symm hκ)
  · rcases hsrc with h0 | ⟨ad, rfl, hcell⟩
    · exact absurd h0 hm
    · have hzs : zz.cells.size = i.size := by
        have := cells_vr (i5 w Fz g) i6
        omega
      obtain ⟨κ, cells, hκ, hrun, hcs, _, hnew⟩ := append_new (P := P) (w := w) t ty e i zz hd i1 i4 hzs A 0 0 (fun _ => undef) (.inl rfl) (fun _ => ⟨rfl, rfl⟩) ad m cc f (fun q hq => hcell q (by rw [← i2]; exact hq)) (by omega) (by rw [i3, Nat.zero_add]; exact hbig) (by omega)
      simp only [Nat.zero_add, Nat.zero_mul] at hκ hrun hnew
      obtain ⟨g1, g2, g3⟩ := (H.drew).alloc hn hfree cells e κ (.rows ei.size m r) (fun w' hs' hbb => ⟨w.heap.size, κ, by simp [ext], hκ, .inr ⟨cells, e, hbb, by rw [hcs, i2], fun q hq j hj => by
        have hb : q * ei.size + j < m * i.size := by
          have h1 : (q + 1) * ei.size ≤ m * ei.size := Nat.mul_le_mul_right _ (by omega)
          rw [Nat.add_mul, Nat.one_mul] at h1; rw [i2]; omega
        rw [hnew _ hb]
        exact (VR.mono (w := w) (w' := w') (fun b hb => hs' b hb) (fun _ x => x) (hext _) (hrows q hq j hj))⟩⟩)
      refine ⟨_, _, _, hrun, ?_, g1, ⟨fun b hb => g2 b hb, fun _ x => x, hext _, fun _ x => .inl x, alloc_size w.drew _, ext_newg⟩⟩
      have := VR.sl (w := w.drew.alloc (.cells cells e)) (Fz := Fz) (g := ext g nid (w.drew.heap.size, κ)) nid ei.size 0 m none w.heap.size κ (by simp [ext]) (by omega) (fun n hn => by cases hn)
      simpa using this
end
end Go.Proofs.YtnnoplgabnfdiaaGreatDoor.Sh
