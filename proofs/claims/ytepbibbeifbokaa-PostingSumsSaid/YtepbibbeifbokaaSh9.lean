/- The shadow machine: append. -/
import Derived.Test.YtepbibbeifbokaaSh8
namespace Go.Proofs.Ytepbibbeifbokaa.Sh
open Go Go.RowKit
set_option linter.unusedVariables false
set_option linter.unusedSimpArgs false
section
variable {P : Program} {T : Tab} {B0 : Nat} {w0 w w' : World} {Fz : Nat → Prop} {g g' : Gh} {h : List AO} {a : Act} {o : Oper} {ob : List Prop} {val : AV} {upd : List (Nat × AO)}

theorem inv_fn {f : FuncId} {xs ys : List AV} {c : Value} (hv : VR w Fz g (.fn f xs ys) c) : ∃ us vs : Array Value, c = .func (.func f) us vs ∧ xs.length = us.size ∧ ys.length = vs.size ∧ (∀ i, i < xs.length → VR w Fz g (nth .top xs i) (us.getD i undef)) ∧ ∀ i, i < ys.length → VR w Fz g (nth .top ys i) (vs.getD i undef) := by
  cases hv with | fn _ _ _ us vs ha hb h1 h2 => exact ⟨us, vs, rfl, ha, hb, h1, h2⟩
theorem inv_iface {t : TypeId} {x : AV} {c : Value} (hv : VR w Fz g (.iface t x) c) : ∃ v, c = .iface t v ∧ VR w Fz g x v := by
  cases hv with | iface _ _ v h => exact ⟨v, rfl, h⟩
theorem kill0_vr {o : Nat} {v : AV} {c : Value} (hg : ∀ o' x, o' ≠ o → g o' = some x → g' o' = some x) (hv : VR w Fz g v c) : VR w Fz g' (kill0 o v) c := by
  cases hv with
  | top v => exact .top _
  | cint k n => exact .cint _ _
  | int k n => exact .int _ _
  | bool b => exact .bool _
  | str s => exact .str _
  | nilp => exact .nilp
  | nilsl => exact .nilsl
  | nilfn => exact .nilfn
  | nilif => exact .nilif
  | ptr o' N s i j b κ h =>
    simp only [kill0]
    cases e : (o' == o) with
    | true => exact .top _
    | false => exact .ptr _ _ _ _ _ _ _ (hg _ _ (by simpa using e) h)
  | rp s row i j ad h => exact .rp _ _ _ _ _ h
  | sl o' s off len cap b κ h hl hc =>
    simp only [kill0]
    cases e : (o' == o) with
    | true => exact .top _
    | false => exact .sl _ _ _ _ _ _ _ (hg _ _ (by simpa using e) h) hl hc
  | sle o' s off cap A b h hc =>
    simp only [kill0]
    cases e : (o' == o) with
    | true => exact .top _
    | false => exact .sle _ _ _ _ _ _ (hg _ _ (by simpa using e) h) hc
  | ro s len cap row v h => exact .ro _ _ _ _ _ h
  | fn f xs ys us vs ha hb h1 h2 =>
    cases xs <;> cases ys <;> first
      | exact .fn f [] [] us vs ha hb (fun i hi => absurd hi (by simp)) (fun i hi => absurd hi (by simp))
      | exact .top _
  | iface t x v h => exact .top _
  | agg cs vs hl h => exact .top _
  | tup cs vs hl h => exact .top _
theorem map_top {f : AV → AV} (hf : f .top = .top) (l : List AV) (i : Nat) : nth .top (l.map f) i = f (nth .top l i) := nth_map .top f hf l i
theorem kill1_vr {o : Nat} {v : AV} {c : Value} (hg : ∀ o' x, o' ≠ o → g o' = some x → g' o' = some x) (hv : VR w Fz g v c) : VR w Fz g' (kill1 o v) c := by
  by_cases hag : ∃ cs, v = .agg cs
  · obtain ⟨cs, rfl⟩ := hag
    obtain ⟨vs, rfl, hl, hh⟩ := inv_agg hv
    exact .agg _ _ (by simpa using hl) fun i hi => by
      rw [map_top rfl]; exact kill0_vr hg (hh i (by simpa using hi))
  · have : kill1 o v = kill0 o v := by cases v <;> first | rfl | exact absurd ⟨_, rfl⟩ hag
    rw [this]; exact kill0_vr hg hv
theorem kill2_vr {o : Nat} {v : AV} {c : Value} (hg : ∀ o' x, o' ≠ o → g o' = some x → g' o' = some x) (hv : VR w Fz g v c) : VR w Fz g' (kill2 o v) c := by
  cases v with
  | tup cs =>
    obtain ⟨vs, rfl, hl, hh⟩ := inv_tup hv
    exact .tup _ _ (by simpa using hl) fun i hi => by
      rw [map_top rfl]; exact kill1_vr hg (hh i (by simpa using hi))
  | fn f xs ys =>
    obtain ⟨us, vs, rfl, ha, hb, h1, h2⟩ := inv_fn hv
    exact .fn _ _ _ _ _ (by simpa using ha) (by simpa using hb) (fun i hi => by rw [map_top rfl]; exact kill1_vr hg (h1 i (by simpa using hi))) (fun i hi => by rw [map_top rfl]; exact kill1_vr hg (h2 i (by simpa using hi)))
  | iface t x =>
    obtain ⟨v, rfl, h⟩ := inv_iface hv
    exact .iface _ _ _ (kill1_vr hg h)
  | when d b v => cases hv
  | _ => exact kill1_vr hg hv
/-- An object is put anew, elsewhere; what led to it is forgotten. -/
theorem HR.renew {o : Nat} {ob : AO} {b' κ' : Nat} (H : HR B0 w0 w Fz g h) (hB : Below B0 w0 w') (hs : w.heap.size ≤ w'.heap.size) (ho : o < h.length)
    (hsame : ∀ b, b < w.heap.size → (Fz b ∨ ∃ o', o' ≠ o ∧ o' < h.length ∧ Has g o' (nth .free h o') b) → w'.heap[b]? = w.heap[b]?)
    (hob : OR w' Fz (ext g o (b', κ')) o ob) (hown : ∀ b, Has (ext g o (b', κ')) o ob b → B0 ≤ b ∧ b < w'.heap.size ∧ ¬ Fz b ∧ ∀ o', o' ≠ o → o' < h.length → ¬ Has g o' (nth .free h o') b) :
    HR B0 w0 w' Fz (ext g o (b', κ')) (put1 o ob (h.map (killO o))) := by
  have hFs : Same Fz w w' := fun b hb => hsame b (H.fz b hb) (.inl hb)
  have hg : ∀ o' x, o' ≠ o → g o' = some x → ext g o (b', κ') o' = some x := fun o' x e hx => by simp [ext, e, hx]
  have hlen := put1_length (h := h.map (killO o)) (ob := ob) (o := o) (by simp; omega)
  rw [List.length_map, if_neg (by omega)] at hlen
  have hnth : ∀ j, nth .free (put1 o ob (h.map (killO o))) j = if j = o then ob else killO o (nth .free h j) := fun j => by
    rw [nth_put1 (by simp; omega), nth_map _ _ rfl]
  have hHas : ∀ o' b, o' ≠ o → (Has (ext g o (b', κ')) o' (killO o (nth .free h o')) b ↔ Has g o' (nth .free h o') b) := fun o' b e => by
    cases nth .free h o' <;> simp [Has, killO, ext, e]
  refine ⟨hB, Nat.le_trans H.base hs, fun b hb => Nat.lt_of_lt_of_le (H.fz b hb) hs, fun o' h' => ?_, fun o' h' => ?_, fun o' b h' hh => ?_, fun o1 o2 b h1 h2 hh1 hh2 => ?_⟩
  · rw [hlen] at h'
    simp only [ext]; rw [if_neg (by omega)]
    exact H.free o' h'
  · rw [hlen] at h'
    rw [hnth]
    by_cases e : o' = o
    · subst e; rw [if_pos rfl]; exact hob
    · rw [if_neg e]
      have hO := H.objs o' h'
      have hblk : ∀ b, Has g o' (nth .free h o') b → w'.heap[b]? = w.heap[b]? := fun b hb => hsame b (H.own o' b h' hb).2.1 (.inr ⟨o', e, h', hb⟩)
      have hgo : ∀ x, g o' = x → ext g o (b', κ') o' = x := fun x hx => by simp [ext, e, hx]
      cases hoo : nth .free h o' with
      | free => rw [hoo] at hO; exact hgo _ hO
      | dead => trivial
      | lit s cells =>
        rw [hoo] at hO hblk
        obtain ⟨b, κ, cs, t, h1, h2, h3, h4, h5⟩ := hO
        exact ⟨b, κ, cs, t, hgo _ h1, by simpa using h2, (hblk b ⟨κ, h1⟩).trans h3, by simpa using h4, fun i hi => by
          rw [map_top rfl]; exact kill1_vr hg ((h5 i (by simpa using hi)).mono hFs (fun _ x => x) (fun _ _ x => x))⟩
      | rows s n row =>
        rw [hoo] at hO hblk
        obtain ⟨b, κ, h1, h2, h3⟩ := hO
        refine ⟨b, κ, hgo _ h1, h2, ?_⟩
        rcases h3 with h3 | ⟨cs, t, h3, h4, h5⟩
        · exact .inl h3
        · by_cases hk : κ = 0
          · exact .inl hk
          · exact .inr ⟨cs, t, (hblk b ⟨κ, h1, hk⟩).trans h3, h4, fun i hi j hj => by
              rw [map_top rfl]; exact kill0_vr hg ((h5 i hi j hj).mono hFs (fun _ x => x) (fun _ _ x => x))⟩
  · rw [hlen] at h'
    rw [hnth] at hh
    by_cases e : o' = o
    · subst e; rw [if_pos rfl] at hh; obtain ⟨a1, a2, a3, _⟩ := hown b hh; exact ⟨a1, a2, a3⟩
    · rw [if_neg e] at hh
      obtain ⟨a1, a2, a3⟩ := H.own o' b h' ((hHas o' b e).mp hh)
      exact ⟨a1, Nat.lt_of_lt_of_le a2 hs, a3⟩
  · rw [hlen] at h1 h2
    rw [hnth] at hh1 hh2
    by_cases e1 : o1 = o <;> by_cases e2 : o2 = o
    · rw [e1, e2]
    · subst e1; rw [if_pos rfl] at hh1; rw [if_neg e2] at hh2
      exact absurd ((hHas o2 b e2).mp hh2) ((hown b hh1).2.2.2 o2 e2 h2)
    · subst e2; rw [if_pos rfl] at hh2; rw [if_neg e1] at hh1
      exact absurd ((hHas o1 b e1).mp hh1) ((hown b hh2).2.2.2 o1 e1 h1)
    · rw [if_neg e1] at hh1; rw [if_neg e2] at hh2
      exact H.sep o1 o2 b h1 h2 ((hHas o1 b e1).mp hh1) ((hHas o2 b e2).mp hh2)

/-- Where an append reads. -/
theorem src_vr {z m : Nat} {pr : List Prop} {r : Nat → List AV} {y : AV} {c : Value} (H : HR B0 w0 w Fz g h) (hz : 0 < z) (hs : srcRows (fun o => nth .free h o) z y = some (pr, m, r)) (hpr : conj pr) (hv : VR w Fz g y c) :
    ∃ (A : Option Addr) (cc : Nat) (f : Nat → Value), c = .slice A m cc ∧ (m = 0 ∨ ∃ ad, A = some ad ∧ ∀ q, q < m * z → w.cell? (ad.add q) = some (f q)) ∧ ∀ i, i < m → ∀ j, j < z → VR w Fz g (nth .top (r i) j) (f (i * z + j)) := by
  have bound : ∀ {i j m : Nat}, i < m → j < z → i * z + j < m * z := fun {i j m} hi hj => by
    have : (i + 1) * z ≤ m * z := Nat.mul_le_mul_right _ (by omega)
    rw [Nat.add_mul, Nat.one_mul] at this; omega
  unfold srcRows at hs
  split at hs
  · simp only [Option.some.injEq, Prod.mk.injEq] at hs
    obtain ⟨rfl, rfl, rfl⟩ := hs
    cases hv
    exact ⟨none, 0, fun _ => undef, rfl, .inl rfl, fun i hi => absurd hi (by omega)⟩
  · rename_i s len cap row
    cases hb : (s == z) with
    | false => rw [hb] at hs; simp at hs
    | true =>
      rw [hb] at hs
      simp only [cond_true, Option.some.injEq, Prod.mk.injEq] at hs
      obtain ⟨rfl, rfl, rfl⟩ := hs
      have hsz : s = z := by simpa using hb
      subst hsz
      obtain ⟨A, cc, cs, rfl, hl, hcap, h1, h2⟩ := inv_ro2 hv
      have hq : len ≤ cap.getD len := (getD_cases hcap hl).1
      refine ⟨A, cc, fun q => cs (q / s) (q % s), rfl, ?_, fun i hi j hj => ?_⟩
      · by_cases h0 : len = 0
        · exact .inl h0
        · obtain ⟨ad, hA, _⟩ := h1 0 (by omega) 0 hz
          refine .inr ⟨ad, hA, fun q hq' => ?_⟩
          have hdiv : q / s < len := (Nat.div_lt_iff_lt_mul hz).mpr hq'
          obtain ⟨ad', hA', _, hc⟩ := h1 (q / s) (by omega) (q % s) (Nat.mod_lt _ hz)
          rw [hA] at hA'; cases hA'
          rw [show q / s * s + q % s = q by rw [Nat.mul_comm]; exact Nat.div_add_mod q s] at hc
          exact hc
      · have e1 : (i * s + j) / s = i := by rw [Nat.add_comm, Nat.add_mul_div_right _ _ hz, Nat.div_eq_of_lt hj, Nat.zero_add]
        have e2 : (i * s + j) % s = j := by rw [Nat.add_comm, Nat.add_mul_mod_self_right, Nat.mod_eq_of_lt hj]
        simp only [e1, e2, nth_map_av]
        exact (h2 i (by omega) j hj).av
  · rename_i o' s off len cap
    cases hb : (s == z) with
    | false => rw [hb] at hs; simp at hs
    | true =>
      rw [hb] at hs
      simp only [cond_true] at hs
      have hsz : s = z := by simpa using hb
      subst hsz
      obtain ⟨b, κ, hg, hl, hcap, hX⟩ := inv_sl hv
      have hol : o' < h.length := by
        rcases Nat.lt_or_ge o' h.length with e | e
        · exact e
        · rw [H.free o' e] at hg; cases hg
      have hO := H.objs o' hol
      have fin : ∀ (cur : Array Value) (t : TypeId) (r : Nat → List AV), w.heap[b]? = some (.cells cur t (0, 0)) → (off + len) * s ≤ cur.size → (∀ i, i < len → ∀ j, j < s → VR w Fz g (nth .top (r i) j) (cur.getD ((off + i) * s + j) undef)) →
          ∃ (A : Option Addr) (cc : Nat) (f : Nat → Value), c = .slice A len cc ∧ (len = 0 ∨ ∃ ad, A = some ad ∧ ∀ q, q < len * s → w.cell? (ad.add q) = some (f q)) ∧ ∀ i, i < len → ∀ j, j < s → VR w Fz g (nth .top (r i) j) (f (i * s + j)) := fun cur t r hb hsz hr => by
        have hf : ∀ i, i < len → ∀ j, j < s → VR w Fz g (nth .top (r i) j) (cur.getD (off * s + (i * s + j)) undef) := fun i hi j hj => by
          have := hr i hi j hj
          rwa [Nat.add_mul, Nat.add_assoc] at this
        rcases hX with hX | ⟨h0, _, A, hX⟩
        · refine ⟨_, _, fun q => cur.getD (off * s + q) undef, hX, .inr ⟨_, rfl, fun q hq => ?_⟩, hf⟩
          rw [add_mk]
          exact cell_of hb (by rw [Nat.add_mul] at hsz; omega)
        · subst h0
          exact ⟨A, 0, fun q => cur.getD (off * s + q) undef, hX, .inl rfl, hf⟩
      cases hoo : nth .free h o' with
      | free => rw [hoo] at hs; simp at hs
      | dead => rw [hoo] at hs; simp at hs
      | rows s' n row =>
        rw [hoo] at hs hO
        simp only at hs
        cases hb2 : (s == s') with
        | false => rw [hb2] at hs; simp at hs
        | true =>
          rw [hb2] at hs
          simp only [cond_true, Option.some.injEq, Prod.mk.injEq] at hs
          obtain ⟨rfl, rfl, rfl⟩ := hs
          have hss : s = s' := by simpa using hb2
          subst hss
          have hn : off + len ≤ n := hpr
          obtain ⟨b', κ', e1, e2, e3⟩ := hO
          rw [hg] at e1
          obtain ⟨rfl, rfl⟩ : b = b' ∧ κ = κ' := by simpa using e1
          rcases e3 with e3 | ⟨cur, t, e3, e4, e5⟩
          · have h0 : len = 0 := by omega
            subst h0
            rcases hX with hX | ⟨_, _, A, hX⟩
            · exact ⟨_, _, fun _ => undef, hX, .inl rfl, fun i hi => absurd hi (by omega)⟩
            · exact ⟨_, _, fun _ => undef, hX, .inl rfl, fun i hi => absurd hi (by omega)⟩
          · exact fin cur t _ e3 (by rw [e4]; exact Nat.mul_le_mul_right _ (by omega)) (fun i hi j hj => e5 (off + i) (by omega) j hj)
      | lit u cells =>
        rw [hoo] at hs hO
        simp only at hs
        cases hb2 : (s == u) with
        | false => rw [hb2] at hs; simp at hs
        | true =>
          rw [hb2] at hs
          simp only [cond_true] at hs
          have hss : s = u := by simpa using hb2
          subst hss
          obtain ⟨b', κ', cur, t, e1, e2, e3, e4, e5⟩ := hO
          rw [hg] at e1
          obtain ⟨rfl, rfl⟩ : b = b' ∧ κ = κ' := by simpa using e1
          have hsz : (off + len) * s ≤ cur.size := by rw [e4, ← e2]; exact Nat.mul_le_mul_right _ hl
          split at hs
          · cases hb3 : Nat.ble (off * s + s) cells.length with
            | false => rw [hb3] at hs; simp at hs
            | true =>
              rw [hb3] at hs
              simp only [cond_true, Option.some.injEq, Prod.mk.injEq] at hs
              obtain ⟨rfl, rfl, rfl⟩ := hs
              have hle := ble_le hb3
              exact fin cur t _ e3 hsz (fun i hi j hj => by
                have : i = 0 := by omega
                subst this
                rw [nth_cut _ _ _ _ _ hj, Nat.add_zero]
                exact e5 _ (by omega))
          · simp only [Option.some.injEq, Prod.mk.injEq] at hs
            obtain ⟨rfl, rfl, rfl⟩ := hs
            exact fin cur t _ e3 hsz (fun i hi j hj => by
              rw [nth_readLit _ _ _ _ _ _ _ hj, Nat.zero_add]
              have hκ : cells.length / s = κ := by rw [← e2, Nat.mul_div_cancel _ hz]
              rw [hκ]
              have hb : (off + i) * s + j < cells.length := by
                have h1 : (off + i + 1) * s ≤ κ * s := Nat.mul_le_mul_right _ (by omega)
                rw [Nat.add_mul, Nat.one_mul] at h1; omega
              exact placeLit_vr (f := fun p => cur.getD p undef) (.inr (by omega)) (e5 _ hb))
  · simp at hs
end
end Go.Proofs.Ytepbibbeifbokaa.Sh
