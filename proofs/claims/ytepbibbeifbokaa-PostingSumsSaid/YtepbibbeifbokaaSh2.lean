/- The shadow machine: memory changes, seen from both sides. -/
import Derived.Test.YtepbibbeifbokaaSh1
import Derived.Laws.CopyRow
import Derived.Laws.Cells
import Derived.Laws.AppendOwn
namespace Go.Proofs.Ytepbibbeifbokaa.Sh
open Go Go.RowKit
set_option linter.unusedVariables false

section
variable {B0 : Nat} {w0 w w' : World} {Fz : Nat → Prop} {g g' : Gh} {h : List AO}

theorem OR.mono {o : Nat} {ob : AO} (hw : Same Fz w w') (hb : ∀ b, Has g o ob b → w'.heap[b]? = w.heap[b]?) (hle : ∀ o x, g o = some x → g' o = some x) (ho : g' o = g o) (H : OR w Fz g o ob) : OR w' Fz g' o ob := by
  cases ob with
  | free => exact ho.trans H
  | dead => trivial
  | lit s cells =>
    obtain ⟨b, κ, cs, t, h1, h2, h3, h4, h5⟩ := H
    exact ⟨b, κ, cs, t, ho.trans h1, h2, (hb b ⟨κ, h1⟩).trans h3, h4, fun i hi => (h5 i hi).mono hw (fun _ x => x) hle⟩
  | rows s n row =>
    obtain ⟨b, κ, h1, h2, h3⟩ := H
    refine ⟨b, κ, ho.trans h1, h2, ?_⟩
    rcases h3 with h3 | ⟨cs, t, h3, h4, h5⟩
    · exact .inl h3
    · by_cases hk : κ = 0
      · exact .inl hk
      · exact .inr ⟨cs, t, (hb b ⟨κ, h1, hk⟩).trans h3, h4, fun i hi j hj => (h5 i hi j hj).mono hw (fun _ x => x) hle⟩
theorem Has.eq {o : Nat} {ob : AO} {b : Nat} (ho : g' o = g o) : Has g' o ob b ↔ Has g o ob b := by
  cases ob <;> simp [Has, ho]

/-- Object o, or one behind the last one, is put. -/
def put1 (o : Nat) (ob : AO) (h : List AO) : List AO := bif Nat.blt o h.length then setNth h o ob else h ++ [ob]
theorem apply_one (o : Nat) (ob : AO) (h : List AO) : apply [(o, ob)] h = put1 o ob h := rfl
theorem blt_t {a b : Nat} (h : a < b) : Nat.blt a b = true := by
  have := Nat.blt_eq (x := a) (y := b); rw [this]; exact h
theorem blt_f {a b : Nat} (h : ¬ a < b) : Nat.blt a b = false := by
  cases e : Nat.blt a b with
  | false => rfl
  | true => have := Nat.blt_eq (x := a) (y := b); rw [this] at e; exact absurd e h
theorem put1_length {o : Nat} {ob : AO} (ho : o ≤ h.length) : (put1 o ob h).length = if o = h.length then h.length + 1 else h.length := by
  unfold put1
  by_cases e : o < h.length
  · rw [blt_t e, cond_true, setNth_length, if_neg (by omega)]
  · have : o = h.length := by omega
    subst this; rw [blt_f e, cond_false]; simp
theorem nth_put1 {o : Nat} {ob : AO} (ho : o ≤ h.length) (j : Nat) : nth .free (put1 o ob h) j = if j = o then ob else nth .free h j := by
  unfold put1
  by_cases e : o < h.length
  · rw [blt_t e, cond_true, nth_setNth]
    by_cases hj : j = o
    · subst hj; simp [e]
    · rw [if_neg (by omega), if_neg hj]
  · have e2 : o = h.length := by omega
    subst e2
    rw [blt_f e, cond_false, nth_append]
    by_cases hj : j < h.length
    · rw [if_pos hj, if_neg (by omega)]
    · rw [if_neg hj]
      by_cases hj2 : j = h.length
      · subst hj2; simp [nth]
      · rw [if_neg hj2, nth_ge _ _ _ (by simp; omega), nth_ge _ _ _ (by omega)]

theorem HR.change {o : Nat} {ob : AO} (H : HR B0 w0 w Fz g h) (hB : Below B0 w0 w') (hs : w.heap.size ≤ w'.heap.size) (ho : o ≤ h.length)
    (hsame : ∀ b, b < w.heap.size → (Fz b ∨ ∃ o', o' ≠ o ∧ o' < h.length ∧ Has g o' (nth .free h o') b) → w'.heap[b]? = w.heap[b]?)
    (hg : ∀ o', o' ≠ o → g' o' = g o') (hle : ∀ x, g o = some x → g' o = some x)
    (hob : OR w' Fz g' o ob) (hown : ∀ b, Has g' o ob b → B0 ≤ b ∧ b < w'.heap.size ∧ ¬ Fz b ∧ ∀ o', o' ≠ o → o' < h.length → ¬ Has g o' (nth .free h o') b) :
    HR B0 w0 w' Fz g' (put1 o ob h) := by
  have hle' : ∀ o x, g o = some x → g' o = some x := fun o' x hx => by
    by_cases e : o' = o
    · subst e; exact hle x hx
    · rw [hg o' e]; exact hx
  have hFs : Same Fz w w' := fun b hb => hsame b (H.fz b hb) (.inl hb)
  have hlen := put1_length (ob := ob) ho
  refine ⟨hB, Nat.le_trans H.base hs, fun b hb => Nat.lt_of_lt_of_le (H.fz b hb) hs, fun o' h' => ?_, fun o' h' => ?_, fun o' b h' hh => ?_, fun o1 o2 b h1 h2 hh1 hh2 => ?_⟩
  · rw [hlen] at h'
    rw [hg o' (by split at h' <;> omega)]
    exact H.free o' (by split at h' <;> omega)
  · rw [nth_put1 ho]
    by_cases e : o' = o
    · subst e; rw [if_pos rfl]; exact hob
    · rw [if_neg e]
      have hl : o' < h.length := by rw [hlen] at h'; split at h' <;> omega
      exact (H.objs o' hl).mono hFs (fun b hb => hsame b (H.own o' b hl hb).2.1 (.inr ⟨o', e, hl, hb⟩)) hle' (hg o' e)
  · rw [nth_put1 ho] at hh
    by_cases e : o' = o
    · subst e; rw [if_pos rfl] at hh; obtain ⟨a1, a2, a3, _⟩ := hown b hh; exact ⟨a1, a2, a3⟩
    · rw [if_neg e] at hh
      have hl : o' < h.length := by rw [hlen] at h'; split at h' <;> omega
      obtain ⟨a1, a2, a3⟩ := H.own o' b hl ((Has.eq (hg o' e)).mp hh)
      exact ⟨a1, Nat.lt_of_lt_of_le a2 hs, a3⟩
  · rw [nth_put1 ho] at hh1 hh2
    by_cases e1 : o1 = o <;> by_cases e2 : o2 = o
    · rw [e1, e2]
    · subst e1; rw [if_pos rfl] at hh1; rw [if_neg e2] at hh2
      have hl : o2 < h.length := by rw [hlen] at h2; split at h2 <;> omega
      exact absurd ((Has.eq (hg o2 e2)).mp hh2) ((hown b hh1).2.2.2 o2 e2 hl)
    · subst e2; rw [if_pos rfl] at hh2; rw [if_neg e1] at hh1
      have hl : o1 < h.length := by rw [hlen] at h1; split at h1 <;> omega
      exact absurd ((Has.eq (hg o1 e1)).mp hh1) ((hown b hh2).2.2.2 o1 e1 hl)
    · rw [if_neg e1] at hh1; rw [if_neg e2] at hh2
      have hl1 : o1 < h.length := by rw [hlen] at h1; split at h1 <;> omega
      have hl2 : o2 < h.length := by rw [hlen] at h2; split at h2 <;> omega
      exact H.sep o1 o2 b hl1 hl2 ((Has.eq (hg o1 e1)).mp hh1) ((Has.eq (hg o2 e2)).mp hh2)

/-- Nothing that counts has turned. -/
theorem HR.still (H : HR B0 w0 w Fz g h) (hB : Below B0 w0 w') (hs : w.heap.size ≤ w'.heap.size) (hsame : ∀ b, b < w.heap.size → w'.heap[b]? = w.heap[b]?) : HR B0 w0 w' Fz g h := by
  have hFs : Same Fz w w' := fun b hb => hsame b (H.fz b hb)
  exact ⟨hB, Nat.le_trans H.base hs, fun b hb => Nat.lt_of_lt_of_le (H.fz b hb) hs, H.free,
    fun o ho => (H.objs o ho).mono hFs (fun b hb => hsame b (H.own o b ho hb).2.1) (fun _ _ x => x) rfl,
    fun o b ho hh => let ⟨a1, a2, a3⟩ := H.own o b ho hh; ⟨a1, Nat.lt_of_lt_of_le a2 hs, a3⟩, H.sep⟩
theorem HR.drew (H : HR B0 w0 w Fz g h) : HR B0 w0 w.drew Fz g h := H.still H.below.drew (Nat.le_refl _) fun _ _ => rfl

/-- A new object. -/
def ext (g : Gh) (o : Nat) (x : Nat × Nat) : Gh := fun o' => if o' = o then some x else g o'
theorem HR.alloc {nid : Nat} (H : HR B0 w0 w Fz g h) (hn : nid ≤ h.length) (hfree : nth .free h nid = .free) (cs : Array Value) (t : TypeId) (κ : Nat) (ob : AO)
    (hob : ∀ w', (∀ b, Fz b → w'.heap[b]? = w.heap[b]?) → w'.heap[w.heap.size]? = some (.cells cs t (0, 0)) → OR w' Fz (ext g nid (w.heap.size, κ)) nid ob) :
    HR B0 w0 (w.alloc (.cells cs t)) Fz (ext g nid (w.heap.size, κ)) (put1 nid ob h) ∧ Same Fz w (w.alloc (.cells cs t)) ∧ (∀ o x, g o = some x → ext g nid (w.heap.size, κ) o = some x) := by
  have hgn : g nid = none := by
    by_cases e : nid < h.length
    · have := H.objs nid e; rw [hfree] at this; exact this
    · exact H.free nid (by omega)
  have hnew : (w.alloc (.cells cs t)).heap[w.heap.size]? = some (.cells cs t (0, 0)) := by
    show (w.heap.push _)[w.heap.size]? = _; simp
  have hFs : ∀ b, Fz b → (w.alloc (.cells cs t)).heap[b]? = w.heap[b]? := fun b hb => Below.heap_alloc _ _ _ (H.fz b hb)
  have hsz : w.heap.size ≤ (w.alloc (.cells cs t)).heap.size := by show w.heap.size ≤ (w.heap.push _).size; simp
  refine ⟨H.change (H.below.alloc H.base _) hsz hn (fun b hb _ => Below.heap_alloc _ _ _ hb) (fun o' e => by simp [ext, e]) (fun x hx => by rw [hgn] at hx; cases hx) (hob _ hFs hnew) (fun b hb => ?_), hFs, fun o x hx => ?_⟩
  · have hb' : b = w.heap.size := by
      cases ob with
      | free => exact hb.elim
      | dead => exact hb.elim
      | lit s c => obtain ⟨κ', e⟩ := hb; simp [ext] at e; exact e.1.symm
      | rows s n r => obtain ⟨κ', e, _⟩ := hb; simp [ext] at e; exact e.1.symm
    subst hb'
    refine ⟨H.base, by show w.heap.size < (w.heap.push _).size; simp, fun hf => Nat.lt_irrefl _ (H.fz _ hf), fun o' e hl hh => Nat.lt_irrefl _ (H.own o' _ hl hh).2.1⟩
  · by_cases e : o = nid
    · subst e; rw [hgn] at hx; cases hx
    · simp [ext, e, hx]

/-- A store into an object's block. -/
theorem setRow_other (w : World) (b : Nat) (cs : Array Value) (k : Nat) (hk : k ≠ b) : (w.setRow b cs).heap[k]? = w.heap[k]? := by
  unfold World.setRow
  simp only [Array.getElem?_modify]
  rw [if_neg (by omega)]
theorem below_setRow {a : World} {B b : Nat} (hb : Below B a w) (h : B ≤ b) (cs : Array Value) : Below B a (w.setRow b cs) :=
  hb.trans ⟨rfl, rfl, rfl, by simp [World.setRow], fun k hk => setRow_other _ _ _ _ (by omega)⟩
theorem HR.setRow {o b : Nat} (H : HR B0 w0 w Fz g h) (ho : o < h.length) (hb : Has g o (nth .free h o) b) (cs : Array Value) (ob : AO)
    (hh : ∀ b', Has g o ob b' → b' = b) (hob : Same Fz w (w.setRow b cs) → OR (w.setRow b cs) Fz g o ob) :
    HR B0 w0 (w.setRow b cs) Fz g (put1 o ob h) ∧ Same Fz w (w.setRow b cs) := by
  obtain ⟨h1, h2, h3⟩ := H.own o b ho hb
  have hFs : Same Fz w (w.setRow b cs) := fun k hk => setRow_other _ _ _ _ (fun e => h3 (e ▸ hk))
  refine ⟨H.change (below_setRow H.below h1 cs) (by simp [World.setRow]) (Nat.le_of_lt ho) (fun k hk hc => ?_) (fun _ _ => rfl) (fun _ x => x) (hob hFs) (fun b' hb' => ?_), hFs⟩
  · rcases hc with hc | ⟨o', e, hl, hh'⟩
    · exact hFs k hc
    · exact setRow_other _ _ _ _ (fun ek => e (H.sep o' o b hl ho (ek ▸ hh') hb))
  · rw [hh b' hb']
    exact ⟨h1, by simp [World.setRow]; exact h2, h3, fun o' e hl hh' => e (H.sep o' o b hl ho hh' hb)⟩
end
end Go.Proofs.Ytepbibbeifbokaa.Sh
