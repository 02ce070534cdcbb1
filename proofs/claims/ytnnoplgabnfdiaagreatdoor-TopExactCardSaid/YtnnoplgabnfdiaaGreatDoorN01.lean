/- Part 1 of a proof over the shadow machine. -/
import Derived.Test.YtnnoplgabnfdiaaGreatDoorN00
import Derived.Laws.CopyRow
import Derived.Laws.Cells
import Derived.Laws.AppendOwn
import Derived.WalkKit
/- The shadow machine: how abstract values and objects stand to the machine's, and that they stay so. -/
namespace Go.Proofs.YtnnoplgabnfdiaaGreatDoor.Sh
open Go Go.RowKit
set_option linter.unusedVariables false

/-! ### The evaluation's forms change nothing -/
section
variable {R : Sort _}
theorem fNatIn_eq (k : Nat → R) : ∀ (js : List Nat) (n : Nat), fNatIn js n k = k n
  | [], n => rfl
  | j :: js, n => by
    unfold fNatIn
    cases h : Nat.beq n j with
    | true => simp only; rw [Nat.eq_of_beq_eq_true h]
    | false => exact fNatIn_eq k js n
theorem fNat_eq (n : Nat) (k : Nat → R) : fNat n k = k n := fNatIn_eq k _ n
theorem f0_eq (v : AV) (k : AV → R) : f0 v k = k v := by
  cases v <;> simp only [f0, fNat_eq]
  · rename_i o s off len cap; cases cap <;> rfl
  · rename_i s len cap row; cases cap <;> rfl
theorem fL_eq {f : AV → (AV → R) → R} (hf : ∀ v k, f v k = k v) : ∀ (l : List AV) (k : List AV → R), fL f l k = k l
  | [], k => rfl
  | v :: vs, k => by simp only [fL, hf, fL_eq hf vs]
theorem fL_map {f : AV → (AV → R) → R} {g : AV → AV} (hf : ∀ v k, f v k = k (g v)) : ∀ (l : List AV) (k : List AV → R), fL f l k = k (l.map g)
  | [], k => rfl
  | v :: vs, k => by simp only [fL, hf, fL_map hf vs, List.map_cons]
theorem f1_eq (v : AV) (k : AV → R) : f1 v k = k v := by
  cases v <;> simp only [f1, f0_eq, fL_eq f0_eq]
theorem f2_eq (v : AV) (k : AV → R) : f2 v k = k v := by
  cases v <;> simp only [f2, f0_eq, f1_eq, fL_eq f0_eq, fL_eq f1_eq]
theorem f3_eq (v : AV) (k : AV → R) : f3 v k = k v := by
  cases v <;> simp only [f3, f2_eq, fNat_eq]
theorem fO_eq (v : AO) (k : AO → R) : fO v k = k v := by
  cases v <;> simp only [fO, fNat_eq, fL_eq f1_eq]
theorem fH_eq : ∀ (l : List AO) (k : List AO → R), fH l k = k l
  | [], k => rfl
  | v :: vs, k => by simp only [fH, fO_eq, fH_eq vs]
theorem fS_eq : ∀ (l : List AV) (k : List AV → R), fS l k = k l
  | [], k => rfl
  | v :: vs, k => by simp only [fS, fS_eq vs]
theorem fU1_eq (v : AV) (k : AV → R) : fU1 v k = k v.unguard := by cases v <;> rfl
theorem fPu_eq (t : Nat) (v : AV) (k : AV → R) : fPu t v k = k (unwhen t v) := by
  cases v <;> try rfl
  rename_i d b y
  simp only [fPu, unwhen]
  cases e : Nat.beq d t with
  | true => have h := Nat.eq_of_beq_eq_true e; subst h; rw [show (d == d) = true from beq_self_eq_true d]; rfl
  | false => rw [show (d == t) = false from beq_eq_false_iff_ne.mpr (Nat.ne_of_beq_eq_false e)]; rfl
theorem fPt_eq (t : Nat) (w : AV) : ∀ (n : Nat) (xs : List AV) (k : List AV → R), fPt t w n xs k = k (setNth (xs.map (unwhen t)) n w)
  | n, [], k => by cases n <;> rfl
  | 0, x :: xs, k => by simp only [fPt, List.map_cons, setNth]; exact fL_map (fun v k => fPu_eq t v k) xs _
  | n + 1, x :: xs, k => by simp only [fPt, fPu_eq, fPt_eq t w n xs, List.map_cons, setNth]
theorem fP_eq (ts : List AV) (h : List AO) (d : Option Nat) (v : AV) (k : List AV → R) : fP ts h d v k = k (AState.put ⟨ts, h⟩ d v).tmps := by
  cases d with
  | none => rfl
  | some t => simp only [fP, fPu_eq, fPt_eq, AState.put]
theorem fSet_eq : ∀ (n : Nat) (x : AO) (h : List AO) (k : List AO → R), fSet n x h k = k (bif Nat.blt n h.length then setNth h n x else h ++ [x])
  | n, x, [], k => by
    have : Nat.blt n ([] : List AO).length = false := by cases n <;> rfl
    rw [this]; cases n <;> rfl
  | 0, x, y :: h, k => by
    have : Nat.blt 0 (y :: h).length = true := rfl
    rw [this]; rfl
  | n + 1, x, y :: h, k => by
    have : Nat.blt (n + 1) (y :: h).length = Nat.blt n h.length := by
      simp [Nat.blt, Nat.ble]
    rw [this]
    simp only [fSet, fSet_eq n x h]
    cases Nat.blt n h.length <;> rfl
theorem fA_eq : ∀ (u : List (Nat × AO)) (h : List AO) (k : List AO → R), fA u h k = k (apply u h)
  | [], h, k => rfl
  | p :: r, h, k => by simp only [fA, fO_eq, fSet_eq, fA_eq r, apply]
end

/-! ### Lists -/
theorem nth_get {α : Type} (d : α) : ∀ (l : List α) (i : Nat), nth d l i = l.getD i d
  | [], i => by cases i <;> rfl
  | x :: xs, 0 => rfl
  | x :: xs, i + 1 => by simp only [nth, nth_get d xs i]; simp
theorem setNth_length {α : Type} : ∀ (l : List α) (i : Nat) (y : α), (setNth l i y).length = l.length
  | [], i, y => by cases i <;> rfl
  | x :: xs, 0, y => rfl
  | x :: xs, i + 1, y => by simp only [setNth, List.length_cons, setNth_length xs i y]
theorem nth_setNth {α : Type} (d : α) : ∀ (l : List α) (i j : Nat) (y : α), nth d (setNth l i y) j = if i = j ∧ j < l.length then y else nth d l j
  | [], i, j, y => by cases i <;> cases j <;> simp [setNth, nth]
  | x :: xs, 0, 0, y => by simp [setNth, nth]
  | x :: xs, 0, j + 1, y => by simp [setNth, nth]
  | x :: xs, i + 1, 0, y => by simp [setNth, nth]
  | x :: xs, i + 1, j + 1, y => by simp [setNth, nth, nth_setNth d xs i j y]
theorem nth_map {α : Type} (d : α) (f : α → α) (hf : f d = d) (l : List α) (i : Nat) : nth d (l.map f) i = f (nth d l i) := by
  induction l generalizing i with
  | nil => cases i <;> simp [nth, hf]
  | cons x xs ih => cases i <;> simp [nth, ih]
theorem nth_ge {α : Type} (d : α) (l : List α) (i : Nat) (h : l.length ≤ i) : nth d l i = d := by
  rw [nth_get]; simp [List.getD_eq_getElem?_getD, List.getElem?_eq_none h]
theorem nth_append {α : Type} (d : α) (l m : List α) (i : Nat) : nth d (l ++ m) i = if i < l.length then nth d l i else nth d m (i - l.length) := by
  rw [nth_get, nth_get, nth_get]
  simp only [List.getD_eq_getElem?_getD, List.getElem?_append]
  split <;> rfl
theorem nth_cut {α : Type} (d : α) (cs : List α) : ∀ (n j q : Nat), q < n → nth d (cut d cs j n) q = nth d cs (j + q)
  | 0, j, q, h => by omega
  | n + 1, j, 0, h => by simp [cut, nth]
  | n + 1, j, q + 1, h => by simp only [cut, nth]; rw [nth_cut d cs n (j + 1) q (by omega)]; congr 1; omega
theorem cut_length {α : Type} (d : α) (cs : List α) : ∀ (n j : Nat), (cut d cs j n).length = n
  | 0, j => rfl
  | n + 1, j => by simp [cut, cut_length d cs n (j + 1)]

/-! ### Values -/
/-- Each object's block, and how many rows that has. -/
abbrev Gh := Nat → Option (Nat × Nat)

/-- A value that stays, in world w, of which the blocks Fz are not written to any more. -/
inductive RR (w : World) (Fz : Nat → Prop) : RV → Value → Prop
  | top (v : Value) : RR w Fz .top v
  | int (k : IntKind) (n : Int) : RR w Fz (.int k n) (.int k n)
  | bool (b : Bool) : RR w Fz (.bool b) (.bool b)
  | str (s : ByteArray) : RR w Fz (.str s) (.string s)
  | nilp : RR w Fz .nilp (.pointer none)
  | nilif : RR w Fz .nilif .nilIface
  | ro (s len : Nat) (cap : Option Nat) (row : Nat → List RV) (A : Option Addr) (c : Nat) (cs : Nat → Nat → Value) (hlen : len ≤ c) (hcap : ∀ n, cap = some n → c = n)
      (hc : ∀ i, i < cap.getD len → ∀ j, j < s → ∃ a, A = some a ∧ Fz a.block ∧ w.cell? (a.add (i * s + j)) = some (cs i j))
      (hr : ∀ i, i < cap.getD len → ∀ j, j < s → RR w Fz (nth .top (row i) j) (cs i j)) : RR w Fz (.ro s len cap row) (.slice A len c)

inductive VR (w : World) (Fz : Nat → Prop) (g : Gh) : AV → Value → Prop
  | top (v : Value) : VR w Fz g .top v
  | cint (k : IntKind) (n : Int) : VR w Fz g (.cint k n) (.int k n)
  | int (k : IntKind) (n : Int) : VR w Fz g (.int k n) (.int k n)
  | bool (b : Bool) : VR w Fz g (.bool b) (.bool b)
  | str (s : ByteArray) : VR w Fz g (.str s) (.string s)
  | nilp : VR w Fz g .nilp (.pointer none)
  | nilsl : VR w Fz g .nilsl (.slice none 0 0)
  | nilfn : VR w Fz g .nilfn .nilFunc
  | nilif : VR w Fz g .nilif .nilIface
  | ptr (o N s i j b κ : Nat) (h : g o = some (b, κ)) : VR w Fz g (.ptr o N s i j) (.pointer (some ⟨b, i * s + j, none⟩))
  | rp (s : Nat) (row : Nat → List RV) (i j : Nat) (a : Addr) (h : ∀ m, j + m < s → Fz a.block ∧ ∃ c, w.cell? (a.add m) = some c ∧ RR w Fz (nth .top (row i) (j + m)) c) : VR w Fz g (.rp s row i j) (.pointer (some a))
  | sl (o s off len : Nat) (cap : Option Nat) (b κ : Nat) (h : g o = some (b, κ)) (hl : off + len ≤ κ) (hc : ∀ n, cap = some n → κ - off = n) : VR w Fz g (.sl o s off len cap) (.slice (some ⟨b, off * s, none⟩) len (κ - off))
  | sle (o s off : Nat) (cap : Option Nat) (A : Option Addr) (b : Nat) (h : g o = some (b, off)) (hc : ∀ n, cap = some n → n = 0) : VR w Fz g (.sl o s off 0 cap) (.slice A 0 0)
  | ro (s len : Nat) (cap : Option Nat) (row : Nat → List RV) (v : Value) (h : RR w Fz (.ro s len cap row) v) : VR w Fz g (.ro s len cap row) v
  | fn (f : FuncId) (xs ys : List AV) (us vs : Array Value) (ha : xs.length = us.size) (hb : ys.length = vs.size) (h1 : ∀ i, i < xs.length → VR w Fz g (nth .top xs i) (us.getD i undef)) (h2 : ∀ i, i < ys.length → VR w Fz g (nth .top ys i) (vs.getD i undef)) : VR w Fz g (.fn f xs ys) (.func (.func f) us vs)
  | iface (t : TypeId) (x : AV) (v : Value) (h : VR w Fz g x v) : VR w Fz g (.iface t x) (.iface t v)
  | agg (cs : List AV) (vs : Array Value) (hl : cs.length = vs.size) (h : ∀ i, i < cs.length → VR w Fz g (nth .top cs i) (vs.getD i undef)) : VR w Fz g (.agg cs) (.agg vs)
  | tup (cs : List AV) (vs : Array Value) (hl : cs.length = vs.size) (h : ∀ i, i < cs.length → VR w Fz g (nth .top cs i) (vs.getD i undef)) : VR w Fz g (.tup cs) (.tuple vs)
  | mp (o b κ : Nat) (h : g o = some (b, κ)) : VR w Fz g (.mp o) (.map (some b))
  | nilmp : VR w Fz g .nilmp (.map none)

/-- The blocks Fz are as they were. -/
def Same (Fz : Nat → Prop) (w w' : World) : Prop := ∀ b, Fz b → w'.heap[b]? = w.heap[b]?
theorem Same.refl (Fz : Nat → Prop) (w : World) : Same Fz w w := fun _ _ => rfl
theorem Same.trans {Fz : Nat → Prop} {w w1 w2 : World} (h : Same Fz w w1) (k : Same Fz w1 w2) : Same Fz w w2 := fun b hb => (k b hb).trans (h b hb)
theorem cell_same {w w' : World} {a : Addr} (h : w'.heap[a.block]? = w.heap[a.block]?) : w'.cell? a = w.cell? a := by simp only [World.cell?, h]
theorem add_block (a : Addr) (n : Nat) : (a.add n).block = a.block := by unfold Addr.add; split <;> rfl

theorem RR.mono {w w' : World} {Fz Fz' : Nat → Prop} (hw : Same Fz w w') (hF : ∀ b, Fz b → Fz' b) {r : RV} {v : Value} (h : RR w Fz r v) : RR w' Fz' r v := by
  induction h with
  | top v => exact .top v
  | int k n => exact .int k n
  | bool b => exact .bool b
  | str s => exact .str s
  | nilp => exact .nilp
  | nilif => exact .nilif
  | ro s len cap row A c cs hlen hcap hc hr ih =>
    refine .ro s len cap row A c cs hlen hcap (fun i hi j hj => ?_) ih
    obtain ⟨a, hA, hb, hcell⟩ := hc i hi j hj
    exact ⟨a, hA, hF _ hb, (cell_same (by rw [add_block]; exact hw _ hb)).trans hcell⟩
theorem VR.mono {w w' : World} {Fz Fz' : Nat → Prop} {g g' : Gh} (hw : Same Fz w w') (hF : ∀ b, Fz b → Fz' b) (hg : ∀ o x, g o = some x → g' o = some x) {r : AV} {v : Value} (h : VR w Fz g r v) : VR w' Fz' g' r v := by
  induction h with
  | top v => exact .top v
  | cint k n => exact .cint k n
  | int k n => exact .int k n
  | bool b => exact .bool b
  | str s => exact .str s
  | nilp => exact .nilp
  | nilsl => exact .nilsl
  | nilfn => exact .nilfn
  | nilif => exact .nilif
  | ptr o N s i j b κ h => exact .ptr o N s i j b κ (hg _ _ h)
  | rp s row i j a h =>
    refine .rp s row i j a fun m hm => ?_
    obtain ⟨hb, c, hc, hr⟩ := h m hm
    exact ⟨hF _ hb, c, (cell_same (by rw [add_block]; exact hw _ hb)).trans hc, hr.mono hw hF⟩
  | sl o s off len cap b κ h hl hc => exact .sl o s off len cap b κ (hg _ _ h) hl hc
  | sle o s off cap A b h hc => exact .sle o s off cap A b (hg _ _ h) hc
  | ro s len cap row v h => exact .ro s len cap row v (h.mono hw hF)
  | fn f xs ys us vs ha hb h1 h2 ih1 ih2 => exact .fn f xs ys us vs ha hb ih1 ih2
  | iface t x v h ih => exact .iface t x v ih
  | agg cs vs hl h ih => exact .agg cs vs hl ih
  | tup cs vs hl h ih => exact .tup cs vs hl ih
  | mp o b κ h => exact .mp o b κ (hg _ _ h)
  | nilmp => exact .nilmp

/-- A value read of memory that stays. -/
theorem RR.av {w : World} {Fz : Nat → Prop} {g : Gh} {r : RV} {v : Value} (h : RR w Fz r v) : VR w Fz g r.av v := by
  cases h with
  | top v => exact .top v
  | int k n => exact .int k n
  | bool b => exact .bool b
  | str s => exact .str s
  | nilp => exact .nilp
  | nilif => exact .nilif
  | ro s len cap row A c cs hlen hcap hc hr => exact .ro _ _ _ _ _ (.ro s len cap row A c cs hlen hcap hc hr)
theorem VR.rv {w : World} {Fz : Nat → Prop} {g : Gh} {x : AV} {v : Value} (h : VR w Fz g x v) : RR w Fz x.rv v := by
  cases h with
  | cint k n => exact .int k n
  | int k n => exact .int k n
  | bool b => exact .bool b
  | str s => exact .str s
  | nilp => exact .nilp
  | nilif => exact .nilif
  | ro s len cap row v h => exact h
  | _ => exact .top _

/-! ### Objects -/
def OR (w : World) (Fz : Nat → Prop) (g : Gh) (o : Nat) : AO → Prop
  | .free => g o = none
  | .dead => True
  | .lit s cells => ∃ b κ cs t, g o = some (b, κ) ∧ κ * s = cells.length ∧ w.heap[b]? = some (.cells cs t (0, 0)) ∧ cs.size = cells.length ∧ ∀ i, i < cells.length → VR w Fz g (nth .top cells i) (cs.getD i undef)
  | .rows s n row => ∃ b κ, g o = some (b, κ) ∧ n ≤ κ ∧ (κ = 0 ∨ ∃ cs t, w.heap[b]? = some (.cells cs t (0, 0)) ∧ cs.size = κ * s ∧ ∀ i, i < n → ∀ j, j < s → VR w Fz g (nth .top (row i) j) (cs.getD (i * s + j) undef))
  | .emap => ∃ b κ, g o = some (b, κ) ∧ w.heap[b]? = some (.map #[] 0)
  | .xmap => ∃ b κ es n, g o = some (b, κ) ∧ w.heap[b]? = some (.map es n)
/-- Has the object a block? -/
def Has (g : Gh) (o : Nat) : AO → Nat → Prop
  | .lit _ _, b => ∃ κ, g o = some (b, κ)
  | .rows _ _ _, b => ∃ κ, g o = some (b, κ) ∧ κ ≠ 0
  | .emap, b => ∃ κ, g o = some (b, κ)
  | .xmap, b => ∃ κ, g o = some (b, κ)
  | _, _ => False

/-- The one variable of the library that counts: it holds a number. -/
def Gl (B0 : Nat) (w0 : World) : Prop := 0 < B0 ∧ ∃ m, w0.cell? ⟨0, 0, none⟩ = some (.int .i64 m)
structure HR (B0 : Nat) (w0 w : World) (Fz : Nat → Prop) (g : Gh) (h : List AO) : Prop where
  below : Below B0 w0 w
  base : B0 ≤ w.heap.size
  fz : ∀ b, Fz b → b < w.heap.size
  free : ∀ o, h.length ≤ o → g o = none
  objs : ∀ o, o < h.length → OR w Fz g o (nth .free h o)
  own : ∀ o b, o < h.length → Has g o (nth .free h o) b → B0 ≤ b ∧ b < w.heap.size ∧ ¬ Fz b
  sep : ∀ o o' b, o < h.length → o' < h.length → Has g o (nth .free h o) b → Has g o' (nth .free h o') b → o = o'
  gl : Gl B0 w0
end Go.Proofs.YtnnoplgabnfdiaaGreatDoor.Sh
/- The shadow machine: memory changes, seen from both sides. -/
namespace Go.Proofs.YtnnoplgabnfdiaaGreatDoor.Sh
open Go Go.RowKit
set_option linter.unusedVariables false

section
variable {B0 : Nat} {w0 w w' : World} {Fz : Nat → Prop} {g g' : Gh} {h : List AO}

theorem OR.mono {o : Nat} {ob : AO} (hw : Same Fz w w') (hb : ∀ b, Has g o ob b → w'.heap[b]? = w.heap[b]?) (hle : ∀ o x, g o = some x → g' o = some x) (ho : g' o = g o) (H : OR w Fz g o ob) : OR w' Fz g' o ob := by
  cases ob with
  | free => exact ho.trans H
  | dead => trivial
  | lit s cells =>
    obtain ⟨b, κ, cs, t, h1, h2, h3, h4, h5⟩ := H
    exact ⟨b, κ, cs, t, ho.trans h1, h2, (hb b ⟨κ, h1⟩).trans h3, h4, fun i hi => (h5 i hi).mono hw (fun _ x => x) hle⟩
  | rows s n row =>
    obtain ⟨b, κ, h1, h2, h3⟩ := H
    refine ⟨b, κ, ho.trans h1, h2, ?_⟩
    rcases h3 with h3 | ⟨cs, t, h3, h4, h5⟩
    · exact .inl h3
    · by_cases hk : κ = 0
      · exact .inl hk
      · exact .inr ⟨cs, t, (hb b ⟨κ, h1, hk⟩).trans h3, h4, fun i hi j hj => (h5 i hi j hj).mono hw (fun _ x => x) hle⟩
  | emap =>
    obtain ⟨b, κ, h1, h2⟩ := H
    exact ⟨b, κ, ho.trans h1, (hb b ⟨κ, h1⟩).trans h2⟩
  | xmap =>
    obtain ⟨b, κ, es, n, h1, h2⟩ := H
    exact ⟨b, κ, es, n, ho.trans h1, (hb b ⟨κ, h1⟩).trans h2⟩
theorem Has.eq {o : Nat} {ob : AO} {b : Nat} (ho : g' o = g o) : Has g' o ob b ↔ Has g o ob b := by
  cases ob <;> simp [Has, ho]

/-- Object o, or one behind the last one, is put. -/
def put1 (o : Nat) (ob : AO) (h : List AO) : List AO := bif Nat.blt o h.length then setNth h o ob else h ++ [ob]
theorem apply_one (o : Nat) (ob : AO) (h : List AO) : apply [(o, ob)] h = put1 o ob h := rfl
theorem blt_t {a b : Nat} (h : a < b) : Nat.blt a b = true := by
  have := Nat.blt_eq (x := a) (y := b); rw [this]; exact h
theorem blt_f {a b : Nat} (h : ¬ a < b) : Nat.blt a b = false := by
  cases e : Nat.blt a b with
  | false => rfl
  | true => have := Nat.blt_eq (x := a) (y := b); rw [this] at e; exact absurd e h
theorem put1_length {o : Nat} {ob : AO} (ho : o ≤ h.length) : (put1 o ob h).length = if o = h.length then h.length + 1 else h.length := by
  unfold put1
  by_cases e : o < h.length
  · rw [blt_t e, cond_true, setNth_length, if_neg (by omega)]
  · have : o = h.length := by omega
    subst this; rw [blt_f e, cond_false]; simp
theorem nth_put1 {o : Nat} {ob : AO} (ho : o ≤ h.length) (j : Nat) : nth .free (put1 o ob h) j = if j = o then ob else nth .free h j := by
  unfold put1
  by_cases e : o < h.length
  · rw [blt_t e, cond_true, nth_setNth]
    by_cases hj : j = o
    · subst hj; simp [e]
    · rw [if_neg (by omega), if_neg hj]
  · have e2 : o = h.length := by omega
    subst e2
    rw [blt_f e, cond_false, nth_append]
    by_cases hj : j < h.length
    · rw [if_pos hj, if_neg (by omega)]
    · rw [if_neg hj]
      by_cases hj2 : j = h.length
      · subst hj2; simp [nth]
      · rw [if_neg hj2, nth_ge _ _ _ (by simp; omega), nth_ge _ _ _ (by omega)]

theorem HR.change {o : Nat} {ob : AO} (H : HR B0 w0 w Fz g h) (hB : Below B0 w0 w') (hs : w.heap.size ≤ w'.heap.size) (ho : o ≤ h.length)
    (hsame : ∀ b, b < w.heap.size → (Fz b ∨ ∃ o', o' ≠ o ∧ o' < h.length ∧ Has g o' (nth .free h o') b) → w'.heap[b]? = w.heap[b]?)
    (hg : ∀ o', o' ≠ o → g' o' = g o') (hle : ∀ x, g o = some x → g' o = some x)
    (hob : OR w' Fz g' o ob) (hown : ∀ b, Has g' o ob b → B0 ≤ b ∧ b < w'.heap.size ∧ ¬ Fz b ∧ ∀ o', o' ≠ o → o' < h.length → ¬ Has g o' (nth .free h o') b) :
    HR B0 w0 w' Fz g' (put1 o ob h) := by
  have hle' : ∀ o x, g o = some x → g' o = some x := fun o' x hx => by
    by_cases e : o' = o
    · subst e; exact hle x hx
    · rw [hg o' e]; exact hx
  have hFs : Same Fz w w' := fun b hb => hsame b (H.fz b hb) (.inl hb)
  have hlen := put1_length (ob := ob) ho
  refine ⟨hB, Nat.le_trans H.base hs, fun b hb => Nat.lt_of_lt_of_le (H.fz b hb) hs, fun o' h' => ?_, fun o' h' => ?_, fun o' b h' hh => ?_, fun o1 o2 b h1 h2 hh1 hh2 => ?_, H.gl⟩
  · rw [hlen] at h'
    rw [hg o' (by split at h' <;> omega)]
    exact H.free o' (by split at h' <;> omega)
  · rw [nth_put1 ho]
    by_cases e : o' = o
    · subst e; rw [if_pos rfl]; exact hob
    · rw [if_neg e]
      have hl : o' < h.length := by rw [hlen] at h'; split at h' <;> omega
      exact (H.objs o' hl).mono hFs (fun b hb => hsame b (H.own o' b hl hb).2.1 (.inr ⟨o', e, hl, hb⟩)) hle' (hg o' e)
  · rw [nth_put1 ho] at hh
    by_cases e : o' = o
    · subst e; rw [if_pos rfl] at hh; obtain ⟨a1, a2, a3, _⟩ := hown b hh; exact ⟨a1, a2, a3⟩
    · rw [if_neg e] at hh
      have hl : o' < h.length := by rw [hlen] at h'; split at h' <;> omega
      obtain ⟨a1, a2, a3⟩ := H.own o' b hl ((Has.eq (hg o' e)).mp hh)
      exact ⟨a1, Nat.lt_of_lt_of_le a2 hs, a3⟩
  · rw [nth_put1 ho] at hh1 hh2
    by_cases e1 : o1 = o <;> by_cases e2 : o2 = o
    · rw [e1, e2]
    · subst e1; rw [if_pos rfl] at hh1; rw [if_neg e2] at hh2
      have hl : o2 < h.length := by rw [hlen] at h2; split at h2 <;> omega
      exact absurd ((Has.eq (hg o2 e2)).mp hh2) ((hown b hh1).2.2.2 o2 e2 hl)
    · subst e2; rw [if_pos rfl] at hh2; rw [if_neg e1] at hh1
      have hl : o1 < h.length := by rw [hlen] at h1; split at h1 <;> omega
      exact absurd ((Has.eq (hg o1 e1)).mp hh1) ((hown b hh2).2.2.2 o1 e1 hl)
    · rw [if_neg e1] at hh1; rw [if_neg e2] at hh2
      have hl1 : o1 < h.length := by rw [hlen] at h1; split at h1 <;> omega
      have hl2 : o2 < h.length := by rw [hlen] at h2; split at h2 <;> omega
      exact H.sep o1 o2 b hl1 hl2 ((Has.eq (hg o1 e1)).mp hh1) ((Has.eq (hg o2 e2)).mp hh2)

/-- Nothing that counts has turned. -/
theorem HR.still (H : HR B0 w0 w Fz g h) (hB : Below B0 w0 w') (hs : w.heap.size ≤ w'.heap.size) (hsame : ∀ b, b < w.heap.size → w'.heap[b]? = w.heap[b]?) : HR B0 w0 w' Fz g h := by
  have hFs : Same Fz w w' := fun b hb => hsame b (H.fz b hb)
  exact ⟨hB, Nat.le_trans H.base hs, fun b hb => Nat.lt_of_lt_of_le (H.fz b hb) hs, H.free,
    fun o ho => (H.objs o ho).mono hFs (fun b hb => hsame b (H.own o b ho hb).2.1) (fun _ _ x => x) rfl,
    fun o b ho hh => let ⟨a1, a2, a3⟩ := H.own o b ho hh; ⟨a1, Nat.lt_of_lt_of_le a2 hs, a3⟩, H.sep, H.gl⟩
theorem HR.drew (H : HR B0 w0 w Fz g h) : HR B0 w0 w.drew Fz g h := H.still H.below.drew (Nat.le_refl _) fun _ _ => rfl

/-- A new object. -/
def ext (g : Gh) (o : Nat) (x : Nat × Nat) : Gh := fun o' => if o' = o then some x else g o'
theorem HR.alloc {nid : Nat} (H : HR B0 w0 w Fz g h) (hn : nid ≤ h.length) (hfree : nth .free h nid = .free) (cs : Array Value) (t : TypeId) (κ : Nat) (ob : AO)
    (hob : ∀ w', (∀ b, Fz b → w'.heap[b]? = w.heap[b]?) → w'.heap[w.heap.size]? = some (.cells cs t (0, 0)) → OR w' Fz (ext g nid (w.heap.size, κ)) nid ob) :
    HR B0 w0 (w.alloc (.cells cs t)) Fz (ext g nid (w.heap.size, κ)) (put1 nid ob h) ∧ Same Fz w (w.alloc (.cells cs t)) ∧ (∀ o x, g o = some x → ext g nid (w.heap.size, κ) o = some x) := by
  have hgn : g nid = none := by
    by_cases e : nid < h.length
    · have := H.objs nid e; rw [hfree] at this; exact this
    · exact H.free nid (by omega)
  have hnew : (w.alloc (.cells cs t)).heap[w.heap.size]? = some (.cells cs t (0, 0)) := by
    show (w.heap.push _)[w.heap.size]? = _; simp
  have hFs : ∀ b, Fz b → (w.alloc (.cells cs t)).heap[b]? = w.heap[b]? := fun b hb => Below.heap_alloc _ _ _ (H.fz b hb)
  have hsz : w.heap.size ≤ (w.alloc (.cells cs t)).heap.size := by show w.heap.size ≤ (w.heap.push _).size; simp
  refine ⟨H.change (H.below.alloc H.base _) hsz hn (fun b hb _ => Below.heap_alloc _ _ _ hb) (fun o' e => by simp [ext, e]) (fun x hx => by rw [hgn] at hx; cases hx) (hob _ hFs hnew) (fun b hb => ?_), hFs, fun o x hx => ?_⟩
  · have hb' : b = w.heap.size := by
      cases ob with
      | free => exact hb.elim
      | dead => exact hb.elim
      | lit s c => obtain ⟨κ', e⟩ := hb; simp [ext] at e; exact e.1.symm
      | rows s n r => obtain ⟨κ', e, _⟩ := hb; simp [ext] at e; exact e.1.symm
      | emap => obtain ⟨κ', e⟩ := hb; simp [ext] at e; exact e.1.symm
      | xmap => obtain ⟨κ', e⟩ := hb; simp [ext] at e; exact e.1.symm
    subst hb'
    refine ⟨H.base, by show w.heap.size < (w.heap.push _).size; simp, fun hf => Nat.lt_irrefl _ (H.fz _ hf), fun o' e hl hh => Nat.lt_irrefl _ (H.own o' _ hl hh).2.1⟩
  · by_cases e : o = nid
    · subst e; rw [hgn] at hx; cases hx
    · simp [ext, e, hx]

/-- A store into an object's block. -/
theorem setRow_other (w : World) (b : Nat) (cs : Array Value) (k : Nat) (hk : k ≠ b) : (w.setRow b cs).heap[k]? = w.heap[k]? := by
  unfold World.setRow
  simp only [Array.getElem?_modify]
  rw [if_neg (by omega)]
theorem below_setRow {a : World} {B b : Nat} (hb : Below B a w) (h : B ≤ b) (cs : Array Value) : Below B a (w.setRow b cs) :=
  hb.trans ⟨rfl, rfl, rfl, by simp [World.setRow], fun k hk => setRow_other _ _ _ _ (by omega)⟩
theorem HR.setRow {o b : Nat} (H : HR B0 w0 w Fz g h) (ho : o < h.length) (hb : Has g o (nth .free h o) b) (cs : Array Value) (ob : AO)
    (hh : ∀ b', Has g o ob b' → b' = b) (hob : Same Fz w (w.setRow b cs) → OR (w.setRow b cs) Fz g o ob) :
    HR B0 w0 (w.setRow b cs) Fz g (put1 o ob h) ∧ Same Fz w (w.setRow b cs) := by
  obtain ⟨h1, h2, h3⟩ := H.own o b ho hb
  have hFs : Same Fz w (w.setRow b cs) := fun k hk => setRow_other _ _ _ _ (fun e => h3 (e ▸ hk))
  refine ⟨H.change (below_setRow H.below h1 cs) (by simp [World.setRow]) (Nat.le_of_lt ho) (fun k hk hc => ?_) (fun _ _ => rfl) (fun _ x => x) (hob hFs) (fun b' hb' => ?_), hFs⟩
  · rcases hc with hc | ⟨o', e, hl, hh'⟩
    · exact hFs k hc
    · exact setRow_other _ _ _ _ (fun ek => e (H.sep o' o b hl ho (ek ▸ hh') hb))
  · rw [hh b' hb']
    exact ⟨h1, by simp [World.setRow]; exact h2, h3, fun o' e hl hh' => e (H.sep o' o b hl ho hh' hb)⟩
end
end Go.Proofs.YtnnoplgabnfdiaaGreatDoor.Sh
/- The shadow machine: what an operation does on abstract values, the machine does. -/
namespace Go.Proofs.YtnnoplgabnfdiaaGreatDoor.Sh
open Go Go.RowKit
set_option linter.unusedVariables false
set_option linter.unusedSimpArgs false

/-! ### The tables are right -/
def kOK (d : TypeDesc) : TK → Prop
  | .int k => d = .int k
  | .bool => d = .bool
  | .str => d = .string
  | .ptr e => d = .pointer e
  | .slice e => d = .slice e
  | .arr n e => d = .array n e
  | .struct fs => ∃ F : Array Field, d = .struct F ∧ F.toList.map (fun f => (f.offset, f.type)) = fs
  | .func => match d with | .func .. => True | _ => False
  | .iface => match d with | .interface _ => True | _ => False
  | .map k e => d = .map k e
  | .uptr => d = .unsafePointer
  | .other => False
structure TIOK (P : Program) (t : Nat) (ti : TI) : Prop where
  info : ∃ i z, P.info? t = some i ∧ i.size = ti.size ∧ i.bytes = ti.bytes ∧ i.zero = some z ∧ (∀ w Fz g, VR w Fz g ti.zero z) ∧ cellsOk ti.zero = true ∧ ti.zero.cells.length = ti.size
  und : ∃ d, P.underlying t = some d ∧ kOK d ti.k
def TabOK (P : Program) (T : Tab) : Prop := ∀ t ti, T.get t = some ti → TIOK P t ti

section
variable {P : Program} {T : Tab} {w : World}
theorem TabOK.und (hT : TabOK P T) {t : Nat} {ti : TI} (h : T.get t = some ti) : ∃ d, (underlying t).run P w = .ok d w ∧ kOK d ti.k := by
  obtain ⟨d, h1, h2⟩ := (hT t ti h).und
  exact ⟨d, run_underlying h1 w, h2⟩
theorem TabOK.size (hT : TabOK P T) {t : Nat} {ti : TI} (h : T.get t = some ti) : (sizeOf t).run P w = .ok ti.size w := by
  obtain ⟨i, z, h1, h2, _⟩ := (hT t ti h).info
  simp [sizeOf, typeInfo, h1, h2]
theorem TabOK.zero (hT : TabOK P T) {t : Nat} {ti : TI} (h : T.get t = some ti) : ∃ z, (zeroValue t).run P w = .ok z w ∧ (∀ w Fz g, VR w Fz g ti.zero z) ∧ cellsOk ti.zero = true ∧ ti.zero.cells.length = ti.size := by
  obtain ⟨i, z, h1, h2, h3, h4, h5, h6, h7⟩ := (hT t ti h).info
  exact ⟨z, by simp [zeroValue, typeInfo, h1, h4], h5, h6, h7⟩
theorem TabOK.agg (hT : TabOK P T) {t : Nat} {ti : TI} (h : T.get t = some ti) : (isAgg t).run P w = .ok ti.agg w := by
  obtain ⟨d, h1, h2⟩ := hT.und (w := w) h
  simp only [isAgg, Sem.run_bind, h1, Result.andThen_ok]
  unfold TI.agg
  cases hk : ti.k <;> rw [hk] at h2 <;> simp only [kOK] at h2
  case struct fs => obtain ⟨F, e, _⟩ := h2; subst e; rfl
  case func => cases d <;> first | exact h2.elim | rfl
  case iface => cases d <;> first | exact h2.elim | rfl
  all_goals (subst h2; rfl)
end

/-! ### Frames -/
/-- A slot: told under a guard, or for good. -/
def SR (w : World) (Fz : Nat → Prop) (g : Gh) (a : Act) : AV → Value → Prop
  | .when d b v, c => (a.tmps.getD d undef = .bool b ∧ VR w Fz g v c) ∨ (c = undef ∧ a.tmps.getD d undef ≠ .bool b)
  | v, c => VR w Fz g v c
structure FR (D : List Deferred) (w : World) (Fz : Nat → Prop) (g : Gh) (ts : List AV) (a : Act) : Prop where
  defers : a.defers = D
  size : ts.length = a.tmps.size
  slots : ∀ i, i < ts.length → SR w Fz g a (nth .top ts i) (a.tmps.getD i undef)

/-- How the world may have gone on. -/
structure On (w w' : World) (Fz Fz' : Nat → Prop) (g g' : Gh) : Prop where
  same : Same Fz w w'
  fz : ∀ b, Fz b → Fz' b
  gh : ∀ o x, g o = some x → g' o = some x
  new : ∀ b, Fz' b → Fz b ∨ w.heap.size ≤ b
  size : w.heap.size ≤ w'.heap.size
  newg : ∀ o b κ, g' o = some (b, κ) → g o = some (b, κ) ∨ w.heap.size ≤ b ∨ b = 0
theorem ext_newg {w : World} {g : Gh} {nid κ : Nat} : ∀ o b κ', ext g nid (w.heap.size, κ) o = some (b, κ') → g o = some (b, κ') ∨ w.heap.size ≤ b ∨ b = 0 := fun o b κ' h => by
  by_cases e : o = nid
  · subst e; simp [ext] at h; exact .inr (.inl (by omega))
  · simp [ext, e] at h; exact .inl h
theorem ext_zero {w : World} {g : Gh} {nid : Nat} : ∀ o b κ', ext g nid (0, 0) o = some (b, κ') → g o = some (b, κ') ∨ w.heap.size ≤ b ∨ b = 0 := fun o b κ' h => by
  by_cases e : o = nid
  · subst e; simp [ext] at h; exact .inr (.inr (by omega))
  · simp [ext, e] at h; exact .inl h
theorem On.refl (w : World) (Fz : Nat → Prop) (g : Gh) : On w w Fz Fz g g := ⟨Same.refl _ _, fun _ x => x, fun _ _ x => x, fun _ x => .inl x, Nat.le_refl _, fun _ _ _ x => .inl x⟩
theorem On.trans {w1 w2 w3 : World} {F1 F2 F3 : Nat → Prop} {g1 g2 g3 : Gh} (h : On w1 w2 F1 F2 g1 g2) (k : On w2 w3 F2 F3 g2 g3) : On w1 w3 F1 F3 g1 g3 :=
  ⟨fun b hb => (k.same b (h.fz b hb)).trans (h.same b hb), fun b hb => k.fz b (h.fz b hb), fun o x hx => k.gh o x (h.gh o x hx),
    fun b hb => (k.new b hb).elim (fun x => h.new b x) (fun x => .inr (Nat.le_trans h.size x)), Nat.le_trans h.size k.size, fun o b κ hb => (k.newg o b κ hb).elim (fun x => h.newg o b κ x) (fun x => x.elim (fun x => .inr (.inl (Nat.le_trans h.size x))) (fun x => .inr (.inr x)))⟩
section
variable {D : List Deferred} {w w' : World} {Fz Fz' : Nat → Prop} {g g' : Gh}
theorem On.vr (h : On w w' Fz Fz' g g') {v : AV} {c : Value} (hv : VR w Fz g v c) : VR w' Fz' g' v c := hv.mono h.same h.fz h.gh
theorem On.sr (h : On w w' Fz Fz' g g') {a : Act} {v : AV} {c : Value} (hv : SR w Fz g a v c) : SR w' Fz' g' a v c := by
  cases v <;> first
    | exact h.vr hv
    | exact hv.imp (fun x => ⟨x.1, h.vr x.2⟩) id
theorem On.fr (h : On w w' Fz Fz' g g') {ts : List AV} {a : Act} (F : FR D w Fz g ts a) : FR D w' Fz' g' ts a := ⟨F.defers, F.size, fun i hi => h.sr (F.slots i hi)⟩
theorem SR.of {a : Act} {v : AV} {c : Value} (h : VR w Fz g v c) : SR w Fz g a v c := by
  cases v <;> first | exact h | cases h
/-- What a slot holds that is not told under a guard. -/
theorem SR.vr {a : Act} {v : AV} {c : Value} (h : SR w Fz g a v c) (hv : ∀ d b x, v ≠ .when d b x) : VR w Fz g v c := by
  cases v <;> first | exact h | exact absurd rfl (hv _ _ _)
def Chained (ch : List (Nat × Bool)) (a : Act) : Prop := ∀ d b, inChain ch d b = true → a.tmps.getD d undef = .bool b
theorem Chained.nil (a : Act) : Chained [] a := fun d b h => by simp [inChain] at h
theorem Chained.cons {ch : List (Nat × Bool)} {a : Act} {d : Nat} {b : Bool} (h : Chained ch a) (hd : a.tmps.getD d undef = .bool b) : Chained ((d, b) :: ch) a := fun d' b' h' => by
  simp only [inChain, Bool.or_eq_true, Bool.and_eq_true, beq_iff_eq] at h'
  rcases h' with ⟨e1, e2⟩ | h'
  · rw [← e1, ← e2]; exact hd
  · exact h d' b' h'
theorem strip_vr {ch : List (Nat × Bool)} {a : Act} {v : AV} {c : Value} (hch : Chained ch a) (h : SR w Fz g a v c) : VR w Fz g (strip ch v) c := by
  cases v <;> first | exact h | skip
  rename_i d b v
  simp only [strip]
  cases hi : inChain ch d b with
  | false => exact .top _
  | true =>
    rcases h with h | h
    · exact h.2
    · exact absurd (hch d b hi) h.2
theorem constAV_vr (v : Value) : VR w Fz g (constAV v) v := by
  unfold constAV
  split <;> constructor
theorem FR.get {ts : List AV} {a : Act} (F : FR D w Fz g ts a) (t : Nat) : SR w Fz g a (nth .top ts t) (a.tmps.getD t undef) := by
  by_cases h : t < ts.length
  · exact F.slots t h
  · rw [nth_ge _ _ _ (by omega)]; exact .top _
theorem ev_vr {ch : List (Nat × Bool)} {s : AState} {a : Act} (F : FR D w Fz g s.tmps a) (hch : Chained ch a) (x : Operand) : VR w Fz g (ev ch s x) (a.eval x) := by
  cases x with
  | tmp t => exact strip_vr hch (F.get t)
  | const v => exact constAV_vr v
  | global n => exact .top _
  | func f => exact .fn f [] [] #[] #[] rfl rfl (fun i hi => absurd hi (by simp)) (fun i hi => absurd hi (by simp))
end

/-! ### Operations -/
/-- The operation goes on: with such a value, and such memory. -/
def Goes (P : Program) (B0 : Nat) (w0 w : World) (Fz : Nat → Prop) (g : Gh) (a : Act) (o : Oper) (val : AV) (h' : List AO) : Prop :=
  ∀ (K : Act → World → Prop) (Q : Exit → Act → World → Prop), (∀ c w' Fz' g', VR w' Fz' g' val c → HR B0 w0 w' Fz' g' h' → On w w' Fz Fz' g g' → K (a.put o.dst c) w') → o.wp P a w K Q
section
variable {P : Program} {B0 : Nat} {w0 w : World} {Fz : Nat → Prop} {g : Gh} {a : Act} {o : Oper} {val : AV} {h h' : List AO}
theorem goes_value {c : Value} (hr : (execOp a.eval o).run P w = .ok (.value c) w) (hv : VR w Fz g val c) (H : HR B0 w0 w Fz g h) : Goes P B0 w0 w Fz g a o val h := fun K Q hK => by
  unfold Oper.wp
  rw [hr, Oper.upon_value]
  exact hK c w Fz g hv H (On.refl _ _ _)
theorem goes_to {c : Value} {w' : World} {g' : Gh} (hr : (execOp a.eval o).run P w = .ok (.value c) w') (hv : VR w' Fz g' val c) (H : HR B0 w0 w' Fz g' h') (hon : On w w' Fz Fz g g') : Goes P B0 w0 w Fz g a o val h' := fun K Q hK => by
  unfold Oper.wp
  rw [hr, Oper.upon_value]
  exact hK c w' Fz g' hv H hon
theorem goes_skip {w' : World} (hr : (execOp a.eval o).run P w = .ok .skip w') (H : HR B0 w0 w' Fz g h') (hon : On w w' Fz Fz g g) : Goes P B0 w0 w Fz g a o .top h' := fun K Q hK => by
  unfold Oper.wp
  rw [hr, Oper.upon_skip]
  exact hK undef w' Fz g (.top _) H hon
end
end Go.Proofs.YtnnoplgabnfdiaaGreatDoor.Sh
/- The shadow machine: reading, merging, packing. -/
namespace Go.Proofs.YtnnoplgabnfdiaaGreatDoor.Sh
open Go Go.RowKit
set_option linter.unusedVariables false
set_option linter.unusedSimpArgs false
section
variable {P : Program} {B0 : Nat} {w0 w : World} {Fz : Nat → Prop} {g : Gh} {h : List AO}

theorem add_add (a : Addr) (x y : Nat) : (a.add x).add y = a.add (x + y) := by
  unfold Addr.add
  by_cases hx : x = 0
  · subst hx; simp
  · by_cases hy : y = 0
    · subst hy; simp [hx]
    · have : x + y ≠ 0 := by omega
      simp [hx, hy, this]; omega
theorem add_mk (b o n : Nat) : (⟨b, o, none⟩ : Addr).add n = ⟨b, o + n, none⟩ := by unfold Addr.add; split <;> simp_all
theorem add_zero' (a : Addr) : a.add 0 = a := by simp [Addr.add]

theorem conj_cons {p : Prop} {r : List Prop} : conj (p :: r) ↔ p ∧ conj r := by
  cases r <;> simp [conj]
theorem conj_append {l r : List Prop} : conj (l ++ r) ↔ conj l ∧ conj r := by
  induction l with
  | nil => simp [conj]
  | cons p l ih => rw [List.cons_append, conj_cons, conj_cons, ih, and_assoc]
theorem need_iff {l : List Prop} {q : Prop} : need l q ↔ conj l ∧ q := by
  cases l <;> simp [need, conj]

theorem ro_some {s len : Nat} {cap : Option Nat} {row : Nat → List RV} {c : Value} (h : VR w Fz g (.ro s len cap row) c) : VR w Fz g (.ro s len none row) c := by
  cases h with
  | ro _ _ _ _ _ hr =>
    cases hr with
    | ro _ _ _ _ A cc cs hlen hcap hc hr =>
      have hle : len ≤ cap.getD len := by cases hcp : cap with
        | none => simp
        | some n => have := hcap n hcp; simp; omega
      exact .ro _ _ _ _ _ (.ro _ _ _ _ _ _ cs hlen (fun n hn => by cases hn) (fun i hi j hj => hc i (by simp at hi; omega) j hj) (fun i hi j hj => hr i (by simp at hi; omega) j hj))
theorem merge_vr {b : Bool} {x y : AV} {c : Value} (hx : b = true → VR w Fz g x c) (hy : b = false → VR w Fz g y c) : VR w Fz g (merge b x y) c := by
  unfold merge
  split
  all_goals first
    | exact .top _
    | skip
  all_goals
    first
    | (cases b with
       | true => exact hx rfl
       | false => exact hy rfl)
    | (rename_i s len cap row s' len' cap' row'
       cases e : Nat.beq s s' with
       | false => exact .top _
       | true =>
         have e' := Nat.eq_of_beq_eq_true e
         subst e'
         cases b with
         | true => exact ro_some (hx rfl)
         | false => exact ro_some (hy rfl))
    | (rename_i k u k' v
       cases e : (k == k') with
       | false => exact .top _
       | true =>
         have e' : k = k' := by simpa using e
         subst e'
         cases b with
         | true => have h := hx rfl; cases h; exact .int _ _
         | false => have h := hy rfl; cases h; exact .int _ _)
    | (cases b with
       | true => have h := hx rfl; cases h; constructor
       | false => have h := hy rfl; cases h; constructor)
theorem nth_merges (b : Bool) : ∀ (xs ys : List AV) (i : Nat), i < xs.length → i < ys.length → nth .top (merges b xs ys) i = merge b (nth .top xs i) (nth .top ys i)
  | [], ys, i, h1, h2 => by simp at h1
  | x :: xs, [], i, h1, h2 => by simp at h2
  | x :: xs, y :: ys, 0, h1, h2 => rfl
  | x :: xs, y :: ys, i + 1, h1, h2 => by simp only [merges, nth]; exact nth_merges b xs ys i (by simpa using h1) (by simpa using h2)
theorem nth_merges_ge (b : Bool) : ∀ (xs ys : List AV) (i : Nat), ¬ (i < xs.length ∧ i < ys.length) → nth .top (merges b xs ys) i = .top
  | [], ys, i, h => by cases i <;> simp [merges, nth]
  | x :: xs, [], i, h => by cases i <;> simp [merges, nth]
  | x :: xs, y :: ys, 0, h => by simp at h
  | x :: xs, y :: ys, i + 1, h => by simp only [merges, nth]; exact nth_merges_ge b xs ys i (by simpa using h)
theorem merges_vr {b : Bool} {xs ys : List AV} {i : Nat} {c : Value} (hx : b = true → VR w Fz g (nth .top xs i) c) (hy : b = false → VR w Fz g (nth .top ys i) c) : VR w Fz g (nth .top (merges b xs ys) i) c := by
  by_cases hi : i < xs.length ∧ i < ys.length
  · rw [nth_merges b xs ys i hi.1 hi.2]; exact merge_vr hx hy
  · rw [nth_merges_ge b xs ys i hi]; exact .top _
theorem nth_cands (cells : List AV) (s : Nat) : ∀ (n p i : Nat), i < n → nth .top (cands cells s p n) i = nth .top cells (p + i * s)
  | 0, p, i, h => by omega
  | n + 1, p, 0, h => by simp [cands, nth]
  | n + 1, p, i + 1, h => by simp only [cands, nth]; rw [nth_cands cells s n (p + s) i (by omega)]; congr 1; rw [Nat.add_mul]; omega
theorem cands_length (cells : List AV) (s : Nat) : ∀ (n p : Nat), (cands cells s p n).length = n
  | 0, p => rfl
  | n + 1, p => by simp [cands, cands_length cells s n]
theorem sel_vr {c : Value} : ∀ (l : List AV) (i : Nat), i < l.length → VR w Fz g (nth .top l i) c → VR w Fz g (sel i l) c
  | [], i, h, hv => by simp at h
  | [x], i, h, hv => by
    have : i = 0 := by simp at h; omega
    subst this; exact hv
  | x :: y :: l, 0, h, hv => merge_vr (fun _ => hv) (fun e => by simp at e)
  | x :: y :: l, i + 1, h, hv => merge_vr (fun e => by simp at e) (fun _ => sel_vr (y :: l) i (by simpa using h) hv)
theorem readLit_length (cells : List AV) (N s i : Nat) : ∀ (m j : Nat), (readLit cells N s i j m).length = m
  | 0, j => rfl
  | m + 1, j => by simp [readLit, readLit_length cells N s i m]
/-- One place of what is read. -/
def placeLit (cells : List AV) (N s i p : Nat) : AV := match N with | 0 | 1 => nth .top cells p | _ => sel i (cands cells s p N)
theorem nth_readLit (cells : List AV) (N s i : Nat) : ∀ (m j q : Nat), q < m → nth .top (readLit cells N s i j m) q = placeLit cells N s i (j + q)
  | 0, j, q, h => by omega
  | m + 1, j, 0, h => rfl
  | m + 1, j, q + 1, h => by simp only [readLit, nth]; rw [nth_readLit cells N s i m (j + 1) q (by omega)]; congr 1; omega
theorem placeLit_vr {cells : List AV} {N s i p : Nat} {f : Nat → Value} (hi : (N ≤ 1 ∧ i = 0) ∨ i < N) (hv : VR w Fz g (nth .top cells (i * s + p)) (f (i * s + p))) : VR w Fz g (placeLit cells N s i p) (f (i * s + p)) := by
  unfold placeLit
  split
  · have : i = 0 := by omega
    subst this; simpa using hv
  · have : i = 0 := by omega
    subst this; simpa using hv
  · rename_i h0 h1
    have hlt : i < N := by
      rcases hi with hi | hi
      · exfalso; have : N = 0 ∨ N = 1 := by omega
        rcases this with e | e
        · exact h0 e
        · exact h1 e
      · exact hi
    refine sel_vr _ i (by rw [cands_length]; exact hlt) ?_
    rw [nth_cands _ _ _ _ _ hlt, Nat.add_comm]; exact hv
theorem nth_map_av : ∀ (l : List RV) (i : Nat), nth .top (l.map RV.av) i = (nth .top l i).av
  | [], i => by cases i <;> rfl
  | x :: xs, 0 => rfl
  | x :: xs, i + 1 => by simp only [List.map_cons, nth, nth_map_av xs i]
theorem nth_map_rv : ∀ (l : List AV) (i : Nat), nth .top (l.map AV.rv) i = (nth .top l i).rv
  | [], i => by cases i <;> rfl
  | x :: xs, 0 => rfl
  | x :: xs, i + 1 => by simp only [List.map_cons, nth, nth_map_rv xs i]

theorem ble_le {a b : Nat} (h : Nat.ble a b = true) : a ≤ b := Nat.le_of_ble_eq_true h
theorem blt_lt {a b : Nat} (h : Nat.blt a b = true) : a < b := by have := Nat.blt_eq (x := a) (y := b); rw [this] at h; exact h
theorem beq_eq {a b : Nat} (h : Nat.beq a b = true) : a = b := Nat.eq_of_beq_eq_true h
theorem cell_of {w : World} {b : Nat} {cs : Array Value} {t : TypeId} (h : w.heap[b]? = some (.cells cs t (0, 0))) {p : Nat} (hp : p < cs.size) : w.cell? ⟨b, p, none⟩ = some (cs.getD p undef) := by
  simp [World.cell?, h, Array.getD, hp]

/-- What is read lies there. -/
theorem rd_vr {v : AV} {m : Nat} {obs : List Prop} {cs : List AV} {c : Value} (H : HR B0 w0 w Fz g h) (hr : rd (fun o => nth .free h o) v m = some (obs, cs)) (hob : conj obs) (hv : VR w Fz g v c) :
    ∃ (ad : Addr) (f : Nat → Value), c = .pointer (some ad) ∧ cs.length = m ∧ (∀ q, q < m → w.cell? (ad.add q) = some (f q)) ∧ ∀ q, q < m → VR w Fz g (nth .top cs q) (f q) := by
  cases hv <;> simp only [rd] at hr <;> try (simp at hr; done)
  case ptr o N s i j b κ hg =>
    have hol : o < h.length := by
      rcases Nat.lt_or_ge o h.length with e | e
      · exact e
      · rw [H.free o e] at hg; cases hg
    have hO := H.objs o hol
    cases hoo : nth .free h o with
    | free => rw [hoo] at hr; simp at hr
    | dead => rw [hoo] at hr; simp at hr
    | emap => rw [hoo] at hr; simp at hr
    | xmap => rw [hoo] at hr; simp at hr
    | lit u cells =>
      rw [hoo] at hr hO
      obtain ⟨b', κ', ar, t, e1, e2, e3, e4, e5⟩ := hO
      rw [hg] at e1
      obtain ⟨rfl, rfl⟩ : b = b' ∧ κ = κ' := by simpa using e1
      have key : ((N ≤ 1 ∧ i = 0) ∨ i < N) ∧ i * s + j + m ≤ cells.length ∧ cs = readLit cells N s i j m := by
        simp only at hr
        split at hr
        · cases e : (Nat.beq i 0 && Nat.ble (j + m) cells.length) with
          | false => rw [e] at hr; simp at hr
          | true =>
            rw [e] at hr
            simp only [cond_true, Option.some.injEq, Prod.mk.injEq] at hr
            rw [Bool.and_eq_true] at e
            have hi := beq_eq e.1; have hb := ble_le e.2
            subst hi
            exact ⟨.inl ⟨by omega, rfl⟩, by simpa using hb, hr.2.symm⟩
        · cases e : (Nat.beq i 0 && Nat.ble (j + m) cells.length) with
          | false => rw [e] at hr; simp at hr
          | true =>
            rw [e] at hr
            simp only [cond_true, Option.some.injEq, Prod.mk.injEq] at hr
            rw [Bool.and_eq_true] at e
            have hi := beq_eq e.1; have hb := ble_le e.2
            subst hi
            exact ⟨.inl ⟨by omega, rfl⟩, by simpa using hb, hr.2.symm⟩
        · cases e : (Nat.ble ((N - 1) * s + j + m) cells.length) with
          | false => rw [e] at hr; simp at hr
          | true =>
            rw [e] at hr
            simp only [cond_true, Option.some.injEq, Prod.mk.injEq] at hr
            obtain ⟨hr1, hr2⟩ := hr
            subst hr1
            have hlt : i < N := hob
            have hb := ble_le e
            have : i * s ≤ (N - 1) * s := Nat.mul_le_mul_right _ (by omega)
            exact ⟨.inr hlt, by omega, hr2.symm⟩
      obtain ⟨hi, hlen, rfl⟩ := key
      refine ⟨_, fun q => ar.getD (i * s + j + q) undef, rfl, readLit_length _ _ _ _ _ _, fun q hq => ?_, fun q hq => ?_⟩
      · rw [add_mk]; exact cell_of e3 (by omega)
      · rw [nth_readLit _ _ _ _ _ _ _ hq]
        have := placeLit_vr (w := w) (Fz := Fz) (g := g) (cells := cells) (N := N) (s := s) (i := i) (p := j + q) (f := fun p => ar.getD p undef) hi (e5 _ (by omega))
        rw [show i * s + (j + q) = i * s + j + q by omega] at this
        exact this
    | rows s' n row =>
      rw [hoo] at hr hO
      obtain ⟨b', κ', e1, e2, e3⟩ := hO
      rw [hg] at e1
      obtain ⟨rfl, rfl⟩ : b = b' ∧ κ = κ' := by simpa using e1
      simp only at hr
      cases e : (s == s' && Nat.ble (j + m) s) with
      | false => rw [e] at hr; simp at hr
      | true =>
        rw [e] at hr
        simp only [cond_true, Option.some.injEq, Prod.mk.injEq] at hr
        obtain ⟨hr1, hr2⟩ := hr
        subst hr1; subst hr2
        rw [Bool.and_eq_true] at e
        have hs : s = s' := by simpa using e.1
        have hb := ble_le e.2
        subst hs
        have hlt : i < n := hob
        rcases e3 with e3 | ⟨ar, t, e3, e4, e5⟩
        · omega
        · have hbig : i * s + s ≤ κ * s := by
            have : (i + 1) * s ≤ κ * s := Nat.mul_le_mul_right _ (by omega)
            rwa [Nat.add_mul, Nat.one_mul] at this
          refine ⟨_, fun q => ar.getD (i * s + j + q) undef, rfl, cut_length _ _ _ _, fun q hq => ?_, fun q hq => ?_⟩
          · rw [add_mk]; exact cell_of e3 (by omega)
          · rw [nth_cut _ _ _ _ _ hq]
            have := e5 i hlt (j + q) (by omega)
            rwa [show i * s + (j + q) = i * s + j + q by omega] at this
  case rp s row i j a hm =>
    cases e : Nat.ble (j + m) s with
    | false => rw [e] at hr; simp at hr
    | true =>
      rw [e] at hr
      simp only [cond_true, Option.some.injEq, Prod.mk.injEq] at hr
      obtain ⟨hr1, hr2⟩ := hr
      subst hr2
      have hb := ble_le e
      have hex : ∀ q, ∃ c, q < m → w.cell? (a.add q) = some c ∧ RR w Fz (nth .top (row i) (j + q)) c := fun q => by
        by_cases hq : q < m
        · obtain ⟨_, c, h1, h2⟩ := hm q (by omega)
          exact ⟨c, fun _ => ⟨h1, h2⟩⟩
        · exact ⟨undef, fun h => absurd h hq⟩
      refine ⟨a, fun q => (hex q).choose, rfl, by rw [List.length_map, cut_length], fun q hq => ((hex q).choose_spec hq).1, fun q hq => ?_⟩
      rw [nth_map_av, nth_cut _ _ _ _ _ hq]
      exact ((hex q).choose_spec hq).2.av

theorem pack_vr {cs : List AV} {f : Nat → Value} {b : Bool} (hc : ∀ q, q < cs.length → VR w Fz g (nth .top cs q) (f q)) (hb : b = false → 0 < cs.length) :
    VR w Fz g (pack b cs) (if b then .agg ((List.range cs.length).map f).toArray else f 0) := by
  cases b with
  | true =>
    refine .agg _ _ (by simp) fun i hi => ?_
    simp only [Array.getD_eq_getD_getElem?, List.getElem?_toArray, List.getElem?_map, List.getElem?_range hi, Option.map_some, Option.getD_some]
    exact hc i hi
  | false => exact hc 0 (hb rfl)
end
end Go.Proofs.YtnnoplgabnfdiaaGreatDoor.Sh
