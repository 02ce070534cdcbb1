/- The shadow machine: how abstract values and objects stand to the machine's, and that they stay so. -/
import Derived.Test.YtepbibbeifbokaaSh0
namespace Go.Proofs.Ytepbibbeifbokaa.Sh
open Go Go.RowKit
set_option linter.unusedVariables false

/-! ### The evaluation's forms change nothing -/
section
variable {R : Sort _}
theorem fNatIn_eq (k : Nat → R) : ∀ (js : List Nat) (n : Nat), fNatIn js n k = k n
  | [], n => rfl
  | j :: js, n => by
    unfold fNatIn
    cases h : Nat.beq n j with
    | true => simp only; rw [Nat.eq_of_beq_eq_true h]
    | false => exact fNatIn_eq k js n
theorem fNat_eq (n : Nat) (k : Nat → R) : fNat n k = k n := fNatIn_eq k _ n
theorem f0_eq (v : AV) (k : AV → R) : f0 v k = k v := by
  cases v <;> simp only [f0, fNat_eq]
  · rename_i o s off len cap; cases cap <;> rfl
  · rename_i s len cap row; cases cap <;> rfl
theorem fL_eq {f : AV → (AV → R) → R} (hf : ∀ v k, f v k = k v) : ∀ (l : List AV) (k : List AV → R), fL f l k = k l
  | [], k => rfl
  | v :: vs, k => by simp only [fL, hf, fL_eq hf vs]
theorem fL_map {f : AV → (AV → R) → R} {g : AV → AV} (hf : ∀ v k, f v k = k (g v)) : ∀ (l : List AV) (k : List AV → R), fL f l k = k (l.map g)
  | [], k => rfl
  | v :: vs, k => by simp only [fL, hf, fL_map hf vs, List.map_cons]
theorem f1_eq (v : AV) (k : AV → R) : f1 v k = k v := by
  cases v <;> simp only [f1, f0_eq, fL_eq f0_eq]
theorem f2_eq (v : AV) (k : AV → R) : f2 v k = k v := by
  cases v <;> simp only [f2, f0_eq, f1_eq, fL_eq f0_eq, fL_eq f1_eq]
theorem f3_eq (v : AV) (k : AV → R) : f3 v k = k v := by
  cases v <;> simp only [f3, f2_eq, fNat_eq]
theorem fO_eq (v : AO) (k : AO → R) : fO v k = k v := by
  cases v <;> simp only [fO, fNat_eq, fL_eq f1_eq]
theorem fH_eq : ∀ (l : List AO) (k : List AO → R), fH l k = k l
  | [], k => rfl
  | v :: vs, k => by simp only [fH, fO_eq, fH_eq vs]
end

/-! ### Lists -/
theorem nth_get {α : Type} (d : α) : ∀ (l : List α) (i : Nat), nth d l i = l.getD i d
  | [], i => by cases i <;> rfl
  | x :: xs, 0 => rfl
  | x :: xs, i + 1 => by simp only [nth, nth_get d xs i]; simp
theorem setNth_length {α : Type} : ∀ (l : List α) (i : Nat) (y : α), (setNth l i y).length = l.length
  | [], i, y => by cases i <;> rfl
  | x :: xs, 0, y => rfl
  | x :: xs, i + 1, y => by simp only [setNth, List.length_cons, setNth_length xs i y]
theorem nth_setNth {α : Type} (d : α) : ∀ (l : List α) (i j : Nat) (y : α), nth d (setNth l i y) j = if i = j ∧ j < l.length then y else nth d l j
  | [], i, j, y => by cases i <;> cases j <;> simp [setNth, nth]
  | x :: xs, 0, 0, y => by simp [setNth, nth]
  | x :: xs, 0, j + 1, y => by simp [setNth, nth]
  | x :: xs, i + 1, 0, y => by simp [setNth, nth]
  | x :: xs, i + 1, j + 1, y => by simp [setNth, nth, nth_setNth d xs i j y]
theorem nth_map {α : Type} (d : α) (f : α → α) (hf : f d = d) (l : List α) (i : Nat) : nth d (l.map f) i = f (nth d l i) := by
  induction l generalizing i with
  | nil => cases i <;> simp [nth, hf]
  | cons x xs ih => cases i <;> simp [nth, ih]
theorem nth_ge {α : Type} (d : α) (l : List α) (i : Nat) (h : l.length ≤ i) : nth d l i = d := by
  rw [nth_get]; simp [List.getD_eq_getElem?_getD, List.getElem?_eq_none h]
theorem nth_append {α : Type} (d : α) (l m : List α) (i : Nat) : nth d (l ++ m) i = if i < l.length then nth d l i else nth d m (i - l.length) := by
  rw [nth_get, nth_get, nth_get]
  simp only [List.getD_eq_getElem?_getD, List.getElem?_append]
  split <;> rfl
theorem nth_cut {α : Type} (d : α) (cs : List α) : ∀ (n j q : Nat), q < n → nth d (cut d cs j n) q = nth d cs (j + q)
  | 0, j, q, h => by omega
  | n + 1, j, 0, h => by simp [cut, nth]
  | n + 1, j, q + 1, h => by simp only [cut, nth]; rw [nth_cut d cs n (j + 1) q (by omega)]; congr 1; omega
theorem cut_length {α : Type} (d : α) (cs : List α) : ∀ (n j : Nat), (cut d cs j n).length = n
  | 0, j => rfl
  | n + 1, j => by simp [cut, cut_length d cs n (j + 1)]

/-! ### Values -/
/-- Each object's block, and how many rows that has. -/
abbrev Gh := Nat → Option (Nat × Nat)

/-- A value that stays, in world w, of which the blocks Fz are not written to any more. -/
inductive RR (w : World) (Fz : Nat → Prop) : RV → Value → Prop
  | top (v : Value) : RR w Fz .top v
  | int (k : IntKind) (n : Int) : RR w Fz (.int k n) (.int k n)
  | bool (b : Bool) : RR w Fz (.bool b) (.bool b)
  | str (s : ByteArray) : RR w Fz (.str s) (.string s)
  | nilp : RR w Fz .nilp (.pointer none)
  | nilif : RR w Fz .nilif .nilIface
  | ro (s len : Nat) (cap : Option Nat) (row : Nat → List RV) (A : Option Addr) (c : Nat) (cs : Nat → Nat → Value) (hlen : len ≤ c) (hcap : ∀ n, cap = some n → c = n)
      (hc : ∀ i, i < cap.getD len → ∀ j, j < s → ∃ a, A = some a ∧ Fz a.block ∧ w.cell? (a.add (i * s + j)) = some (cs i j))
      (hr : ∀ i, i < cap.getD len → ∀ j, j < s → RR w Fz (nth .top (row i) j) (cs i j)) : RR w Fz (.ro s len cap row) (.slice A len c)

inductive VR (w : World) (Fz : Nat → Prop) (g : Gh) : AV → Value → Prop
  | top (v : Value) : VR w Fz g .top v
  | cint (k : IntKind) (n : Int) : VR w Fz g (.cint k n) (.int k n)
  | int (k : IntKind) (n : Int) : VR w Fz g (.int k n) (.int k n)
  | bool (b : Bool) : VR w Fz g (.bool b) (.bool b)
  | str (s : ByteArray) : VR w Fz g (.str s) (.string s)
  | nilp : VR w Fz g .nilp (.pointer none)
  | nilsl : VR w Fz g .nilsl (.slice none 0 0)
  | nilfn : VR w Fz g .nilfn .nilFunc
  | nilif : VR w Fz g .nilif .nilIface
  | ptr (o N s i j b κ : Nat) (h : g o = some (b, κ)) : VR w Fz g (.ptr o N s i j) (.pointer (some ⟨b, i * s + j, none⟩))
  | rp (s : Nat) (row : Nat → List RV) (i j : Nat) (a : Addr) (h : ∀ m, j + m < s → Fz a.block ∧ ∃ c, w.cell? (a.add m) = some c ∧ RR w Fz (nth .top (row i) (j + m)) c) : VR w Fz g (.rp s row i j) (.pointer (some a))
  | sl (o s off len : Nat) (cap : Option Nat) (b κ : Nat) (h : g o = some (b, κ)) (hl : off + len ≤ κ) (hc : ∀ n, cap = some n → κ - off = n) : VR w Fz g (.sl o s off len cap) (.slice (some ⟨b, off * s, none⟩) len (κ - off))
  | sle (o s off : Nat) (cap : Option Nat) (A : Option Addr) (b : Nat) (h : g o = some (b, off)) (hc : ∀ n, cap = some n → n = 0) : VR w Fz g (.sl o s off 0 cap) (.slice A 0 0)
  | ro (s len : Nat) (cap : Option Nat) (row : Nat → List RV) (v : Value) (h : RR w Fz (.ro s len cap row) v) : VR w Fz g (.ro s len cap row) v
  | fn (f : FuncId) (xs ys : List AV) (us vs : Array Value) (ha : xs.length = us.size) (hb : ys.length = vs.size) (h1 : ∀ i, i < xs.length → VR w Fz g (nth .top xs i) (us.getD i undef)) (h2 : ∀ i, i < ys.length → VR w Fz g (nth .top ys i) (vs.getD i undef)) : VR w Fz g (.fn f xs ys) (.func (.func f) us vs)
  | iface (t : TypeId) (x : AV) (v : Value) (h : VR w Fz g x v) : VR w Fz g (.iface t x) (.iface t v)
  | agg (cs : List AV) (vs : Array Value) (hl : cs.length = vs.size) (h : ∀ i, i < cs.length → VR w Fz g (nth .top cs i) (vs.getD i undef)) : VR w Fz g (.agg cs) (.agg vs)
  | tup (cs : List AV) (vs : Array Value) (hl : cs.length = vs.size) (h : ∀ i, i < cs.length → VR w Fz g (nth .top cs i) (vs.getD i undef)) : VR w Fz g (.tup cs) (.tuple vs)

/-- The blocks Fz are as they were. -/
def Same (Fz : Nat → Prop) (w w' : World) : Prop := ∀ b, Fz b → w'.heap[b]? = w.heap[b]?
theorem Same.refl (Fz : Nat → Prop) (w : World) : Same Fz w w := fun _ _ => rfl
theorem Same.trans {Fz : Nat → Prop} {w w1 w2 : World} (h : Same Fz w w1) (k : Same Fz w1 w2) : Same Fz w w2 := fun b hb => (k b hb).trans (h b hb)
theorem cell_same {w w' : World} {a : Addr} (h : w'.heap[a.block]? = w.heap[a.block]?) : w'.cell? a = w.cell? a := by simp only [World.cell?, h]
theorem add_block (a : Addr) (n : Nat) : (a.add n).block = a.block := by unfold Addr.add; split <;> rfl

theorem RR.mono {w w' : World} {Fz Fz' : Nat → Prop} (hw : Same Fz w w') (hF : ∀ b, Fz b → Fz' b) {r : RV} {v : Value} (h : RR w Fz r v) : RR w' Fz' r v := by
  induction h with
  | top v => exact .top v
  | int k n => exact .int k n
  | bool b => exact .bool b
  | str s => exact .str s
  | nilp => exact .nilp
  | nilif => exact .nilif
  | ro s len cap row A c cs hlen hcap hc hr ih =>
    refine .ro s len cap row A c cs hlen hcap (fun i hi j hj => ?_) ih
    obtain ⟨a, hA, hb, hcell⟩ := hc i hi j hj
    exact ⟨a, hA, hF _ hb, (cell_same (by rw [add_block]; exact hw _ hb)).trans hcell⟩
theorem VR.mono {w w' : World} {Fz Fz' : Nat → Prop} {g g' : Gh} (hw : Same Fz w w') (hF : ∀ b, Fz b → Fz' b) (hg : ∀ o x, g o = some x → g' o = some x) {r : AV} {v : Value} (h : VR w Fz g r v) : VR w' Fz' g' r v := by
  induction h with
  | top v => exact .top v
  | cint k n => exact .cint k n
  | int k n => exact .int k n
  | bool b => exact .bool b
  | str s => exact .str s
  | nilp => exact .nilp
  | nilsl => exact .nilsl
  | nilfn => exact .nilfn
  | nilif => exact .nilif
  | ptr o N s i j b κ h => exact .ptr o N s i j b κ (hg _ _ h)
  | rp s row i j a h =>
    refine .rp s row i j a fun m hm => ?_
    obtain ⟨hb, c, hc, hr⟩ := h m hm
    exact ⟨hF _ hb, c, (cell_same (by rw [add_block]; exact hw _ hb)).trans hc, hr.mono hw hF⟩
  | sl o s off len cap b κ h hl hc => exact .sl o s off len cap b κ (hg _ _ h) hl hc
  | sle o s off cap A b h hc => exact .sle o s off cap A b (hg _ _ h) hc
  | ro s len cap row v h => exact .ro s len cap row v (h.mono hw hF)
  | fn f xs ys us vs ha hb h1 h2 ih1 ih2 => exact .fn f xs ys us vs ha hb ih1 ih2
  | iface t x v h ih => exact .iface t x v ih
  | agg cs vs hl h ih => exact .agg cs vs hl ih
  | tup cs vs hl h ih => exact .tup cs vs hl ih

/-- A value read of memory that stays. -/
theorem RR.av {w : World} {Fz : Nat → Prop} {g : Gh} {r : RV} {v : Value} (h : RR w Fz r v) : VR w Fz g r.av v := by
  cases h with
  | top v => exact .top v
  | int k n => exact .int k n
  | bool b => exact .bool b
  | str s => exact .str s
  | nilp => exact .nilp
  | nilif => exact .nilif
  | ro s len cap row A c cs hlen hcap hc hr => exact .ro _ _ _ _ _ (.ro s len cap row A c cs hlen hcap hc hr)
theorem VR.rv {w : World} {Fz : Nat → Prop} {g : Gh} {x : AV} {v : Value} (h : VR w Fz g x v) : RR w Fz x.rv v := by
  cases h with
  | cint k n => exact .int k n
  | int k n => exact .int k n
  | bool b => exact .bool b
  | str s => exact .str s
  | nilp => exact .nilp
  | nilif => exact .nilif
  | ro s len cap row v h => exact h
  | _ => exact .top _

/-! ### Objects -/
def OR (w : World) (Fz : Nat → Prop) (g : Gh) (o : Nat) : AO → Prop
  | .free => g o = none
  | .dead => True
  | .lit s cells => ∃ b κ cs t, g o = some (b, κ) ∧ κ * s = cells.length ∧ w.heap[b]? = some (.cells cs t (0, 0)) ∧ cs.size = cells.length ∧ ∀ i, i < cells.length → VR w Fz g (nth .top cells i) (cs.getD i undef)
  | .rows s n row => ∃ b κ, g o = some (b, κ) ∧ n ≤ κ ∧ (κ = 0 ∨ ∃ cs t, w.heap[b]? = some (.cells cs t (0, 0)) ∧ cs.size = κ * s ∧ ∀ i, i < n → ∀ j, j < s → VR w Fz g (nth .top (row i) j) (cs.getD (i * s + j) undef))
/-- Has the object a block? -/
def Has (g : Gh) (o : Nat) : AO → Nat → Prop
  | .lit _ _, b => ∃ κ, g o = some (b, κ)
  | .rows _ _ _, b => ∃ κ, g o = some (b, κ) ∧ κ ≠ 0
  | _, _ => False

structure HR (B0 : Nat) (w0 w : World) (Fz : Nat → Prop) (g : Gh) (h : List AO) : Prop where
  below : Below B0 w0 w
  base : B0 ≤ w.heap.size
  fz : ∀ b, Fz b → b < w.heap.size
  free : ∀ o, h.length ≤ o → g o = none
  objs : ∀ o, o < h.length → OR w Fz g o (nth .free h o)
  own : ∀ o b, o < h.length → Has g o (nth .free h o) b → B0 ≤ b ∧ b < w.heap.size ∧ ¬ Fz b
  sep : ∀ o o' b, o < h.length → o' < h.length → Has g o (nth .free h o) b → Has g o' (nth .free h o') b → o = o'
end Go.Proofs.Ytepbibbeifbokaa.Sh
