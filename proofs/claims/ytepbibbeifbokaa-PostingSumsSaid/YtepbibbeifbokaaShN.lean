/- The shadow machine over this program: lists of postings, of batches and of money, and orders, that a law is handed. -/
import Derived.Test.YtepbibbeifbokaaShM
import Derived.Test.YtepbibbeifbokaaShPe
namespace Go.Proofs.Ytepbibbeifbokaa.Sh
open Go Go.RowKit Go.ChangeShapes Go.WideShapes Go.ChangeAt
set_option linter.unusedVariables false
set_option linter.unusedSimpArgs false
set_option maxRecDepth 100000
section
variable {H : Type} {enc : TypeId × Value → H} {W : World} {base b0 : Nat} {spare : Nat → Bool} {held : Bool} {r : Reach} {v : Value} {d : DataW H} {p : List MemPlace}
abbrev GotR (W : World) := RR W (fun b => b < W.heap.size)
theorem slice_rr {α : Type} (dflt : α) (Q : α → Prop) {fuel : Nat} {x : DataW H × List MemPlace} {t e z : Nat} {cellsR : α → List RV} (hs : Try.prog.underlying t = some (.slice e)) (hz : Try.prog.cellsOf e = z) (hz0 : 0 < z)
    (R : ∀ {fuel : Nat} {cs : List Value} {x : DataW H × List MemPlace}, DataW.trod enc Try.prog W base spare held fuel e cs = some x → ∃ a : α, Q a ∧ ∀ j, j < z → GotR W (nth .top (cellsR a) j) (cs.getD j undef))
    (h : DataW.trod enc Try.prog W base spare held fuel t [v] = some x) : ∃ xs : List α, xs.length ≤ 9223372036854775807 ∧ (∀ y ∈ xs, Q y) ∧ GotR W (.ro z xs.length none fun i => cellsR (xs.getD i dflt)) v := by
  rcases DataW.trod_slice hs h with ⟨e, _⟩ | ⟨a, len, cap, elems, rest, n, _, e, _, hb, hlc, hcap, hel, hi, _⟩
  · simp only [List.cons.injEq, and_true] at e
    subst e
    exact ⟨[], by simp, by simp, .ro z 0 none _ none 0 (fun _ _ => undef) (Nat.le_refl _) (fun n hn => by cases hn) (fun i hi => absurd hi (by simp)) (fun i hi => absurd hi (by simp))⟩
  · simp only [List.cons.injEq, and_true] at e
    subst e
    rw [hz] at hi
    have hd : ∀ i, i < len → ∃ (q : α) (cs : List Value), W.cells? base (a.add (i * z)) z = some cs ∧ Q q ∧ ∀ j, j < z → GotR W (nth .top (cellsR q) j) (cs.getD j undef) := fun i hlt => by
      obtain ⟨y, hy⟩ := some_at hel hlt
      have := hi i hlt
      rw [hy, Option.bind_eq_some_iff] at this
      obtain ⟨cs, h1, h2⟩ := this
      obtain ⟨q, hq⟩ := R h2
      exact ⟨q, cs, h1, hq⟩
    have hch : ∃ f : Nat → α × List Value, ∀ i, i < len → W.cells? base (a.add (i * z)) z = some (f i).2 ∧ Q (f i).1 ∧ ∀ j, j < z → GotR W (nth .top (cellsR (f i).1) j) ((f i).2.getD j undef) := ⟨fun i => if h : i < len then ((hd i h).choose, (hd i h).choose_spec.choose) else (dflt, []), fun i hlt => by simp only [dif_pos hlt]; exact (hd i hlt).choose_spec.choose_spec⟩
    obtain ⟨f, hf⟩ := hch
    have hx : ∀ i, i < len → ((List.range len).map fun i => (f i).1).getD i dflt = (f i).1 := fun i hlt => by simp [List.getD_eq_getElem?_getD, hlt]
    refine ⟨(List.range len).map fun i => (f i).1, by simp; unfold maxLen at hcap; omega, fun y hy => by obtain ⟨i, hi, rfl⟩ := List.mem_map.mp hy; exact (hf i (by simpa using hi)).2.1, ?_⟩
    have hlx : ((List.range len).map fun i => (f i).1).length = len := by simp
    rw [hlx]
    refine RR.ro z len none _ (some a) cap (fun i j => (f i).2.getD j undef) hlc (fun n hn => nomatch hn) (fun i hlt j hj => ?_) (fun i hlt j hj => ?_)
    · have hlt' : i < len := by simpa using hlt
      obtain ⟨hl, c1, c2⟩ := World.cells?_some (hf i hlt').1
      have hblk := World.cells?_block (hf i hlt').1 hz0
      refine ⟨a, rfl, by rwa [add_block] at hblk, ?_⟩
      have := c2 j hj
      rw [Addr.add_add] at this
      rw [this, List.getD_eq_getElem?_getD]
      have : j < (f i).2.length := by omega
      rw [List.getElem?_eq_getElem this]
      rfl
    · have hlt' : i < len := by simpa using hlt
      simp only [hx i hlt']
      exact (hf i hlt').2.2 j hj
theorem post_read {fuel : Nat} {cs : List Value} {x : DataW H × List MemPlace} (h : DataW.trod enc Try.prog W base spare held fuel 49 cs = some x) : ∃ a : P, ∀ j, j < 2 → GotR W (nth .top ([.int .i64 a.a, .int .i64 a.m] : List RV) j) (cs.getD j undef) := by
  obtain ⟨xs, n, _, _, hl, hlen, hf⟩ := DataW.trod_struct Try.underlying49 h
  rw [show Try.prog.cellsOf 49 = 2 by kernel_rfl] at hl
  have e3 : Try.prog.cellsOf 3 = 1 := by kernel_rfl
  have e2 : Try.prog.cellsOf 2 = 1 := by kernel_rfl
  obtain ⟨c0, c1, rfl⟩ : ∃ a b, cs = [a, b] := by
    match cs, hl with
    | [a, b], _ => exact ⟨a, b, rfl⟩
  obtain ⟨y0, g0⟩ := some_at hlen (show 0 < 2 by decide)
  obtain ⟨y1, g1⟩ := some_at hlen (show 1 < 2 by decide)
  obtain ⟨n0, q0⟩ := int_read Try.underlying3 ((hf 0 _ rfl).trans g0)
  obtain ⟨n1, q1⟩ := int_read Try.underlying2 ((hf 1 _ rfl).trans g1)
  simp [e3, e2] at q0 q1
  subst q0 q1
  refine ⟨⟨n0, n1⟩, fun j hj => ?_⟩
  match j, hj with
  | 0, _ => exact .int _ _
  | 1, _ => exact .int _ _
theorem posts_rr {fuel : Nat} {x : DataW H × List MemPlace} (h : DataW.trod enc Try.prog W base spare held fuel 43 [v] = some x) : ∃ xs : List P, xs.length ≤ 9223372036854775807 ∧ GotR W (.ro 2 xs.length none (postRow xs)) v :=
  let ⟨xs, h1, _, h2⟩ := slice_rr default (fun _ => True) Try.underlying43 (by kernel_rfl) (by decide) (fun h => let ⟨a, h1⟩ := post_read h; ⟨a, trivial, h1⟩) h
  ⟨xs, h1, h2⟩
theorem due_rr {fuel : Nat} {cs : List Value} {x : DataW H × List MemPlace} (h : DataW.trod enc Try.prog W base spare held fuel 39 cs = some x) : ∃ a : D, ∀ j, j < 4 → GotR W (nth .top ([.int .i64 a.n, .int .i64 a.day, .int .i64 a.i, .int .i64 a.p] : List RV) j) (cs.getD j undef) := by
  obtain ⟨a, rfl⟩ := due_read h
  refine ⟨a, fun j hj => ?_⟩
  match j, hj with
  | 0, _ => exact .int _ _
  | 1, _ => exact .int _ _
  | 2, _ => exact .int _ _
  | 3, _ => exact .int _ _
theorem dues_rr {fuel : Nat} {x : DataW H × List MemPlace} (h : DataW.trod enc Try.prog W base spare held fuel 22 [v] = some x) : ∃ xs : List D, xs.length ≤ 9223372036854775807 ∧ GotR W (.ro 4 xs.length none (dueRow xs)) v :=
  let ⟨xs, h1, _, h2⟩ := slice_rr default (fun _ => True) Try.underlying22 (by kernel_rfl) (by decide) (fun h => let ⟨a, h1⟩ := due_rr h; ⟨a, trivial, h1⟩) h
  ⟨xs, h1, h2⟩
theorem batch_read {fuel : Nat} {cs : List Value} {x : DataW H × List MemPlace} (h : DataW.trod enc Try.prog W base spare held fuel 64 cs = some x) : ∃ a : B, ∀ j, j < 3 → GotR W (nth .top ([.int .i64 a.seq, .int .i64 a.day, .ro 2 a.ps.length none (postRow a.ps)] : List RV) j) (cs.getD j undef) := by
  obtain ⟨xs, n, _, _, hl, hlen, hf⟩ := DataW.trod_struct Try.underlying64 h
  rw [show Try.prog.cellsOf 64 = 3 by kernel_rfl] at hl
  have e3 : Try.prog.cellsOf 3 = 1 := by kernel_rfl
  have e43 : Try.prog.cellsOf 43 = 1 := by kernel_rfl
  obtain ⟨c0, c1, c2, rfl⟩ : ∃ a b c, cs = [a, b, c] := by
    match cs, hl with
    | [a, b, c], _ => exact ⟨a, b, c, rfl⟩
  obtain ⟨y0, g0⟩ := some_at hlen (show 0 < 3 by decide)
  obtain ⟨y1, g1⟩ := some_at hlen (show 1 < 3 by decide)
  obtain ⟨y2, g2⟩ := some_at hlen (show 2 < 3 by decide)
  obtain ⟨n0, q0⟩ := int_read Try.underlying3 ((hf 0 _ rfl).trans g0)
  obtain ⟨n1, q1⟩ := int_read Try.underlying3 ((hf 1 _ rfl).trans g1)
  have h2 := (hf 2 _ rfl).trans g2
  simp [e3] at q0 q1
  simp [e43] at h2
  obtain ⟨ps, _, hp⟩ := posts_rr h2
  subst q0 q1
  refine ⟨⟨n0, n1, ps⟩, fun j hj => ?_⟩
  match j, hj with
  | 0, _ => exact .int _ _
  | 1, _ => exact .int _ _
  | 2, _ => exact hp
theorem batches_rr {fuel : Nat} {x : DataW H × List MemPlace} (h : DataW.trod enc Try.prog W base spare held fuel 55 [v] = some x) : ∃ xs : List B, xs.length ≤ 9223372036854775807 ∧ GotR W (.ro 3 xs.length none (batchRow xs)) v :=
  let ⟨xs, h1, _, h2⟩ := slice_rr default (fun _ => True) Try.underlying55 (by kernel_rfl) (by decide) (fun h => let ⟨a, h1⟩ := batch_read h; ⟨a, trivial, h1⟩) h
  ⟨xs, h1, h2⟩
theorem posts_arg (hval : Value.okWide Try.prog W r b0 43 v) (h : DataW.Trod enc Try.prog W base spare held 43 v d p) : ∃ xs : List P, xs.length ≤ 9223372036854775807 ∧ Got W (postsAV xs) v := by
  obtain ⟨a, len, cap, rfl⟩ := okWide_slice Try.underlying43 hval
  obtain ⟨fuel, hf⟩ := h
  obtain ⟨xs, h1, h2⟩ := posts_rr hf
  exact ⟨xs, h1, .ro _ _ _ _ _ h2⟩
theorem batches_arg (hval : Value.okWide Try.prog W r b0 55 v) (h : DataW.Trod enc Try.prog W base spare held 55 v d p) : ∃ xs : List B, xs.length ≤ 9223372036854775807 ∧ Got W (batchesAV xs) v := by
  obtain ⟨a, len, cap, rfl⟩ := okWide_slice Try.underlying55 hval
  obtain ⟨fuel, hf⟩ := h
  obtain ⟨xs, h1, h2⟩ := batches_rr hf
  exact ⟨xs, h1, .ro _ _ _ _ _ h2⟩
instance : Inhabited M := ⟨⟨0, 0, [], 0, 0, 0, 0, 0, 0, 0⟩⟩
def ixm (xs : List M) (i : Nat) : M := xs.getD i default
def moneyRV (m : M) : List RV := [.int .i64 m.pri, .int .i64 m.acc, .ro 4 m.dues.length none (dueRow m.dues), .int .i64 m.pen, .int .i64 m.fee, .int .i64 m.una, .int .i64 m.cash, .int .i64 m.ear, .int .i64 m.fin, .int .i64 m.cha]
def moneysAV (xs : List M) : AV := .ro 10 xs.length none fun i => moneyRV (ixm xs i)
/-- As money_read, of what stays. -/
theorem money_rr {fuel : Nat} {cs : List Value} {x : DataW H × List MemPlace} (h : DataW.trod enc Try.prog W base spare held fuel 24 cs = some x) : ∃ m : M, m.dues.length ≤ 9223372036854775807 ∧ ∀ j, j < 10 → GotR W (nth .top (moneyRV m) j) (cs.getD j undef) := by
  obtain ⟨xs, n, _, _, hl, hlen, hf⟩ := DataW.trod_struct Try.underlying24 h
  rw [show Try.prog.cellsOf 24 = 10 by kernel_rfl] at hl
  have e22 : Try.prog.cellsOf 22 = 1 := by kernel_rfl
  have e2 : Try.prog.cellsOf 2 = 1 := by kernel_rfl
  obtain ⟨c0, c1, c2, c3, c4, c5, c6, c7, c8, c9, rfl⟩ := len10 hl
  have at_ : ∀ i, i < 10 → ∃ y, xs[i]? = some y := fun i hi => some_at hlen hi
  obtain ⟨y0, g0⟩ := at_ 0 (by decide)
  obtain ⟨y1, g1⟩ := at_ 1 (by decide)
  obtain ⟨y2, g2⟩ := at_ 2 (by decide)
  obtain ⟨y3, g3⟩ := at_ 3 (by decide)
  obtain ⟨y4, g4⟩ := at_ 4 (by decide)
  obtain ⟨y5, g5⟩ := at_ 5 (by decide)
  obtain ⟨y6, g6⟩ := at_ 6 (by decide)
  obtain ⟨y7, g7⟩ := at_ 7 (by decide)
  obtain ⟨y8, g8⟩ := at_ 8 (by decide)
  obtain ⟨y9, g9⟩ := at_ 9 (by decide)
  obtain ⟨n0, q0⟩ := int_read Try.underlying2 ((hf 0 _ rfl).trans g0)
  obtain ⟨n1, q1⟩ := int_read Try.underlying2 ((hf 1 _ rfl).trans g1)
  obtain ⟨n3, q3⟩ := int_read Try.underlying2 ((hf 3 _ rfl).trans g3)
  obtain ⟨n4, q4⟩ := int_read Try.underlying2 ((hf 4 _ rfl).trans g4)
  obtain ⟨n5, q5⟩ := int_read Try.underlying2 ((hf 5 _ rfl).trans g5)
  obtain ⟨n6, q6⟩ := int_read Try.underlying2 ((hf 6 _ rfl).trans g6)
  obtain ⟨n7, q7⟩ := int_read Try.underlying2 ((hf 7 _ rfl).trans g7)
  obtain ⟨n8, q8⟩ := int_read Try.underlying2 ((hf 8 _ rfl).trans g8)
  obtain ⟨n9, q9⟩ := int_read Try.underlying2 ((hf 9 _ rfl).trans g9)
  have h2 := (hf 2 _ rfl).trans g2
  simp [e2] at q0 q1 q3 q4 q5 q6 q7 q8 q9
  simp [e22] at h2
  obtain ⟨ds, hdl, hd⟩ := dues_rr h2
  subst q0 q1 q3 q4 q5 q6 q7 q8 q9
  refine ⟨⟨n0, n1, ds, n3, n4, n5, n6, n7, n8, n9⟩, hdl, fun j hj => ?_⟩
  match j, hj with
  | 0, _ => exact .int _ _
  | 1, _ => exact .int _ _
  | 2, _ => exact hd
  | 3, _ => exact .int _ _
  | 4, _ => exact .int _ _
  | 5, _ => exact .int _ _
  | 6, _ => exact .int _ _
  | 7, _ => exact .int _ _
  | 8, _ => exact .int _ _
  | 9, _ => exact .int _ _
theorem moneys_arg (hval : Value.okWide Try.prog W r b0 62 v) (h : DataW.Trod enc Try.prog W base spare held 62 v d p) : ∃ xs : List M, (xs.length ≤ 9223372036854775807 ∧ ∀ m ∈ xs, m.dues.length ≤ 9223372036854775807) ∧ Got W (moneysAV xs) v := by
  obtain ⟨a, len, cap, rfl⟩ := okWide_slice Try.underlying62 hval
  obtain ⟨fuel, hf⟩ := h
  obtain ⟨xs, h1, h3, h2⟩ := slice_rr (cellsR := moneyRV) default (fun m => m.dues.length ≤ 9223372036854775807) Try.underlying62 (by kernel_rfl) (by decide) money_rr hf
  exact ⟨xs, ⟨h1, h3⟩, .ro _ _ _ _ _ h2⟩
end
end Go.Proofs.Ytepbibbeifbokaa.Sh
