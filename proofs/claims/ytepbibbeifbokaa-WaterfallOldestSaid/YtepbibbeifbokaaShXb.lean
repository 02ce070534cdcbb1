/- The shadow machine over this program: what waterfall.Paid calls. -/
import Derived.Test.YtepbibbeifbokaaShXa
namespace Go.Proofs.Ytepbibbeifbokaa.Sh
open Go Go.RowKit
set_option linter.unusedVariables false
set_option linter.unusedSimpArgs false
set_option maxRecDepth 1000000
set_option maxHeartbeats 4000000
def dCells (f : Nat → D) (i : Nat) : List AV := [.int .i64 (f i).n, .int .i64 (f i).day, .int .i64 (f i).i, .int .i64 (f i).p]
def updI (f : Nat → D) (q : Nat) (v : Int) : Nat → D := fun j => bif j == q then ⟨(f j).n, (f j).day, v, (f j).p⟩ else f j
def updP (f : Nat → D) (q : Nat) (v : Int) : Nat → D := fun j => bif j == q then ⟨(f j).n, (f j).day, (f j).i, v⟩ else f j
def updD (f : Nat → D) (q : Nat) (d : D) : Nat → D := fun j => bif j == q then d else f j
theorem rows_updI (f : Nat → D) (q : Nat) (v : Int) : (fun r => [.int .i64 (bif r == q then (f r).n else (f r).n), .int .i64 (bif r == q then (f r).day else (f r).day), .int .i64 (bif r == q then v else (f r).i), .int .i64 (bif r == q then (f r).p else (f r).p)] : Nat → List AV) = dCells (updI f q v) := by
  funext r
  unfold dCells updI
  cases (r == q) <;> rfl
theorem rows_updP (f : Nat → D) (q : Nat) (v : Int) : (fun r => [.int .i64 (bif r == q then (f r).n else (f r).n), .int .i64 (bif r == q then (f r).day else (f r).day), .int .i64 (bif r == q then (f r).i else (f r).i), .int .i64 (bif r == q then v else (f r).p)] : Nat → List AV) = dCells (updP f q v) := by
  funext r
  unfold dCells updP
  cases (r == q) <;> rfl
theorem rows_updD (f : Nat → D) (q : Nat) (d : D) : (fun r => [.int .i64 (bif r == q then d.n else (f r).n), .int .i64 (bif r == q then d.day else (f r).day), .int .i64 (bif r == q then d.i else (f r).i), .int .i64 (bif r == q then d.p else (f r).p)] : Nat → List AV) = dCells (updD f q d) := by
  funext r
  unfold dCells updD
  cases (r == q) <;> rfl
def clrD (f : Nat → D) (c l : Nat) : Nat → D := fun j => bif (decide (c ≤ j) && decide (j < c + l)) then ⟨0, 0, 0, 0⟩ else f j
theorem rows_clr (f : Nat → D) (c l : Nat) : (fun r => [.int .i64 (bif (decide (c ≤ r) && decide (r < c + l)) then 0 else (f r).n), .int .i64 (bif (decide (c ≤ r) && decide (r < c + l)) then 0 else (f r).day), .int .i64 (bif (decide (c ≤ r) && decide (r < c + l)) then 0 else (f r).i), .int .i64 (bif (decide (c ≤ r) && decide (r < c + l)) then 0 else (f r).p)] : Nat → List AV) = dCells (clrD f c l) := by
  funext r
  unfold dCells clrD
  cases (decide (c ≤ r) && decide (r < c + l)) <;> rfl
theorem lessIA {x0 x1 x3 x4 x5 x6 x7 x8 x9 s0 s1 s2 s3 a b : Int} {xs : List D} {n : Nat} {f : Nat → D} {ix : Nat} (hix : ix < n) {K : AV → List AO → Prop} (hK : K (.tup []) [.lit 1 [.int .i64 x0, .int .i64 x1, duesAV xs, .int .i64 x3, .int .i64 x4, .int .i64 x5, .int .i64 x6, .int .i64 x7, .int .i64 x8, .int .i64 x9], .lit 1 [.int .i64 s0, .int .i64 s1, .int .i64 s2, .int .i64 s3], .lit 1 [.int .i64 0, .int .i64 0, .nilsl, .int .i64 0, .int .i64 0, .int .i64 0, .int .i64 0, .int .i64 0, .int .i64 0, .int .i64 0], .lit 1 [.int .i64 (IntKind.i64.wrap (a - minI (f ix).i a))], .lit 1 [.int .i64 b], .rows 4 n (dCells (updI f ix (IntKind.i64.wrap ((f ix).i - minI (f ix).i a))))]) : SCall Try.prog 67 [.ptr 5 0 4 ix 2, .ptr 3 1 1 0 0] [.lit 1 [.int .i64 x0, .int .i64 x1, duesAV xs, .int .i64 x3, .int .i64 x4, .int .i64 x5, .int .i64 x6, .int .i64 x7, .int .i64 x8, .int .i64 x9], .lit 1 [.int .i64 s0, .int .i64 s1, .int .i64 s2, .int .i64 s3], .lit 1 [.int .i64 0, .int .i64 0, .nilsl, .int .i64 0, .int .i64 0, .int .i64 0, .int .i64 0, .int .i64 0, .int .i64 0, .int .i64 0], .lit 1 [.int .i64 a], .lit 1 [.int .i64 b], .rows 4 n (dCells f)] K := by
  refine scall_of (cfg_ok envX1_ok 6) Try.func67 (by kernel_rfl) rfl ?_
  conv => whnf
  refine ⟨[], by kernel_rfl, ?_⟩
  conv => whnf
  refine ⟨hix, ?_⟩
  conv => whnf
  refine ⟨⟨hix, hix⟩, ?_⟩
  conv => whnf
  exact Eq.mpr (congrArg (fun R => K (.tup []) [.lit 1 [.int .i64 x0, .int .i64 x1, duesAV xs, .int .i64 x3, .int .i64 x4, .int .i64 x5, .int .i64 x6, .int .i64 x7, .int .i64 x8, .int .i64 x9], .lit 1 [.int .i64 s0, .int .i64 s1, .int .i64 s2, .int .i64 s3], .lit 1 [.int .i64 0, .int .i64 0, .nilsl, .int .i64 0, .int .i64 0, .int .i64 0, .int .i64 0, .int .i64 0, .int .i64 0, .int .i64 0], .lit 1 [.int .i64 (IntKind.i64.wrap (a - minI (f ix).i a))], .lit 1 [.int .i64 b], .rows 4 n R]) (rows_updI f ix (IntKind.i64.wrap ((f ix).i - minI (f ix).i a)))) hK
theorem lessPA {x0 x1 x3 x4 x5 x6 x7 x8 x9 s0 s1 s2 s3 a b : Int} {xs : List D} {n : Nat} {f : Nat → D} {ix : Nat} (hix : ix < n) {K : AV → List AO → Prop} (hK : K (.tup []) [.lit 1 [.int .i64 x0, .int .i64 x1, duesAV xs, .int .i64 x3, .int .i64 x4, .int .i64 x5, .int .i64 x6, .int .i64 x7, .int .i64 x8, .int .i64 x9], .lit 1 [.int .i64 s0, .int .i64 s1, .int .i64 s2, .int .i64 s3], .lit 1 [.int .i64 0, .int .i64 0, .nilsl, .int .i64 0, .int .i64 0, .int .i64 0, .int .i64 0, .int .i64 0, .int .i64 0, .int .i64 0], .lit 1 [.int .i64 a], .lit 1 [.int .i64 (IntKind.i64.wrap (b - minI (f ix).p b))], .rows 4 n (dCells (updP f ix (IntKind.i64.wrap ((f ix).p - minI (f ix).p b))))]) : SCall Try.prog 67 [.ptr 5 0 4 ix 3, .ptr 4 1 1 0 0] [.lit 1 [.int .i64 x0, .int .i64 x1, duesAV xs, .int .i64 x3, .int .i64 x4, .int .i64 x5, .int .i64 x6, .int .i64 x7, .int .i64 x8, .int .i64 x9], .lit 1 [.int .i64 s0, .int .i64 s1, .int .i64 s2, .int .i64 s3], .lit 1 [.int .i64 0, .int .i64 0, .nilsl, .int .i64 0, .int .i64 0, .int .i64 0, .int .i64 0, .int .i64 0, .int .i64 0, .int .i64 0], .lit 1 [.int .i64 a], .lit 1 [.int .i64 b], .rows 4 n (dCells f)] K := by
  refine scall_of (cfg_ok envX1_ok 6) Try.func67 (by kernel_rfl) rfl ?_
  conv => whnf
  refine ⟨[], by kernel_rfl, ?_⟩
  conv => whnf
  refine ⟨hix, ?_⟩
  conv => whnf
  refine ⟨⟨hix, hix⟩, ?_⟩
  conv => whnf
  exact Eq.mpr (congrArg (fun R => K (.tup []) [.lit 1 [.int .i64 x0, .int .i64 x1, duesAV xs, .int .i64 x3, .int .i64 x4, .int .i64 x5, .int .i64 x6, .int .i64 x7, .int .i64 x8, .int .i64 x9], .lit 1 [.int .i64 s0, .int .i64 s1, .int .i64 s2, .int .i64 s3], .lit 1 [.int .i64 0, .int .i64 0, .nilsl, .int .i64 0, .int .i64 0, .int .i64 0, .int .i64 0, .int .i64 0, .int .i64 0, .int .i64 0], .lit 1 [.int .i64 a], .lit 1 [.int .i64 (IntKind.i64.wrap (b - minI (f ix).p b))], .rows 4 n R]) (rows_updP f ix (IntKind.i64.wrap ((f ix).p - minI (f ix).p b)))) hK
theorem lessIB {x0 x1 x3 x4 x5 x6 x7 x8 x9 s0 s1 s2 s3 a b : Int} {xs : List D} {n : Nat} {f : Nat → D} {ix : Nat} (hix : ix < n) {K : AV → List AO → Prop} (hK : K (.tup []) [.lit 1 [.int .i64 x0, .int .i64 x1, duesAV xs, .int .i64 x3, .int .i64 x4, .int .i64 x5, .int .i64 x6, .int .i64 x7, .int .i64 x8, .int .i64 x9], .lit 1 [.int .i64 s0, .int .i64 s1, .int .i64 s2, .int .i64 s3], .lit 1 [.int .i64 0, .int .i64 0, .nilsl, .int .i64 0, .int .i64 0, .int .i64 0, .int .i64 0, .int .i64 0, .int .i64 0, .int .i64 0], .lit 1 [.int .i64 (IntKind.i64.wrap (a - minI (f ix).i a))], .lit 1 [.int .i64 b], .dead, .rows 4 n (dCells (updI f ix (IntKind.i64.wrap ((f ix).i - minI (f ix).i a))))]) : SCall Try.prog 67 [.ptr 6 0 4 ix 2, .ptr 3 1 1 0 0] [.lit 1 [.int .i64 x0, .int .i64 x1, duesAV xs, .int .i64 x3, .int .i64 x4, .int .i64 x5, .int .i64 x6, .int .i64 x7, .int .i64 x8, .int .i64 x9], .lit 1 [.int .i64 s0, .int .i64 s1, .int .i64 s2, .int .i64 s3], .lit 1 [.int .i64 0, .int .i64 0, .nilsl, .int .i64 0, .int .i64 0, .int .i64 0, .int .i64 0, .int .i64 0, .int .i64 0, .int .i64 0], .lit 1 [.int .i64 a], .lit 1 [.int .i64 b], .dead, .rows 4 n (dCells f)] K := by
  refine scall_of (cfg_ok envX1_ok 7) Try.func67 (by kernel_rfl) rfl ?_
  conv => whnf
  refine ⟨[], by kernel_rfl, ?_⟩
  conv => whnf
  refine ⟨hix, ?_⟩
  conv => whnf
  refine ⟨⟨hix, hix⟩, ?_⟩
  conv => whnf
  exact Eq.mpr (congrArg (fun R => K (.tup []) [.lit 1 [.int .i64 x0, .int .i64 x1, duesAV xs, .int .i64 x3, .int .i64 x4, .int .i64 x5, .int .i64 x6, .int .i64 x7, .int .i64 x8, .int .i64 x9], .lit 1 [.int .i64 s0, .int .i64 s1, .int .i64 s2, .int .i64 s3], .lit 1 [.int .i64 0, .int .i64 0, .nilsl, .int .i64 0, .int .i64 0, .int .i64 0, .int .i64 0, .int .i64 0, .int .i64 0, .int .i64 0], .lit 1 [.int .i64 (IntKind.i64.wrap (a - minI (f ix).i a))], .lit 1 [.int .i64 b], .dead, .rows 4 n R]) (rows_updI f ix (IntKind.i64.wrap ((f ix).i - minI (f ix).i a)))) hK
theorem lessPB {x0 x1 x3 x4 x5 x6 x7 x8 x9 s0 s1 s2 s3 a b : Int} {xs : List D} {n : Nat} {f : Nat → D} {ix : Nat} (hix : ix < n) {K : AV → List AO → Prop} (hK : K (.tup []) [.lit 1 [.int .i64 x0, .int .i64 x1, duesAV xs, .int .i64 x3, .int .i64 x4, .int .i64 x5, .int .i64 x6, .int .i64 x7, .int .i64 x8, .int .i64 x9], .lit 1 [.int .i64 s0, .int .i64 s1, .int .i64 s2, .int .i64 s3], .lit 1 [.int .i64 0, .int .i64 0, .nilsl, .int .i64 0, .int .i64 0, .int .i64 0, .int .i64 0, .int .i64 0, .int .i64 0, .int .i64 0], .lit 1 [.int .i64 a], .lit 1 [.int .i64 (IntKind.i64.wrap (b - minI (f ix).p b))], .dead, .rows 4 n (dCells (updP f ix (IntKind.i64.wrap ((f ix).p - minI (f ix).p b))))]) : SCall Try.prog 67 [.ptr 6 0 4 ix 3, .ptr 4 1 1 0 0] [.lit 1 [.int .i64 x0, .int .i64 x1, duesAV xs, .int .i64 x3, .int .i64 x4, .int .i64 x5, .int .i64 x6, .int .i64 x7, .int .i64 x8, .int .i64 x9], .lit 1 [.int .i64 s0, .int .i64 s1, .int .i64 s2, .int .i64 s3], .lit 1 [.int .i64 0, .int .i64 0, .nilsl, .int .i64 0, .int .i64 0, .int .i64 0, .int .i64 0, .int .i64 0, .int .i64 0, .int .i64 0], .lit 1 [.int .i64 a], .lit 1 [.int .i64 b], .dead, .rows 4 n (dCells f)] K := by
  refine scall_of (cfg_ok envX1_ok 7) Try.func67 (by kernel_rfl) rfl ?_
  conv => whnf
  refine ⟨[], by kernel_rfl, ?_⟩
  conv => whnf
  refine ⟨hix, ?_⟩
  conv => whnf
  refine ⟨⟨hix, hix⟩, ?_⟩
  conv => whnf
  exact Eq.mpr (congrArg (fun R => K (.tup []) [.lit 1 [.int .i64 x0, .int .i64 x1, duesAV xs, .int .i64 x3, .int .i64 x4, .int .i64 x5, .int .i64 x6, .int .i64 x7, .int .i64 x8, .int .i64 x9], .lit 1 [.int .i64 s0, .int .i64 s1, .int .i64 s2, .int .i64 s3], .lit 1 [.int .i64 0, .int .i64 0, .nilsl, .int .i64 0, .int .i64 0, .int .i64 0, .int .i64 0, .int .i64 0, .int .i64 0, .int .i64 0], .lit 1 [.int .i64 a], .lit 1 [.int .i64 (IntKind.i64.wrap (b - minI (f ix).p b))], .dead, .rows 4 n R]) (rows_updP f ix (IntKind.i64.wrap ((f ix).p - minI (f ix).p b)))) hK
theorem clone66 {x0 x1 x3 x4 x5 x6 x7 x8 x9 s0 s1 s2 s3 a b : Int} {xs : List D} (hx : xs.length ≤ 1000) {K : AV → List AO → Prop} (h1 : xs.length = 0 → K .nilsl [.lit 1 [.int .i64 x0, .int .i64 x1, duesAV xs, .int .i64 x3, .int .i64 x4, .int .i64 x5, .int .i64 x6, .int .i64 x7, .int .i64 x8, .int .i64 x9], .lit 1 [.int .i64 s0, .int .i64 s1, .int .i64 s2, .int .i64 s3], .lit 1 [.int .i64 0, .int .i64 0, .nilsl, .int .i64 0, .int .i64 0, .int .i64 0, .int .i64 0, .int .i64 0, .int .i64 0, .int .i64 0], .lit 1 [.int .i64 a], .lit 1 [.int .i64 b]]) (h2 : K (.sl 6 4 0 xs.length none) [.lit 1 [.int .i64 x0, .int .i64 x1, duesAV xs, .int .i64 x3, .int .i64 x4, .int .i64 x5, .int .i64 x6, .int .i64 x7, .int .i64 x8, .int .i64 x9], .lit 1 [.int .i64 s0, .int .i64 s1, .int .i64 s2, .int .i64 s3], .lit 1 [.int .i64 0, .int .i64 0, .nilsl, .int .i64 0, .int .i64 0, .int .i64 0, .int .i64 0, .int .i64 0, .int .i64 0, .int .i64 0], .lit 1 [.int .i64 a], .lit 1 [.int .i64 b], .dead, .rows 4 xs.length (dCells (ix xs))]) : SCall Try.prog 66 [duesAV xs] [.lit 1 [.int .i64 x0, .int .i64 x1, duesAV xs, .int .i64 x3, .int .i64 x4, .int .i64 x5, .int .i64 x6, .int .i64 x7, .int .i64 x8, .int .i64 x9], .lit 1 [.int .i64 s0, .int .i64 s1, .int .i64 s2, .int .i64 s3], .lit 1 [.int .i64 0, .int .i64 0, .nilsl, .int .i64 0, .int .i64 0, .int .i64 0, .int .i64 0, .int .i64 0, .int .i64 0, .int .i64 0], .lit 1 [.int .i64 a], .lit 1 [.int .i64 b]] K := by
  refine scall_of (cfg_ok envX1_ok 5) Try.func66 (by kernel_rfl) rfl ?_
  conv => whnf
  refine ⟨fun h0 => ?_, ?_⟩
  · conv => whnf
    refine ⟨fun _ => ?_, fun h => absurd h (by decide)⟩
    conv => whnf
    exact h1 h0
  · conv => whnf
    refine ⟨fun h => absurd h (by decide), fun _ => ?_⟩
    conv => whnf
    refine ⟨show xs.length * 32 ≤ _ by omega, ?_⟩
    conv => whnf
    exact h2
def listF (f : Nat → D) (n : Nat) : List D := (List.range n).map f
def keepF (f : Nat → D) (n : Nat) : List D := (listF f n).filter fun d => !zD d
theorem keepF_next (f : Nat → D) (n : Nat) : keepF f (n + 1) = bif zD (f n) then keepF f n else keepF f n ++ [f n] := by
  unfold keepF listF
  rw [List.range_succ, List.map_append, List.filter_append]
  cases h : zD (f n) <;> simp [h]
theorem keepF_len (f : Nat → D) (n : Nat) : (keepF f n).length ≤ n := by
  have := List.length_filter_le (fun d => !zD d) (listF f n)
  unfold listF at this
  simpa [keepF, listF] using this
theorem ix_listF {f : Nat → D} {n i : Nat} (h : i < n) : ix (listF f n) i = f i := by
  simp [ix, listF, List.getD_eq_getElem?_getD, h]
theorem listF_length (f : Nat → D) (n : Nat) : (listF f n).length = n := by simp [listF]
/-- The first p are not empty, and the next is; or none is. -/
theorem idx_spec (f : Nat → D) (n : Nat) : ∀ k i, i + k = n → keepF f i = listF f i → (idxS (listF f n) k i = -1 ∧ keepF f n = listF f n) ∨ ∃ p : Nat, idxS (listF f n) k i = p ∧ i ≤ p ∧ p < n ∧ zD (f p) = true ∧ keepF f p = listF f p
  | 0, i, h, hk => .inl ⟨rfl, by rw [← h]; simpa using hk⟩
  | k + 1, i, h, hk => by
    simp only [idxS]
    rw [ix_listF (by omega)]
    cases hz : zD (f i) with
    | true => exact .inr ⟨i, rfl, Nat.le_refl _, by omega, hz, hk⟩
    | false =>
      rw [cond_false]
      have hk' : keepF f (i + 1) = listF f (i + 1) := by
        rw [keepF_next, hz, cond_false, hk]
        simp [listF, List.range_succ]
      rcases idx_spec f n k (i + 1) (by omega) hk' with h1 | ⟨p, h1, h2, h3⟩
      · exact .inl h1
      · exact .inr ⟨p, h1, by omega, h3⟩
theorem frozen_listF (f : Nat → D) {n : Nat} (hn : n ≤ 9223372036854775807) : isDues 4 n (fun i => (dCells f (0 + i)).map AV.rv) ∧ duesOf n (fun i => (dCells f (0 + i)).map AV.rv) = listF f n := by
  refine ⟨isDues_of hn fun i _ => ⟨f (0 + i), rfl⟩, ?_⟩
  unfold duesOf listF
  refine List.map_congr_left fun i _ => ?_
  show (⟨(f (0 + i)).n, (f (0 + i)).day, (f (0 + i)).i, (f (0 + i)).p⟩ : D) = f i
  rw [Nat.zero_add]
theorem delA {x0 x1 x3 x4 x5 x6 x7 x8 x9 s0 s1 s2 s3 a b : Int} {xs : List D} {n : Nat} {f : Nat → D} (hn : n ≤ 1000) {K : AV → List AO → Prop} (hK : ∀ f', (∀ j, j < (keepF f n).length → f' j = ix (keepF f n) j) → K (.sl 5 4 0 (keepF f n).length none) [.lit 1 [.int .i64 x0, .int .i64 x1, duesAV xs, .int .i64 x3, .int .i64 x4, .int .i64 x5, .int .i64 x6, .int .i64 x7, .int .i64 x8, .int .i64 x9], .lit 1 [.int .i64 s0, .int .i64 s1, .int .i64 s2, .int .i64 s3], .lit 1 [.int .i64 0, .int .i64 0, .nilsl, .int .i64 0, .int .i64 0, .int .i64 0, .int .i64 0, .int .i64 0, .int .i64 0, .int .i64 0], .lit 1 [.int .i64 a], .lit 1 [.int .i64 b], .rows 4 n (dCells f')]) : SCall Try.prog 68 [.sl 5 4 0 n none, .fn 69 [] []] [.lit 1 [.int .i64 x0, .int .i64 x1, duesAV xs, .int .i64 x3, .int .i64 x4, .int .i64 x5, .int .i64 x6, .int .i64 x7, .int .i64 x8, .int .i64 x9], .lit 1 [.int .i64 s0, .int .i64 s1, .int .i64 s2, .int .i64 s3], .lit 1 [.int .i64 0, .int .i64 0, .nilsl, .int .i64 0, .int .i64 0, .int .i64 0, .int .i64 0, .int .i64 0, .int .i64 0, .int .i64 0], .lit 1 [.int .i64 a], .lit 1 [.int .i64 b], .rows 4 n (dCells f)] K := by
  refine scall_of (cfg_ok envX1_ok 6) Try.func68 (by kernel_rfl) rfl ?_
  have hfr := frozen_listF f (n := n) (by omega)
  conv => whnf
  refine ⟨⟨show 0 + n ≤ n by omega, hfr.1⟩, ?_⟩
  rw [show duesOf n (fun i => List.map AV.rv (dCells f (0 + i))) = listF f n from hfr.2, listF_length]
  rcases idx_spec f n n 0 (by omega) rfl with ⟨hm, hk⟩ | ⟨p, hm, _, hpn, hpz, hpk⟩
  · rw [hm]
    conv => whnf
    refine ⟨fun _ => ?_, fun h => absurd h (by decide)⟩
    conv => whnf
    have := hK f (fun j hj => by
      rw [hk] at hj ⊢
      rw [listF_length] at hj
      rw [ix_listF hj])
    rw [hk, listF_length] at this
    exact this
  · rw [hm]
    conv => whnf
    refine ⟨fun h => absurd h (by simp), fun _ => ?_⟩
    have w1 : IntKind.i64.wrap ((p : Int) + 1) = ((p + 1 : Nat) : Int) := by rw [w64 (by omega) (by omega)]; rfl
    conv => whnf
    refine ⟨[], [0, 1, 5, 6], 6, fun q s => ∃ (j : Nat) (g : Nat → D), q = n - j ∧ j ≤ n ∧ (keepF f j).length < j ∧ (∀ r, r < (keepF f j).length → g r = ix (keepF f j) r) ∧ (∀ r, j ≤ r → g r = f r) ∧ s = ⟨.sl 5 4 0 n none :: .fn 69 [] [] :: .top :: .top :: .top :: .int .i64 ((keepF f j).length : Int) :: .int .i64 (j : Int) :: List.replicate 35 .top, [.lit 1 [.int .i64 x0, .int .i64 x1, duesAV xs, .int .i64 x3, .int .i64 x4, .int .i64 x5, .int .i64 x6, .int .i64 x7, .int .i64 x8, .int .i64 x9], .lit 1 [.int .i64 s0, .int .i64 s1, .int .i64 s2, .int .i64 s3], .lit 1 [.int .i64 0, .int .i64 0, .nilsl, .int .i64 0, .int .i64 0, .int .i64 0, .int .i64 0, .int .i64 0, .int .i64 0, .int .i64 0], .lit 1 [.int .i64 a], .lit 1 [.int .i64 b], .rows 4 n (dCells g)]⟩, Nat.le_refl _, ⟨_, _, ?_, p + 1, f, rfl, hpn, ?_, ?_, fun r hr => rfl, rfl⟩, ?_⟩
    · have e : (keepF f (p + 1)).length = p := by rw [keepF_next, hpz, cond_true, hpk, listF_length]
      rw [e, ← w1]
      exact ⟨rfl, rfl, fun o ho => match o, ho with | 0, _ => rfl | 1, _ => rfl | 2, _ => rfl | 3, _ => rfl | 4, _ => rfl | 5, _ => ⟨rfl, rfl, fun j hj => rfl⟩⟩
    · rw [keepF_next, hpz, cond_true, hpk, listF_length]; omega
    · intro r hr
      rw [keepF_next, hpz, cond_true, hpk] at hr ⊢
      rw [listF_length] at hr
      rw [ix_listF hr]
    · rintro q s ⟨j, g, rfl, hj, hc, hg1, hg2, rfl⟩
      conv => whnf
      refine ⟨fun h2 => ?_, fun h2 => ?_⟩
      · have hlt : j < n := by have := of_decide_eq_true h2; omega
        have wj : IntKind.i64.wrap ((j : Int) + 1) = ((j + 1 : Nat) : Int) := by rw [w64 (by omega) (by omega)]; rfl
        have ej : 0 + ((j : Int)).toNat = j := by rw [Int.toNat_natCast, Nat.zero_add]
        have hgj : g j = f j := hg2 j (Nat.le_refl _)
        conv => whnf
        rw [ej]
        refine ⟨⟨⟨by omega, by omega⟩, hlt⟩, ?_⟩
        rw [hgj]
        conv => whnf
        refine ⟨fun h3 => ?_, fun h3 => ?_⟩
        · have hz : zD (f j) = false := by
            have : (!zD (f j)) = true := h3
            simpa using this
          have ec : 0 + (((keepF f j).length : Nat) : Int).toNat = (keepF f j).length := by rw [Int.toNat_natCast, Nat.zero_add]
          have wc : IntKind.i64.wrap (((keepF f j).length : Int) + 1) = (((keepF f j).length + 1 : Nat) : Int) := by rw [w64 (by omega) (by omega)]; rfl
          have hkn : keepF f (j + 1) = keepF f j ++ [f j] := by rw [keepF_next, hz]; rfl
          have hln : (keepF f (j + 1)).length = (keepF f j).length + 1 := by rw [hkn, List.length_append]; rfl
          conv => whnf
          refine ⟨⟨⟨by omega, by omega⟩, show 0 + (((keepF f j).length : Nat) : Int).toNat < n by rw [ec]; omega⟩, ?_⟩
          conv => whnf
          refine ⟨n - (j + 1), _, by omega, ?_, j + 1, updD g (keepF f j).length (f j), rfl, hlt, by omega, fun r hr => ?_, fun r hr => ?_, rfl⟩
          · rw [ec, hln, ← wj, ← wc, ← rows_updD]
            exact ⟨rfl, rfl, fun o ho => match o, ho with | 0, _ => rfl | 1, _ => rfl | 2, _ => rfl | 3, _ => rfl | 4, _ => rfl | 5, _ => ⟨rfl, rfl, fun j hj => rfl⟩⟩
          · rw [hln] at hr
            unfold updD
            by_cases hrc : r = (keepF f j).length
            · subst hrc
              simp [hkn, ix, List.getD_eq_getElem?_getD]
            · have hr' : r < (keepF f j).length := by omega
              rw [show (r == (keepF f j).length) = false by simpa using hrc, cond_false, hg1 r hr', hkn]
              simp [ix, List.getD_eq_getElem?_getD, List.getElem?_append, hr']
          · unfold updD
            rw [show (r == (keepF f j).length) = false by simp; omega, cond_false]
            exact hg2 r (by omega)
        · have hz : zD (f j) = true := by
            have : (!zD (f j)) = false := h3
            simpa using this
          have hkn : keepF f (j + 1) = keepF f j := by rw [keepF_next, hz]; rfl
          conv => whnf
          refine ⟨n - (j + 1), _, by omega, ?_, j + 1, g, rfl, hlt, by rw [hkn]; omega, by rw [hkn]; exact hg1, fun r hr => hg2 r (by omega), rfl⟩
          rw [hkn, ← wj]
          exact ⟨rfl, rfl, fun o ho => match o, ho with | 0, _ => rfl | 1, _ => rfl | 2, _ => rfl | 3, _ => rfl | 4, _ => rfl | 5, _ => ⟨rfl, rfl, fun j hj => rfl⟩⟩
      · have he : j = n := by have := of_decide_eq_false h2; omega
        subst he
        have ec : (((keepF f j).length : Nat) : Int).toNat = (keepF f j).length := Int.toNat_natCast _
        conv => whnf
        refine ⟨⟨trivial, ⟨by omega, by omega⟩, show 0 + (((keepF f j).length : Nat) : Int).toNat + (j - (((keepF f j).length : Nat) : Int).toNat) ≤ j by rw [ec]; omega⟩, ?_⟩
        conv => whnf
        refine ⟨⟨⟨by omega, show (((keepF f j).length : Nat) : Int) ≤ ((j : Nat) : Int) by omega⟩, trivial⟩, ?_⟩
        conv => whnf
        have hKc := hK (clrD g (0 + (((keepF f j).length : Nat) : Int).toNat) (j - (((keepF f j).length : Nat) : Int).toNat)) (fun r hr => by
          unfold clrD
          rw [ec, decide_eq_false (by omega : ¬ (0 + (keepF f j).length ≤ r)), Bool.false_and, cond_false]
          exact hg1 r hr)
        exact Eq.mpr (congrArg (fun R => K (.sl 5 4 0 (keepF f j).length none) [.lit 1 [.int .i64 x0, .int .i64 x1, duesAV xs, .int .i64 x3, .int .i64 x4, .int .i64 x5, .int .i64 x6, .int .i64 x7, .int .i64 x8, .int .i64 x9], .lit 1 [.int .i64 s0, .int .i64 s1, .int .i64 s2, .int .i64 s3], .lit 1 [.int .i64 0, .int .i64 0, .nilsl, .int .i64 0, .int .i64 0, .int .i64 0, .int .i64 0, .int .i64 0, .int .i64 0, .int .i64 0], .lit 1 [.int .i64 a], .lit 1 [.int .i64 b], .rows 4 j R]) (rows_clr g (0 + (((keepF f j).length : Nat) : Int).toNat) (j - (((keepF f j).length : Nat) : Int).toNat))) hKc
theorem delB {x0 x1 x3 x4 x5 x6 x7 x8 x9 s0 s1 s2 s3 a b : Int} {xs : List D} {n : Nat} {f : Nat → D} (hn : n ≤ 1000) {K : AV → List AO → Prop} (hK : ∀ f', (∀ j, j < (keepF f n).length → f' j = ix (keepF f n) j) → K (.sl 6 4 0 (keepF f n).length none) [.lit 1 [.int .i64 x0, .int .i64 x1, duesAV xs, .int .i64 x3, .int .i64 x4, .int .i64 x5, .int .i64 x6, .int .i64 x7, .int .i64 x8, .int .i64 x9], .lit 1 [.int .i64 s0, .int .i64 s1, .int .i64 s2, .int .i64 s3], .lit 1 [.int .i64 0, .int .i64 0, .nilsl, .int .i64 0, .int .i64 0, .int .i64 0, .int .i64 0, .int .i64 0, .int .i64 0, .int .i64 0], .lit 1 [.int .i64 a], .lit 1 [.int .i64 b], .dead, .rows 4 n (dCells f')]) : SCall Try.prog 68 [.sl 6 4 0 n none, .fn 69 [] []] [.lit 1 [.int .i64 x0, .int .i64 x1, duesAV xs, .int .i64 x3, .int .i64 x4, .int .i64 x5, .int .i64 x6, .int .i64 x7, .int .i64 x8, .int .i64 x9], .lit 1 [.int .i64 s0, .int .i64 s1, .int .i64 s2, .int .i64 s3], .lit 1 [.int .i64 0, .int .i64 0, .nilsl, .int .i64 0, .int .i64 0, .int .i64 0, .int .i64 0, .int .i64 0, .int .i64 0, .int .i64 0], .lit 1 [.int .i64 a], .lit 1 [.int .i64 b], .dead, .rows 4 n (dCells f)] K := by
  refine scall_of (cfg_ok envX1_ok 7) Try.func68 (by kernel_rfl) rfl ?_
  have hfr := frozen_listF f (n := n) (by omega)
  conv => whnf
  refine ⟨⟨show 0 + n ≤ n by omega, hfr.1⟩, ?_⟩
  rw [show duesOf n (fun i => List.map AV.rv (dCells f (0 + i))) = listF f n from hfr.2, listF_length]
  rcases idx_spec f n n 0 (by omega) rfl with ⟨hm, hk⟩ | ⟨p, hm, _, hpn, hpz, hpk⟩
  · rw [hm]
    conv => whnf
    refine ⟨fun _ => ?_, fun h => absurd h (by decide)⟩
    conv => whnf
    have := hK f (fun j hj => by
      rw [hk] at hj ⊢
      rw [listF_length] at hj
      rw [ix_listF hj])
    rw [hk, listF_length] at this
    exact this
  · rw [hm]
    conv => whnf
    refine ⟨fun h => absurd h (by simp), fun _ => ?_⟩
    have w1 : IntKind.i64.wrap ((p : Int) + 1) = ((p + 1 : Nat) : Int) := by rw [w64 (by omega) (by omega)]; rfl
    conv => whnf
    refine ⟨[], [0, 1, 5, 6], 7, fun q s => ∃ (j : Nat) (g : Nat → D), q = n - j ∧ j ≤ n ∧ (keepF f j).length < j ∧ (∀ r, r < (keepF f j).length → g r = ix (keepF f j) r) ∧ (∀ r, j ≤ r → g r = f r) ∧ s = ⟨.sl 6 4 0 n none :: .fn 69 [] [] :: .top :: .top :: .top :: .int .i64 ((keepF f j).length : Int) :: .int .i64 (j : Int) :: List.replicate 35 .top, [.lit 1 [.int .i64 x0, .int .i64 x1, duesAV xs, .int .i64 x3, .int .i64 x4, .int .i64 x5, .int .i64 x6, .int .i64 x7, .int .i64 x8, .int .i64 x9], .lit 1 [.int .i64 s0, .int .i64 s1, .int .i64 s2, .int .i64 s3], .lit 1 [.int .i64 0, .int .i64 0, .nilsl, .int .i64 0, .int .i64 0, .int .i64 0, .int .i64 0, .int .i64 0, .int .i64 0, .int .i64 0], .lit 1 [.int .i64 a], .lit 1 [.int .i64 b], .dead, .rows 4 n (dCells g)]⟩, Nat.le_refl _, ⟨_, _, ?_, p + 1, f, rfl, hpn, ?_, ?_, fun r hr => rfl, rfl⟩, ?_⟩
    · have e : (keepF f (p + 1)).length = p := by rw [keepF_next, hpz, cond_true, hpk, listF_length]
      rw [e, ← w1]
      exact ⟨rfl, rfl, fun o ho => match o, ho with | 0, _ => rfl | 1, _ => rfl | 2, _ => rfl | 3, _ => rfl | 4, _ => rfl | 5, _ => rfl | 6, _ => ⟨rfl, rfl, fun j hj => rfl⟩⟩
    · rw [keepF_next, hpz, cond_true, hpk, listF_length]; omega
    · intro r hr
      rw [keepF_next, hpz, cond_true, hpk] at hr ⊢
      rw [listF_length] at hr
      rw [ix_listF hr]
    · rintro q s ⟨j, g, rfl, hj, hc, hg1, hg2, rfl⟩
      conv => whnf
      refine ⟨fun h2 => ?_, fun h2 => ?_⟩
      · have hlt : j < n := by have := of_decide_eq_true h2; omega
        have wj : IntKind.i64.wrap ((j : Int) + 1) = ((j + 1 : Nat) : Int) := by rw [w64 (by omega) (by omega)]; rfl
        have ej : 0 + ((j : Int)).toNat = j := by rw [Int.toNat_natCast, Nat.zero_add]
        have hgj : g j = f j := hg2 j (Nat.le_refl _)
        conv => whnf
        rw [ej]
        refine ⟨⟨⟨by omega, by omega⟩, hlt⟩, ?_⟩
        rw [hgj]
        conv => whnf
        refine ⟨fun h3 => ?_, fun h3 => ?_⟩
        · have hz : zD (f j) = false := by
            have : (!zD (f j)) = true := h3
            simpa using this
          have ec : 0 + (((keepF f j).length : Nat) : Int).toNat = (keepF f j).length := by rw [Int.toNat_natCast, Nat.zero_add]
          have wc : IntKind.i64.wrap (((keepF f j).length : Int) + 1) = (((keepF f j).length + 1 : Nat) : Int) := by rw [w64 (by omega) (by omega)]; rfl
          have hkn : keepF f (j + 1) = keepF f j ++ [f j] := by rw [keepF_next, hz]; rfl
          have hln : (keepF f (j + 1)).length = (keepF f j).length + 1 := by rw [hkn, List.length_append]; rfl
          conv => whnf
          refine ⟨⟨⟨by omega, by omega⟩, show 0 + (((keepF f j).length : Nat) : Int).toNat < n by rw [ec]; omega⟩, ?_⟩
          conv => whnf
          refine ⟨n - (j + 1), _, by omega, ?_, j + 1, updD g (keepF f j).length (f j), rfl, hlt, by omega, fun r hr => ?_, fun r hr => ?_, rfl⟩
          · rw [ec, hln, ← wj, ← wc, ← rows_updD]
            exact ⟨rfl, rfl, fun o ho => match o, ho with | 0, _ => rfl | 1, _ => rfl | 2, _ => rfl | 3, _ => rfl | 4, _ => rfl | 5, _ => rfl | 6, _ => ⟨rfl, rfl, fun j hj => rfl⟩⟩
          · rw [hln] at hr
            unfold updD
            by_cases hrc : r = (keepF f j).length
            · subst hrc
              simp [hkn, ix, List.getD_eq_getElem?_getD]
            · have hr' : r < (keepF f j).length := by omega
              rw [show (r == (keepF f j).length) = false by simpa using hrc, cond_false, hg1 r hr', hkn]
              simp [ix, List.getD_eq_getElem?_getD, List.getElem?_append, hr']
          · unfold updD
            rw [show (r == (keepF f j).length) = false by simp; omega, cond_false]
            exact hg2 r (by omega)
        · have hz : zD (f j) = true := by
            have : (!zD (f j)) = false := h3
            simpa using this
          have hkn : keepF f (j + 1) = keepF f j := by rw [keepF_next, hz]; rfl
          conv => whnf
          refine ⟨n - (j + 1), _, by omega, ?_, j + 1, g, rfl, hlt, by rw [hkn]; omega, by rw [hkn]; exact hg1, fun r hr => hg2 r (by omega), rfl⟩
          rw [hkn, ← wj]
          exact ⟨rfl, rfl, fun o ho => match o, ho with | 0, _ => rfl | 1, _ => rfl | 2, _ => rfl | 3, _ => rfl | 4, _ => rfl | 5, _ => rfl | 6, _ => ⟨rfl, rfl, fun j hj => rfl⟩⟩
      · have he : j = n := by have := of_decide_eq_false h2; omega
        subst he
        have ec : (((keepF f j).length : Nat) : Int).toNat = (keepF f j).length := Int.toNat_natCast _
        conv => whnf
        refine ⟨⟨trivial, ⟨by omega, by omega⟩, show 0 + (((keepF f j).length : Nat) : Int).toNat + (j - (((keepF f j).length : Nat) : Int).toNat) ≤ j by rw [ec]; omega⟩, ?_⟩
        conv => whnf
        refine ⟨⟨⟨by omega, show (((keepF f j).length : Nat) : Int) ≤ ((j : Nat) : Int) by omega⟩, trivial⟩, ?_⟩
        conv => whnf
        have hKc := hK (clrD g (0 + (((keepF f j).length : Nat) : Int).toNat) (j - (((keepF f j).length : Nat) : Int).toNat)) (fun r hr => by
          unfold clrD
          rw [ec, decide_eq_false (by omega : ¬ (0 + (keepF f j).length ≤ r)), Bool.false_and, cond_false]
          exact hg1 r hr)
        exact Eq.mpr (congrArg (fun R => K (.sl 6 4 0 (keepF f j).length none) [.lit 1 [.int .i64 x0, .int .i64 x1, duesAV xs, .int .i64 x3, .int .i64 x4, .int .i64 x5, .int .i64 x6, .int .i64 x7, .int .i64 x8, .int .i64 x9], .lit 1 [.int .i64 s0, .int .i64 s1, .int .i64 s2, .int .i64 s3], .lit 1 [.int .i64 0, .int .i64 0, .nilsl, .int .i64 0, .int .i64 0, .int .i64 0, .int .i64 0, .int .i64 0, .int .i64 0, .int .i64 0], .lit 1 [.int .i64 a], .lit 1 [.int .i64 b], .dead, .rows 4 j R]) (rows_clr g (0 + (((keepF f j).length : Nat) : Int).toNat) (j - (((keepF f j).length : Nat) : Int).toNat))) hKc
end Go.Proofs.Ytepbibbeifbokaa.Sh
