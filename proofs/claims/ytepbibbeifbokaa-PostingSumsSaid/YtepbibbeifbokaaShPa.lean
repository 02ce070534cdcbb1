/- The shadow machine over this program: postings and their sum. -/
import Derived.Test.YtepbibbeifbokaaShI
namespace Go.Proofs.Ytepbibbeifbokaa.Sh
open Go Go.RowKit
set_option linter.unusedVariables false
set_option linter.unusedSimpArgs false
set_option maxRecDepth 100000
set_option maxHeartbeats 4000000
structure P where
  a : Int
  m : Int
instance : Inhabited P := ⟨⟨0, 0⟩⟩
def ixp (xs : List P) (i : Nat) : P := xs.getD i default
def postRow (xs : List P) (i : Nat) : List RV := [.int .i64 (ixp xs i).a, .int .i64 (ixp xs i).m]
def postsAV (xs : List P) : AV := .ro 2 xs.length none (postRow xs)
def toP : List RV → P
  | [.int _ a, .int _ b] => ⟨a, b⟩
  | _ => default
def postsOf (len : Nat) (row : Nat → List RV) : List P := (List.range len).map fun i => toP (row i)
def isPosts (s len : Nat) (row : Nat → List RV) : Prop := len ≤ 9223372036854775807 ∧ (len = 0 ∨ (s = 2 ∧ ∀ i, i < len → row i = postRow (postsOf len row) i))
theorem postsOf_length (len : Nat) (row : Nat → List RV) : (postsOf len row).length = len := by simp [postsOf]
theorem postsOf_self (xs : List P) : postsOf xs.length (postRow xs) = xs := by
  refine List.ext_getElem (by simp [postsOf]) fun i h1 h2 => ?_
  simp [postsOf, postRow, toP, ixp, List.getD_eq_getElem?_getD, List.getElem?_eq_getElem h2]
theorem isPosts_self {xs : List P} (h : xs.length ≤ 9223372036854775807) : isPosts 2 xs.length (postRow xs) := ⟨h, .inr ⟨rfl, fun i _ => by rw [postsOf_self]⟩⟩
theorem posts_wk {s len : Nat} {cap : Option Nat} {row : Nat → List RV} (h : isPosts s len row) : Wk (.ro s len cap row) (postsAV (postsOf len row)) := by
  unfold postsAV
  rw [postsOf_length]
  exact ro_wk h.2
theorem ixp_postsOf {n i : Nat} {row : Nat → List RV} (hi : i < n) : ixp (postsOf n row) i = toP (row i) := by
  simp [ixp, postsOf, List.getD_eq_getElem?_getD, hi]
theorem isPosts_of {n : Nat} {row : Nat → List RV} (h : n ≤ 9223372036854775807) (hr : ∀ i, i < n → ∃ d : P, row i = [.int .i64 d.a, .int .i64 d.m]) : isPosts 2 n row := ⟨h, .inr ⟨rfl, fun i hi => by
  obtain ⟨d, hd⟩ := hr i hi
  unfold postRow
  rw [ixp_postsOf hi, hd]
  rfl⟩⟩
/-- Of postings alone. -/
def pQ (r : List P → AV) : QSpec := fun vs => match vs with
  | [.ro s len cap row] => some ([isPosts s len row], r (postsOf len row))
  | _ => none
theorem pQ_of {f : FuncId} {r : List P → AV} (H : ∀ xs : List P, xs.length ≤ 9223372036854775807 → SCall Try.prog f [postsAV xs] [] (Told (r xs))) : ∀ vs ob q, pQ r vs = some (ob, q) → conj ob → SCall Try.prog f vs [] (Told q) := by
  intro vs ob q h hob
  unfold pQ at h
  split at h
  · rename_i s len cap row
    simp only [Option.some.injEq, Prod.mk.injEq] at h
    obtain ⟨rfl, rfl⟩ := h
    have hob' : isPosts s len row := hob
    exact SCall.weaken (us := [postsAV (postsOf len row)]) (H _ (by rw [postsOf_length]; exact hob'.1)) rfl fun i hi => match i, hi with | 0, _ => posts_wk hob'
  · simp at h
def may2 (x : Int) : Bool := decide (-2000000000000000 ≤ x) && decide (x ≤ 2000000000000000)
theorem may2_iff {x : Int} : may2 x = true ↔ -2000000000000000 ≤ x ∧ x ≤ 2000000000000000 := by simp [may2]
theorem cond_may2 {p q : Prop} {_ : Decidable p} {_ : Decidable q} {x : Int} (h : (p ∧ q) ↔ (-2000000000000000 ≤ x ∧ x ≤ 2000000000000000)) : (bif decide p then decide q else false) = may2 x := by
  rw [Bool.eq_iff_iff, may2_iff, ← h]
  by_cases hp : p <;> simp [hp]
theorem cond_may2' {p q : Prop} {_ : Decidable p} {_ : Decidable q} {x : Int} (h : (¬ p ∧ ¬ q) ↔ (-2000000000000000 ≤ x ∧ x ≤ 2000000000000000)) : (bif decide p then true else decide q) = !may2 x := by
  have : (may2 x = true) ↔ (¬ p ∧ ¬ q) := may2_iff.trans h.symm
  by_cases hp : p <;> by_cases hq : q <;> simp_all
def may2Q : QSpec := fun vs => match vs with
  | [.int .i64 x] => some ([], .bool (may2 x))
  | _ => none
theorem may58 : ∀ vs ob r, may2Q vs = some (ob, r) → conj ob → SCall Try.prog 58 vs [] (Told r) := by
  intro vs ob r h hob
  unfold may2Q at h
  split at h
  · simp only [Option.some.injEq, Prod.mk.injEq] at h
    obtain ⟨rfl, rfl⟩ := h
    refine scall_of (cfg_ok env_nil 0) Try.func58 (by kernel_rfl) rfl ?_
    generalize hK : Told _ = K
    conv => whnf
    subst hK
    exact told_bool (cond_may2 Iff.rfl)
  · simp at h
def sum2 (n x : Int) : Int × Bool := bif may2 x then (IntKind.i64.wrap (n + x), may2 (IntKind.i64.wrap (n + x))) else (0, false)
def sum2Q : QSpec := fun vs => match vs with
  | [.int .i64 n, .int .i64 x] => some ([], .tup [.int .i64 (sum2 n x).1, .bool (sum2 n x).2])
  | _ => none
theorem sum56 : ∀ vs ob r, sum2Q vs = some (ob, r) → conj ob → SCall Try.prog 56 vs [] (Told r) := by
  intro vs ob r h hob
  unfold sum2Q at h
  split at h
  · rename_i n x
    simp only [Option.some.injEq, Prod.mk.injEq] at h
    obtain ⟨rfl, rfl⟩ := h
    refine scall_of (cfg_ok env_nil 0) Try.func56 (by kernel_rfl) rfl ?_
    generalize hK : Told _ = K
    conv => whnf
    refine ⟨fun h1 => ?_, fun h1 => ?_⟩
    · rw [cond_may2' (x := x) (by omega)] at h1
      conv => whnf
      subst hK
      exact told_of trivial rfl (by simp only [sum2]; rw [show may2 x = false by simpa using h1]; rfl)
    · rw [cond_may2' (x := x) (by omega)] at h1
      conv => whnf
      subst hK
      refine told_of trivial rfl ?_
      simp only [sum2]
      rw [show may2 x = true by simpa using h1]
      show AV.tup [.int .i64 (IntKind.i64.wrap (n + x)), .bool (bif decide (IntKind.i64.wrap (n + x) ≥ -2000000000000000) then decide (IntKind.i64.wrap (n + x) ≤ 2000000000000000) else false)] = _
      rw [cond_may2 (x := IntKind.i64.wrap (n + x)) Iff.rfl]
      rfl
  · simp at h
/-- The sum from i on, k postings, of n ahead. -/
def sumG (xs : List P) : Nat → Nat → Int → Option Int
  | 0, _, n => some n
  | k + 1, i, n => bif may2 (ixp xs i).m && may2 (n + (ixp xs i).m) then sumG xs k (i + 1) (n + (ixp xs i).m) else none
def sumP (xs : List P) : Option Int := sumG xs xs.length 0 0
def sumPV (r : Option Int) : AV := .tup [.int .i64 (r.getD 0), .int .i64 (bif r.isSome then 0 else 3)]
theorem sumG_next {xs : List P} {i : Nat} {n : Int} (hi : i < xs.length) : sumG xs (xs.length - i) i n = bif may2 (ixp xs i).m && may2 (n + (ixp xs i).m) then sumG xs (xs.length - (i + 1)) (i + 1) (n + (ixp xs i).m) else none := by
  have : xs.length - i = (xs.length - (i + 1)) + 1 := by omega
  rw [this, sumG]
def envP0 : Env := (56, sum2Q) :: (58, may2Q) :: env12
theorem envP0_ok : EnvOK Try.prog envP0 := env_cons sum56 (env_cons may58 env12_ok)
theorem sum29 : ∀ vs ob r, pQ (fun xs => sumPV (sumP xs)) vs = some (ob, r) → conj ob → SCall Try.prog 29 vs [] (Told r) := pQ_of fun xs hlen => by
  refine scall_of (cfg_ok envP0_ok 0) Try.func29 (by kernel_rfl) rfl ?_
  generalize hK : Told _ = K
  conv => whnf
  refine ⟨[], [4, 8, 9, 10], 0, fun q s => ∃ (i : Nat) (n : Int), q = xs.length - i ∧ i ≤ xs.length ∧ sumG xs (xs.length - i) i n = sumP xs ∧ may2 n = true ∧ s = ⟨.top :: .top :: .top :: .top :: .int .i64 n :: .top :: .top :: .top :: postsAV xs :: .int .i64 xs.length :: .int .i64 i :: List.replicate 14 .top, []⟩, Nat.zero_le _, ⟨_, _, ?_, 0, 0, rfl, Nat.zero_le _, rfl, by decide, rfl⟩, ?_⟩
  · exact ⟨rfl, rfl, fun o ho => absurd ho (Nat.not_lt_zero _)⟩
  · rintro q s ⟨i, n, rfl, hi, hs, hn, rfl⟩
    conv => whnf
    refine ⟨fun h2 => ?_, fun h2 => ?_⟩
    · have hlt : i < xs.length := by have := of_decide_eq_true h2; omega
      rw [sumG_next hlt] at hs
      have wi : IntKind.i64.wrap ((i : Int) + 1) = ((i + 1 : Nat) : Int) := by rw [w64 (by omega) (by omega)]; rfl
      have ei : ((i : Int)).toNat = i := Int.toNat_natCast i
      have hn' := may2_iff.mp hn
      conv => whnf
      refine ⟨⟨by omega, by omega⟩, ?_⟩
      rw [ei]
      conv => whnf
      refine ⟨fun h3 => ?_, fun h3 => ?_⟩
      · have h4 : (sum2 n (ixp xs i).m).2 = false := by simpa using h3
        have hno : sumP xs = none := by
          rw [← hs]
          cases h5 : may2 (ixp xs i).m with
          | false => rfl
          | true =>
            have h5' := may2_iff.mp h5
            simp only [sum2, h5, cond_true] at h4
            rw [w64 (by omega) (by omega)] at h4
            rw [h4]
            rfl
        conv => whnf
        subst hK
        rw [hno]
        exact told_of trivial rfl rfl
      · have h4 : (sum2 n (ixp xs i).m).2 = true := by simpa using h3
        have h5 : may2 (ixp xs i).m = true := by
          cases h5 : may2 (ixp xs i).m with
          | true => rfl
          | false => simp only [sum2, h5, cond_false] at h4; exact absurd h4 (by simp)
        have h5' := may2_iff.mp h5
        simp only [sum2, h5, cond_true] at h4
        rw [w64 (by omega) (by omega)] at h4
        rw [h5, h4] at hs
        have wn : (sum2 n (ixp xs i).m).1 = n + (ixp xs i).m := by
          simp only [sum2, h5, cond_true]
          exact w64 (by omega) (by omega)
        conv => whnf
        refine ⟨xs.length - (i + 1), _, by omega, ?_, i + 1, n + (ixp xs i).m, rfl, by omega, hs, h4, rfl⟩
        rw [← wi, ← wn]
        exact ⟨rfl, rfl, fun o ho => absurd ho (Nat.not_lt_zero _)⟩
    · have hz : xs.length - i = 0 := by have := of_decide_eq_false h2; omega
      rw [hz, sumG] at hs
      conv => whnf
      subst hK
      rw [← hs]
      exact told_of trivial rfl rfl
end Go.Proofs.Ytepbibbeifbokaa.Sh
