/- The shadow machine over this program: orders of kinds. -/
import Derived.Test.YtepbibbeifbokaaShI
namespace Go.Proofs.Ytepbibbeifbokaa.Sh
open Go Go.RowKit
set_option linter.unusedVariables false
set_option linter.unusedSimpArgs false
set_option maxRecDepth 1000000
set_option maxHeartbeats 4000000
def toI : List RV → Int
  | [.int _ a] => a
  | _ => 0
def inL (xs : Nat → Int) (k : Int) : Nat → Nat → Bool
  | 0, _ => false
  | n + 1, i => bif xs i == k then true else inL xs k n (i + 1)
def inQ : QSpec := fun vs => match vs with
  | [.ro s len cap row, .int .i64 k] => some ([len ≤ 1000 ∧ s = 1 ∧ ∀ i, i < len → row i = [.int .i64 (toI (row i))]], .bool (inL (fun i => toI (row i)) k len 0))
  | _ => none
theorem in50 : ∀ vs ob r, inQ vs = some (ob, r) → conj ob → SCall Try.prog 50 vs [] (Told r) := by
  intro vs ob r h hob
  unfold inQ at h
  split at h
  · rename_i s len cap row k
    simp only [Option.some.injEq, Prod.mk.injEq] at h
    obtain ⟨rfl, rfl⟩ := h
    obtain ⟨hl, rfl, hrow⟩ : len ≤ 1000 ∧ s = 1 ∧ ∀ i, i < len → row i = [.int .i64 (toI (row i))] := hob
    generalize hxs : (fun i => toI (row i)) = xs
    refine SCall.weaken (us := [.ro 1 len none (fun i => [.int .i64 (xs i)]), .int .i64 k]) ?_ rfl fun i hi => match i, hi with | 0, _ => ro_wk (.inr ⟨rfl, fun i hi => by subst hxs; exact hrow i hi⟩) | 1, _ => Wk.refl _
    clear hxs hrow
    refine scall_of (cfg_ok env12_ok 0) Try.func50 (by kernel_rfl) rfl ?_
    generalize hK : Told _ = K
    conv => whnf
    refine ⟨[], [0, 1, 5], 0, fun q s => ∃ i : Nat, q = len - i ∧ i ≤ len ∧ inL xs k (len - i) i = inL xs k len 0 ∧ s = ⟨.ro 1 len none (fun i => [.int .i64 (xs i)]) :: .int .i64 k :: .top :: .top :: .top :: .int .i64 i :: List.replicate 12 .top, []⟩, Nat.zero_le _, ⟨_, _, ?_, 0, rfl, Nat.zero_le _, rfl, rfl⟩, ?_⟩
    · exact ⟨rfl, rfl, fun o ho => absurd ho (Nat.not_lt_zero _)⟩
    · rintro q s ⟨i, rfl, hi, hs, rfl⟩
      conv => whnf
      refine ⟨fun h2 => ?_, fun h2 => ?_⟩
      · have hlt : i < len := by have := of_decide_eq_true h2; omega
        rw [show len - i = (len - (i + 1)) + 1 by omega, inL] at hs
        have wi : IntKind.i64.wrap ((i : Int) + 1) = ((i + 1 : Nat) : Int) := by rw [w64 (by omega) (by omega)]; rfl
        have ei : ((i : Int)).toNat = i := Int.toNat_natCast i
        conv => whnf
        refine ⟨⟨by omega, by omega⟩, ?_⟩
        rw [ei]
        conv => whnf
        refine ⟨fun h3 => ?_, fun h3 => ?_⟩
        · rw [show (xs i == k) = true from h3, cond_true] at hs
          conv => whnf
          subst hK
          exact told_bool hs
        · rw [show (xs i == k) = false from h3, cond_false] at hs
          conv => whnf
          refine ⟨len - (i + 1), _, by omega, ?_, i + 1, rfl, hlt, hs, rfl⟩
          rw [← wi]
          exact ⟨rfl, rfl, fun o ho => absurd ho (Nat.not_lt_zero _)⟩
      · have hz : len - i = 0 := by have := of_decide_eq_false h2; omega
        rw [hz, inL] at hs
        conv => whnf
        subst hK
        exact told_bool hs
  · simp at h
structure O where
  a : Int
  b : Int
  c : Int
  d : Int
def orderAV (o : O) : AV := .agg [.int .i64 o.a, .int .i64 o.b, .int .i64 o.c, .int .i64 o.d]
/-- The kind at place i. -/
def O.at (o : O) (i : Nat) : Int := bif i == 0 then o.a else bif i - 1 == 0 then o.b else bif i - 1 - 1 == 0 then o.c else o.d
def hasO (o : O) (k : Int) : Bool := inL o.at k 4 0
def okN (o : O) : Nat → Nat → Bool
  | 0, _ => true
  | n + 1, k => bif hasO o (k : Int) then okN o n (k + 1) else false
/-- Has an order each kind? -/
def okO (o : O) : Bool := okN o 4 1
def ordQ (r : O → AV) : QSpec := fun vs => match vs with
  | [.agg [.int .i64 a, .int .i64 b, .int .i64 c, .int .i64 d]] => some ([], r ⟨a, b, c, d⟩)
  | _ => none
def envW0 : Env := (50, inQ) :: env12
theorem envW0_ok : EnvOK Try.prog envW0 := env_cons in50 env12_ok
def rowO (a b c d : Int) (i : Nat) : List RV := (readLit [.int .i64 a, .int .i64 b, .int .i64 c, .int .i64 d] (([.int .i64 a, .int .i64 b, .int .i64 c, .int .i64 d] : List AV).length / 1) 1 (0 + i) 0 1).map AV.rv
theorem rowO_at (a b c d : Int) {i : Nat} (hi : i < 4) : rowO a b c d i = [.int .i64 ((⟨a, b, c, d⟩ : O).at i)] := by
  unfold rowO
  rw [Nat.div_one]
  match i, hi with
  | 0, _ => rfl
  | 1, _ => rfl
  | 2, _ => rfl
  | 3, _ => rfl
theorem inL_congr {xs ys : Nat → Int} {k : Int} : ∀ n i, i + n ≤ 4 → (∀ j, j < 4 → xs j = ys j) → inL xs k n i = inL ys k n i
  | 0, i, _, _ => rfl
  | n + 1, i, h, hx => by
    simp only [inL]
    rw [hx i (by omega), inL_congr n (i + 1) (by omega) hx]
theorem order18 : ∀ vs ob r, ordQ (fun o => .bool (okO o)) vs = some (ob, r) → conj ob → SCall Try.prog 18 vs [] (Told r) := by
  intro vs ob r h hob
  unfold ordQ at h
  split at h
  · rename_i a b c d
    simp only [Option.some.injEq, Prod.mk.injEq] at h
    obtain ⟨rfl, rfl⟩ := h
    clear hob
    refine scall_of (cfg_ok envW0_ok 0) Try.func18 (by kernel_rfl) rfl ?_
    generalize hK : Told _ = K
    generalize ho : (⟨a, b, c, d⟩ : O) = o at hK
    conv => whnf
    refine ⟨[], [1, 3], 1, fun q s => ∃ i : Nat, q = 5 - i ∧ 1 ≤ i ∧ i ≤ 5 ∧ okN o (5 - i) i = okO o ∧ s = ⟨.top :: .ptr 0 1 1 0 0 :: .top :: .int .i64 i :: List.replicate 8 .top, [.lit 1 [.int .i64 a, .int .i64 b, .int .i64 c, .int .i64 d]]⟩, Nat.zero_le _, ⟨_, _, ?_, 1, rfl, Nat.le_refl _, by omega, rfl, rfl⟩, ?_⟩
    · exact ⟨rfl, rfl, fun o ho => match o, ho with | 0, _ => rfl⟩
    · rintro q s ⟨i, rfl, hi, hi5, hs, rfl⟩
      conv => whnf
      refine ⟨fun h2 => ?_, fun h2 => ?_⟩
      · have hlt : i ≤ 4 := by have := of_decide_eq_true h2; omega
        rw [show 5 - i = (5 - (i + 1)) + 1 by omega, okN] at hs
        have wi : IntKind.i64.wrap ((i : Int) + 1) = ((i + 1 : Nat) : Int) := by rw [w64 (by omega) (by omega)]; rfl
        have hrow : inL (fun j => toI (rowO a b c d j)) (i : Int) 4 0 = hasO o (i : Int) := by
          subst ho
          exact inL_congr 4 0 (by omega) fun j hj => by rw [rowO_at a b c d hj]; rfl
        conv => whnf
        refine ⟨⟨show 4 ≤ 1000 by decide, rfl, fun j hj => (show rowO a b c d j = [.int .i64 (toI (rowO a b c d j))] by rw [rowO_at a b c d hj]; rfl)⟩, ?_⟩
        conv => whnf
        refine ⟨fun h3 => ?_, fun h3 => ?_⟩
        · have h4 : (!inL (fun j => toI (rowO a b c d j)) (i : Int) 4 0) = true := h3
          rw [hrow] at h4
          rw [show hasO o (i : Int) = false by simpa using h4, cond_false] at hs
          conv => whnf
          subst hK
          exact told_bool hs
        · have h4 : (!inL (fun j => toI (rowO a b c d j)) (i : Int) 4 0) = false := h3
          rw [hrow] at h4
          rw [show hasO o (i : Int) = true by simpa using h4, cond_true] at hs
          conv => whnf
          refine ⟨5 - (i + 1), _, by omega, ?_, i + 1, rfl, by omega, by omega, hs, rfl⟩
          rw [← wi]
          exact ⟨rfl, rfl, fun o ho => match o, ho with | 0, _ => rfl⟩
      · have hz : 5 - i = 0 := by have := of_decide_eq_false h2; omega
        rw [hz, okN] at hs
        conv => whnf
        subst hK
        exact told_bool hs
  · simp at h
end Go.Proofs.Ytepbibbeifbokaa.Sh
