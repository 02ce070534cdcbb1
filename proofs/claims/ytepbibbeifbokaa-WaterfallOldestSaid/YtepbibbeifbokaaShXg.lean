/- The shadow machine over this program: the law WaterfallExact. -/
import Derived.Test.YtepbibbeifbokaaShXf
namespace Go.Proofs.Ytepbibbeifbokaa.Sh
open Go Go.RowKit
set_option linter.unusedVariables false
set_option linter.unusedSimpArgs false
set_option maxRecDepth 1000000
set_option maxHeartbeats 4000000
theorem tot_nonneg : ∀ l : List D, (∀ d ∈ l, fine d) → 0 ≤ totI l ∧ 0 ≤ totQ l
  | [], _ => ⟨Int.le_refl _, Int.le_refl _⟩
  | x :: l, hx => by
    have h1 := tot_nonneg l fun y hy => hx y (by simp [hy])
    have h2 := hx x (by simp)
    have h3 := may_iff.mp h2.2.1
    have h4 := may_iff.mp h2.2.2.1
    simp only [totI, totQ]
    omega
theorem sums_zero {xs : List D} (h : sumsOf xs = some (0, 0)) : xs = [] := by
  obtain ⟨hf, _, hR, _, _⟩ := sums_iff.mp h
  simp only [Prod.mk.injEq] at hR
  cases xs with
  | nil => rfl
  | cons d r =>
    exfalso
    have h1 := tot_nonneg r fun y hy => hf y (by simp [hy])
    have h2 := hf d (by simp)
    have h3 := may_iff.mp h2.2.1
    have h4 := may_iff.mp h2.2.2.1
    have h5 := h2.2.2.2
    simp only [totI, totQ] at hR
    omega
theorem left_val {m : M} {o : O} {n : Int} (hr : (readM m).2 = true) (ho : okO o = true) (hn : 0 ≤ n ∧ n ≤ MX) : (spl m o n).2 = if allM m < n then n - allM m else 0 := by
  obtain ⟨hf, ⟨A, B⟩, hs, hrm, _, _, _⟩ := right_all hr
  rw [spl_left, left_eq (owed_nonneg m) hn ho]
  have ow : ∀ k, owedM m k = owedK m.pen m.fee A B k := fun k => by unfold owedM; rw [hrm]; rfl
  have o1 : owedM m 1 = m.fee := by rw [ow]; rfl
  have o2 : owedM m 2 = m.pen := by rw [ow]; rfl
  have o3 : owedM m 3 = A := by rw [ow]; rfl
  have o4 : owedM m 4 = B := by rw [ow]; rfl
  have hT : allM m = m.fee + m.pen + A + B := by unfold allM; rw [hrm]; rfl
  rw [o1, o2, o3, o4, hT]
theorem apply_right {m : M} {o : O} {n : Int} (hr : (readM m).2 = true) (ho : okO o = true) (hn : 0 ≤ n ∧ n ≤ MX) (hc : m.cash + (n - (spl m o n).2) ≤ MX) : applyR m o n = (aft m o n, (spl m o n).2, 0) ∧ (readM (aft m o n)).2 = true ∧ allM (aft m o n) = allM m - (n - (spl m o n).2) := by
  obtain ⟨A, B, hrm, _, _, _, _, _, _, _, _, hiff, hval⟩ := right_aft hr ho hn
  have h2 := hiff.mpr hc
  have hmay : mayW m o n = true := by unfold mayW; rw [valid_ok, hr, ho, may_iff.mpr hn]; rfl
  refine ⟨by unfold applyR; rw [hmay, h2]; rfl, h2, ?_⟩
  have hT : allM m = m.fee + m.pen + A + B := by unfold allM; rw [hrm]; rfl
  have hT2 : allM (aft m o n) = (m.fee - (spl m o n).1 0) + (m.pen - (spl m o n).1 1) + (A - (spl m o n).1 2) + (B - (spl m o n).1 3) := by unfold allM; rw [hval h2]; rfl
  have := spl_sum (m := m) ho hn
  omega
theorem apply_wrong {m : M} {o : O} {n : Int} (hr : (readM m).2 = true) (ho : okO o = true) (hn : 0 ≤ n ∧ n ≤ MX) (hc : ¬ m.cash + (n - (spl m o n).2) ≤ MX) : applyR m o n = (zM, 0, 3) := by
  obtain ⟨A, B, hrm, _, _, _, _, _, _, _, _, hiff, hval⟩ := right_aft hr ho hn
  have h2 : (readM (aft m o n)).2 = false := by
    rw [Bool.eq_false_iff]
    exact fun h => hc (hiff.mp h)
  have hmay : mayW m o n = true := by unfold mayW; rw [valid_ok, hr, ho, may_iff.mpr hn]; rfl
  unfold applyR
  rw [hmay, h2]
  rfl
theorem aft_len (m : M) (o : O) (n : Int) : (aft m o n).dues.length ≤ m.dues.length := paid_len _ _ _
theorem exact_lem {m : M} {o : O} (hr : (readM m).2 = true) (ho : okO o = true) {T : Int} (hT : allM m = T) (h1 : 1 ≤ T) (h2 : T ≤ 999999999999999) : (applyR m o T = (zM, 0, 3) ∧ applyR m o (T + 1) = (zM, 0, 3)) ∨ ∃ Ma Mb Mc, applyR m o T = (Ma, 0, 0) ∧ applyR m o (T + 1) = (Mb, 1, 0) ∧ applyR m o (T - 1) = (Mc, 0, 0) ∧ allM Ma = 0 ∧ allM Mb = 0 ∧ allM Mc = 1 ∧ Ma.dues.length = 0 ∧ Mb.dues.length ≤ m.dues.length ∧ Mc.dues.length ≤ m.dues.length := by
  have n1 : 0 ≤ T ∧ T ≤ MX := by unfold MX; omega
  have n2 : 0 ≤ T + 1 ∧ T + 1 ≤ MX := by unfold MX; omega
  have n3 : 0 ≤ T - 1 ∧ T - 1 ≤ MX := by unfold MX; omega
  have l1 := left_val hr ho n1
  have l2 := left_val hr ho n2
  have l3 := left_val hr ho n3
  rw [hT] at l1 l2 l3
  rw [if_neg (by omega)] at l1
  rw [if_pos (by omega)] at l2
  rw [if_neg (by omega)] at l3
  by_cases hc : m.cash + T ≤ MX
  · right
    obtain ⟨a1, a2, a3⟩ := apply_right hr ho n1 (by rw [l1]; omega)
    obtain ⟨b1, b2, b3⟩ := apply_right hr ho n2 (by rw [l2]; omega)
    obtain ⟨c1, c2, c3⟩ := apply_right hr ho n3 (by rw [l3]; omega)
    rw [l1] at a1 a3
    rw [l2] at b1 b3
    rw [l3] at c1 c3
    refine ⟨_, _, _, a1, by rw [b1]; congr 2; omega, c1, by omega, by omega, by omega, ?_, aft_len _ _ _, aft_len _ _ _⟩
    obtain ⟨A, B, hrm, _, _, _, _, s0, s1, s2, s3, _, hval⟩ := right_aft hr ho n1
    have hTT : allM m = m.fee + m.pen + A + B := by unfold allM; rw [hrm]; rfl
    have hsum := spl_sum (m := m) ho n1
    rw [l1] at hsum
    have e2 : A - (spl m o T).1 2 = 0 := by omega
    have e3 : B - (spl m o T).1 3 = 0 := by omega
    obtain ⟨_, r, hs, hrr, _, _, _⟩ := right_all a2
    rw [hval a2, e2, e3] at hrr
    simp only [Prod.mk.injEq, and_true] at hrr
    subst hrr
    rw [sums_zero hs]
    rfl
  · left
    exact ⟨apply_wrong hr ho n1 (by rw [l1]; omega), apply_wrong hr ho n2 (by rw [l2]; omega)⟩
theorem or2_false {p q : Prop} {_ : Decidable p} {_ : Decidable q} (h : (bif decide p then true else decide q) = false) : ¬ p ∧ ¬ q := by
  by_cases hp : p <;> by_cases hq : q <;> simp_all
theorem exact16 (m : M) (o : O) (hlen : m.dues.length ≤ 9223372036854775807) : SCall Try.prog 16 [moneyAV m, orderAV o] [] (Told (.bool true)) := by
  refine scall_of (cfg_ok envX3_ok 0) Try.func16 (by kernel_rfl) rfl ?_
  generalize hK : Told _ = K
  have hd := isDues_m hlen
  have hoe : (⟨o.a, o.b, o.c, o.d⟩ : O) = o := rfl
  conv => whnf
  refine ⟨hd, ?_⟩
  rw [m_self]
  conv => whnf
  refine ⟨fun h1 => ?_, fun h1 => ?_⟩
  · conv => whnf
    subst hK
    exact told_bool rfl
  · obtain ⟨hr, hok, h60⟩ := or3_false (x := (readM m).2) (y := okO o) h1
    clear h1
    have hl1000 : (duesOf m.dues.length (dueRow m.dues)).length ≤ 1000 := by rw [duesOf_length]; omega
    conv => whnf
    refine ⟨hd, ?_⟩
    rw [m_self]
    generalize hT : allM m = T
    conv => whnf
    refine ⟨fun h1 => ?_, fun h1 => ?_⟩
    · conv => whnf
      subst hK
      exact told_bool rfl
    · obtain ⟨t1, t2⟩ := or2_false h1
      clear h1
      have wT1 : IntKind.i64.wrap (T + 1) = T + 1 := w64 (by omega) (by omega)
      have wT2 : IntKind.i64.wrap (T - 1) = T - 1 := w64 (by omega) (by omega)
      conv => whnf
      refine ⟨⟨hd, hl1000⟩, ?_⟩
      rw [m_self, hoe]
      conv => whnf
      refine ⟨⟨hd, hl1000⟩, ?_⟩
      rw [m_self, hoe, wT1]
      conv => whnf
      refine ⟨⟨hd, hl1000⟩, ?_⟩
      rw [m_self, hoe, wT2]
      rcases exact_lem hr hok hT (by omega) (by omega) with ⟨e1, e2⟩ | ⟨Ma, Mb, Mc, e1, e2, e3, g1, g2, g3, la, lb, lc⟩
      · simp only [e1, e2]
        conv => whnf
        refine ⟨fun _ => ?_, fun h => absurd h (by decide)⟩
        conv => whnf
        subst hK
        exact told_bool rfl
      · simp only [e1, e2, e3]
        conv => whnf
        refine ⟨fun h => absurd h (by decide), fun _ => ?_⟩
        conv => whnf
        refine ⟨⟨fun _ => isDues_m (by omega), fun _ => isDues_m (by omega), fun _ => isDues_m (by omega)⟩, ?_⟩
        rw [m_self, m_self, m_self]
        conv => whnf
        subst hK
        refine told_bool ?_
        simp [g1, g2, g3, la]
end Go.Proofs.Ytepbibbeifbokaa.Sh
