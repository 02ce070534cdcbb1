/- The shadow machine over this program: the law BucketsWrong. -/
import Derived.Test.YtepbibbeifbokaaShI
namespace Go.Proofs.Ytepbibbeifbokaa.Sh
open Go Go.RowKit
set_option linter.unusedVariables false
set_option linter.unusedSimpArgs false
set_option maxRecDepth 100000
set_option maxHeartbeats 4000000
theorem u64_bounds (y : Int) : 0 ≤ IntKind.u64.wrap y ∧ IntKind.u64.wrap y < 18446744073709551616 := by
  unfold IntKind.wrap
  simp only [IntKind.bits, IntKind.signed]
  constructor
  · simp; omega
  · simp; omega
theorem rem_bounds (y : Int) {n : Int} (h : 0 < n) : 0 ≤ (IntKind.u64.wrap y).tmod n ∧ (IntKind.u64.wrap y).tmod n < n := by
  have := u64_bounds y
  rw [Int.tmod_eq_emod_of_nonneg this.1]
  exact ⟨Int.emod_nonneg _ (by omega), Int.emod_lt_of_pos _ h⟩
def appRow (xs : List D) (i : Nat) : List RV := [.int .i64 (bif decide (0 + i < xs.length) then (ix xs (0 + i)).n else 1099511627776), .int .i64 (bif decide (0 + i < xs.length) then (ix xs (0 + i)).day else 1099511627776), .int .i64 (bif decide (0 + i < xs.length) then (ix xs (0 + i)).i else 0), .int .i64 (bif decide (0 + i < xs.length) then (ix xs (0 + i)).p else 0)]
theorem app_dues {xs : List D} (h : xs.length + 1 ≤ 9223372036854775807) : isDues 4 (xs.length + 1) (appRow xs) := isDues_of h fun i _ => ⟨⟨_, _, _, _⟩, rfl⟩
theorem wrong_end {m : M} (h : (readM m).2 = false) : (bif bif bif bif true then !(readM m).2 else false then allM m == 0 else false then !emptyM m else false then balM m 1 == 0 else false) = true := by
  simp [allM, emptyM, balM, h]
theorem wrong_num {m m' : M} (hr : (readM m).2 = true) (hd : m'.dues = m.dues) (hne : ∀ r, haves m' r - owns m' ≠ haves m r - owns m) : (readM m').2 = false := by
  rw [Bool.eq_false_iff]
  intro hr'
  obtain ⟨_, r, hs, _, _, _, h⟩ := right_all hr
  obtain ⟨_, r', hs', _, _, _, h'⟩ := right_all hr'
  rw [hd, hs] at hs'
  cases hs'
  have := hne r
  omega
theorem go_last (xs : List D) : ∀ k i a b r, goS xs k i a b = some r → ∀ j, i ≤ j → j < i + k → (ix xs j).i + (ix xs j).p ≠ 0
  | 0, i, a, b, r, _, j, h1, h2 => by omega
  | k + 1, i, a, b, r, h, j, h1, h2 => by
    simp only [goS] at h
    cases hg : good xs i a b with
    | false => rw [hg] at h; simp at h
    | true =>
      rw [hg] at h
      by_cases hj : j = i
      · subst hj; exact (good_iff.mp hg).2.2.2.1
      · exact go_last xs k (i + 1) _ _ r h j (by omega) (by omega)
theorem wrong_dues {m : M} {j : Nat} (hj : j < m.dues.length) (hz : (ix m.dues j).i + (ix m.dues j).p = 0) : (readM m).2 = false := by
  rw [Bool.eq_false_iff]
  intro hr
  obtain ⟨_, r, hs, _, _, _, h⟩ := right_all hr
  exact go_last _ _ _ _ _ _ hs j (Nat.zero_le _) (by omega) hz
theorem wrong6 (m : M) (k y : Int) (hlen : m.dues.length ≤ 9223372036854775807) : SCall Try.prog 6 [moneyAV m, .int .i64 k, .int .i64 y] [] (Told (.bool true)) := by
  refine scall_of (cfg_ok env9_ok 0) Try.func6 (by kernel_rfl) rfl ?_
  generalize hK : Told _ = K
  have hne : (1000 : Int) ≠ 0 := by decide
  have hne2 : (10 : Int) ≠ 0 := by decide
  conv => whnf
  refine ⟨isDues_m hlen, ?_⟩
  conv => whnf
  refine ⟨fun h1 => ?_, fun h1 => ?_⟩
  · conv => whnf
    subst hK
    exact told_bool rfl
  · have h2 := h1
    rw [m_self] at h2
    have hr : (readM m).2 = true := by
      cases hq : (readM m).2 with
      | true => rfl
      | false => rw [hq] at h2; simp at h2
    rw [hr] at h2
    have h60 : m.dues.length ≤ 60 := by
      have := of_decide_eq_false (show decide ((m.dues.length : Int) > 60) = false from h2)
      omega
    clear h2
    obtain ⟨hf, _, _, _, hc1, hc2, _⟩ := right_all hr
    have hall := fits_all hf
    unfold MX at hall hc1 hc2
    conv => whnf
    refine ⟨hne, ?_⟩
    have hz := rem_bounds y (n := 1000) (by decide)
    generalize (IntKind.u64.wrap y).tmod 1000 = z at hz
    rw [show IntKind.i64.wrap (1 + IntKind.i64.wrap z) = z + 1 by rw [w64 (n := z) (by omega) (by omega), w64 (by omega) (by omega)]; omega]
    conv => whnf
    refine ⟨hne2, ?_⟩
    conv => whnf
    refine ⟨fun q0 => ?_, fun q0 => ?_⟩
    · conv => whnf
      refine ⟨⟨fun _ => isDues_m hlen, fun _ => isDues_m hlen, fun _ => isDues_m hlen, fun _ => isDues_m hlen⟩, ?_⟩
      conv => whnf
      subst hK
      refine told_bool (wrong_end (wrong_num hr (duesOf_self m.dues) fun r => ?_))
      unfold haves owns
      dsimp only
      rw [w64 (by omega) (by omega)]
      omega
    conv => whnf
    refine ⟨fun q1 => ?_, fun q1 => ?_⟩
    · conv => whnf
      refine ⟨⟨fun _ => isDues_m hlen, fun _ => isDues_m hlen, fun _ => isDues_m hlen, fun _ => isDues_m hlen⟩, ?_⟩
      conv => whnf
      subst hK
      refine told_bool (wrong_end (wrong_num hr (duesOf_self m.dues) fun r => ?_))
      unfold haves owns
      dsimp only
      rw [w64 (by omega) (by omega)]
      omega
    conv => whnf
    refine ⟨fun q2 => ?_, fun q2 => ?_⟩
    · conv => whnf
      refine ⟨⟨fun _ => isDues_m hlen, fun _ => isDues_m hlen, fun _ => isDues_m hlen, fun _ => isDues_m hlen⟩, ?_⟩
      conv => whnf
      subst hK
      refine told_bool (wrong_end (wrong_num hr (duesOf_self m.dues) fun r => ?_))
      unfold haves owns
      dsimp only
      rw [w64 (by omega) (by omega)]
      omega
    conv => whnf
    refine ⟨fun q3 => ?_, fun q3 => ?_⟩
    · conv => whnf
      refine ⟨⟨fun _ => isDues_m hlen, fun _ => isDues_m hlen, fun _ => isDues_m hlen, fun _ => isDues_m hlen⟩, ?_⟩
      conv => whnf
      subst hK
      refine told_bool (wrong_end (wrong_num hr (duesOf_self m.dues) fun r => ?_))
      unfold haves owns
      dsimp only
      rw [w64 (by omega) (by omega)]
      omega
    conv => whnf
    refine ⟨fun q4 => ?_, fun q4 => ?_⟩
    · conv => whnf
      refine ⟨⟨fun _ => isDues_m hlen, fun _ => isDues_m hlen, fun _ => isDues_m hlen, fun _ => isDues_m hlen⟩, ?_⟩
      conv => whnf
      subst hK
      refine told_bool (wrong_end (wrong_num hr (duesOf_self m.dues) fun r => ?_))
      unfold haves owns
      dsimp only
      rw [w64 (by omega) (by omega)]
      omega
    conv => whnf
    refine ⟨fun q5 => ?_, fun q5 => ?_⟩
    · conv => whnf
      refine ⟨⟨fun _ => isDues_m hlen, fun _ => isDues_m hlen, fun _ => isDues_m hlen, fun _ => isDues_m hlen⟩, ?_⟩
      conv => whnf
      subst hK
      refine told_bool (wrong_end (wrong_num hr (duesOf_self m.dues) fun r => ?_))
      unfold haves owns
      dsimp only
      rw [w64 (by omega) (by omega)]
      omega
    conv => whnf
    refine ⟨fun q6 => ?_, fun q6 => ?_⟩
    · conv => whnf
      refine ⟨⟨fun _ => isDues_m hlen, fun _ => isDues_m hlen, fun _ => isDues_m hlen, fun _ => isDues_m hlen⟩, ?_⟩
      conv => whnf
      subst hK
      refine told_bool (wrong_end (wrong_num hr (duesOf_self m.dues) fun r => ?_))
      unfold haves owns
      dsimp only
      rw [w64 (by omega) (by omega)]
      omega
    conv => whnf
    refine ⟨fun q7 => ?_, fun q7 => ?_⟩
    · conv => whnf
      refine ⟨⟨fun _ => isDues_m hlen, fun _ => isDues_m hlen, fun _ => isDues_m hlen, fun _ => isDues_m hlen⟩, ?_⟩
      conv => whnf
      subst hK
      refine told_bool (wrong_end (wrong_num hr (duesOf_self m.dues) fun r => ?_))
      unfold haves owns
      dsimp only
      rw [w64 (by omega) (by omega)]
      omega
    conv => whnf
    refine ⟨fun q8 => ?_, fun q8 => ?_⟩
    · conv => whnf
      refine ⟨⟨fun _ => isDues_m hlen, fun _ => isDues_m hlen, fun _ => isDues_m hlen, fun _ => isDues_m hlen⟩, ?_⟩
      conv => whnf
      subst hK
      refine told_bool (wrong_end (wrong_num hr (duesOf_self m.dues) fun r => ?_))
      unfold haves owns
      dsimp only
      rw [w64 (by omega) (by omega)]
      omega
    conv => whnf
    refine ⟨⟨show m.dues.length * 32 ≤ _ by omega, rfl, show (m.dues.length + 1) * 32 ≤ _ by omega, fun i hi => ⟨rfl, rfl⟩⟩, ?_⟩
    conv => whnf
    have hd := app_dues (xs := m.dues) (by omega)
    have hn : 0 + (m.dues.length + 1) ≤ m.dues.length + 1 := by omega
    refine ⟨⟨fun _ => ⟨hn, hd⟩, fun _ => ⟨hn, hd⟩, fun _ => ⟨hn, hd⟩, fun _ => ⟨hn, hd⟩⟩, ?_⟩
    conv => whnf
    subst hK
    refine told_bool (wrong_end (wrong_dues (j := m.dues.length) ?_ ?_))
    · rw [duesOf_length]; omega
    · rw [ix_duesOf (by omega)]
      show (bif decide (0 + m.dues.length < m.dues.length) then (ix m.dues (0 + m.dues.length)).i else 0) + (bif decide (0 + m.dues.length < m.dues.length) then (ix m.dues (0 + m.dues.length)).p else 0) = (0 : Int)
      rw [decide_eq_false (by omega)]
      rfl
end Go.Proofs.Ytepbibbeifbokaa.Sh
