/- The shadow machine over this program: the law WaterfallOldest. -/
import Derived.Test.YtepbibbeifbokaaShXg
namespace Go.Proofs.Ytepbibbeifbokaa.Sh
open Go Go.RowKit
set_option linter.unusedVariables false
set_option linter.unusedSimpArgs false
set_option maxRecDepth 1000000
set_option maxHeartbeats 4000000
theorem keepF_rest (f : Nat → D) (i : Nat) : ∀ k, ∃ R : List D, keepF f (i + k) = keepF f i ++ R ∧ ∀ d ∈ R, ∃ j, i ≤ j ∧ j < i + k ∧ d = f j
  | 0 => ⟨[], by simp, by simp⟩
  | k + 1 => by
    obtain ⟨R, h1, h2⟩ := keepF_rest f i k
    rw [show i + (k + 1) = (i + k) + 1 by omega, keepF_next]
    cases zD (f (i + k)) with
    | true => exact ⟨R, h1, fun d hd => let ⟨j, a, b, c⟩ := h2 d hd; ⟨j, a, by omega, c⟩⟩
    | false =>
      refine ⟨R ++ [f (i + k)], by rw [cond_false, h1]; simp, fun d hd => ?_⟩
      rcases List.mem_append.mp hd with h | h
      · obtain ⟨j, a, b, c⟩ := h2 d h
        exact ⟨j, a, by omega, c⟩
      · simp only [List.mem_singleton] at h
        exact ⟨i + k, by omega, by omega, h⟩
/-- The i-th stays: it stands behind those that stayed ahead of it. -/
theorem keep_at (f : Nat → D) {n i : Nat} (hi : i < n) (hz : zD (f i) = false) : (keepF f i).length < (keepF f n).length ∧ ix (keepF f n) (keepF f i).length = f i ∧ (keepF f (i + 1)).length = (keepF f i).length + 1 := by
  obtain ⟨R, h1, _⟩ := keepF_rest f (i + 1) (n - (i + 1))
  rw [show i + 1 + (n - (i + 1)) = n by omega, keepF_next, hz, cond_false] at h1
  refine ⟨by rw [h1, List.length_append, List.length_append, List.length_singleton]; omega, ?_, by rw [keepF_next, hz, cond_false]; simp⟩
  rw [h1]
  simp [ix, List.getD_eq_getElem?_getD, List.getElem?_append]
/-- The i-th goes: what stands there is of a later one. -/
theorem keep_gone (f : Nat → D) {n i : Nat} (hi : i < n) (hz : zD (f i) = true) : (keepF f (i + 1)).length = (keepF f i).length ∧ ((keepF f i).length < (keepF f n).length → ∃ j, i < j ∧ j < n ∧ ix (keepF f n) (keepF f i).length = f j) := by
  obtain ⟨R, h1, h2⟩ := keepF_rest f (i + 1) (n - (i + 1))
  rw [show i + 1 + (n - (i + 1)) = n by omega, keepF_next, hz, cond_true] at h1
  refine ⟨by rw [keepF_next, hz, cond_true], fun hl => ?_⟩
  rw [h1, List.length_append] at hl
  have hR : 0 < R.length := by omega
  obtain ⟨j, a, b, c⟩ := h2 R[0] (List.getElem_mem hR)
  refine ⟨j, by omega, by omega, ?_⟩
  rw [h1, ← c]
  simp [ix, List.getD_eq_getElem?_getD, List.getElem?_append, hR]
theorem cond_old {a b : Int} {sa sb : Bool} {_ : Decidable (a < 0)} {_ : Decidable (b < 0)} {_ : Decidable (a > 0)} {_ : Decidable (b > 0)} (h0 : 0 ≤ a) (h1 : 0 ≤ b) (h2 : sa = true → a = 0) (h3 : sb = true → b = 0) : (bif bif bif decide (a < 0) then true else decide (b < 0) then true else bif sa then decide (a > 0) else false then true else bif sb then decide (b > 0) else false) = false := by
  rw [decide_eq_false (by omega : ¬ a < 0), decide_eq_false (by omega : ¬ b < 0)]
  cases sa with
  | true =>
    rw [decide_eq_false (by have := h2 rfl; omega : ¬ a > 0)]
    cases sb with
    | true => rw [decide_eq_false (by have := h3 rfl; omega : ¬ b > 0)]; rfl
    | false => rfl
  | false =>
    cases sb with
    | true => rw [decide_eq_false (by have := h3 rfl; omega : ¬ b > 0)]; rfl
    | false => rfl
theorem minI_zero {x y : Int} (hx : 0 ≤ x) (hy : y = 0) : minI x y = 0 := by
  subst hy
  unfold minI
  split <;> omega
theorem minI_rest {x y : Int} (hx : 0 ≤ x) (hy : 0 ≤ y) (h : 0 < x - minI x y) : y - minI x y = 0 := by
  unfold minI at *
  split at h <;> rename_i hc
  · rw [if_pos hc]; omega
  · omega
theorem oldest15 (m : M) (o : O) (n : Int) (hlen : m.dues.length ≤ 9223372036854775807) : SCall Try.prog 15 [moneyAV m, orderAV o, .int .i64 n] [] (Told (.bool true)) := by
  refine scall_of (cfg_ok envX3_ok 0) Try.func15 (by kernel_rfl) rfl ?_
  generalize hK : Told _ = K
  have hd := isDues_m hlen
  have hoe : (⟨o.a, o.b, o.c, o.d⟩ : O) = o := rfl
  have hne : (1000000000000001 : Int) ≠ 0 := by decide
  conv => whnf
  refine ⟨hd, ?_⟩
  rw [m_self]
  conv => whnf
  refine ⟨fun h1 => ?_, fun h1 => ?_⟩
  · conv => whnf
    subst hK
    exact told_bool rfl
  · obtain ⟨hr, hok, h60⟩ := or3_false (x := (readM m).2) (y := okO o) h1
    clear h1
    have hl1000 : (duesOf m.dues.length (dueRow m.dues)).length ≤ 1000 := by rw [duesOf_length]; omega
    conv => whnf
    refine ⟨hne, ?_⟩
    have hz := rem_boundsW n (n := 1000000000000001) (by decide)
    generalize (IntKind.u64.wrap n).tmod 1000000000000001 = z at hz
    rw [show IntKind.i64.wrap z = z from w64 (by omega) (by omega)]
    have hz' : 0 ≤ z ∧ z ≤ MX := by unfold MX; omega
    conv => whnf
    refine ⟨⟨hd, hl1000⟩, ?_⟩
    rw [m_self, hoe]
    by_cases hc : m.cash + (z - (spl m o z).2) ≤ MX
    · obtain ⟨ha1, ha2, _⟩ := apply_right hr hok hz' hc
      simp only [ha1]
      conv => whnf
      refine ⟨fun h => absurd h (by decide), fun _ => ?_⟩
      have hal := aft_len m o z
      conv => whnf
      refine ⟨isDues_m (m := aft m o z) (by omega), ?_⟩
      rw [m_self, ha2]
      conv => whnf
      refine ⟨fun h => ?_, fun _ => ?_⟩
      · exfalso
        have h' : (bif !true then true else decide (((aft m o z).dues.length : Int) > (m.dues.length : Int))) = true := h
        rw [decide_eq_false (by omega)] at h'
        exact absurd h' (by decide)
      · obtain ⟨A, B, hrm, _, _, _, _, _, _, hs2, hs3, _, _⟩ := right_aft hr hok hz'
        obtain ⟨hdi, _, _, _⟩ := right_in hr
        have hi2 : inMX ((spl m o z).1 2) := (spl_in (m := m) hok hz' (c := 2) (by decide)).1
        have hi3 : inMX ((spl m o z).1 3) := (spl_in (m := m) hok hz' (c := 3) (by decide)).1
        have hks : (aft m o z).dues = keepF (paidD m.dues ((spl m o z).1 2) ((spl m o z).1 3)) m.dues.length := rfl
        have hpw : m.dues.Pairwise before := by
          obtain ⟨_, r, hs, _, _, _, _⟩ := right_all hr
          exact (sums_iff.mp hs).2.1
        have hup : ∀ i j, i < j → j < m.dues.length → (ix m.dues i).n ≠ (ix m.dues j).n := fun i j hij hj => by
          have hi' : i < m.dues.length := by omega
          have := List.pairwise_iff_getElem.mp hpw i j hi' hj hij
          rw [show ix m.dues i = m.dues[i] by simp [ix, List.getD_eq_getElem?_getD, List.getElem?_eq_getElem hi'], show ix m.dues j = m.dues[j] by simp [ix, List.getD_eq_getElem?_getD, List.getElem?_eq_getElem hj]]
          have := this.1
          omega
        generalize hf : paidD m.dues ((spl m o z).1 2) ((spl m o z).1 3) = f at hks
        generalize ((spl m o z).1 2) = a at hf hi2
        generalize ((spl m o z).1 3) = b at hf hi3
        have hfi : ∀ i, f i = ⟨(ix m.dues i).n, (ix m.dues i).day, (ix m.dues i).i - minI (ix m.dues i).i (pa m.dues a i), (ix m.dues i).p - minI (ix m.dues i).p (pb m.dues b i)⟩ := fun i => by rw [← hf]; rfl
        conv => whnf
        refine ⟨[], [3, 7, 10, 11, 12, 13], 3, fun q st => ∃ (i : Nat) (sa sb : Bool), q = m.dues.length - i ∧ i ≤ m.dues.length ∧ (sa = true → pa m.dues a i = 0) ∧ (sb = true → pb m.dues b i = 0) ∧ st = ⟨.top :: .top :: .top :: .ptr 0 1 1 0 0 :: .top :: .top :: .top :: .ptr 2 1 1 0 0 :: .top :: .top :: .bool sa :: .bool sb :: .int .i64 ((keepF f i).length : Int) :: .int .i64 (i : Int) :: List.replicate 143 .top, [.lit 1 [.int .i64 m.pri, .int .i64 m.acc, duesAV m.dues, .int .i64 m.pen, .int .i64 m.fee, .int .i64 m.una, .int .i64 m.cash, .int .i64 m.ear, .int .i64 m.fin, .int .i64 m.cha], .lit 1 [.int .i64 o.a, .int .i64 o.b, .int .i64 o.c, .int .i64 o.d], .lit 1 [.int .i64 (aft m o z).pri, .int .i64 (aft m o z).acc, duesAV (aft m o z).dues, .int .i64 (aft m o z).pen, .int .i64 (aft m o z).fee, .int .i64 (aft m o z).una, .int .i64 (aft m o z).cash, .int .i64 (aft m o z).ear, .int .i64 (aft m o z).fin, .int .i64 (aft m o z).cha]]⟩, Nat.zero_le _, ⟨_, _, ?_, 0, false, false, rfl, Nat.zero_le _, (fun h => by cases h), (fun h => by cases h), rfl⟩, ?_⟩
        · exact ⟨rfl, rfl, fun o ho => match o, ho with | 0, _ => rfl | 1, _ => rfl | 2, _ => rfl⟩
        · rintro q st ⟨i, sa, sb, rfl, hi, hsa, hsb, rfl⟩
          conv => whnf
          refine ⟨fun h2 => ?_, fun h2 => ?_⟩
          · have hlt : i < m.dues.length := by have := of_decide_eq_true h2; omega
            have wi : IntKind.i64.wrap ((i : Int) + 1) = ((i + 1 : Nat) : Int) := by rw [w64 (by omega) (by omega)]; rfl
            have ei : ((i : Int)).toNat = i := Int.toNat_natCast i
            have ek : (((keepF f i).length : Int)).toNat = (keepF f i).length := Int.toNat_natCast _
            have hkl := keepF_len f i
            have wk : IntKind.i64.wrap (((keepF f i).length : Int) + 1) = (((keepF f i).length + 1 : Nat) : Int) := by rw [w64 (by omega) (by omega)]; rfl
            have hI : 0 ≤ (i : Int) ∧ (i : Int) < m.dues.length := by omega
            have hdd := hdi i hlt
            have pA := pa_in hdi hi2 i hi
            have pB := pb_in hdi hi3 i hi
            have mA := minI_le hdd.1.1 pA.1
            have mB := minI_le hdd.2.1 pB.1
            have nA : sa = true → minI (ix m.dues i).i (pa m.dues a i) = 0 := fun h => minI_zero hdd.1.1 (hsa h)
            have nB : sb = true → minI (ix m.dues i).p (pb m.dues b i) = 0 := fun h => minI_zero hdd.2.1 (hsb h)
            have hcond : (bif bif bif decide (minI (ix m.dues i).i (pa m.dues a i) < 0) then true else decide (minI (ix m.dues i).p (pb m.dues b i) < 0) then true else bif sa then decide (minI (ix m.dues i).i (pa m.dues a i) > 0) else false then true else bif sb then decide (minI (ix m.dues i).p (pb m.dues b i) > 0) else false) = false := cond_old mA.1 mB.1 nA nB
            conv => whnf
            refine ⟨[], by kernel_rfl, ?_⟩
            conv => whnf
            refine ⟨⟨fun h => (by have := of_decide_eq_true h; omega : (0 : Int) ≤ ((keepF f i).length : Int) ∧ ((keepF f i).length : Int) < ((aft m o z).dues.length : Int)), fun _ => hI⟩, ?_⟩
            rw [ei, ek]
            conv => whnf
            refine ⟨fun h3 => ?_, fun h3 => ?_⟩
            · have h3' : (bif decide (((keepF f i).length : Int) < ((aft m o z).dues.length : Int)) then (ix (aft m o z).dues (keepF f i).length).n == (ix m.dues i).n else false) = true := h3
              have hkk : (keepF f i).length < (aft m o z).dues.length := by
                by_cases hh : ((keepF f i).length : Int) < ((aft m o z).dues.length : Int)
                · omega
                · rw [decide_eq_false hh] at h3'; cases h3'
              rw [decide_eq_true (by omega), cond_true] at h3'
              have hnn : (ix (aft m o z).dues (keepF f i).length).n = (ix m.dues i).n := by simpa using h3'
              have hzf : zD (f i) = false := by
                cases hq : zD (f i) with
                | false => rfl
                | true =>
                  exfalso
                  obtain ⟨j, j1, j2, j3⟩ := (keep_gone f hlt hq).2 (by rw [← hks]; exact hkk)
                  rw [← hks] at j3
                  rw [j3, hfi j] at hnn
                  exact hup i j j1 j2 hnn.symm
              obtain ⟨_, k2, k3⟩ := keep_at f hlt hzf
              rw [← hks] at k2
              conv => whnf
              rw [ek]
              refine ⟨⟨by omega, by omega⟩, ?_⟩
              rw [k2]
              conv => whnf
              refine ⟨[], by kernel_rfl, ?_⟩
              conv => whnf
              rw [ei]
              refine ⟨⟨hI, hI⟩, ?_⟩
              rw [show IntKind.i64.wrap ((ix m.dues i).i - (f i).i) = minI (ix m.dues i).i (pa m.dues a i) by rw [hfi i]; unfold inMX MX at *; dsimp only; rw [w64 (by omega) (by omega)]; omega, show IntKind.i64.wrap ((ix m.dues i).p - (f i).p) = minI (ix m.dues i).p (pb m.dues b i) by rw [hfi i]; unfold inMX MX at *; dsimp only; rw [w64 (by omega) (by omega)]; omega]
              conv => whnf
              refine ⟨fun h4 => ?_, fun _ => ?_⟩
              · have := hcond.symm.trans h4
                cases this
              · conv => whnf
                refine ⟨[], by kernel_rfl, ?_⟩
                conv => whnf
                refine ⟨m.dues.length - (i + 1), _, by omega, ?_, i + 1, (bif sa then true else decide ((f i).i > 0)), (bif sb then true else decide ((f i).p > 0)), rfl, hlt, fun h => ?_, fun h => ?_, rfl⟩
                · rw [k3, ← wi, ← wk]
                  exact ⟨rfl, rfl, fun o ho => match o, ho with | 0, _ => rfl | 1, _ => rfl | 2, _ => rfl⟩
                · have hfi' : (f i).i = (ix m.dues i).i - minI (ix m.dues i).i (pa m.dues a i) := by rw [hfi i]
                  show pa m.dues a i - minI (ix m.dues i).i (pa m.dues a i) = 0
                  cases hsq : sa with
                  | true => have := hsa hsq; have := nA hsq; omega
                  | false =>
                    rw [hsq, cond_false] at h
                    have := of_decide_eq_true h
                    exact minI_rest hdd.1.1 pA.1 (by omega)
                · have hfi' : (f i).p = (ix m.dues i).p - minI (ix m.dues i).p (pb m.dues b i) := by rw [hfi i]
                  show pb m.dues b i - minI (ix m.dues i).p (pb m.dues b i) = 0
                  cases hsq : sb with
                  | true => have := hsb hsq; have := nB hsq; omega
                  | false =>
                    rw [hsq, cond_false] at h
                    have := of_decide_eq_true h
                    exact minI_rest hdd.2.1 pB.1 (by omega)
            · have h3' : (bif decide (((keepF f i).length : Int) < ((aft m o z).dues.length : Int)) then (ix (aft m o z).dues (keepF f i).length).n == (ix m.dues i).n else false) = false := h3
              have hzt : zD (f i) = true := by
                cases hq : zD (f i) with
                | true => rfl
                | false =>
                  exfalso
                  obtain ⟨k1, k2, k3⟩ := keep_at f hlt hq
                  rw [← hks] at k1 k2
                  rw [decide_eq_true (by omega), cond_true, k2, hfi i] at h3'
                  simp at h3'
              have k3 := (keep_gone f hlt hzt).1
              have hz0 := zD_zero hzt
              have e1 : (ix m.dues i).i - minI (ix m.dues i).i (pa m.dues a i) = 0 := by have := hz0.1; rw [hfi i] at this; exact this
              have e2 : (ix m.dues i).p - minI (ix m.dues i).p (pb m.dues b i) = 0 := by have := hz0.2; rw [hfi i] at this; exact this
              conv => whnf
              refine ⟨[], by kernel_rfl, ?_⟩
              conv => whnf
              rw [ei]
              refine ⟨⟨hI, hI⟩, ?_⟩
              rw [show IntKind.i64.wrap ((ix m.dues i).i - 0) = minI (ix m.dues i).i (pa m.dues a i) by unfold inMX MX at *; rw [w64 (by omega) (by omega)]; omega, show IntKind.i64.wrap ((ix m.dues i).p - 0) = minI (ix m.dues i).p (pb m.dues b i) by unfold inMX MX at *; rw [w64 (by omega) (by omega)]; omega]
              conv => whnf
              refine ⟨fun h4 => ?_, fun _ => ?_⟩
              · have := hcond.symm.trans h4
                cases this
              · conv => whnf
                refine ⟨[], by kernel_rfl, ?_⟩
                conv => whnf
                refine ⟨m.dues.length - (i + 1), _, by omega, ?_, i + 1, (bif sa then true else decide ((0 : Int) > 0)), (bif sb then true else decide ((0 : Int) > 0)), rfl, hlt, fun h => ?_, fun h => ?_, rfl⟩
                · rw [k3, ← wi]
                  exact ⟨rfl, rfl, fun o ho => match o, ho with | 0, _ => rfl | 1, _ => rfl | 2, _ => rfl⟩
                · show pa m.dues a i - minI (ix m.dues i).i (pa m.dues a i) = 0
                  cases hsq : sa with
                  | true => have := hsa hsq; have := nA hsq; omega
                  | false => rw [hsq] at h; exact absurd h (by decide)
                · show pb m.dues b i - minI (ix m.dues i).p (pb m.dues b i) = 0
                  cases hsq : sb with
                  | true => have := hsb hsq; have := nB hsq; omega
                  | false => rw [hsq] at h; exact absurd h (by decide)
          · have he : i = m.dues.length := by have := of_decide_eq_false h2; omega
            subst he
            conv => whnf
            subst hK
            exact told_bool (by rw [hks]; simp)
    · simp only [apply_wrong hr hok hz' hc]
      conv => whnf
      refine ⟨fun _ => ?_, fun h => absurd h (by decide)⟩
      conv => whnf
      subst hK
      exact told_bool rfl
end Go.Proofs.Ytepbibbeifbokaa.Sh
