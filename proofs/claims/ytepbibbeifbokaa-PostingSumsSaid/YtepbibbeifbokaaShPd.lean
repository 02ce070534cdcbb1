/- The shadow machine over this program: the law PostingBalanced. -/
import Derived.Test.YtepbibbeifbokaaShPc
namespace Go.Proofs.Ytepbibbeifbokaa.Sh
open Go Go.RowKit
set_option linter.unusedVariables false
set_option linter.unusedSimpArgs false
set_option maxRecDepth 1000000
set_option maxHeartbeats 4000000
/-- What account k is more. -/
def dif (a b : M) (k : Int) : Int := balM b k - balM a k
theorem dif_wrap (a b : M) (k : Int) : IntKind.i64.wrap (balM b k - balM a k) = dif a b k := by
  have h1 := balM_bound a k
  have h2 := balM_bound b k
  exact w64 (by omega) (by omega)
theorem dif_bound (a b : M) (k : Int) : -2000000000000000 ≤ dif a b k ∧ dif a b k ≤ 2000000000000000 := by
  have h1 := balM_bound a k
  have h2 := balM_bound b k
  unfold dif
  omega
theorem betL_step (a b : M) (k : Nat) : betL a b (k + 1) = if dif a b ((k + 1 : Nat) : Int) = 0 then betL a b k else betL a b k ++ [⟨((k + 1 : Nat) : Int), dif a b ((k + 1 : Nat) : Int)⟩] := by
  rw [betL, dif_wrap]
  by_cases h : dif a b ((k + 1 : Nat) : Int) = 0
  · rw [if_pos h, h]; rfl
  · rw [if_neg h, show (dif a b ((k + 1 : Nat) : Int) == 0) = false by simpa using h]; rfl
theorem dif_neg (a b : M) (k : Int) : dif b a k = - dif a b k := by unfold dif; omega
theorem betL_neg (a b : M) : ∀ k, betL b a k = (betL a b k).map fun p => ⟨p.a, -p.m⟩
  | 0 => rfl
  | k + 1 => by
    rw [betL_step, betL_step, dif_neg a b, betL_neg a b k]
    by_cases h : dif a b ((k + 1 : Nat) : Int) = 0
    · rw [if_pos h, if_pos (by omega)]
    · rw [if_neg h, if_neg (by omega)]
      simp
theorem betL_mem (a b : M) : ∀ k, ∀ p ∈ betL a b k, p.m = dif a b p.a ∧ p.m ≠ 0 ∧ 1 ≤ p.a ∧ p.a ≤ k
  | 0, p, h => by simp [betL] at h
  | k + 1, p, h => by
    rw [betL_step] at h
    by_cases h0 : dif a b ((k + 1 : Nat) : Int) = 0
    · rw [if_pos h0] at h
      obtain ⟨h1, h2, h3, h4⟩ := betL_mem a b k p h
      exact ⟨h1, h2, h3, by omega⟩
    · rw [if_neg h0] at h
      rcases List.mem_append.mp h with h | h
      · obtain ⟨h1, h2, h3, h4⟩ := betL_mem a b k p h
        exact ⟨h1, h2, h3, by omega⟩
      · simp only [List.mem_singleton] at h
        subst h
        exact ⟨rfl, h0, by show (1 : Int) ≤ ((k + 1 : Nat) : Int); omega, Int.le_refl _⟩
theorem ixp_mem {L : List P} {i : Nat} (h : i < L.length) : ixp L i ∈ L := by
  unfold ixp
  rw [List.getD_eq_getElem?_getD, List.getElem?_eq_getElem h]
  exact List.getElem_mem h
theorem betL_up (a b : M) : ∀ k i, i + 1 < (betL a b k).length → (ixp (betL a b k) i).a < (ixp (betL a b k) (i + 1)).a
  | 0, i, h => by simp [betL] at h
  | k + 1, i, h => by
    rw [betL_step] at h ⊢
    by_cases h0 : dif a b ((k + 1 : Nat) : Int) = 0
    · rw [if_pos h0] at h ⊢
      exact betL_up a b k i h
    · rw [if_neg h0] at h ⊢
      rw [List.length_append, List.length_singleton] at h
      rw [ixp_app _ _ (by omega), ixp_app _ _ (by omega), if_pos (by omega)]
      by_cases h1 : i + 1 < (betL a b k).length
      · rw [if_pos h1]
        exact betL_up a b k i h1
      · rw [if_neg h1]
        have := (betL_mem a b k _ (ixp_mem (L := betL a b k) (i := i) (by omega))).2.2.2
        show (ixp (betL a b k) i).a < ((k + 1 : Nat) : Int)
        omega
def totP : List P → Int
  | [] => 0
  | p :: r => p.m + totP r
theorem totP_app (L L' : List P) : totP (L ++ L') = totP L + totP L' := by
  induction L with
  | nil => simp [totP]
  | cons p r ih => simp [totP, ih]; omega
theorem betL_tot (a b : M) : ∀ k, totP (betL a b k) = bsum b (k + 1) - bsum a (k + 1)
  | 0 => by simp [betL, totP, bsum]
  | k + 1 => by
    rw [betL_step]
    have e : ∀ m : M, bsum m (k + 1 + 1) = bsum m (k + 1) + balM m ((k + 1 : Nat) : Int) := fun m => rfl
    rw [e, e]
    have ih := betL_tot a b k
    by_cases h0 : dif a b ((k + 1 : Nat) : Int) = 0
    · rw [if_pos h0]
      unfold dif at h0
      omega
    · rw [if_neg h0, totP_app]
      simp only [totP]
      unfold dif
      omega
theorem sumG_tot (xs : List P) : ∀ k i n r, i + k = xs.length → sumG xs k i n = some r → r = n + totP (xs.drop i)
  | 0, i, n, r, hi, h => by
    simp only [sumG, Option.some.injEq] at h
    rw [List.drop_eq_nil_of_le (by omega)]
    simp [totP, h]
  | k + 1, i, n, r, hi, h => by
    simp only [sumG] at h
    cases hc : (may2 (ixp xs i).m && may2 (n + (ixp xs i).m)) with
    | false => rw [hc] at h; simp at h
    | true =>
      rw [hc, cond_true] at h
      have := sumG_tot xs k (i + 1) _ r (by omega) h
      rw [this]
      have hlt : i < xs.length := by omega
      rw [List.drop_eq_getElem_cons hlt]
      simp only [totP]
      have : ixp xs i = xs[i] := by simp [ixp, List.getD_eq_getElem?_getD, List.getElem?_eq_getElem hlt]
      rw [this]
      omega
theorem sumP_tot {xs : List P} {r : Int} (h : sumP xs = some r) : r = totP xs := by
  have := sumG_tot xs xs.length 0 0 r (by omega) h
  simpa using this
theorem bet_sum {a b : M} {r : Int} (h : sumP (bet a b) = some r) : r = 0 := by
  rw [sumP_tot h]
  unfold bet
  cases both a b with
  | false => rfl
  | true =>
    rw [cond_true, betL_tot, bsum_all, bsum_all]
    rfl
theorem both_comm (a b : M) : both b a = both a b := by unfold both; exact Bool.and_comm _ _
theorem bet_neg (a b : M) : bet b a = (bet a b).map fun p => ⟨p.a, -p.m⟩ := by
  unfold bet
  rw [both_comm]
  cases both a b with
  | false => rfl
  | true => exact betL_neg a b 11
theorem bet_len2 (a b : M) : (bet b a).length = (bet a b).length := by rw [bet_neg a b]; simp
theorem bet_at {a b : M} {i : Nat} (hi : i < (bet a b).length) : ixp (bet b a) i = ⟨(ixp (bet a b) i).a, -(ixp (bet a b) i).m⟩ ∧ (ixp (bet a b) i).m = dif a b (ixp (bet a b) i).a ∧ (ixp (bet a b) i).m ≠ 0 ∧ (0 < i → (ixp (bet a b) (i - 1)).a < (ixp (bet a b) i).a) := by
  have hb : both a b = true := by
    cases h : both a b with
    | true => rfl
    | false => unfold bet at hi; rw [h] at hi; simp at hi
  have e : bet a b = betL a b 11 := by unfold bet; rw [hb]; rfl
  refine ⟨?_, ?_⟩
  · rw [bet_neg a b]
    unfold ixp
    rw [List.getD_eq_getElem?_getD, List.getD_eq_getElem?_getD, List.getElem?_map, List.getElem?_eq_getElem hi]
    rfl
  · rw [e] at hi ⊢
    obtain ⟨h1, h2, _⟩ := betL_mem a b 11 _ (ixp_mem hi)
    refine ⟨h1, h2, fun h0 => ?_⟩
    obtain ⟨j, rfl⟩ : ∃ j, i = j + 1 := ⟨i - 1, by omega⟩
    exact betL_up a b 11 j hi
theorem bet_length (a b : M) : (bet a b).length ≤ 11 := by
  unfold bet
  cases both a b with
  | false => simp
  | true => exact betL_len a b 11
theorem or4_false {x y : Bool} {p q : Prop} {_ : Decidable p} {_ : Decidable q} (h : (bif bif bif !x then true else !y then true else decide p then true else decide q) = false) : (x && y) = true ∧ ¬ p ∧ ¬ q := by
  cases x <;> cases y <;> by_cases hp : p <;> by_cases hq : q <;> simp_all
theorem balanced8 (a b : M) (hla : a.dues.length ≤ 9223372036854775807) (hlb : b.dues.length ≤ 9223372036854775807) : SCall Try.prog 8 [moneyAV a, moneyAV b] [] (Told (.bool true)) := by
  refine scall_of (cfg_ok envP3_ok 0) Try.func8 (by kernel_rfl) rfl ?_
  generalize hK : Told _ = K
  conv => whnf
  refine ⟨⟨isDues_m hla, fun _ => isDues_m hlb⟩, ?_⟩
  rw [duesOf_self, duesOf_self]
  conv => whnf
  refine ⟨fun h1 => ?_, fun h1 => ?_⟩
  · conv => whnf
    subst hK
    exact told_bool rfl
  · have h2 : both a b = true := (or4_false h1).1
    clear h1
    conv => whnf
    refine ⟨⟨isDues_m hla, isDues_m hlb⟩, ?_⟩
    rw [m_self, m_self]
    conv => whnf
    refine ⟨⟨isDues_m hlb, isDues_m hla⟩, ?_⟩
    rw [m_self, m_self]
    conv => whnf
    have hl := bet_length a b
    have hl2 := bet_len2 a b
    refine ⟨isPosts_self (by omega), ?_⟩
    have h2' : both b a = true := by rw [both_comm]; exact h2
    rw [postsOf_self, h2, h2']
    have hS : ∀ r, sumP (bet a b) = some r → r = 0 := fun r h => bet_sum h
    have hAt : ∀ i, i < (bet a b).length → ixp (bet b a) i = ⟨(ixp (bet a b) i).a, -(ixp (bet a b) i).m⟩ ∧ (ixp (bet a b) i).m = dif a b (ixp (bet a b) i).a ∧ (ixp (bet a b) i).m ≠ 0 ∧ (0 < i → (ixp (bet a b) (i - 1)).a < (ixp (bet a b) i).a) := fun i hi => bet_at hi
    generalize sumP (bet a b) = S at hS
    generalize bet a b = A at hl hl2 hAt
    generalize bet b a = B at hl2 hAt
    conv => whnf
    refine ⟨fun h3 => ?_, fun h3 => ?_⟩
    · exfalso
      rw [hl2] at h3
      cases S with
      | none => simp at h3
      | some r => rw [hS r rfl] at h3; simp at h3
    · clear h3
      conv => whnf
      refine ⟨[], [2, 3, 5, 7, 10, 11], 2, fun q s => ∃ i : Nat, q = A.length - i ∧ i ≤ A.length ∧ s = ⟨.top :: .top :: .ptr 0 1 1 0 0 :: .ptr 1 1 1 0 0 :: .top :: .ro 2 A.length none (postRow A) :: .top :: .ro 2 B.length none (postRow B) :: .top :: .top :: .int .i64 (bif S.isSome then 0 else 3) :: .int .i64 i :: List.replicate 149 .top, [.lit 1 [.int .i64 a.pri, .int .i64 a.acc, duesAV a.dues, .int .i64 a.pen, .int .i64 a.fee, .int .i64 a.una, .int .i64 a.cash, .int .i64 a.ear, .int .i64 a.fin, .int .i64 a.cha], .lit 1 [.int .i64 b.pri, .int .i64 b.acc, duesAV b.dues, .int .i64 b.pen, .int .i64 b.fee, .int .i64 b.una, .int .i64 b.cash, .int .i64 b.ear, .int .i64 b.fin, .int .i64 b.cha]]⟩, Nat.zero_le _, ⟨_, _, ?_, 0, rfl, Nat.zero_le _, rfl⟩, ?_⟩
      · exact ⟨rfl, rfl, fun o ho => match o, ho with | 0, _ => rfl | 1, _ => rfl⟩
      · rintro q s ⟨i, rfl, hi, rfl⟩
        conv => whnf
        refine ⟨fun h4 => ?_, fun h4 => ?_⟩
        · have hlt : i < A.length := by have := of_decide_eq_true h4; omega
          have wi : IntKind.i64.wrap ((i : Int) + 1) = ((i + 1 : Nat) : Int) := by rw [w64 (by omega) (by omega)]; rfl
          have hA : 0 ≤ (i : Int) ∧ (i : Int) < A.length := by omega
          have hB : 0 ≤ (i : Int) ∧ (i : Int) < B.length := by omega
          have ei : ((i : Int)).toNat = i := Int.toNat_natCast i
          conv => whnf
          refine ⟨[], by kernel_rfl, ?_⟩
          conv => whnf
          have hpos : (decide ((i : Int) > 0) = true) → 0 ≤ IntKind.i64.wrap ((i : Int) - 1) ∧ IntKind.i64.wrap ((i : Int) - 1) < A.length := fun h => by
            have := of_decide_eq_true h
            rw [w64 (by omega) (by omega)]
            omega
          refine ⟨⟨hA, hB, fun _ => hA, fun _ => hB, fun _ => hA, fun _ => hA, fun _ => hA, fun _ => isDues_m hlb, fun _ => hA, fun _ => isDues_m hla, fun _ _ => hA, fun _ h => hpos h⟩, ?_⟩
          rw [m_self, m_self, ei]
          conv => whnf
          refine ⟨fun h => ?_, fun h => ?_⟩
          · exfalso
            obtain ⟨e1, e2, e3, e4⟩ := hAt i hlt
            have hd := dif_bound a b (ixp A i).a
            have hlast : (bif decide ((i : Int) > 0) then decide ((ixp A i).a ≤ (ixp A (IntKind.i64.wrap ((i : Int) - 1)).toNat).a) else false) = false := by
              by_cases h0 : (i : Int) > 0
              · rw [decide_eq_true h0, cond_true, w64 (by omega) (by omega), show ((i : Int) - 1).toNat = i - 1 by omega]
                have := e4 (by omega)
                exact decide_eq_false (by omega)
              · rw [decide_eq_false h0]; rfl
            rw [hlast, dif_wrap, e1] at h
            dsimp only at h
            rw [show IntKind.i64.wrap (0 - -(ixp A i).m) = (ixp A i).m by rw [w64 (by omega) (by omega)]; omega, ← e2] at h
            simp [e3] at h
          · conv => whnf
            refine ⟨A.length - (i + 1), _, by omega, ?_, i + 1, rfl, by omega, rfl⟩
            rw [← wi]
            exact ⟨rfl, rfl, fun o ho => match o, ho with | 0, _ => rfl | 1, _ => rfl⟩
        · conv => whnf
          subst hK
          exact told_bool (by cases S <;> rfl)
end Go.Proofs.Ytepbibbeifbokaa.Sh
