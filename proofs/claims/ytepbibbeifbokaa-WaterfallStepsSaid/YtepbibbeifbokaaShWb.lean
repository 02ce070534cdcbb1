/- The shadow machine over this program: whether money, an order and an amount may be. -/
import Derived.Test.YtepbibbeifbokaaShWa
namespace Go.Proofs.Ytepbibbeifbokaa.Sh
open Go Go.RowKit
set_option linter.unusedVariables false
set_option linter.unusedSimpArgs false
set_option maxRecDepth 1000000
set_option maxHeartbeats 4000000
def goOk : List Int → (Nat → Bool) → Bool
  | [], _ => true
  | k :: r, sn => bif bif bif decide (k < 1) then true else decide (k > 4) then true else sn k.toNat then false else goOk r fun c => bif k.toNat == c then true else sn c
def restO (o : O) : Nat → List Int
  | 0 => [o.a, o.b, o.c, o.d]
  | 1 => [o.b, o.c, o.d]
  | 2 => [o.c, o.d]
  | 3 => [o.d]
  | _ => []
theorem rest_next (o : O) {i : Nat} (h : i < 4) : restO o i = o.at i :: restO o (i + 1) :=
  match i, h with
  | 0, _ => rfl
  | 1, _ => rfl
  | 2, _ => rfl
  | 3, _ => rfl
def validO (o : O) : Bool := goOk (restO o 0) fun _ => false
def mayW (m : M) (o : O) (n : Int) : Bool := validO o && (may n && (readM m).2)
theorem chain5 {sn : Nat → Bool} {q : Nat} (h : q < 5) : (bif q == 0 then sn 0 else bif q - 1 == 0 then sn 1 else bif q - 1 - 1 == 0 then sn 2 else bif q - 1 - 1 - 1 == 0 then sn 3 else sn 4) = sn q :=
  match q, h with
  | 0, _ => rfl
  | 1, _ => rfl
  | 2, _ => rfl
  | 3, _ => rfl
  | 4, _ => rfl
def mowQ (r : M → O → Int → AV) : QSpec := fun vs => match vs with
  | [v, .agg [.int .i64 a, .int .i64 b, .int .i64 c, .int .i64 d], .int .i64 n] => match mOf v with
    | some (p, m) => some ([p], r m ⟨a, b, c, d⟩ n)
    | none => none
  | _ => none
theorem mowQ_of {f : FuncId} {r : M → O → Int → AV} (H : ∀ (m : M) (o : O) (n : Int), m.dues.length ≤ 9223372036854775807 → SCall Try.prog f [moneyAV m, orderAV o, .int .i64 n] [] (Told (r m o n))) : ∀ vs ob q, mowQ r vs = some (ob, q) → conj ob → SCall Try.prog f vs [] (Told q) := by
  intro vs ob q h hob
  unfold mowQ at h
  split at h
  · rename_i v a b c d n
    split at h
    · rename_i p m hm
      simp only [Option.some.injEq, Prod.mk.injEq] at h
      obtain ⟨rfl, rfl⟩ := h
      obtain ⟨hw, hlen⟩ := mOf_wk hm hob
      exact SCall.weaken (us := [moneyAV m, orderAV ⟨a, b, c, d⟩, .int .i64 n]) (H m ⟨a, b, c, d⟩ n hlen) rfl fun i hi => match i, hi with | 0, _ => hw | 1, _ => Wk.refl _ | 2, _ => Wk.refl _
    · simp at h
  · simp at h
theorem may51 : ∀ vs ob r, mowQ (fun m o n => .bool (mayW m o n)) vs = some (ob, r) → conj ob → SCall Try.prog 51 vs [] (Told r) := mowQ_of fun m o n hlen => by
  refine scall_of (cfg_ok env12_ok 0) Try.func51 (by kernel_rfl) rfl ?_
  generalize hK : Told _ = K
  conv => whnf
  refine ⟨[], [2, 3, 7, 10, 11], 3, fun q s => ∃ (i : Nat) (sn : Nat → Bool), q = 4 - i ∧ i ≤ 4 ∧ goOk (restO o i) sn = validO o ∧ s = ⟨.top :: .top :: .int .i64 n :: .ptr 0 1 1 0 0 :: .top :: .top :: .top :: .ptr 2 1 1 0 0 :: .top :: .top :: .agg [.int .i64 o.a, .int .i64 o.b, .int .i64 o.c, .int .i64 o.d] :: .int .i64 i :: List.replicate 26 .top, [.lit 1 [.int .i64 m.pri, .int .i64 m.acc, duesAV m.dues, .int .i64 m.pen, .int .i64 m.fee, .int .i64 m.una, .int .i64 m.cash, .int .i64 m.ear, .int .i64 m.fin, .int .i64 m.cha], .lit 1 [.int .i64 o.a, .int .i64 o.b, .int .i64 o.c, .int .i64 o.d], .lit 1 [.bool (sn 0), .bool (sn 1), .bool (sn 2), .bool (sn 3), .bool (sn 4)]]⟩, Nat.zero_le _, ⟨_, _, ?_, 0, fun _ => false, rfl, Nat.zero_le _, rfl, rfl⟩, ?_⟩
  · exact ⟨rfl, rfl, fun o ho => match o, ho with | 0, _ => rfl | 1, _ => rfl | 2, _ => rfl⟩
  · rintro q s ⟨i, sn, rfl, hi, hs, rfl⟩
    conv => whnf
    refine ⟨fun h2 => ?_, fun h2 => ?_⟩
    · have hlt : i < 4 := by have := of_decide_eq_true h2; omega
      rw [rest_next o hlt] at hs
      have wi : IntKind.i64.wrap ((i : Int) + 1) = ((i + 1 : Nat) : Int) := by rw [w64 (by omega) (by omega)]; rfl
      have ei : ((i : Int)).toNat = i := Int.toNat_natCast i
      conv => whnf
      refine ⟨⟨by omega, by omega⟩, ?_⟩
      rw [ei]
      generalize hk : (bif i == 0 then o.a else bif i - 1 == 0 then o.b else bif i - 1 - 1 == 0 then o.c else o.d) = k
      rw [show o.at i = k from hk] at hs
      conv => whnf
      have hrng : (bif decide (k < 1) then true else decide (k > 4)) = false → 1 ≤ k ∧ k ≤ 4 := fun h => by
        by_cases h1 : k < 1
        · simp [h1] at h
        · by_cases h2 : k > 4
          · simp [h1, h2] at h
          · omega
      refine ⟨⟨fun h => (show 0 ≤ k ∧ k < 5 from (by have := hrng h; omega)), fun h => (show k.toNat < 5 from (by have := hrng h; omega))⟩, ?_⟩
      conv => whnf
      have hsn : (bif bif decide (k < 1) then true else decide (k > 4) then true else bif k.toNat == 0 then sn 0 else bif k.toNat - 1 == 0 then sn 1 else bif k.toNat - 1 - 1 == 0 then sn 2 else bif k.toNat - 1 - 1 - 1 == 0 then sn 3 else sn 4) = (bif bif decide (k < 1) then true else decide (k > 4) then true else sn k.toNat) := by
        cases hx : (bif decide (k < 1) then true else decide (k > 4)) with
        | true => rfl
        | false => have := hrng hx; rw [cond_false, cond_false]; exact chain5 (by omega)
      refine ⟨fun h3 => ?_, fun h3 => ?_⟩
      · have h4 := hsn.symm.trans h3
        rw [goOk, h4, cond_true] at hs
        conv => whnf
        subst hK
        refine told_bool ?_
        unfold mayW
        rw [← hs]
        rfl
      · have h4 := hsn.symm.trans h3
        rw [goOk, h4, cond_false] at hs
        have hkr : 1 ≤ k ∧ k ≤ 4 := hrng (by
          cases hx : (bif decide (k < 1) then true else decide (k > 4)) with
          | false => rfl
          | true => rw [hx] at h4; simp at h4)
        conv => whnf
        refine ⟨⟨⟨by omega, by omega⟩, show k.toNat < 5 by omega⟩, ?_⟩
        conv => whnf
        refine ⟨4 - (i + 1), _, by omega, ?_, i + 1, fun c => bif k.toNat == c then true else sn c, rfl, by omega, hs, rfl⟩
        rw [← wi]
        exact ⟨rfl, rfl, fun o ho => match o, ho with | 0, _ => rfl | 1, _ => rfl | 2, _ => rfl⟩
    · have he : i = 4 := by have := of_decide_eq_false h2; omega
      subst he
      have hv : validO o = true := hs.symm
      conv => whnf
      refine ⟨fun _ => isDues_m hlen, ?_⟩
      rw [m_self]
      conv => whnf
      subst hK
      refine told_bool ?_
      unfold mayW
      rw [hv, Bool.true_and, ← cond_may (x := n) (p := n ≥ 0) (q := n ≤ 1000000000000000) Iff.rfl]
      cases decide (n ≥ 0) <;> cases decide (n ≤ 1000000000000000) <;> rfl
theorem valid_rng {o : O} (h : validO o = true) : ∀ i, i < 4 → 1 ≤ o.at i ∧ o.at i ≤ 4 := by
  have key : ∀ (l : List Int) (sn : Nat → Bool), goOk l sn = true → ∀ k ∈ l, 1 ≤ k ∧ k ≤ 4 := fun l => by
    induction l with
    | nil => intro sn _ k hk; simp at hk
    | cons x r ih =>
      intro sn h k hk
      simp only [goOk] at h
      cases hx : (bif bif decide (x < 1) then true else decide (x > 4) then true else sn x.toNat) with
      | true => rw [hx] at h; simp at h
      | false =>
        rw [hx, cond_false] at h
        rcases List.mem_cons.mp hk with rfl | hk
        · by_cases h1 : k < 1
          · simp [h1] at hx
          · by_cases h2 : k > 4
            · simp [h1, h2] at hx
            · omega
        · exact ih _ h k hk
  intro i hi
  refine key _ _ h (o.at i) ?_
  match i, hi with
  | 0, _ => simp [restO, O.at]
  | 1, _ => simp [restO, O.at]
  | 2, _ => simp [restO, O.at]
  | 3, _ => simp [restO, O.at]
theorem four {k : Int} (h : 1 ≤ k ∧ k ≤ 4) : k = 1 ∨ k = 2 ∨ k = 3 ∨ k = 4 := by omega
theorem valid_ok_rng {o : O} (h0 : 1 ≤ o.a ∧ o.a ≤ 4) (h1 : 1 ≤ o.b ∧ o.b ≤ 4) (h2 : 1 ≤ o.c ∧ o.c ≤ 4) (h3 : 1 ≤ o.d ∧ o.d ≤ 4) : validO o = okO o := by
  obtain ⟨a, b, c, d⟩ := o
  rcases four h0 with rfl | rfl | rfl | rfl <;> rcases four h1 with rfl | rfl | rfl | rfl <;> rcases four h2 with rfl | rfl | rfl | rfl <;> rcases four h3 with rfl | rfl | rfl | rfl <;> rfl
theorem ok_has {o : O} (h : okO o = true) : ∀ k : Nat, 1 ≤ k → k ≤ 4 → (o.a = k ∨ o.b = k ∨ o.c = k ∨ o.d = k) := by
  have key : ∀ k : Int, hasO o k = true → (o.a = k ∨ o.b = k ∨ o.c = k ∨ o.d = k) := fun k h => by
    have e : hasO o k = (bif o.a == k then true else bif o.b == k then true else bif o.c == k then true else bif o.d == k then true else false) := rfl
    rw [e] at h
    by_cases h0 : o.a = k
    · exact .inl h0
    · by_cases h1 : o.b = k
      · exact .inr (.inl h1)
      · by_cases h2 : o.c = k
        · exact .inr (.inr (.inl h2))
        · by_cases h3 : o.d = k
          · exact .inr (.inr (.inr h3))
          · simp [h0, h1, h2, h3] at h
  have e : okO o = (bif hasO o ((1 : Nat) : Int) then bif hasO o ((2 : Nat) : Int) then bif hasO o ((3 : Nat) : Int) then bif hasO o ((4 : Nat) : Int) then true else false else false else false else false) := rfl
  rw [e] at h
  cases h1 : hasO o ((1 : Nat) : Int) <;> cases h2 : hasO o ((2 : Nat) : Int) <;> cases h3 : hasO o ((3 : Nat) : Int) <;> cases h4 : hasO o ((4 : Nat) : Int) <;> rw [h1, h2, h3, h4] at h <;> simp at h
  intro k hk1 hk4
  have : k = 1 ∨ k = 2 ∨ k = 3 ∨ k = 4 := by omega
  rcases this with rfl | rfl | rfl | rfl
  · exact key _ h1
  · exact key _ h2
  · exact key _ h3
  · exact key _ h4
theorem ok_rng {o : O} (h : okO o = true) : (1 ≤ o.a ∧ o.a ≤ 4) ∧ (1 ≤ o.b ∧ o.b ≤ 4) ∧ (1 ≤ o.c ∧ o.c ≤ 4) ∧ (1 ≤ o.d ∧ o.d ≤ 4) := by
  have h1 := ok_has h 1 (by omega) (by omega)
  have h2 := ok_has h 2 (by omega) (by omega)
  have h3 := ok_has h 3 (by omega) (by omega)
  have h4 := ok_has h 4 (by omega) (by omega)
  rcases h1 with h1 | h1 | h1 | h1 <;> rcases h2 with h2 | h2 | h2 | h2 <;> first | (exfalso; omega) | (rcases h3 with h3 | h3 | h3 | h3 <;> first | (exfalso; omega) | (rcases h4 with h4 | h4 | h4 | h4 <;> first | (exfalso; omega) | omega))
theorem valid_ok (o : O) : validO o = okO o := by
  rw [Bool.eq_iff_iff]
  constructor
  · intro h
    have hr := valid_rng h
    rw [← valid_ok_rng (hr 0 (by decide)) (hr 1 (by decide)) (hr 2 (by decide)) (hr 3 (by decide))]
    exact h
  · intro h
    obtain ⟨h0, h1, h2, h3⟩ := ok_rng h
    rw [valid_ok_rng h0 h1 h2 h3]
    exact h
end Go.Proofs.Ytepbibbeifbokaa.Sh
