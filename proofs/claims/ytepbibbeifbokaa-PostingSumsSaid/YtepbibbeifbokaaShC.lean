/- The shadow machine over this program: what is told of money. -/
import Derived.Test.YtepbibbeifbokaaShB
namespace Go.Proofs.Ytepbibbeifbokaa.Sh
open Go Go.RowKit
set_option linter.unusedVariables false
set_option linter.unusedSimpArgs false
set_option maxRecDepth 100000
set_option maxHeartbeats 4000000
def env3 : Env := (53, readQ) :: env2
theorem env3_ok : EnvOK Try.prog env3 := env_cons read53 env2_ok
theorem isDues_m {m : M} (h : m.dues.length ≤ 9223372036854775807) : isDues 4 m.dues.length (dueRow m.dues) := isDues_self h
theorem m_self (m : M) : (⟨m.pri, m.acc, duesOf m.dues.length (dueRow m.dues), m.pen, m.fee, m.una, m.cash, m.ear, m.fin, m.cha⟩ : M) = m := by rw [duesOf_self]
/-- A function of money alone. -/
def mQ (r : M → AV) : QSpec := fun vs => match vs with
  | [v] => match mOf v with
    | some (p, m) => some ([p], r m)
    | none => none
  | _ => none
theorem mQ_of {f : FuncId} {r : M → AV} (H : ∀ m : M, m.dues.length ≤ 9223372036854775807 → SCall Try.prog f [moneyAV m] [] (Told (r m))) : ∀ vs ob q, mQ r vs = some (ob, q) → conj ob → SCall Try.prog f vs [] (Told q) := by
  intro vs ob q h hob
  unfold mQ at h
  split at h
  · rename_i v
    split at h
    · rename_i p m hm
      simp only [Option.some.injEq, Prod.mk.injEq] at h
      obtain ⟨rfl, rfl⟩ := h
      obtain ⟨hw, hlen⟩ := mOf_wk hm hob
      exact SCall.weaken (us := [moneyAV m]) (H m hlen) rfl fun i hi => match i, hi with | 0, _ => hw
    · simp at h
  · simp at h
theorem right24 : ∀ vs ob r, mQ (fun m => .bool (readM m).2) vs = some (ob, r) → conj ob → SCall Try.prog 24 vs [] (Told r) := mQ_of fun m hlen => by
  refine scall_of (cfg_ok env3_ok 0) Try.func24 (by kernel_rfl) rfl ?_
  generalize hK : Told _ = K
  conv => whnf
  refine ⟨isDues_m hlen, ?_⟩
  conv => whnf
  subst hK
  exact told_bool (by rw [m_self])
/-- A function of money and a number. -/
def mkQ (r : M → Int → AV) : QSpec := fun vs => match vs with
  | [v, .int .i64 k] => match mOf v with
    | some (p, m) => some ([p], r m k)
    | none => none
  | _ => none
theorem mkQ_of {f : FuncId} {r : M → Int → AV} (H : ∀ (m : M) (k : Int), m.dues.length ≤ 9223372036854775807 → SCall Try.prog f [moneyAV m, .int .i64 k] [] (Told (r m k))) : ∀ vs ob q, mkQ r vs = some (ob, q) → conj ob → SCall Try.prog f vs [] (Told q) := by
  intro vs ob q h hob
  unfold mkQ at h
  split at h
  · rename_i v k
    split at h
    · rename_i p m hm
      simp only [Option.some.injEq, Prod.mk.injEq] at h
      obtain ⟨rfl, rfl⟩ := h
      obtain ⟨hw, hlen⟩ := mOf_wk hm hob
      exact SCall.weaken (us := [moneyAV m, .int .i64 k]) (H m k hlen) rfl fun i hi => match i, hi with | 0, _ => hw | 1, _ => Wk.refl _
    · simp at h
  · simp at h
def balM (m : M) (k : Int) : Int := bif (readM m).2 then
    (if k = 1 then m.cash else if k = 2 then m.pri else if k = 3 then (readM m).1.2 else if k = 4 then m.acc else if k = 5 then (readM m).1.1 else if k = 6 then m.pen else if k = 7 then m.fee else if k = 8 then - m.una else if k = 9 then - m.ear else if k = 10 then - m.fin else if k = 11 then - m.cha else 0)
  else 0
theorem right_all {m : M} (h : (readM m).2 = true) : fits m = true ∧ ∃ r, sumsOf m.dues = some r ∧ readM m = (r, true) ∧ -MX ≤ m.cash ∧ m.cash ≤ MX ∧ haves m r = owns m := by
  unfold readM at h ⊢
  cases hf : fits m with
  | false => rw [hf] at h; exact absurd h (by simp)
  | true =>
    rw [hf] at h
    cases hs : sumsOf m.dues with
    | none => rw [hs] at h; exact absurd h (by simp)
    | some r =>
      rw [hs] at h
      by_cases h1 : -MX ≤ m.cash
      · by_cases h2 : m.cash ≤ MX
        · simp only [cond_true, decide_eq_true h1, decide_eq_true h2, Bool.and_self, decide_eq_true_eq] at h
          exact ⟨rfl, r, rfl, by simp [h1, h2, h], h1, h2, h⟩
        · simp [h2] at h
      · simp [h1] at h
theorem balance23 : ∀ vs ob r, mkQ (fun m k => .int .i64 (balM m k)) vs = some (ob, r) → conj ob → SCall Try.prog 23 vs [] (Told r) := mkQ_of fun m k hlen => by
  refine scall_of (cfg_ok env3_ok 0) Try.func23 (by kernel_rfl) rfl ?_
  generalize hK : Told _ = K
  conv => whnf
  refine ⟨isDues_m hlen, ?_⟩
  conv => whnf
  refine ⟨fun h1 => ?_, fun h1 => ?_⟩
  · rw [m_self] at h1
    have h2 : (readM m).2 = false := by simpa using h1
    conv => whnf
    subst hK
    exact told_cint (by unfold balM; rw [h2]; rfl)
  · rename_i _
    have h0 := h1
    rw [m_self] at h0
    have hr : (readM m).2 = true := by simpa using h0
    obtain ⟨hf, r, hs, _, _, _, _⟩ := right_all hr
    have hall := fits_all hf
    unfold MX at hall
    conv => whnf
    refine ⟨fun h => ?_, fun h1 => ?_⟩
    · have hk : k = 1 := by simpa using h
      subst hk
      conv => whnf
      subst hK
      exact told_int (by simp [balM, hr])
    conv => whnf
    refine ⟨fun h => ?_, fun h2 => ?_⟩
    · have hk : k = 2 := by simpa using h
      subst hk
      conv => whnf
      subst hK
      exact told_int (by simp [balM, hr])
    conv => whnf
    refine ⟨fun h => ?_, fun h3 => ?_⟩
    · have hk : k = 3 := by simpa using h
      subst hk
      conv => whnf
      subst hK
      exact told_int (by rw [m_self]; simp [balM, hr])
    conv => whnf
    refine ⟨fun h => ?_, fun h4 => ?_⟩
    · have hk : k = 4 := by simpa using h
      subst hk
      conv => whnf
      subst hK
      exact told_int (by simp [balM, hr])
    conv => whnf
    refine ⟨fun h => ?_, fun h5 => ?_⟩
    · have hk : k = 5 := by simpa using h
      subst hk
      conv => whnf
      subst hK
      exact told_int (by rw [m_self]; simp [balM, hr])
    conv => whnf
    refine ⟨fun h => ?_, fun h6 => ?_⟩
    · have hk : k = 6 := by simpa using h
      subst hk
      conv => whnf
      subst hK
      exact told_int (by simp [balM, hr])
    conv => whnf
    refine ⟨fun h => ?_, fun h7 => ?_⟩
    · have hk : k = 7 := by simpa using h
      subst hk
      conv => whnf
      subst hK
      exact told_int (by simp [balM, hr])
    conv => whnf
    refine ⟨fun h => ?_, fun h8 => ?_⟩
    · have hk : k = 8 := by simpa using h
      subst hk
      conv => whnf
      subst hK
      exact told_int (by rw [w64 (by omega) (by omega)]; simp [balM, hr])
    conv => whnf
    refine ⟨fun h => ?_, fun h9 => ?_⟩
    · have hk : k = 9 := by simpa using h
      subst hk
      conv => whnf
      subst hK
      exact told_int (by rw [w64 (by omega) (by omega)]; simp [balM, hr])
    conv => whnf
    refine ⟨fun h => ?_, fun h10 => ?_⟩
    · have hk : k = 10 := by simpa using h
      subst hk
      conv => whnf
      subst hK
      exact told_int (by rw [w64 (by omega) (by omega)]; simp [balM, hr])
    conv => whnf
    refine ⟨fun h => ?_, fun h11 => ?_⟩
    · have hk : k = 11 := by simpa using h
      subst hk
      conv => whnf
      subst hK
      exact told_int (by rw [w64 (by omega) (by omega)]; simp [balM, hr])
    conv => whnf
    subst hK
    have e1 : k ≠ 1 := by simpa using h1
    exact told_cint (by simp_all [balM])
def owedK (pen fee a b k : Int) : Int := if k = 1 then fee else if k = 2 then pen else if k = 3 then a else if k = 4 then b else 0
def kindQ : QSpec := fun vs => match vs with
  | [.agg [.int .i64 pri, .int .i64 acc, .ro s len cap row, .int .i64 pen, .int .i64 fee, .int .i64 una, .int .i64 cash, .int .i64 ear, .int .i64 fin, .int .i64 cha, .int .i64 a, .int .i64 b], .int .i64 k] => some ([], .int .i64 (owedK pen fee a b k))
  | _ => none
theorem owes_wk {c0 c1 c2 c3 c4 c5 c6 c7 c8 c9 c10 c11 : AV} : Wk (.agg [c0, c1, c2, c3, c4, c5, c6, c7, c8, c9, c10, c11]) (.agg [c0, c1, .top, c3, c4, c5, c6, c7, c8, c9, c10, c11]) := fun w Fz g c hv => by
  obtain ⟨vs, rfl, hl, hh⟩ := inv_agg hv
  refine .agg _ _ hl fun i hi => ?_
  have h0 := hh i hi
  match i, hi with
  | 0, _ => exact h0
  | 1, _ => exact h0
  | 2, _ => exact .top _
  | 3, _ => exact h0
  | 4, _ => exact h0
  | 5, _ => exact h0
  | 6, _ => exact h0
  | 7, _ => exact h0
  | 8, _ => exact h0
  | 9, _ => exact h0
  | 10, _ => exact h0
  | 11, _ => exact h0
theorem kind54 : ∀ vs ob r, kindQ vs = some (ob, r) → conj ob → SCall Try.prog 54 vs [] (Told r) := by
  intro vs ob r h hob
  unfold kindQ at h
  split at h
  · rename_i pri acc s len cap row pen fee una cash ear fin cha a b k
    simp only [Option.some.injEq, Prod.mk.injEq] at h
    obtain ⟨rfl, rfl⟩ := h
    refine SCall.weaken (us := [.agg [.int .i64 pri, .int .i64 acc, .top, .int .i64 pen, .int .i64 fee, .int .i64 una, .int .i64 cash, .int .i64 ear, .int .i64 fin, .int .i64 cha, .int .i64 a, .int .i64 b], .int .i64 k]) ?_ rfl fun i hi => match i, hi with | 0, _ => owes_wk | 1, _ => Wk.refl _
    refine scall_of (cfg_ok env3_ok 0) Try.func54 (by kernel_rfl) rfl ?_
    generalize hK : Told _ = K
    conv => whnf
    refine ⟨fun h => ?_, fun h1 => ?_⟩
    · have hk : k = 1 := by simpa using h
      subst hk
      conv => whnf
      subst hK
      exact told_int rfl
    conv => whnf
    refine ⟨fun h => ?_, fun h2 => ?_⟩
    · have hk : k = 2 := by simpa using h
      subst hk
      conv => whnf
      subst hK
      exact told_int rfl
    conv => whnf
    refine ⟨fun h => ?_, fun h3 => ?_⟩
    · have hk : k = 3 := by simpa using h
      subst hk
      conv => whnf
      subst hK
      exact told_int rfl
    conv => whnf
    refine ⟨fun h => ?_, fun h4 => ?_⟩
    · have hk : k = 4 := by simpa using h
      subst hk
      conv => whnf
      subst hK
      exact told_int rfl
    conv => whnf
    subst hK
    have e1 : k ≠ 1 := by simpa using h1
    have e2 : k ≠ 2 := by simpa using h2
    have e3 : k ≠ 3 := by simpa using h3
    have e4 : k ≠ 4 := by simpa using h4
    exact told_cint (by simp [owedK, e1, e2, e3, e4])
  · simp at h
def allM (m : M) : Int := bif (readM m).2 then m.fee + m.pen + (readM m).1.1 + (readM m).1.2 else 0
def env4 : Env := (54, kindQ) :: (24, mQ (fun m => .bool (readM m).2)) :: (23, mkQ (fun m k => .int .i64 (balM m k))) :: env3
theorem env4_ok : EnvOK Try.prog env4 := env_cons kind54 (env_cons right24 (env_cons balance23 env3_ok))
def mx (m : M) : M := ⟨m.pri, m.acc, duesOf m.dues.length (dueRow m.dues), m.pen, m.fee, m.una, m.cash, m.ear, m.fin, m.cha⟩
theorem mx_eq (m : M) : mx m = m := m_self m
/-- What is owed of the kinds ahead of i. -/
def part (m : M) : Nat → Int
  | 0 => 0
  | 1 => 0
  | 2 => m.fee
  | 3 => m.fee + m.pen
  | 4 => m.fee + m.pen + (readM m).1.1
  | _ => m.fee + m.pen + (readM m).1.1 + (readM m).1.2
theorem part_next {m : M} {r : Int × Int} {b : Bool} (hrm : readM m = (r, b)) (h1 : 0 ≤ m.pen ∧ m.pen ≤ 1000000000000000) (h2 : 0 ≤ m.fee ∧ m.fee ≤ 1000000000000000) (h3 : 0 ≤ r.1 ∧ r.1 ≤ 1000000000000000) (h4 : 0 ≤ r.2 ∧ r.2 ≤ 1000000000000000) {i : Nat} (hi : 1 ≤ i) (hi4 : i ≤ 4) :
    IntKind.i64.wrap (part m i + owedK m.pen m.fee r.1 r.2 i) = part m (i + 1) := by
  match i, hi, hi4 with
  | 1, _, _ => simp only [part, owedK]; rw [w64 (by simp; omega) (by simp; omega)]; simp
  | 2, _, _ => simp only [part, owedK]; rw [w64 (by simp; omega) (by simp; omega)]; simp
  | 3, _, _ => simp only [part, owedK, hrm]; rw [w64 (by simp; omega) (by simp; omega)]; simp
  | 4, _, _ => simp only [part, owedK, hrm]; rw [w64 (by simp; omega) (by simp; omega)]; simp
theorem all25 : ∀ vs ob r, mQ (fun m => .int .i64 (allM m)) vs = some (ob, r) → conj ob → SCall Try.prog 25 vs [] (Told r) := mQ_of fun m hlen => by
  refine scall_of (cfg_ok env4_ok 0) Try.func25 (by kernel_rfl) rfl ?_
  generalize hK : Told _ = K
  conv => whnf
  refine ⟨isDues_m hlen, ?_⟩
  conv => whnf
  refine ⟨fun h1 => ?_, fun h1 => ?_⟩
  · rw [m_self] at h1
    have h2 : (readM m).2 = false := by simpa using h1
    conv => whnf
    subst hK
    exact told_cint (by unfold allM; rw [h2]; rfl)
  · have h0 := h1
    rw [m_self] at h0
    have hr : (readM m).2 = true := by simpa using h0
    obtain ⟨hf, r, hs, hrm, _, _, _⟩ := right_all hr
    have hall := fits_all hf
    have hb := sums_bounds hs
    rw [may_iff, may_iff] at hb
    unfold MX at hall hb
    conv => whnf
    refine ⟨[], [5, 6, 7], 2, fun q s => ∃ i : Nat, q = 5 - i ∧ 1 ≤ i ∧ i ≤ 5 ∧ s = ⟨.top :: .top :: .top :: .top :: .top :: .fn 54 [.agg [.int .i64 m.pri, .int .i64 m.acc, duesAV m.dues, .int .i64 m.pen, .int .i64 m.fee, .int .i64 m.una, .int .i64 m.cash, .int .i64 m.ear, .int .i64 m.fin, .int .i64 m.cha, .int .i64 (readM (mx m)).1.1, .int .i64 (readM (mx m)).1.2]] [] :: .int .i64 (part (mx m) i) :: .int .i64 i :: List.replicate 21 .top, [.lit 1 [.int .i64 m.pri, .int .i64 m.acc, duesAV m.dues, .int .i64 m.pen, .int .i64 m.fee, .int .i64 m.una, .int .i64 m.cash, .int .i64 m.ear, .int .i64 m.fin, .int .i64 m.cha], .lit 1 [.int .i64 (readM (mx m)).1.1, .int .i64 (readM (mx m)).1.2]]⟩, Nat.zero_le _, ⟨_, _, ?_, 1, rfl, Nat.le_refl _, by omega, rfl⟩, ?_⟩
    · exact ⟨rfl, rfl, fun o ho => match o, ho with | 0, _ => rfl | 1, _ => rfl⟩
    · rintro q s ⟨i, rfl, hi, hi5, rfl⟩
      conv => whnf
      refine ⟨fun h2 => ?_, fun h2 => ?_⟩
      · have hlt : i ≤ 4 := by have := of_decide_eq_true h2; omega
        have wn : IntKind.i64.wrap (part (mx m) i + owedK m.pen m.fee (readM (mx m)).1.1 (readM (mx m)).1.2 i) = part (mx m) (i + 1) := by
          rw [mx_eq, hrm]
          exact part_next hrm hall.2.2.1 hall.2.2.2.1 hb.1 hb.2 hi hlt
        have wi : IntKind.i64.wrap ((i : Int) + 1) = ((i + 1 : Nat) : Int) := by rw [w64 (by omega) (by omega)]; rfl
        conv => whnf
        refine ⟨5 - (i + 1), _, by omega, ?_, i + 1, rfl, by omega, by omega, rfl⟩
        rw [← wn, ← wi]
        exact ⟨rfl, rfl, fun o ho => match o, ho with | 0, _ => rfl | 1, _ => rfl⟩
      · have he : i = 5 := by have := of_decide_eq_false h2; omega
        subst he
        conv => whnf
        subst hK
        exact told_int (by rw [mx_eq]; simp [part, allM, hr])
def emptyM (m : M) : Bool := bif bif bif (readM m).2 then allM m == 0 else false then m.pri == 0 else false then m.acc == 0 else false
def env5 : Env := (25, mQ (fun m => .int .i64 (allM m))) :: env4
theorem env5_ok : EnvOK Try.prog env5 := env_cons all25 env4_ok
theorem empty26 : ∀ vs ob r, mQ (fun m => .bool (emptyM m)) vs = some (ob, r) → conj ob → SCall Try.prog 26 vs [] (Told r) := mQ_of fun m hlen => by
  refine scall_of (cfg_ok env5_ok 0) Try.func26 (by kernel_rfl) rfl ?_
  generalize hK : Told _ = K
  conv => whnf
  refine ⟨⟨isDues_m hlen, fun _ => isDues_m hlen⟩, ?_⟩
  conv => whnf
  subst hK
  exact told_bool (by rw [m_self]; rfl)
def env6 : Env := (26, mQ (fun m => .bool (emptyM m))) :: env5
theorem env6_ok : EnvOK Try.prog env6 := env_cons empty26 env5_ok
end Go.Proofs.Ytepbibbeifbokaa.Sh
