/- The shadow machine over this program: the laws of chapter 15. -/
import Derived.Test.YtepbibbeifbokaaShC
namespace Go.Proofs.Ytepbibbeifbokaa.Sh
open Go Go.RowKit
set_option linter.unusedVariables false
set_option linter.unusedSimpArgs false
set_option maxRecDepth 100000
set_option maxHeartbeats 4000000
def trueQ : QSpec := fun vs => match vs with
  | [] => some ([], .bool true)
  | _ => none
theorem awake22 : ∀ vs ob r, trueQ vs = some (ob, r) → conj ob → SCall Try.prog 22 vs [] (Told r) := by
  intro vs ob r h hob
  unfold trueQ at h
  split at h
  · simp only [Option.some.injEq, Prod.mk.injEq] at h
    obtain ⟨rfl, rfl⟩ := h
    refine scall_of (cfg_ok env6_ok 0) Try.func22 (by kernel_rfl) rfl ?_
    generalize hK : Told _ = K
    conv => whnf
    have h0 : isDues 0 0 (fun _ => []) := ⟨Nat.zero_le _, .inl rfl⟩
    refine ⟨⟨h0, fun _ => h0, fun _ => h0, fun _ => h0⟩, ?_⟩
    conv => whnf
    subst hK
    exact told_bool (by decide)
  · simp at h
def env7 : Env := (22, trueQ) :: env6
theorem env7_ok : EnvOK Try.prog env7 := env_cons awake22 env6_ok
def bsum (m : M) : Nat → Int
  | 0 => 0
  | 1 => 0
  | i + 2 => bsum m (i + 1) + balM m ((i + 1 : Nat) : Int)
theorem balM_bound (m : M) (k : Int) : -1000000000000000 ≤ balM m k ∧ balM m k ≤ 1000000000000000 := by
  unfold balM
  cases hr : (readM m).2 with
  | false => simp
  | true =>
    obtain ⟨hf, r, hs, hrm, h1, h2, _⟩ := right_all hr
    have hall := fits_all hf
    have hb := sums_bounds hs
    rw [may_iff, may_iff] at hb
    unfold MX at hall hb h1 h2
    rw [hrm]
    simp only [cond_true]
    (repeat' split) <;> constructor <;> omega
theorem bsum_bound (m : M) : ∀ i : Nat, -1000000000000000 * i ≤ bsum m i ∧ bsum m i ≤ 1000000000000000 * i
  | 0 => by simp [bsum]
  | 1 => by simp [bsum]
  | i + 2 => by
    have h1 := bsum_bound m (i + 1)
    have h2 := balM_bound m ((i + 1 : Nat) : Int)
    simp only [bsum]
    omega
theorem bsum_next {m : M} {i : Nat} (hi : 1 ≤ i) (h : i ≤ 11) : IntKind.i64.wrap (bsum m i + balM m i) = bsum m (i + 1) := by
  have h1 := bsum_bound m i
  have h2 := balM_bound m i
  rw [w64 (by omega) (by omega)]
  obtain ⟨j, rfl⟩ : ∃ j, i = j + 1 := ⟨i - 1, by omega⟩
  rfl
theorem bsum_all (m : M) : bsum m 12 = 0 := by
  simp only [bsum, balM]
  cases hr : (readM m).2 with
  | false => simp
  | true =>
    obtain ⟨hf, r, hs, hrm, h1, h2, h3⟩ := right_all hr
    rw [hrm]
    unfold haves owns at h3
    simp
    omega
theorem sum5 : ∀ vs ob r, mQ (fun _ => .bool true) vs = some (ob, r) → conj ob → SCall Try.prog 5 vs [] (Told r) := mQ_of fun m hlen => by
  refine scall_of (cfg_ok env7_ok 0) Try.func5 (by kernel_rfl) rfl ?_
  generalize hK : Told _ = K
  conv => whnf
  refine ⟨fun h1 => ?_, fun h1 => ?_⟩
  · conv => whnf
    subst hK
    exact told_bool rfl
  · conv => whnf
    refine ⟨[], [1, 2, 3, 4], 1, fun q s => ∃ i : Nat, q = 12 - i ∧ 1 ≤ i ∧ i ≤ 12 ∧ s = ⟨.top :: .ptr 0 1 1 0 0 :: .bool false :: .int .i64 (bsum m i) :: .int .i64 i :: List.replicate 19 .top, [.lit 1 [.int .i64 m.pri, .int .i64 m.acc, duesAV m.dues, .int .i64 m.pen, .int .i64 m.fee, .int .i64 m.una, .int .i64 m.cash, .int .i64 m.ear, .int .i64 m.fin, .int .i64 m.cha]]⟩, Nat.zero_le _, ⟨_, _, ?_, 1, rfl, Nat.le_refl _, by omega, rfl⟩, ?_⟩
    · exact ⟨rfl, rfl, fun o ho => match o, ho with | 0, _ => rfl⟩
    · rintro q s ⟨i, rfl, hi, hi5, rfl⟩
      conv => whnf
      refine ⟨fun h2 => ?_, fun h2 => ?_⟩
      · have hlt : i ≤ 11 := by have := of_decide_eq_true h2; omega
        conv => whnf
        refine ⟨isDues_m hlen, ?_⟩
        have wn : IntKind.i64.wrap (bsum m i + balM (mx m) i) = bsum m (i + 1) := by
          rw [mx_eq]
          exact bsum_next hi hlt
        have wi : IntKind.i64.wrap ((i : Int) + 1) = ((i + 1 : Nat) : Int) := by rw [w64 (by omega) (by omega)]; rfl
        conv => whnf
        refine ⟨12 - (i + 1), _, by omega, ?_, i + 1, rfl, by omega, by omega, rfl⟩
        rw [← wn, ← wi]
        exact ⟨rfl, rfl, fun o ho => match o, ho with | 0, _ => rfl⟩
      · have he : i = 12 := by have := of_decide_eq_false h2; omega
        subst he
        conv => whnf
        subst hK
        exact told_bool (by rw [bsum_all]; rfl)
end Go.Proofs.Ytepbibbeifbokaa.Sh
