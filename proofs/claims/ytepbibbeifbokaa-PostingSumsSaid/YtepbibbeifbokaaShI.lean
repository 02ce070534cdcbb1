/- The shadow machine over this program: the document's answers for chapter 15, and what is owed. -/
import Derived.Test.YtepbibbeifbokaaShF
namespace Go.Proofs.Ytepbibbeifbokaa.Sh
open Go Go.RowKit
set_option linter.unusedVariables false
set_option linter.unusedSimpArgs false
set_option maxRecDepth 100000
set_option maxHeartbeats 4000000
theorem ix_duesOf {n i : Nat} {row : Nat → List RV} (hi : i < n) : ix (duesOf n row) i = toD (row i) := by
  simp [ix, duesOf, List.getD_eq_getElem?_getD, hi]
theorem isDues_of {n : Nat} {row : Nat → List RV} (h : n ≤ 9223372036854775807) (hr : ∀ i, i < n → ∃ d : D, row i = [.int .i64 d.n, .int .i64 d.day, .int .i64 d.i, .int .i64 d.p]) : isDues 4 n row := ⟨h, .inr ⟨rfl, fun i hi => by
  obtain ⟨d, hd⟩ := hr i hi
  unfold dueRow
  rw [ix_duesOf hi, hd]
  rfl⟩⟩
def env9 : Env := (17, mQ (fun m => .bool (readM m).2)) :: env8
theorem env9_ok : EnvOK Try.prog env9 := env_cons refRight17 env8_ok
def owedM (m : M) (k : Int) : Int := bif (readM m).2 then owedK m.pen m.fee (readM m).1.1 (readM m).1.2 k else 0
theorem owed32 : ∀ vs ob r, mkQ (fun m k => .int .i64 (owedM m k)) vs = some (ob, r) → conj ob → SCall Try.prog 32 vs [] (Told r) := mkQ_of fun m k hlen => by
  refine scall_of (cfg_ok env4_ok 0) Try.func32 (by kernel_rfl) rfl ?_
  generalize hK : Told _ = K
  conv => whnf
  refine ⟨isDues_m hlen, ?_⟩
  conv => whnf
  refine ⟨fun h1 => ?_, fun h1 => ?_⟩
  · rw [m_self] at h1
    have h2 : (readM m).2 = false := by simpa using h1
    conv => whnf
    subst hK
    exact told_cint (by unfold owedM; rw [h2]; rfl)
  · rw [m_self] at h1
    have hr : (readM m).2 = true := by simpa using h1
    conv => whnf
    subst hK
    exact told_int (by rw [m_self]; simp [owedM, hr])
theorem refOwed21 : ∀ vs ob r, mkQ (fun m k => .int .i64 (owedM m k)) vs = some (ob, r) → conj ob → SCall Try.prog 21 vs [] (Told r) := mkQ_of fun m k hlen => by
  refine scall_of (cfg_ok env9_ok 0) Try.func21 (by kernel_rfl) rfl ?_
  generalize hK : Told _ = K
  conv => whnf
  refine ⟨isDues_m hlen, ?_⟩
  conv => whnf
  refine ⟨fun h1 => ?_, fun h1 => ?_⟩
  · rw [m_self] at h1
    have h2 : (readM m).2 = false := by simpa using h1
    conv => whnf
    subst hK
    exact told_cint (by unfold owedM; rw [h2]; rfl)
  · have h0 := h1
    rw [m_self] at h0
    have hr : (readM m).2 = true := by simpa using h0
    obtain ⟨hf, r, hs, hrm, _, _, _⟩ := right_all hr
    have hall := fits_all hf
    unfold MX at hall
    conv => whnf
    refine ⟨isDues_m hlen, ?_⟩
    conv => whnf
    refine ⟨fun h => ?_, fun c1 => ?_⟩
    · have hk : k = 1 := by simpa using h
      subst hk
      conv => whnf
      subst hK
      exact told_int (by simp [owedM, owedK, hr, hrm, duesOf_self, hs])
    conv => whnf
    refine ⟨fun h => ?_, fun c2 => ?_⟩
    · have hk : k = 2 := by simpa using h
      subst hk
      conv => whnf
      subst hK
      exact told_int (by simp [owedM, owedK, hr, hrm, duesOf_self, hs])
    conv => whnf
    refine ⟨fun h => ?_, fun c3 => ?_⟩
    · have hk : k = 3 := by simpa using h
      subst hk
      conv => whnf
      subst hK
      exact told_int (by simp [owedM, owedK, hr, hrm, duesOf_self, hs])
    conv => whnf
    refine ⟨fun h => ?_, fun c4 => ?_⟩
    · have hk : k = 4 := by simpa using h
      subst hk
      conv => whnf
      subst hK
      exact told_int (by simp [owedM, owedK, hr, hrm, duesOf_self, hs])
    conv => whnf
    subst hK
    have e1 : k ≠ 1 := by simpa using c1
    have e2 : k ≠ 2 := by simpa using c2
    have e3 : k ≠ 3 := by simpa using c3
    have e4 : k ≠ 4 := by simpa using c4
    exact told_cint (by simp [owedM, owedK, hr, e1, e2, e3, e4])
theorem refBalance30 : ∀ vs ob r, mkQ (fun m k => .int .i64 (balM m k)) vs = some (ob, r) → conj ob → SCall Try.prog 30 vs [] (Told r) := mkQ_of fun m k hlen => by
  refine scall_of (cfg_ok env9_ok 0) Try.func30 (by kernel_rfl) rfl ?_
  generalize hK : Told _ = K
  conv => whnf
  refine ⟨isDues_m hlen, ?_⟩
  conv => whnf
  refine ⟨fun h1 => ?_, fun h1 => ?_⟩
  · rw [m_self] at h1
    have h2 : (readM m).2 = false := by simpa using h1
    conv => whnf
    subst hK
    exact told_cint (by unfold balM; rw [h2]; rfl)
  · have h0 := h1
    rw [m_self] at h0
    have hr : (readM m).2 = true := by simpa using h0
    obtain ⟨hf, r, hs, hrm, _, _, _⟩ := right_all hr
    have hall := fits_all hf
    unfold MX at hall
    conv => whnf
    refine ⟨isDues_m hlen, ?_⟩
    conv => whnf
    refine ⟨fun h => ?_, fun c1 => ?_⟩
    · have hk : k = 1 := by simpa using h
      subst hk
      conv => whnf
      subst hK
      exact told_int (by simp [balM, hr, hrm, duesOf_self, hs])
    conv => whnf
    refine ⟨fun h => ?_, fun c2 => ?_⟩
    · have hk : k = 2 := by simpa using h
      subst hk
      conv => whnf
      subst hK
      exact told_int (by simp [balM, hr, hrm, duesOf_self, hs])
    conv => whnf
    refine ⟨fun h => ?_, fun c3 => ?_⟩
    · have hk : k = 3 := by simpa using h
      subst hk
      conv => whnf
      subst hK
      exact told_int (by simp [balM, hr, hrm, duesOf_self, hs])
    conv => whnf
    refine ⟨fun h => ?_, fun c4 => ?_⟩
    · have hk : k = 4 := by simpa using h
      subst hk
      conv => whnf
      subst hK
      exact told_int (by simp [balM, hr, hrm, duesOf_self, hs])
    conv => whnf
    refine ⟨fun h => ?_, fun c5 => ?_⟩
    · have hk : k = 5 := by simpa using h
      subst hk
      conv => whnf
      subst hK
      exact told_int (by simp [balM, hr, hrm, duesOf_self, hs])
    conv => whnf
    refine ⟨fun h => ?_, fun c6 => ?_⟩
    · have hk : k = 6 := by simpa using h
      subst hk
      conv => whnf
      subst hK
      exact told_int (by simp [balM, hr, hrm, duesOf_self, hs])
    conv => whnf
    refine ⟨fun h => ?_, fun c7 => ?_⟩
    · have hk : k = 7 := by simpa using h
      subst hk
      conv => whnf
      subst hK
      exact told_int (by simp [balM, hr, hrm, duesOf_self, hs])
    conv => whnf
    refine ⟨fun h => ?_, fun c8 => ?_⟩
    · have hk : k = 8 := by simpa using h
      subst hk
      conv => whnf
      subst hK
      exact told_int (by rw [w64 (by omega) (by omega)]; simp [balM, hr, hrm, duesOf_self, hs])
    conv => whnf
    refine ⟨fun h => ?_, fun c9 => ?_⟩
    · have hk : k = 9 := by simpa using h
      subst hk
      conv => whnf
      subst hK
      exact told_int (by rw [w64 (by omega) (by omega)]; simp [balM, hr, hrm, duesOf_self, hs])
    conv => whnf
    refine ⟨fun h => ?_, fun c10 => ?_⟩
    · have hk : k = 10 := by simpa using h
      subst hk
      conv => whnf
      subst hK
      exact told_int (by rw [w64 (by omega) (by omega)]; simp [balM, hr, hrm, duesOf_self, hs])
    conv => whnf
    refine ⟨fun h => ?_, fun c11 => ?_⟩
    · have hk : k = 11 := by simpa using h
      subst hk
      conv => whnf
      subst hK
      exact told_int (by rw [w64 (by omega) (by omega)]; simp [balM, hr, hrm, duesOf_self, hs])
    conv => whnf
    subst hK
    have e1 : k ≠ 1 := by simpa using c1
    exact told_cint (by simp_all [balM])
def env10 : Env := (21, mkQ (fun m k => .int .i64 (owedM m k))) :: (32, mkQ (fun m k => .int .i64 (owedM m k))) :: (30, mkQ (fun m k => .int .i64 (balM m k))) :: env9
theorem env10_ok : EnvOK Try.prog env10 := env_cons refOwed21 (env_cons owed32 (env_cons refBalance30 env9_ok))
/-- What is owed of the kinds ahead of i, of money that is right; else nothing. -/
def partO (m : M) (i : Nat) : Int := bif (readM m).2 then part m i else 0
theorem partO_next {m : M} {i : Nat} (hi : 1 ≤ i) (h : i ≤ 4) : IntKind.i64.wrap (partO m i + owedM m i) = partO m (i + 1) := by
  unfold partO owedM
  cases hr : (readM m).2 with
  | false => rfl
  | true =>
    obtain ⟨hf, r, hs, hrm, _, _, _⟩ := right_all hr
    have hall := fits_all hf
    have hb := sums_bounds hs
    rw [may_iff, may_iff] at hb
    unfold MX at hall hb
    rw [hrm]
    exact part_next hrm hall.2.2.1 hall.2.2.2.1 hb.1 hb.2 hi h
theorem partO_all (m : M) : partO m 5 = allM m := rfl
theorem refAll33 : ∀ vs ob r, mQ (fun m => .int .i64 (allM m)) vs = some (ob, r) → conj ob → SCall Try.prog 33 vs [] (Told r) := mQ_of fun m hlen => by
  refine scall_of (cfg_ok env10_ok 0) Try.func33 (by kernel_rfl) rfl ?_
  generalize hK : Told _ = K
  conv => whnf
  refine ⟨[], [1, 2, 3, 4], 1, fun q s => ∃ i : Nat, q = 5 - i ∧ 1 ≤ i ∧ i ≤ 5 ∧ s = ⟨.top :: .ptr 0 1 1 0 0 :: .int .i64 0 :: .int .i64 (partO m i) :: .int .i64 i :: List.replicate 10 .top, [.lit 1 [.int .i64 m.pri, .int .i64 m.acc, duesAV m.dues, .int .i64 m.pen, .int .i64 m.fee, .int .i64 m.una, .int .i64 m.cash, .int .i64 m.ear, .int .i64 m.fin, .int .i64 m.cha]]⟩, Nat.zero_le _, ⟨_, _, ?_, 1, rfl, Nat.le_refl _, by omega, rfl⟩, ?_⟩
  · have e0 : partO m 1 = 0 := by unfold partO; cases (readM m).2 <;> rfl
    rw [e0]
    exact ⟨rfl, rfl, fun o ho => match o, ho with | 0, _ => rfl⟩
  · rintro q s ⟨i, rfl, hi, hi5, rfl⟩
    conv => whnf
    refine ⟨fun h2 => ?_, fun h2 => ?_⟩
    · have hlt : i ≤ 4 := by have := of_decide_eq_true h2; omega
      conv => whnf
      refine ⟨isDues_m hlen, ?_⟩
      have wn : IntKind.i64.wrap (partO m i + owedM (mx m) i) = partO m (i + 1) := by
        rw [mx_eq]
        exact partO_next hi hlt
      have wi : IntKind.i64.wrap ((i : Int) + 1) = ((i + 1 : Nat) : Int) := by rw [w64 (by omega) (by omega)]; rfl
      conv => whnf
      refine ⟨5 - (i + 1), _, by omega, ?_, i + 1, rfl, by omega, by omega, rfl⟩
      rw [← wn, ← wi]
      exact ⟨rfl, rfl, fun o ho => match o, ho with | 0, _ => rfl⟩
    · have he : i = 5 := by have := of_decide_eq_false h2; omega
      subst he
      conv => whnf
      subst hK
      exact told_int (partO_all m)
def env11 : Env := (33, mQ (fun m => .int .i64 (allM m))) :: env10
theorem env11_ok : EnvOK Try.prog env11 := env_cons refAll33 env10_ok
theorem refEmpty34 : ∀ vs ob r, mQ (fun m => .bool (emptyM m)) vs = some (ob, r) → conj ob → SCall Try.prog 34 vs [] (Told r) := mQ_of fun m hlen => by
  refine scall_of (cfg_ok env11_ok 0) Try.func34 (by kernel_rfl) rfl ?_
  generalize hK : Told _ = K
  conv => whnf
  refine ⟨⟨isDues_m hlen, fun _ => isDues_m hlen⟩, ?_⟩
  conv => whnf
  subst hK
  exact told_bool (by rw [m_self]; rfl)
def env12 : Env := (34, mQ (fun m => .bool (emptyM m))) :: env11
theorem env12_ok : EnvOK Try.prog env12 := env_cons refEmpty34 env11_ok
end Go.Proofs.Ytepbibbeifbokaa.Sh
