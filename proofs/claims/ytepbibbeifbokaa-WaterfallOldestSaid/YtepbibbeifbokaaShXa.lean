/- The shadow machine over this program: the document's split; deleting what is empty. -/
import Derived.Test.YtepbibbeifbokaaShWd
namespace Go.Proofs.Ytepbibbeifbokaa.Sh
open Go Go.RowKit
set_option linter.unusedVariables false
set_option linter.unusedSimpArgs false
set_option maxRecDepth 1000000
set_option maxHeartbeats 4000000
theorem not_may {m : M} {o : O} {n : Int} {_ : Decidable (n < 0)} {_ : Decidable (n > 1000000000000000)} : (bif bif bif !(readM m).2 then true else !okO o then true else decide (n < 0) then true else decide (n > 1000000000000000)) = !mayW m o n := by
  unfold mayW
  rw [valid_ok]
  have : may n = (!decide (n < 0) && !decide (n > 1000000000000000)) := by
    rw [Bool.eq_iff_iff, may_iff]
    unfold MX
    simp
  rw [this]
  cases (readM m).2 <;> cases okO o <;> by_cases h1 : n < 0 <;> by_cases h2 : n > 1000000000000000 <;> simp [h1, h2]
theorem refSplit44 : ∀ vs ob r, mowQ splitV vs = some (ob, r) → conj ob → SCall Try.prog 44 vs [] (Told r) := mowQ_of fun m o n hlen => by
  refine scall_of (cfg_ok envW3_ok 0) Try.func44 (by kernel_rfl) rfl ?_
  generalize hK : Told _ = K
  conv => whnf
  refine ⟨isDues_m hlen, ?_⟩
  rw [m_self]
  conv => whnf
  refine ⟨fun h1 => ?_, fun h1 => ?_⟩
  · have h1' : (bif bif bif !(readM m).2 then true else !okO o then true else decide (n < 0) then true else decide (n > 1000000000000000)) = true := h1
    rw [not_may] at h1'
    have h2 : mayW m o n = false := by simpa using h1'
    conv => whnf
    subst hK
    refine told_of trivial rfl ?_
    unfold splitV splR
    rw [h2]
    rfl
  · have h1' : (bif bif bif !(readM m).2 then true else !okO o then true else decide (n < 0) then true else decide (n > 1000000000000000)) = false := h1
    rw [not_may] at h1'
    have h2 : mayW m o n = true := by simpa using h1'
    clear h1 h1'
    have hv : validO o = true ∧ may n = true := by
      unfold mayW at h2
      rw [Bool.and_eq_true, Bool.and_eq_true] at h2
      exact ⟨h2.1, h2.2.1⟩
    have hkr := valid_rng hv.1
    have hn := may_iff.mp hv.2
    conv => whnf
    refine ⟨[], [2, 3, 4, 6, 9, 10], 4, fun q st => ∃ (i : Nat) (s : Nat → Int) (l : Int), q = 4 - i ∧ i ≤ 4 ∧ runS (owedM m) (restO o i) s l = spl m o n ∧ (0 ≤ l ∧ l ≤ MX) ∧ st = ⟨.top :: .top :: .int .i64 l :: .ptr 0 1 1 0 0 :: .ptr 1 1 1 0 0 :: .top :: .ptr 2 1 1 0 0 :: .top :: .top :: .ptr 3 1 1 0 0 :: .int .i64 i :: List.replicate 40 .top, [.lit 1 [.int .i64 m.pri, .int .i64 m.acc, duesAV m.dues, .int .i64 m.pen, .int .i64 m.fee, .int .i64 m.una, .int .i64 m.cash, .int .i64 m.ear, .int .i64 m.fin, .int .i64 m.cha], .lit 1 [.int .i64 o.a, .int .i64 o.b, .int .i64 o.c, .int .i64 o.d], .lit 1 [.int .i64 0, .int .i64 0, .int .i64 0, .int .i64 0], .lit 1 [.int .i64 (s 0), .int .i64 (s 1), .int .i64 (s 2), .int .i64 (s 3)]]⟩, Nat.zero_le _, ⟨_, _, ?_, 0, fun _ => 0, n, rfl, Nat.zero_le _, rfl, hn, rfl⟩, ?_⟩
    · exact ⟨rfl, rfl, fun o ho => match o, ho with | 0, _ => rfl | 1, _ => rfl | 2, _ => rfl | 3, _ => rfl⟩
    · rintro q st ⟨i, s, l, rfl, hi, hs, hl, rfl⟩
      conv => whnf
      refine ⟨fun h3 => ?_, fun h3 => ?_⟩
      · have hlt : i < 4 := by have := of_decide_eq_true h3; omega
        rw [rest_next o hlt, runS] at hs
        have wi : IntKind.i64.wrap ((i : Int) + 1) = ((i + 1 : Nat) : Int) := by rw [w64 (by omega) (by omega)]; rfl
        have ei : ((i : Int)).toNat = i := Int.toNat_natCast i
        have hI : 0 ≤ (i : Int) ∧ (i : Int) < 4 := by omega
        have hki := hkr i hlt
        generalize hk : o.at i = k at hs hki
        replace hk : (bif i == 0 then o.a else bif i - 1 == 0 then o.b else bif i - 1 - 1 == 0 then o.c else o.d) = k := hk
        have hkw : 0 ≤ IntKind.i64.wrap (k - 1) ∧ IntKind.i64.wrap (k - 1) < 4 := by rw [w64 (by omega) (by omega)]; omega
        conv => whnf
        refine ⟨[], by kernel_rfl, ?_⟩
        conv => whnf
        rw [ei, hk]
        refine ⟨⟨hI, hlt, isDues_m hlen⟩, ?_⟩
        rw [m_self]
        conv => whnf
        rw [ei, hk]
        refine ⟨⟨hI, hlt, hkw, (by omega : (IntKind.i64.wrap (k - 1)).toNat < 4)⟩, ?_⟩
        conv => whnf
        refine ⟨4 - (i + 1), _, by omega, ?_, i + 1, nextS (owedM m k) k l s, nextL (owedM m k) l, rfl, by omega, hs, (nextL_eq hl (owed_nonneg m k)).2, rfl⟩
        rw [← wi]
        exact ⟨rfl, rfl, fun o ho => match o, ho with | 0, _ => rfl | 1, _ => rfl | 2, _ => rfl | 3, _ => rfl⟩
      · have he : i = 4 := by have := of_decide_eq_false h3; omega
        subst he
        conv => whnf
        subst hK
        refine told_of trivial rfl ?_
        unfold splitV splR
        rw [h2, cond_true, ← hs]
        rfl
def zD (d : D) : Bool := bif d.i == 0 then d.p == 0 else false
def zQ : QSpec := fun vs => match vs with
  | [.agg [.int .i64 a, .int .i64 b, .int .i64 c, .int .i64 d]] => some ([], .bool (zD ⟨a, b, c, d⟩))
  | _ => none
theorem z69 : ∀ vs ob r, zQ vs = some (ob, r) → conj ob → SCall Try.prog 69 vs [] (Told r) := by
  intro vs ob r h hob
  unfold zQ at h
  split at h
  · simp only [Option.some.injEq, Prod.mk.injEq] at h
    obtain ⟨rfl, rfl⟩ := h
    refine scall_of (cfg_ok envW3_ok 0) Try.func69 (by kernel_rfl) rfl ?_
    generalize hK : Told _ = K
    conv => whnf
    subst hK
    exact told_bool rfl
  · simp at h
/-- The first that is empty, from the i-th on. -/
def idxS (xs : List D) : Nat → Nat → Int
  | 0, _ => -1
  | n + 1, i => bif zD (ix xs i) then (i : Int) else idxS xs n (i + 1)
def idxQ : QSpec := fun vs => match vs with
  | [.ro s len cap row, .fn 69 [] []] => some ([isDues s len row], .int .i64 (idxS (duesOf len row) (duesOf len row).length 0))
  | _ => none
def envX0 : Env := (69, zQ) :: (44, mowQ splitV) :: envW3
theorem envX0_ok : EnvOK Try.prog envX0 := env_cons z69 (env_cons refSplit44 envW3_ok)
theorem idx70 : ∀ vs ob r, idxQ vs = some (ob, r) → conj ob → SCall Try.prog 70 vs [] (Told r) := by
  intro vs ob r h hob
  unfold idxQ at h
  split at h
  · rename_i s len cap row
    simp only [Option.some.injEq, Prod.mk.injEq] at h
    obtain ⟨rfl, rfl⟩ := h
    have hd : isDues s len row := hob
    refine SCall.weaken (us := [duesAV (duesOf len row), .fn 69 [] []]) ?_ rfl fun i hi => match i, hi with | 0, _ => dues_wk hd | 1, _ => Wk.refl _
    have hlen : (duesOf len row).length ≤ 9223372036854775807 := by rw [duesOf_length]; exact hd.1
    generalize duesOf len row = xs at hlen
    refine scall_of (cfg_ok envX0_ok 0) Try.func70 (by kernel_rfl) rfl ?_
    generalize hK : Told _ = K
    conv => whnf
    refine ⟨[], [0, 1, 7, 8], 0, fun q s => ∃ i : Nat, q = xs.length - i ∧ i ≤ xs.length ∧ idxS xs (xs.length - i) i = idxS xs xs.length 0 ∧ s = ⟨duesAV xs :: .fn 69 [] [] :: .top :: .top :: .top :: .top :: .top :: .int .i64 xs.length :: .int .i64 i :: List.replicate 10 .top, []⟩, Nat.zero_le _, ⟨_, _, ?_, 0, rfl, Nat.zero_le _, rfl, rfl⟩, ?_⟩
    · exact ⟨rfl, rfl, fun o ho => absurd ho (Nat.not_lt_zero _)⟩
    · rintro q s ⟨i, rfl, hi, hs, rfl⟩
      conv => whnf
      refine ⟨fun h2 => ?_, fun h2 => ?_⟩
      · have hlt : i < xs.length := by have := of_decide_eq_true h2; omega
        rw [show xs.length - i = (xs.length - (i + 1)) + 1 by omega, idxS] at hs
        have wi : IntKind.i64.wrap ((i : Int) + 1) = ((i + 1 : Nat) : Int) := by rw [w64 (by omega) (by omega)]; rfl
        have ei : ((i : Int)).toNat = i := Int.toNat_natCast i
        conv => whnf
        refine ⟨⟨by omega, by omega⟩, ?_⟩
        rw [ei]
        conv => whnf
        refine ⟨fun h3 => ?_, fun h3 => ?_⟩
        · rw [show zD (ix xs i) = true from h3, cond_true] at hs
          conv => whnf
          subst hK
          exact told_int hs
        · rw [show zD (ix xs i) = false from h3, cond_false] at hs
          conv => whnf
          refine ⟨xs.length - (i + 1), _, by omega, ?_, i + 1, rfl, hlt, hs, rfl⟩
          rw [← wi]
          exact ⟨rfl, rfl, fun o ho => absurd ho (Nat.not_lt_zero _)⟩
      · have hz : xs.length - i = 0 := by have := of_decide_eq_false h2; omega
        rw [hz, idxS] at hs
        conv => whnf
        subst hK
        exact told_cint hs
  · simp at h
def envX1 : Env := (70, idxQ) :: envX0
theorem envX1_ok : EnvOK Try.prog envX1 := env_cons idx70 envX0_ok
end Go.Proofs.Ytepbibbeifbokaa.Sh
