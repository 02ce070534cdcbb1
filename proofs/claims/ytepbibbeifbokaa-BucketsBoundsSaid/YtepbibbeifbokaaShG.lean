/- The shadow machine over this program: the law BucketsBounds. -/
import Derived.Test.YtepbibbeifbokaaShD
namespace Go.Proofs.Ytepbibbeifbokaa.Sh
open Go Go.RowKit
set_option linter.unusedVariables false
set_option linter.unusedSimpArgs false
set_option maxRecDepth 100000
set_option maxHeartbeats 4000000
theorem bounds7 (k : Int) (b : Bool) : SCall Try.prog 7 [.int .i64 k, .bool b] [] (Told (.bool true)) := by
  refine scall_of (cfg_ok env7_ok 0) Try.func7 (by kernel_rfl) rfl ?_
  generalize hK : Told _ = K
  have h0 : isDues 0 0 (fun _ => []) := ⟨Nat.zero_le _, .inl rfl⟩
  have hne : (6 : Int) ≠ 0 := by decide
  have h2 : ∀ {row : Nat → List RV}, row 0 = dueRow (duesOf 2 row) 0 → row 1 = dueRow (duesOf 2 row) 1 → isDues 4 2 row := fun a b => ⟨by decide, .inr ⟨rfl, fun i hi => match i, hi with | 0, _ => a | 1, _ => b⟩⟩
  conv => whnf
  refine ⟨fun h1 => ?_, fun h1 => ?_⟩
  · subst h1
    conv => whnf
    refine ⟨hne, ?_⟩
    conv => whnf
    refine ⟨fun q0 => ?_, fun q0 => ?_⟩
    · have hq : (IntKind.u64.wrap k).tmod 6 = 0 := by simpa using q0
      conv => whnf
      refine ⟨⟨fun _ => h0, fun _ => h0, fun _ _ => hne⟩, ?_⟩
      conv => whnf
      subst hK
      exact told_bool (by kernel_rfl)
    conv => whnf
    refine ⟨fun q1 => ?_, fun q1 => ?_⟩
    · have hq : (IntKind.u64.wrap k).tmod 6 = 1 := by simpa using q1
      conv => whnf
      refine ⟨⟨fun _ => h0, fun _ => h0, fun _ _ => hne⟩, ?_⟩
      conv => whnf
      subst hK
      exact told_bool (by kernel_rfl)
    conv => whnf
    refine ⟨fun q2 => ?_, fun q2 => ?_⟩
    · have hq : (IntKind.u64.wrap k).tmod 6 = 2 := by simpa using q2
      conv => whnf
      refine ⟨⟨fun _ => h0, fun _ => h0, fun _ _ => hne⟩, ?_⟩
      conv => whnf
      subst hK
      exact told_bool (by kernel_rfl)
    conv => whnf
    refine ⟨fun q3 => ?_, fun q3 => ?_⟩
    · have hq : (IntKind.u64.wrap k).tmod 6 = 3 := by simpa using q3
      conv => whnf
      refine ⟨⟨fun _ => h0, fun _ => h0, fun _ _ => hne⟩, ?_⟩
      conv => whnf
      subst hK
      exact told_bool (by kernel_rfl)
    conv => whnf
    refine ⟨fun q4 => ?_, fun q4 => ?_⟩
    · have hq : (IntKind.u64.wrap k).tmod 6 = 4 := by simpa using q4
      conv => whnf
      refine ⟨⟨fun _ => h0, fun _ => h0, fun _ _ => hne⟩, ?_⟩
      conv => whnf
      subst hK
      exact told_bool (by kernel_rfl)
    conv => whnf
    refine ⟨⟨fun _ => h2 rfl rfl, fun _ => h2 rfl rfl, fun _ _ => hne⟩, ?_⟩
    conv => whnf
    subst hK
    exact told_bool (by kernel_rfl)
  · subst h1
    conv => whnf
    refine ⟨hne, ?_⟩
    conv => whnf
    refine ⟨fun q0 => ?_, fun q0 => ?_⟩
    · have hq : (IntKind.u64.wrap k).tmod 6 = 0 := by simpa using q0
      have e1 : ((IntKind.u64.wrap k).tmod 6 == 1) = false := by rw [hq]; rfl
      conv => whnf
      refine ⟨⟨fun _ => h0, fun _ => h0, fun _ _ => hne⟩, ?_⟩
      conv => whnf
      subst hK
      exact told_bool (by rw [e1]; kernel_rfl)
    conv => whnf
    refine ⟨fun q1 => ?_, fun q1 => ?_⟩
    · have hq : (IntKind.u64.wrap k).tmod 6 = 1 := by simpa using q1
      have e1 : ((IntKind.u64.wrap k).tmod 6 == 1) = true := by rw [hq]; rfl
      conv => whnf
      refine ⟨⟨fun _ => h0, fun _ => h0, fun _ _ => hne⟩, ?_⟩
      conv => whnf
      subst hK
      exact told_bool (by rw [e1]; kernel_rfl)
    conv => whnf
    refine ⟨fun q2 => ?_, fun q2 => ?_⟩
    · have hq : (IntKind.u64.wrap k).tmod 6 = 2 := by simpa using q2
      have e1 : ((IntKind.u64.wrap k).tmod 6 == 1) = false := by rw [hq]; rfl
      conv => whnf
      refine ⟨⟨fun _ => h0, fun _ => h0, fun _ _ => hne⟩, ?_⟩
      conv => whnf
      subst hK
      exact told_bool (by rw [e1]; kernel_rfl)
    conv => whnf
    refine ⟨fun q3 => ?_, fun q3 => ?_⟩
    · have hq : (IntKind.u64.wrap k).tmod 6 = 3 := by simpa using q3
      have e1 : ((IntKind.u64.wrap k).tmod 6 == 1) = false := by rw [hq]; rfl
      conv => whnf
      refine ⟨⟨fun _ => h0, fun _ => h0, fun _ _ => hne⟩, ?_⟩
      conv => whnf
      subst hK
      exact told_bool (by rw [e1]; kernel_rfl)
    conv => whnf
    refine ⟨fun q4 => ?_, fun q4 => ?_⟩
    · have hq : (IntKind.u64.wrap k).tmod 6 = 4 := by simpa using q4
      have e1 : ((IntKind.u64.wrap k).tmod 6 == 1) = false := by rw [hq]; rfl
      conv => whnf
      refine ⟨⟨fun _ => h0, fun _ => h0, fun _ _ => hne⟩, ?_⟩
      conv => whnf
      subst hK
      exact told_bool (by rw [e1]; kernel_rfl)
    have e1 : ((IntKind.u64.wrap k).tmod 6 == 1) = false := q1
    conv => whnf
    refine ⟨⟨fun _ => h2 rfl rfl, fun _ => h2 rfl rfl, fun _ _ => hne⟩, ?_⟩
    conv => whnf
    subst hK
    exact told_bool (by rw [e1]; kernel_rfl)
end Go.Proofs.Ytepbibbeifbokaa.Sh
