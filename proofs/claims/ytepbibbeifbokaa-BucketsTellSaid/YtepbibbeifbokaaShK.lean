/- The shadow machine over this program: the law BucketsTell. -/
import Derived.Test.YtepbibbeifbokaaShJ
namespace Go.Proofs.Ytepbibbeifbokaa.Sh
open Go Go.RowKit
set_option linter.unusedVariables false
set_option linter.unusedSimpArgs false
set_option maxRecDepth 100000
set_option maxHeartbeats 4000000
def env16 : Env := (35, keptQ) :: env15
theorem env16_ok : EnvOK Try.prog env16 := env_cons kept35 env15_ok
theorem tell10 (m : M) (k a : Int) (hlen : m.dues.length ≤ 9223372036854775807) : SCall Try.prog 10 [moneyAV m, .int .i64 k, .int .i64 a] [] (Told (.bool true)) := by
  refine scall_of (cfg_ok env16_ok 0) Try.func10 (by kernel_rfl) rfl ?_
  generalize hK : Told _ = K
  conv => whnf
  refine ⟨fun h1 => ?_, fun h1 => ?_⟩
  · conv => whnf
    subst hK
    exact told_bool rfl
  · have h60 : m.dues.length ≤ 60 := by
      have := of_decide_eq_false h1
      omega
    conv => whnf
    refine ⟨⟨isDues_m hlen, by omega⟩, ?_⟩
    rw [duesOf_self]
    have ho := own_dues (xs := m.dues) (d := ⟨71, 0, 0, 0⟩) (by omega)
    have hd := isDues_m hlen
    have hk : isOwn 4 m.dues.length (m.dues.length + 3) (ownRow m.dues ⟨71, 0, 0, 0⟩) 4 m.dues.length (dueRow m.dues) ⟨71, 0, 0, 0⟩ := ⟨m.dues, by omega, rfl, rfl, rfl, fun _ _ => rfl, hd, duesOf_self _⟩
    conv => whnf
    refine ⟨[], by kernel_rfl, ?_⟩
    conv => whnf
    refine ⟨⟨fun _ => ho.1, fun _ => hd, fun _ => ho.1, fun _ => hd, fun _ => ho.1, fun _ => hd, fun _ => ho.1, fun _ => hd, fun _ => ho.1, fun _ => hd, fun _ => hk⟩, ?_⟩
    conv => whnf
    subst hK
    refine told_bool ?_
    simp only [ho.2, duesOf_self]
    simp
end Go.Proofs.Ytepbibbeifbokaa.Sh
