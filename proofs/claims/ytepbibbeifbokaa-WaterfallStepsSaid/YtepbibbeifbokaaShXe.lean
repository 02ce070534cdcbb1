/- The shadow machine over this program: the law WaterfallTells. -/
import Derived.Test.YtepbibbeifbokaaShXd
import Derived.Test.YtepbibbeifbokaaShPb
import Derived.Test.YtepbibbeifbokaaShJ
namespace Go.Proofs.Ytepbibbeifbokaa.Sh
open Go Go.RowKit
set_option linter.unusedVariables false
set_option linter.unusedSimpArgs false
set_option maxRecDepth 1000000
set_option maxHeartbeats 4000000
def sM (a b : M) : Bool := bif bif bif bif bif bif bif bif bif a.pri == b.pri then a.acc == b.acc else false then sameD a.dues b.dues else false then a.pen == b.pen else false then a.fee == b.fee else false then a.una == b.una else false then a.cash == b.cash else false then a.ear == b.ear else false then a.fin == b.fin else false then a.cha == b.cha else false
theorem sM_self (a : M) : sM a a = true := by simp [sM, sameD_self]
def envY0 : Env := (57, plainQ) :: (35, keptQ) :: (31, ownQ) :: envX3
theorem envY0_ok : EnvOK Try.prog envY0 := env_cons plain57 (env_cons kept35 (env_cons own31 envX3_ok))
theorem money47 : ∀ vs ob r, mmQ (fun a b => .bool (sM a b)) vs = some (ob, r) → conj ob → SCall Try.prog 47 vs [] (Told r) := mmQ_of fun a b hla hlb => by
  refine scall_of (cfg_ok envY0_ok 0) Try.func47 (by kernel_rfl) rfl ?_
  generalize hK : Told _ = K
  conv => whnf
  refine ⟨fun _ => ⟨isDues_m hla, isDues_m hlb⟩, ?_⟩
  rw [duesOf_self, duesOf_self]
  conv => whnf
  subst hK
  exact told_bool rfl
def envY1 : Env := (47, mmQ (fun a b => .bool (sM a b))) :: envY0
theorem envY1_ok : EnvOK Try.prog envY1 := env_cons money47 envY0_ok
theorem applyR_len (m : M) (o : O) (n : Int) : (applyR m o n).1.dues.length ≤ m.dues.length := by
  unfold applyR
  cases mayW m o n with
  | false => exact Nat.zero_le _
  | true =>
    rw [cond_true]
    cases (readM (aft m o n)).2 with
    | false => exact Nat.zero_le _
    | true => exact paid_len _ _ _
theorem tells13 (m : M) (o : O) (n : Int) (hlen : m.dues.length ≤ 9223372036854775807) : SCall Try.prog 13 [moneyAV m, orderAV o, .int .i64 n] [] (Told (.bool true)) := by
  refine scall_of (cfg_ok envY1_ok 0) Try.func13 (by kernel_rfl) rfl ?_
  generalize hK : Told _ = K
  conv => whnf
  refine ⟨fun h1 => ?_, fun h1 => ?_⟩
  · conv => whnf
    subst hK
    exact told_bool rfl
  · have h60 : m.dues.length ≤ 60 := by
      have := of_decide_eq_false h1
      omega
    conv => whnf
    refine ⟨⟨isDues_m hlen, by omega⟩, ?_⟩
    rw [duesOf_self]
    have ho := own_dues (xs := m.dues) (d := ⟨71, 0, 0, 0⟩) (by omega)
    have hd := isDues_m hlen
    have hk : isOwn 4 m.dues.length (m.dues.length + 3) (ownRow m.dues ⟨71, 0, 0, 0⟩) 4 m.dues.length (dueRow m.dues) ⟨71, 0, 0, 0⟩ := ⟨m.dues, by omega, rfl, rfl, rfl, fun _ _ => rfl, hd, duesOf_self _⟩
    have hm : (⟨m.pri, m.acc, m.dues, m.pen, m.fee, m.una, m.cash, m.ear, m.fin, m.cha⟩ : M) = m := rfl
    have hal := applyR_len m o n
    have hda := isDues_self (xs := (applyR m o n).1.dues) (by omega)
    conv => whnf
    refine ⟨ho.1, ?_⟩
    rw [ho.2, hm, show (⟨o.a, o.b, o.c, o.d⟩ : O) = o from rfl]
    conv => whnf
    refine ⟨hd, ?_⟩
    rw [m_self, show (⟨o.a, o.b, o.c, o.d⟩ : O) = o from rfl]
    conv => whnf
    refine ⟨⟨ho.1, by show (duesOf _ _).length ≤ 1000; rw [duesOf_length]; omega⟩, ?_⟩
    rw [ho.2, hm, show (⟨o.a, o.b, o.c, o.d⟩ : O) = o from rfl]
    conv => whnf
    refine ⟨⟨hd, by show (duesOf _ _).length ≤ 1000; rw [duesOf_length]; omega⟩, ?_⟩
    rw [m_self, show (⟨o.a, o.b, o.c, o.d⟩ : O) = o from rfl]
    generalize applyR m o n = A at hda
    obtain ⟨am, al, ae⟩ := A
    dsimp only at hda
    conv => whnf
    refine ⟨⟨fun _ => ⟨hda, hda⟩, fun _ => hk⟩, ?_⟩
    rw [duesOf_self]
    conv => whnf
    subst hK
    refine told_bool ?_
    simp [sM_self]
end Go.Proofs.Ytepbibbeifbokaa.Sh
