/- The shadow machine over this program: the law PostingTells. -/
import Derived.Test.YtepbibbeifbokaaShPg
namespace Go.Proofs.Ytepbibbeifbokaa.Sh
open Go Go.RowKit
set_option linter.unusedVariables false
set_option linter.unusedSimpArgs false
set_option maxRecDepth 1000000
set_option maxHeartbeats 4000000
def envP8 : Env := (43, keptQP) :: envP7
theorem envP8_ok : EnvOK Try.prog envP8 := env_cons kept43 envP7_ok
theorem or4_few {p q r : Prop} {_ : Decidable p} {_ : Decidable q} {_ : Decidable r} {f : Bool} (h : (bif bif bif decide p then true else decide q then true else decide r then true else !f) = false) : ¬ p ∧ ¬ q ∧ ¬ r ∧ f = true := by
  by_cases hp : p <;> by_cases hq : q <;> by_cases hr : r <;> cases f <;> simp_all
theorem tells11 (a b : M) (l : List P) (bs : List B) (k : Int) (hla : a.dues.length ≤ 9223372036854775807) (hlb : b.dues.length ≤ 9223372036854775807) (hll : l.length ≤ 9223372036854775807) (hbb : bs.length ≤ 9223372036854775807) : SCall Try.prog 11 [moneyAV a, moneyAV b, postsAV l, batchesAV bs, .int .i64 k] [] (Told (.bool true)) := by
  refine scall_of (cfg_ok envP8_ok 0) Try.func11 (by kernel_rfl) rfl ?_
  generalize hK : Told _ = K
  have hw : Wk (.ro 3 bs.length none (batchRow bs)) (batchesAV (batchesOf bs.length (batchRow bs))) := by rw [batchesOf_self]; exact Wk.refl _
  conv => whnf
  refine ⟨fun _ => ⟨hw, hbb⟩, ?_⟩
  rw [batchesOf_self]
  conv => whnf
  refine ⟨fun h1 => ?_, fun h1 => ?_⟩
  · conv => whnf
    subst hK
    exact told_bool rfl
  · obtain ⟨_, _, h3, h4⟩ := or4_few h1
    clear h1
    have hl60 : l.length ≤ 60 := by omega
    have hsm := (few_small h4).1
    have hpl := isPosts_self hll
    conv => whnf
    refine ⟨⟨hpl, by omega⟩, ?_⟩
    rw [postsOf_self]
    have ho := own_duesP (xs := l) (d := ⟨71, 0⟩) (by omega)
    have hk : isOwnP 2 l.length (l.length + 3) (ownRowP l ⟨71, 0⟩) 2 l.length (postRow l) ⟨71, 0⟩ := ⟨l, by omega, rfl, rfl, rfl, fun _ _ => rfl, hpl, postsOf_self _⟩
    conv => whnf
    refine ⟨⟨isDues_m hla, isDues_m hlb⟩, ?_⟩
    rw [m_self, m_self]
    conv => whnf
    refine ⟨⟨isDues_m hla, isDues_m hlb⟩, ?_⟩
    rw [m_self, m_self]
    have hbl := isPosts_self (xs := bet a b) (by have := bet_length0 a b; omega)
    generalize both a b = bo
    conv => whnf
    refine ⟨ho.1, ?_⟩
    rw [ho.2]
    conv => whnf
    refine ⟨hpl, ?_⟩
    rw [postsOf_self]
    conv => whnf
    have hws : Wk (.ro 3 bs.length none (batchRow bs)) (batchesAV (batchesOf bs.length (batchRow bs))) ∧ smallB (batchesOf bs.length (batchRow bs)) := ⟨hw, by rw [batchesOf_self]; exact hsm⟩
    refine ⟨hws, ?_⟩
    rw [batchesOf_self]
    conv => whnf
    refine ⟨hws, ?_⟩
    rw [batchesOf_self]
    conv => whnf
    refine ⟨⟨fun _ => ⟨hbl, hbl⟩, fun _ => hk⟩, ?_⟩
    rw [postsOf_self]
    conv => whnf
    subst hK
    refine told_bool ?_
    simp [sameD_selfP]
end Go.Proofs.Ytepbibbeifbokaa.Sh
