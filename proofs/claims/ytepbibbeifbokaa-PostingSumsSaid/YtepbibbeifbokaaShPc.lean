/- The shadow machine over this program: the document's answer for what lies between money and money. -/
import Derived.Test.YtepbibbeifbokaaShPb
namespace Go.Proofs.Ytepbibbeifbokaa.Sh
open Go Go.RowKit
set_option linter.unusedVariables false
set_option linter.unusedSimpArgs false
set_option maxRecDepth 100000
set_option maxHeartbeats 4000000
theorem refBetween38 : ∀ vs ob r, mmQ betV vs = some (ob, r) → conj ob → SCall Try.prog 38 vs [] (Told r) := mmQ_of fun a b hla hlb => by
  refine scall_of (cfg_ok envP1_ok 0) Try.func38 (by kernel_rfl) rfl ?_
  generalize hK : Told _ = K
  conv => whnf
  refine ⟨⟨isDues_m hla, fun _ => isDues_m hlb⟩, ?_⟩
  rw [duesOf_self, duesOf_self]
  conv => whnf
  refine ⟨fun h1 => ?_, fun h1 => ?_⟩
  · have h2 : both a b = false := or_not2.mp h1
    conv => whnf
    subst hK
    refine ⟨trivial, ?_⟩
    unfold betV bet
    rw [h2]
    show Wk (.tup [.ro 0 0 (some 0) fun _ => [], .int .i64 1]) _
    exact wk_tup2 (ro_wk (.inl rfl)) (Wk.refl _)
  · have h2 : both a b = true := by
      cases h3 : both a b with
      | true => rfl
      | false => exact absurd ((or_not2 (x := (readM a).2) (y := (readM b).2)).mpr h3) (by rw [show _ = false from h1]; decide)
    conv => whnf
    refine ⟨[(6, 2)], [2, 3, 6, 7], 3, fun q s => ∃ (j : Nat) (L : List P), q = 11 - j ∧ j ≤ 11 ∧ L = betL a b j ∧ s = ⟨.top :: .top :: .ptr 0 1 1 0 0 :: .ptr 1 1 1 0 0 :: .top :: .top :: .sl 2 2 0 L.length none :: .int .i64 ((j + 1 : Nat) : Int) :: List.replicate 29 .top, [.lit 1 [.int .i64 a.pri, .int .i64 a.acc, duesAV a.dues, .int .i64 a.pen, .int .i64 a.fee, .int .i64 a.una, .int .i64 a.cash, .int .i64 a.ear, .int .i64 a.fin, .int .i64 a.cha], .lit 1 [.int .i64 b.pri, .int .i64 b.acc, duesAV b.dues, .int .i64 b.pen, .int .i64 b.fee, .int .i64 b.una, .int .i64 b.cash, .int .i64 b.ear, .int .i64 b.fin, .int .i64 b.cha], .rows 2 L.length (postCells L)]⟩, Nat.zero_le _, ⟨_, _, ?_, 0, [], rfl, Nat.zero_le _, rfl, rfl⟩, ?_⟩
    · exact ⟨rfl, rfl, fun o ho => match o, ho with | 0, _ => rfl | 1, _ => rfl | 2, _ => ⟨rfl, rfl, fun j hj => absurd hj (Nat.not_lt_zero _)⟩⟩
    · rintro q s ⟨j, L, rfl, hj, hL, rfl⟩
      have hlL : L.length ≤ 11 := by rw [hL]; exact Nat.le_trans (betL_len a b j) hj
      conv => whnf
      refine ⟨fun h3 => ?_, fun h3 => ?_⟩
      · have hlt : j + 1 ≤ 11 := by have := of_decide_eq_true h3; omega
        have wi : IntKind.i64.wrap (((j + 1 : Nat) : Int) + 1) = ((j + 1 + 1 : Nat) : Int) := by rw [w64 (by omega) (by omega)]; rfl
        conv => whnf
        refine ⟨[], by kernel_rfl, ?_⟩
        conv => whnf
        refine ⟨⟨isDues_m hlb, isDues_m hla⟩, ?_⟩
        rw [duesOf_self, duesOf_self]
        conv => whnf
        refine ⟨fun h4 => ?_, fun h4 => ?_⟩
        · have h5 : (IntKind.i64.wrap (balM b ((j + 1 : Nat) : Int) - balM a ((j + 1 : Nat) : Int)) == 0) = false := by
            have : (!(IntKind.i64.wrap (balM b ((j + 1 : Nat) : Int) - balM a ((j + 1 : Nat) : Int)) == 0)) = true := h4
            simpa using this
          conv => whnf
          refine ⟨⟨rfl, show (L.length + 1) * 16 ≤ _ by omega, fun i hi => ⟨rfl, rfl⟩⟩, ?_⟩
          conv => whnf
          refine ⟨11 - (j + 1), _, by omega, ?_, j + 1, L ++ [⟨((j + 1 : Nat) : Int), IntKind.i64.wrap (balM b ((j + 1 : Nat) : Int) - balM a ((j + 1 : Nat) : Int))⟩], rfl, hlt, by rw [betL, h5, hL]; rfl, rfl⟩
          rw [← wi, List.length_append]
          exact ⟨rfl, rfl, fun o ho => match o, ho with | 0, _ => rfl | 1, _ => rfl | 2, _ => ⟨rfl, rfl, fun i hi => post_app L ⟨((j + 1 : Nat) : Int), IntKind.i64.wrap (balM b ((j + 1 : Nat) : Int) - balM a ((j + 1 : Nat) : Int))⟩ hi⟩⟩
        · have h5 : (IntKind.i64.wrap (balM b ((j + 1 : Nat) : Int) - balM a ((j + 1 : Nat) : Int)) == 0) = true := by
            have : (!(IntKind.i64.wrap (balM b ((j + 1 : Nat) : Int) - balM a ((j + 1 : Nat) : Int)) == 0)) = false := h4
            simpa using this
          conv => whnf
          refine ⟨11 - (j + 1), _, by omega, ?_, j + 1, L, rfl, hlt, by rw [betL, h5, hL]; rfl, rfl⟩
          rw [← wi]
          exact ⟨rfl, rfl, fun o ho => match o, ho with | 0, _ => rfl | 1, _ => rfl | 2, _ => ⟨rfl, rfl, fun i hi => rfl⟩⟩
      · have he : j = 11 := by have := of_decide_eq_false h3; omega
        subst he
        conv => whnf
        subst hK
        unfold betV bet
        rw [h2, cond_true, cond_true, ← hL]
        exact told_bet rfl rfl
def envP2 : Env := (28, mmQ betV) :: (38, mmQ betV) :: envP1
theorem envP2_ok : EnvOK Try.prog envP2 := env_cons between28 (env_cons refBetween38 envP1_ok)
def trueQ0 : QSpec := fun vs => match vs with
  | [] => some ([], .bool true)
  | _ => none
theorem awake27 : ∀ vs ob r, trueQ0 vs = some (ob, r) → conj ob → SCall Try.prog 27 vs [] (Told r) := by
  intro vs ob r h hob
  unfold trueQ0 at h
  split at h
  · simp only [Option.some.injEq, Prod.mk.injEq] at h
    obtain ⟨rfl, rfl⟩ := h
    refine scall_of (cfg_ok envP2_ok 0) Try.func27 (by kernel_rfl) rfl ?_
    generalize hK : Told _ = K
    conv => whnf
    have h0 : isDues 0 0 (fun _ => []) := ⟨Nat.zero_le _, .inl rfl⟩
    have hb : bet ⟨0, 0, duesOf 0 (fun _ => []), 0, 0, 0, 0, 0, 0, 0⟩ ⟨5, 0, duesOf 0 (fun _ => []), 0, 0, 0, -5, 0, 0, 0⟩ = [⟨1, -5⟩, ⟨2, 5⟩] := by kernel_rfl
    have hb2 : both ⟨0, 0, duesOf 0 (fun _ => []), 0, 0, 0, 0, 0, 0, 0⟩ ⟨5, 0, duesOf 0 (fun _ => []), 0, 0, 0, -5, 0, 0, 0⟩ = true := by kernel_rfl
    refine ⟨⟨h0, h0⟩, ?_⟩
    rw [hb, hb2]
    conv => whnf
    have h1 : (0 : Int) ≤ 0 ∧ (0 : Int) < 2 := by decide
    refine ⟨fun _ => h1, ?_⟩
    conv => whnf
    subst hK
    exact told_bool (by kernel_rfl)
  · simp at h
def envP3 : Env := (27, trueQ0) :: envP2
theorem envP3_ok : EnvOK Try.prog envP3 := env_cons awake27 envP2_ok
end Go.Proofs.Ytepbibbeifbokaa.Sh
