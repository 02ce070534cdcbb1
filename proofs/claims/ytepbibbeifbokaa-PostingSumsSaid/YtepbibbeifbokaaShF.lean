/- The shadow machine over this program: the document's answer for chapter 15, of money. -/
import Derived.Test.YtepbibbeifbokaaShE
namespace Go.Proofs.Ytepbibbeifbokaa.Sh
open Go Go.RowKit
set_option linter.unusedVariables false
set_option linter.unusedSimpArgs false
set_option maxRecDepth 100000
set_option maxHeartbeats 4000000
def env8 : Env := (48, dueQ) :: env7
theorem env8_ok : EnvOK Try.prog env8 := env_cons due48 env7_ok
theorem take_all {m : M} {i : Nat} (h : i < 8) : ((nums m).take (i + 1)).all may = (((nums m).take i).all may && may ((nums m).getD i 0)) := by
  have : i < (nums m).length := h
  rw [List.getD_eq_getElem?_getD, List.take_add_one, List.getElem?_eq_getElem this, List.all_append]
  simp
theorem and4_iff {x z : Bool} {p q : Prop} {_ : Decidable p} {_ : Decidable q} : (bif bif bif x then decide p else false then decide q else false then z else false) = true ↔ x = true ∧ p ∧ q ∧ z = true := by
  cases x <;> cases z <;> by_cases hp : p <;> by_cases hq : q <;> simp [hp, hq]
theorem right_iff {m : M} : (((sumsOf m.dues).isSome && ((nums m).take 8).all may) = true ∧ m.cash ≥ -1000000000000000 ∧ m.cash ≤ 1000000000000000 ∧ (IntKind.i64.wrap (IntKind.i64.wrap (IntKind.i64.wrap (IntKind.i64.wrap (IntKind.i64.wrap (IntKind.i64.wrap (m.cash + m.pri) + m.acc) + ((sumsOf m.dues).getD (0, 0)).1) + ((sumsOf m.dues).getD (0, 0)).2) + m.pen) + m.fee) == IntKind.i64.wrap (IntKind.i64.wrap (IntKind.i64.wrap (m.una + m.ear) + m.fin) + m.cha)) = true) ↔ (readM m).2 = true := by
  have key : ∀ r, sumsOf m.dues = some r → fits m = true → -1000000000000000 ≤ m.cash → m.cash ≤ 1000000000000000 → ((IntKind.i64.wrap (IntKind.i64.wrap (IntKind.i64.wrap (IntKind.i64.wrap (IntKind.i64.wrap (IntKind.i64.wrap (m.cash + m.pri) + m.acc) + r.1) + r.2) + m.pen) + m.fee) == IntKind.i64.wrap (IntKind.i64.wrap (IntKind.i64.wrap (m.una + m.ear) + m.fin) + m.cha)) = true ↔ haves m r = owns m) := fun r hs hf c1 c2 => by
    have hb := sums_bounds hs
    rw [may_iff, may_iff] at hb
    have hall := fits_all hf
    unfold MX at hb hall
    simp (disch := omega) only [w64]
    unfold haves owns
    simp
  constructor
  · rintro ⟨h1, h2, h3, h4⟩
    rw [Bool.and_eq_true] at h1
    have hf : fits m = true := h1.2
    obtain ⟨r, hs⟩ := Option.isSome_iff_exists.mp h1.1
    rw [hs] at h4
    rw [readM_some hf hs (by unfold MX; omega) (by unfold MX; omega)]
    exact decide_eq_true ((key r hs hf h2 h3).mp h4)
  · intro h
    obtain ⟨hf, r, hs, _, c1, c2, h3⟩ := right_all h
    unfold MX at c1 c2
    have hf' : ((nums m).take 8).all may = true := hf
    refine ⟨by rw [hs, hf']; rfl, c1, c2, ?_⟩
    rw [hs]
    exact (key r hs hf c1 c2).mpr h3
theorem refRight17 : ∀ vs ob r, mQ (fun m => .bool (readM m).2) vs = some (ob, r) → conj ob → SCall Try.prog 17 vs [] (Told r) := mQ_of fun m hlen => by
  refine scall_of (cfg_ok env8_ok 0) Try.func17 (by kernel_rfl) rfl ?_
  generalize hK : Told _ = K
  conv => whnf
  refine ⟨isDues_m hlen, ?_⟩
  conv => whnf
  refine ⟨[], [1, 2, 3, 4, 5, 6, 7], 2, fun q s => ∃ i : Nat, q = 8 - i ∧ i ≤ 8 ∧ s = ⟨.top :: .ptr 0 1 1 0 0 :: .bool false :: .int .i64 ((sumsOf (mx m).dues).getD (0, 0)).1 :: .int .i64 ((sumsOf (mx m).dues).getD (0, 0)).2 :: .bool ((sumsOf (mx m).dues).isSome && ((nums m).take i).all may) :: .sl 1 1 0 8 (some 8) :: .int .i64 i :: List.replicate 81 .top, [.lit 1 [.int .i64 m.pri, .int .i64 m.acc, duesAV m.dues, .int .i64 m.pen, .int .i64 m.fee, .int .i64 m.una, .int .i64 m.cash, .int .i64 m.ear, .int .i64 m.fin, .int .i64 m.cha], .lit 1 [.int .i64 m.pri, .int .i64 m.acc, .int .i64 m.pen, .int .i64 m.fee, .int .i64 m.una, .int .i64 m.ear, .int .i64 m.fin, .int .i64 m.cha]]⟩, Nat.zero_le _, ⟨_, _, ?_, 0, rfl, Nat.zero_le _, rfl⟩, ?_⟩
  · have e0 : (sumsOf (mx m).dues).isSome = ((sumsOf (mx m).dues).isSome && ((nums m).take 0).all may) := by simp
    rw [← e0]
    exact ⟨rfl, rfl, fun o ho => match o, ho with | 0, _ => rfl | 1, _ => rfl⟩
  · rintro q s ⟨i, rfl, hi, rfl⟩
    conv => whnf
    refine ⟨fun h1 => ?_, fun h1 => ?_⟩
    · have hlt : i < 8 := by have := of_decide_eq_true h1; omega
      conv => whnf
      refine ⟨⟨fun _ => ⟨by omega, by omega⟩, fun _ => show 0 + (i : Int).toNat < 8 by omega⟩, ?_⟩
      have wok : (bif (sumsOf (mx m).dues).isSome && ((nums m).take i).all may then may ((nums m).getD i 0) else false) = ((sumsOf (mx m).dues).isSome && ((nums m).take (i + 1)).all may) := by
        rw [take_all hlt]
        cases (sumsOf (mx m).dues).isSome <;> cases ((nums m).take i).all may <;> rfl
      rw [← chain_eq hlt] at wok
      have wi : IntKind.i64.wrap ((i : Int) + 1) = ((i + 1 : Nat) : Int) := by rw [w64 (by omega) (by omega)]; rfl
      conv => whnf
      refine ⟨8 - (i + 1), _, by omega, ?_, i + 1, rfl, by omega, rfl⟩
      rw [← wok, ← wi]
      exact ⟨rfl, rfl, fun o ho => match o, ho with | 0, _ => rfl | 1, _ => rfl⟩
    · have he : i = 8 := by have := of_decide_eq_false h1; omega
      subst he
      conv => whnf
      subst hK
      refine told_bool (Bool.eq_iff_iff.mpr (and4_iff.trans ?_))
      rw [mx_eq]
      exact right_iff
end Go.Proofs.Ytepbibbeifbokaa.Sh
