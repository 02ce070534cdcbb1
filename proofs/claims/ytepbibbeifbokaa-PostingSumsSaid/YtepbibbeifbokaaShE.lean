/- The shadow machine over this program: the document's answer for chapter 15. -/
import Derived.Test.YtepbibbeifbokaaShD
namespace Go.Proofs.Ytepbibbeifbokaa.Sh
open Go Go.RowKit
set_option linter.unusedVariables false
set_option linter.unusedSimpArgs false
set_option maxRecDepth 100000
set_option maxHeartbeats 4000000
def dueV (r : Option (Int × Int)) : AV := .tup [.int .i64 (r.getD (0, 0)).1, .int .i64 (r.getD (0, 0)).2, .bool r.isSome]
def dueQ : QSpec := fun vs => match vs with
  | [.ro s len cap row] => some ([isDues s len row], dueV (sumsOf (duesOf len row)))
  | _ => none
theorem bad2_iff {mi mp x0 y0 : Bool} {p1 p2 p3 p4 : Prop} {_ : Decidable p1} {_ : Decidable p2} {_ : Decidable p3} {_ : Decidable p4} : (bif bif bif bif decide p1 then true else !mi then true else !mp then true else bif x0 then y0 else false then true else bif decide p2 then bif decide p3 then true else decide p4 else false) = true ↔ ¬ (¬ p1 ∧ mi = true ∧ mp = true ∧ ¬ (x0 = true ∧ y0 = true) ∧ (p2 → ¬ p3 ∧ ¬ p4)) := by
  cases mi <;> cases mp <;> cases x0 <;> cases y0 <;> by_cases h1 : p1 <;> by_cases h2 : p2 <;> by_cases h3 : p3 <;> by_cases h4 : p4 <;> simp [h1, h2, h3, h4]
theorem zero2 {x y : Int} (hx : may x = true) (hy : may y = true) : (IntKind.i64.wrap (x + y) == 0) = false ↔ ¬ ((x == 0) = true ∧ (y == 0) = true) := by
  have m2 := may_iff.mp hx
  have m3 := may_iff.mp hy
  unfold MX at m2 m3
  rw [w64 (by omega) (by omega)]
  simp
  omega
theorem due48 : ∀ vs ob r, dueQ vs = some (ob, r) → conj ob → SCall Try.prog 48 vs [] (Told r) := by
  intro vs ob r h hob
  unfold dueQ at h
  split at h
  · rename_i s len cap row
    simp only [Option.some.injEq, Prod.mk.injEq] at h
    obtain ⟨rfl, rfl⟩ := h
    have hob' : isDues s len row := hob
    refine SCall.weaken (us := [duesAV (duesOf len row)]) ?_ rfl fun i hi => ?_
    · have hlen : (duesOf len row).length ≤ 9223372036854775807 := by rw [duesOf_length]; exact hob'.1
      generalize duesOf len row = xs at hlen
      refine scall_of (cfg_ok env7_ok 0) Try.func48 (by kernel_rfl) rfl ?_
      generalize hK : Told _ = K
      conv => whnf
      refine ⟨[], [0, 5, 6, 7], 0, fun m s => ∃ (i : Nat) (a b : Int), m = xs.length - i ∧ i ≤ xs.length ∧ goS xs (xs.length - i) i a b = sumsOf xs ∧ may a = true ∧ may b = true ∧ s = ⟨duesAV xs :: .top :: .top :: .top :: .top :: .int .i64 a :: .int .i64 b :: .int .i64 i :: List.replicate 80 .top, []⟩, Nat.zero_le _, ⟨_, _, ?_, 0, 0, 0, rfl, Nat.zero_le _, rfl, by decide, by decide, rfl⟩, ?_⟩
      · exact ⟨rfl, rfl, fun o ho => absurd ho (Nat.not_lt_zero _)⟩
      · rintro m s ⟨i, a, b, rfl, hi, hgo, ha, hb, rfl⟩
        conv => whnf
        refine ⟨fun h1 => ?_, fun h1 => ?_⟩
        · have hlt : i < xs.length := by have := of_decide_eq_true h1; omega
          conv => whnf
          refine ⟨⟨by omega, by omega⟩, ?_⟩
          conv => whnf
          refine ⟨[], by kernel_rfl, ?_⟩
          conv => whnf
          have hpos : (decide ((i : Int) > 0) = true) → 0 ≤ IntKind.i64.wrap ((i : Int) - 1) ∧ IntKind.i64.wrap ((i : Int) - 1) < xs.length := fun h => by
            have := of_decide_eq_true h
            rw [w64 (by omega) (by omega)]
            omega
          have ei : ((i : Int)).toNat = i := Int.toNat_natCast i
          refine ⟨⟨fun _ h => hpos h, fun _ h _ => hpos h⟩, ?_⟩
          conv => whnf
          refine ⟨fun hbad => ?_, fun hgood => ?_⟩
          · rw [bad2_iff, ei] at hbad
            have hn : sumsOf xs = none := by
              rw [← hgo]
              refine go_bad hlt fun hg => hbad ?_
              obtain ⟨b1, b2, b3, b4, b5⟩ := bad_of hlt hlen hg
              exact ⟨b4, b1, b2, (zero2 b1 b2).mp b3, b5⟩
            conv => whnf
            subst hK
            rw [hn]
            exact told_of trivial rfl rfl
          · have hgd := Classical.byContradiction (fun h => Bool.false_ne_true (hgood.symm.trans (bad2_iff.mpr h)))
            rw [ei] at hgd
            obtain ⟨b4, b1, b2, b3, b5⟩ := hgd
            have hgd' := And.intro b1 (And.intro b2 (And.intro ((zero2 b1 b2).mpr b3) (And.intro b4 b5)))
            conv => whnf
            refine ⟨[], by kernel_rfl, ?_⟩
            conv => whnf
            have m2 := may_iff.mp b1
            have m3 := may_iff.mp b2
            have ma := may_iff.mp ha
            have mb := may_iff.mp hb
            unfold MX at m2 m3 ma mb
            have wa : IntKind.i64.wrap (a + (ix xs i).i) = a + (ix xs i).i := w64 (by omega) (by omega)
            have wb : IntKind.i64.wrap (b + (ix xs i).p) = b + (ix xs i).p := w64 (by omega) (by omega)
            have wi : IntKind.i64.wrap ((i : Int) + 1) = ((i + 1 : Nat) : Int) := by rw [w64 (by omega) (by omega)]; rfl
            refine ⟨fun h2 => ?_, fun h2 => ?_⟩
            · rw [or_iff, ei, wa, wb] at h2
              have hn : sumsOf xs = none := by rw [← hgo]; exact go_bad hlt fun hg => h2 (let ⟨_, _, _, _, _, h6, h7⟩ := good_iff.mp hg; ⟨h6, h7⟩)
              conv => whnf
              subst hK
              rw [hn]
              exact told_of trivial rfl rfl
            · have h3 := Classical.byContradiction (fun h => Bool.false_ne_true (h2.symm.trans (or_iff.mpr h)))
              rw [ei, wa, wb] at h3
              have hg := good_of hlt hlen hgd' h3.1 h3.2
              conv => whnf
              refine ⟨xs.length - (i + 1), _, by omega, ?_, i + 1, a + (ix xs i).i, b + (ix xs i).p, rfl, by omega, by rw [← go_good hlt hg, hgo], h3.1, h3.2, rfl⟩
              rw [← wa, ← wb, ← wi]
              exact ⟨rfl, rfl, fun o ho => absurd ho (Nat.not_lt_zero _)⟩
        · have he : xs.length - i = 0 := by have := of_decide_eq_false h1; omega
          rw [he, goS] at hgo
          conv => whnf
          subst hK
          rw [← hgo]
          exact told_of trivial rfl rfl
    · match i, hi with
      | 0, _ => exact dues_wk hob'
  · simp at h
end Go.Proofs.Ytepbibbeifbokaa.Sh
