/- The shadow machine over this program: the law WaterfallAll. -/
import Derived.Test.YtepbibbeifbokaaShWd
namespace Go.Proofs.Ytepbibbeifbokaa.Sh
open Go Go.RowKit
set_option linter.unusedVariables false
set_option linter.unusedSimpArgs false
set_option maxRecDepth 1000000
set_option maxHeartbeats 4000000
theorem all3 (m : M) (o : O) (n : Int) (hlen : m.dues.length ≤ 9223372036854775807) : SCall Try.prog 3 [moneyAV m, orderAV o, .int .i64 n] [] (Told (.bool true)) := by
  refine scall_of (cfg_ok envW3_ok 0) Try.func3 (by kernel_rfl) rfl ?_
  generalize hK : Told _ = K
  have hne : (1000000000000001 : Int) ≠ 0 := by decide
  conv => whnf
  refine ⟨isDues_m hlen, ?_⟩
  rw [m_self]
  conv => whnf
  refine ⟨fun h1 => ?_, fun h1 => ?_⟩
  · conv => whnf
    subst hK
    exact told_bool rfl
  · obtain ⟨hr, hok, h60⟩ := or3_false (x := (readM m).2) (y := okO o) h1
    clear h1
    conv => whnf
    refine ⟨hne, ?_⟩
    have hz := rem_boundsW n (n := 1000000000000001) (by decide)
    generalize (IntKind.u64.wrap n).tmod 1000000000000001 = z at hz
    rw [show IntKind.i64.wrap z = z from w64 (by omega) (by omega)]
    have hz' : 0 ≤ z ∧ z ≤ MX := by unfold MX; omega
    conv => whnf
    refine ⟨isDues_m hlen, ?_⟩
    rw [m_self, show (⟨o.a, o.b, o.c, o.d⟩ : O) = o from rfl]
    have hR := splR_ok hr hok hz'
    have hw : ∀ k, 0 ≤ owedM m k := owed_nonneg m
    have hlook := look hok (owedM m) z
    have hleft := spl_left m o z
    have hvb := fun i => vf_bounds hw (o := o) hz' i
    have hlb := fun i => lf_bounds hw (o := o) hz' i
    rw [show runS (owedM m) (restO o 0) (fun _ => 0) z = spl m o z from rfl] at hlook
    generalize hS : spl m o z = S at hlook hleft hR
    obtain ⟨s, l⟩ := S
    dsimp only at hlook hleft hR
    simp only [hR]
    subst hleft
    generalize hlf : lf (owedM m) o z = L at hvb hlb
    generalize hvf : vf (owedM m) o z = V at hlook hvb
    have hrng := ok_rng hok
    have hk14 : ∀ i, i < 4 → 1 ≤ o.at i ∧ o.at i ≤ 4 := fun i hi => valid_rng (by rw [valid_ok]; exact hok) i hi
    conv => whnf
    refine ⟨fun h2 => ?_, fun h2 => ?_⟩
    · exfalso
      have : (bif bif !true then true else (0 : Int) != 0 then true else decide (L 4 < 0)) = true := h2
      have h4 := (hlb 4).1
      rw [decide_eq_false (by omega : ¬ L 4 < 0)] at this
      exact absurd this (by decide)
    · clear h2
      conv => whnf
      unfold MX at hz' hlb
      refine ⟨[], [2, 3, 4, 7, 8, 10, 11, 12], 3, fun q st => ∃ (i : Nat) (fl : Bool), q = 4 - i ∧ i ≤ 4 ∧ (fl = false → L i = 0) ∧ st = ⟨.top :: .top :: .int .i64 z :: .ptr 0 1 1 0 0 :: .ptr 1 1 1 0 0 :: .top :: .top :: .ptr 2 1 1 0 0 :: .int .i64 (L 4) :: .top :: .int .i64 (L 4 + (z - L i)) :: .bool fl :: .int .i64 i :: List.replicate 89 .top, [.lit 1 [.int .i64 m.pri, .int .i64 m.acc, duesAV m.dues, .int .i64 m.pen, .int .i64 m.fee, .int .i64 m.una, .int .i64 m.cash, .int .i64 m.ear, .int .i64 m.fin, .int .i64 m.cha], .lit 1 [.int .i64 o.a, .int .i64 o.b, .int .i64 o.c, .int .i64 o.d], .lit 1 [.int .i64 (s 0), .int .i64 (s 1), .int .i64 (s 2), .int .i64 (s 3)]]⟩, Nat.zero_le _, ⟨_, _, ?_, 0, true, rfl, Nat.zero_le _, (fun h => by cases h), rfl⟩, ?_⟩
      · have e0 : L 0 = z := by rw [← hlf]; rfl
        rw [show L 4 + (z - L 0) = L 4 by omega]
        exact ⟨rfl, rfl, fun o ho => match o, ho with | 0, _ => rfl | 1, _ => rfl | 2, _ => rfl⟩
      · rintro q st ⟨i, fl, rfl, hi, hfl, rfl⟩
        conv => whnf
        refine ⟨fun h3 => ?_, fun h3 => ?_⟩
        · have hlt : i < 4 := by have := of_decide_eq_true h3; omega
          have wi : IntKind.i64.wrap ((i : Int) + 1) = ((i + 1 : Nat) : Int) := by rw [w64 (by omega) (by omega)]; rfl
          have ei : ((i : Int)).toNat = i := Int.toNat_natCast i
          have hki := hk14 i hlt
          have hv := hvb i
          have hl4 := hlb 4
          have hli := hlb i
          have hlook' := hlook i hlt
          have hkw : IntKind.i64.wrap (o.at i - 1) = o.at i - 1 := w64 (by omega) (by omega)
          have hI : 0 ≤ (i : Int) ∧ (i : Int) < 4 := by omega
          conv => whnf
          rw [ei]
          have hk : (bif i == 0 then o.a else bif i - 1 == 0 then o.b else bif i - 1 - 1 == 0 then o.c else o.d) = o.at i := rfl
          rw [hk]
          refine ⟨⟨hI, hlt, ⟨by rw [hkw]; omega, by rw [hkw]; omega⟩, (by rw [hkw]; omega : (IntKind.i64.wrap (o.at i - 1)).toNat < 4)⟩, ?_⟩
          rw [hkw, chain4 (s := s) (q := (o.at i - 1).toNat) (by omega), hlook']
          conv => whnf
          refine ⟨[], by kernel_rfl, ?_⟩
          conv => whnf
          rw [ei, hk]
          refine ⟨⟨hI, hlt, isDues_m hlen⟩, ?_⟩
          rw [m_self]
          conv => whnf
          refine ⟨fun h4 => ?_, fun h4 => ?_⟩
          · exfalso
            rw [cond_all hv.1 hv.2.2.1 (fun hf => by have := hfl hf; omega)] at h4
            cases h4
          · conv => whnf
            have wn : IntKind.i64.wrap (L 4 + (z - L i) + V i) = L 4 + (z - L (i + 1)) := by
              rw [w64 (by omega) (by omega)]
              omega
            refine ⟨4 - (i + 1), _, by omega, ?_, i + 1, bif fl then V i == owedM m (o.at i) else false, rfl, by omega, fun hf => ?_, rfl⟩
            · rw [← wi, ← wn]
              exact ⟨rfl, rfl, fun o ho => match o, ho with | 0, _ => rfl | 1, _ => rfl | 2, _ => rfl⟩
            · cases fl with
              | false => have := hfl rfl; omega
              | true =>
                have hne2 : V i ≠ owedM m (o.at i) := by simpa using hf
                rcases hv.2.2.2.2 with h5 | h5
                · omega
                · exact absurd h5 hne2
        · have he : i = 4 := by have := of_decide_eq_false h3; omega
          subst he
          conv => whnf
          subst hK
          refine told_bool ?_
          rw [show L 4 + (z - L 4) = z by omega]
          cases fl with
          | true => simp
          | false => rw [hfl rfl]; simp
end Go.Proofs.Ytepbibbeifbokaa.Sh
