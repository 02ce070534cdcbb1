/- The shadow machine over this program: the law WaterfallOrders. -/
import Derived.Test.YtepbibbeifbokaaShWd
namespace Go.Proofs.Ytepbibbeifbokaa.Sh
open Go Go.RowKit
set_option linter.unusedVariables false
set_option linter.unusedSimpArgs false
set_option maxRecDepth 1000000
set_option maxHeartbeats 4000000
theorem first_most {a b : O} (ha : okO a = true) (hb : okO b = true) {w : Int → Int} (hw : ∀ k, 0 ≤ w k) {n : Int} (hn : 0 ≤ n ∧ n ≤ MX) : (runS w (restO b 0) (fun _ => 0) n).1 (a.at 0 - 1).toNat ≤ (runS w (restO a 0) (fun _ => 0) n).1 (a.at 0 - 1).toNat := by
  rw [look ha w n 0 (by decide)]
  have hr := ok_rng ha
  have key : ∃ i, i < 4 ∧ b.at i = a.at 0 := by
    have h := ok_has hb (a.at 0).toNat (by show 1 ≤ a.a.toNat; omega) (by show a.a.toNat ≤ 4; omega)
    have e : (((a.at 0).toNat : Nat) : Int) = a.at 0 := Int.toNat_of_nonneg (by show 0 ≤ a.a; omega)
    rw [e] at h
    rcases h with h | h | h | h
    · exact ⟨0, by decide, h⟩
    · exact ⟨1, by decide, h⟩
    · exact ⟨2, by decide, h⟩
    · exact ⟨3, by decide, h⟩
  obtain ⟨i, hi, e⟩ := key
  have l := look hb w n i hi
  rw [e] at l
  rw [l]
  have h0 := vf_bounds hw (o := a) hn 0
  have h1 := vf_bounds hw (o := b) hn i
  rw [e] at h1
  have mono : ∀ j, lf w b n j ≤ n := fun j => by
    induction j with
    | zero => exact Int.le_refl _
    | succ j ih => have := vf_bounds hw (o := b) hn j; omega
  have := mono i
  have e0 : lf w a n 0 = n := rfl
  rw [e0] at h0
  omega
theorem vsum {w : Int → Int} (hw : ∀ k, 0 ≤ w k) {o : O} {n : Int} (hn : 0 ≤ n ∧ n ≤ MX) : vf w o n 0 + vf w o n 1 + vf w o n 2 + vf w o n 3 = n - lf w o n 4 := by
  have h0 : lf w o n 1 = n - vf w o n 0 := (vf_bounds hw (o := o) hn 0).2.2.2.1
  have h1 : lf w o n 2 = lf w o n 1 - vf w o n 1 := (vf_bounds hw (o := o) hn 1).2.2.2.1
  have h2 : lf w o n 3 = lf w o n 2 - vf w o n 2 := (vf_bounds hw (o := o) hn 2).2.2.2.1
  have h3 : lf w o n 4 = lf w o n 3 - vf w o n 3 := (vf_bounds hw (o := o) hn 3).2.2.2.1
  omega
theorem orders4 (m : M) (a b : O) (n : Int) (hlen : m.dues.length ≤ 9223372036854775807) : SCall Try.prog 4 [moneyAV m, orderAV a, orderAV b, .int .i64 n] [] (Told (.bool true)) := by
  refine scall_of (cfg_ok envW3_ok 0) Try.func4 (by kernel_rfl) rfl ?_
  generalize hK : Told _ = K
  have hne : (1000000000000001 : Int) ≠ 0 := by decide
  conv => whnf
  refine ⟨isDues_m hlen, ?_⟩
  rw [m_self]
  conv => whnf
  refine ⟨fun h1 => ?_, fun h1 => ?_⟩
  · conv => whnf
    subst hK
    exact told_bool rfl
  · obtain ⟨hr, hoa, hob, h60⟩ := or4_false2 (x := (readM m).2) (y := okO a) (z := okO b) h1
    clear h1
    conv => whnf
    refine ⟨hne, ?_⟩
    have hz := rem_boundsW n (n := 1000000000000001) (by decide)
    generalize (IntKind.u64.wrap n).tmod 1000000000000001 = z at hz
    rw [show IntKind.i64.wrap z = z from w64 (by omega) (by omega)]
    have hz' : 0 ≤ z ∧ z ≤ MX := by unfold MX; omega
    conv => whnf
    refine ⟨isDues_m hlen, ?_⟩
    rw [m_self, show (⟨a.a, a.b, a.c, a.d⟩ : O) = a from rfl]
    conv => whnf
    refine ⟨isDues_m hlen, ?_⟩
    rw [m_self, show (⟨b.a, b.b, b.c, b.d⟩ : O) = b from rfl]
    have hw : ∀ k, 0 ≤ owedM m k := owed_nonneg m
    have hu : (spl m a z).2 = (spl m b z).2 := by
      rw [spl_left, spl_left, left_eq hw hz' hoa, left_eq hw hz' hob]
    have hsa := sum_spl hoa (owedM m) z
    have hsb := sum_spl hob (owedM m) z
    have hfm := first_most hoa hob hw hz'
    rw [vsum hw hz'] at hsa hsb
    rw [spl_left, spl_left] at hu
    have hbl := lf_bounds hw (o := a) hz' 4
    have hka := (ok_rng hoa).1
    have hnn : ∀ c, c < 4 → ∀ o, okO o = true → 0 ≤ (spl m o z).1 c ∧ (spl m o z).1 c ≤ MX := fun c hc o ho => by
      have hh := ok_has ho (c + 1) (by omega) (by omega)
      have key : ∃ i, i < 4 ∧ o.at i = ((c + 1 : Nat) : Int) := by
        rcases hh with h | h | h | h
        · exact ⟨0, by decide, h⟩
        · exact ⟨1, by decide, h⟩
        · exact ⟨2, by decide, h⟩
        · exact ⟨3, by decide, h⟩
      obtain ⟨i, hi, e⟩ := key
      have l := look ho (owedM m) z i hi
      rw [e, show (((c + 1 : Nat) : Int) - 1).toNat = c by omega] at l
      have hv := vf_bounds hw (o := o) hz' i
      have hl := lf_bounds hw (o := o) hz' i
      show 0 ≤ (runS (owedM m) (restO o 0) (fun _ => 0) z).1 c ∧ (runS (owedM m) (restO o 0) (fun _ => 0) z).1 c ≤ MX
      rw [l]
      omega
    have na0 := hnn 0 (by decide) a hoa
    have na1 := hnn 1 (by decide) a hoa
    have na2 := hnn 2 (by decide) a hoa
    have na3 := hnn 3 (by decide) a hoa
    have nb0 := hnn 0 (by decide) b hob
    have nb1 := hnn 1 (by decide) b hob
    have nb2 := hnn 2 (by decide) b hob
    have nb3 := hnn 3 (by decide) b hob
    rw [show runS (owedM m) (restO a 0) (fun _ => 0) z = spl m a z from rfl] at hsa hfm
    rw [show runS (owedM m) (restO b 0) (fun _ => 0) z = spl m b z from rfl] at hsb hfm
    have hsum : (spl m a z).1 0 + (spl m a z).1 1 + (spl m a z).1 2 + (spl m a z).1 3 = (spl m b z).1 0 + (spl m b z).1 1 + (spl m b z).1 2 + (spl m b z).1 3 := by rw [hsa, hsb, hu]
    have hRa := splR_ok hr hoa hz'
    have hRb := splR_ok hr hob hz'
    have hu' : (spl m a z).2 = (spl m b z).2 := by rw [spl_left, spl_left, hu]
    clear hsa hsb
    generalize spl m a z = SA at hsum hfm na0 na1 na2 na3 hu' hRa
    generalize spl m b z = SB at hsum hfm nb0 nb1 nb2 nb3 hu' hRb
    obtain ⟨sa, la⟩ := SA
    obtain ⟨sb, lb⟩ := SB
    dsimp only at hsum hfm na0 na1 na2 na3 nb0 nb1 nb2 nb3 hu' hRa hRb
    subst hu'
    simp only [hRa, hRb]
    have c0 : (0 : Int) ≤ 0 ∧ (0 : Int) < 4 := by decide
    have c1 : (0 : Int) ≤ 1 ∧ (1 : Int) < 4 := by decide
    have c2 : (0 : Int) ≤ 2 ∧ (2 : Int) < 4 := by decide
    have c3 : (0 : Int) ≤ 3 ∧ (3 : Int) < 4 := by decide
    have hkw : IntKind.i64.wrap (a.a - 1) = a.a - 1 := w64 (by omega) (by omega)
    have hk : 0 ≤ IntKind.i64.wrap (a.a - 1) ∧ IntKind.i64.wrap (a.a - 1) < 4 := by rw [hkw]; omega
    have hq : (IntKind.i64.wrap (a.a - 1)).toNat < 4 := by omega
    conv => whnf
    refine ⟨[], by kernel_rfl, ?_⟩
    conv => whnf
    refine ⟨⟨fun _ => c0, fun _ => c1, fun _ => c2, fun _ => c3, fun _ => c0, fun _ => c1, fun _ => c2, fun _ => c3, fun _ => c0, fun _ => hk, fun _ => hq, fun _ => c0, fun _ => hk, fun _ => hq⟩, ?_⟩
    unfold MX at *
    have ws : ∀ x0 x1 x2 x3 : Int, (0 ≤ x0 ∧ x0 ≤ 1000000000000000) → (0 ≤ x1 ∧ x1 ≤ 1000000000000000) → (0 ≤ x2 ∧ x2 ≤ 1000000000000000) → (0 ≤ x3 ∧ x3 ≤ 1000000000000000) → IntKind.i64.wrap (IntKind.i64.wrap (IntKind.i64.wrap (x0 + x1) + x2) + x3) = x0 + x1 + x2 + x3 := fun x0 x1 x2 x3 h0 h1 h2 h3 => by
      rw [w64 (n := x0 + x1) (by omega) (by omega), w64 (n := x0 + x1 + x2) (by omega) (by omega), w64 (by omega) (by omega)]
    rw [ws _ _ _ _ na0 na1 na2 na3, ws _ _ _ _ nb0 nb1 nb2 nb3, chain4 (s := sa) hq, chain4 (s := sb) hq, hkw, hsum]
    conv => whnf
    subst hK
    refine told_bool ?_
    have hfm' : sb (a.a - 1).toNat ≤ sa (a.a - 1).toNat := hfm
    rw [decide_eq_true (show sa (a.a - 1).toNat ≥ sb (a.a - 1).toNat from hfm')]
    simp
end Go.Proofs.Ytepbibbeifbokaa.Sh
