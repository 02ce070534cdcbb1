/- The shadow machine over this program: the laws WaterfallAll and WaterfallOrders. -/
import Derived.Test.YtepbibbeifbokaaShWc
namespace Go.Proofs.Ytepbibbeifbokaa.Sh
open Go Go.RowKit
set_option linter.unusedVariables false
set_option linter.unusedSimpArgs false
set_option maxRecDepth 1000000
set_option maxHeartbeats 4000000
/-- What is left ahead of the i-th kind, and what it gets. -/
def lf (w : Int → Int) (o : O) (n : Int) : Nat → Int
  | 0 => n
  | i + 1 => nextL (w (o.at i)) (lf w o n i)
def vf (w : Int → Int) (o : O) (n : Int) (i : Nat) : Int := minI (lf w o n i) (w (o.at i))
theorem nextS_hit {w k l : Int} {s : Nat → Int} (hk : 1 ≤ k ∧ k ≤ 4) : nextS w k l s (k - 1).toNat = minI l w := by
  unfold nextS
  rw [w64 (by omega) (by omega)]
  simp
theorem nextS_miss {w k k' l : Int} {s : Nat → Int} (hk : 1 ≤ k ∧ k ≤ 4) (hk' : 1 ≤ k' ∧ k' ≤ 4) (h : k ≠ k') : nextS w k l s (k' - 1).toNat = s (k' - 1).toNat := by
  unfold nextS
  rw [w64 (by omega) (by omega), show ((k - 1).toNat == (k' - 1).toNat) = false from (by simp; omega)]
  rfl
theorem ok_ne {o : O} (h : okO o = true) : o.a ≠ o.b ∧ o.a ≠ o.c ∧ o.a ≠ o.d ∧ o.b ≠ o.c ∧ o.b ≠ o.d ∧ o.c ≠ o.d := by
  have h1 := ok_has h 1 (by omega) (by omega)
  have h2 := ok_has h 2 (by omega) (by omega)
  have h3 := ok_has h 3 (by omega) (by omega)
  have h4 := ok_has h 4 (by omega) (by omega)
  rcases h1 with h1 | h1 | h1 | h1 <;> rcases h2 with h2 | h2 | h2 | h2 <;> first | (exfalso; omega) | (rcases h3 with h3 | h3 | h3 | h3 <;> first | (exfalso; omega) | (rcases h4 with h4 | h4 | h4 | h4 <;> first | (exfalso; omega) | omega))
theorem look {o : O} (h : okO o = true) (w : Int → Int) (n : Int) : ∀ i, i < 4 → (runS w (restO o 0) (fun _ => 0) n).1 (o.at i - 1).toNat = vf w o n i := by
  obtain ⟨h0, h1, h2, h3⟩ := ok_rng h
  obtain ⟨n1, n2, n3, n4, n5, n6⟩ := ok_ne h
  have e : (runS w (restO o 0) (fun _ => 0) n).1 = nextS (w o.d) o.d (lf w o n 3) (nextS (w o.c) o.c (lf w o n 2) (nextS (w o.b) o.b (lf w o n 1) (nextS (w o.a) o.a n (fun _ => 0)))) := by
    have ea : o.at 0 = o.a := rfl
    have eb : o.at 1 = o.b := rfl
    have ec : o.at 2 = o.c := rfl
    simp only [restO, runS, lf, ea, eb, ec]
  rw [e]
  intro i hi
  match i, hi with
  | 0, _ =>
    show _ = minI n (w o.a)
    show nextS _ _ _ _ (o.a - 1).toNat = _
    rw [nextS_miss h3 h0 (Ne.symm n3), nextS_miss h2 h0 (Ne.symm n2), nextS_miss h1 h0 (Ne.symm n1), nextS_hit h0]
  | 1, _ =>
    show _ = minI (lf w o n 1) (w o.b)
    show nextS _ _ _ _ (o.b - 1).toNat = _
    rw [nextS_miss h3 h1 (Ne.symm n5), nextS_miss h2 h1 (Ne.symm n4), nextS_hit h1]
  | 2, _ =>
    show _ = minI (lf w o n 2) (w o.c)
    show nextS _ _ _ _ (o.c - 1).toNat = _
    rw [nextS_miss h3 h2 (Ne.symm n6), nextS_hit h2]
  | 3, _ =>
    show _ = minI (lf w o n 3) (w o.d)
    show nextS _ _ _ _ (o.d - 1).toNat = _
    rw [nextS_hit h3]
theorem lf_bounds {w : Int → Int} (hw : ∀ k, 0 ≤ w k) {o : O} {n : Int} (hn : 0 ≤ n ∧ n ≤ MX) : ∀ i, 0 ≤ lf w o n i ∧ lf w o n i ≤ MX
  | 0 => hn
  | i + 1 => (nextL_eq (lf_bounds hw hn i) (hw _)).2
theorem vf_bounds {w : Int → Int} (hw : ∀ k, 0 ≤ w k) {o : O} {n : Int} (hn : 0 ≤ n ∧ n ≤ MX) (i : Nat) : 0 ≤ vf w o n i ∧ vf w o n i ≤ lf w o n i ∧ vf w o n i ≤ w (o.at i) ∧ lf w o n (i + 1) = lf w o n i - vf w o n i ∧ (vf w o n i = lf w o n i ∨ vf w o n i = w (o.at i)) := by
  have hb := lf_bounds hw (o := o) hn i
  have h1 := minI_bounds hb.1 (hw (o.at i))
  refine ⟨h1.1, h1.2.1, h1.2.2, (nextL_eq hb (hw _)).1, ?_⟩
  unfold vf minI
  split
  · exact .inr rfl
  · exact .inl rfl
theorem spl_left (m : M) (o : O) (n : Int) : (spl m o n).2 = lf (owedM m) o n 4 := by
  have ea : o.at 0 = o.a := rfl
  have eb : o.at 1 = o.b := rfl
  have ec : o.at 2 = o.c := rfl
  have ed : o.at 3 = o.d := rfl
  unfold spl
  simp only [restO, runS, lf, ea, eb, ec, ed]
theorem u64_boundsW (y : Int) : 0 ≤ IntKind.u64.wrap y ∧ IntKind.u64.wrap y < 18446744073709551616 := by
  unfold IntKind.wrap
  simp only [IntKind.bits, IntKind.signed]
  constructor
  · simp; omega
  · simp; omega
theorem rem_boundsW (y : Int) {n : Int} (h : 0 < n) : 0 ≤ (IntKind.u64.wrap y).tmod n ∧ (IntKind.u64.wrap y).tmod n < n := by
  have := u64_boundsW y
  rw [Int.tmod_eq_emod_of_nonneg this.1]
  exact ⟨Int.emod_nonneg _ (by omega), Int.emod_lt_of_pos _ h⟩
theorem chain4 {s : Nat → Int} {q : Nat} (h : q < 4) : (bif q == 0 then s 0 else bif q - 1 == 0 then s 1 else bif q - 1 - 1 == 0 then s 2 else s 3) = s q :=
  match q, h with
  | 0, _ => rfl
  | 1, _ => rfl
  | 2, _ => rfl
  | 3, _ => rfl
theorem splR_ok {m : M} {o : O} {n : Int} (h1 : (readM m).2 = true) (h2 : okO o = true) (h3 : 0 ≤ n ∧ n ≤ MX) : splR m o n = ((spl m o n).1, (spl m o n).2, 0) := by
  have : mayW m o n = true := by
    unfold mayW
    rw [valid_ok, h1, h2, may_iff.mpr h3]
    rfl
  unfold splR
  rw [this]
  rfl
theorem cond_all {v w : Int} {fl : Bool} {_ : Decidable (v < 0)} {_ : Decidable (v > w)} {_ : Decidable (v > 0)} (h0 : 0 ≤ v) (h1 : v ≤ w) (h2 : fl = false → v = 0) : (bif bif decide (v < 0) then true else decide (v > w) then true else bif decide (v > 0) then !fl else false) = false := by
  rw [decide_eq_false (by omega : ¬ v < 0), decide_eq_false (by omega : ¬ v > w)]
  cases fl with
  | true => by_cases h : v > 0 <;> simp [h]
  | false => have := h2 rfl; rw [decide_eq_false (by omega : ¬ v > 0)]; rfl
theorem or3_false {x y : Bool} {p : Prop} {_ : Decidable p} (h : (bif bif !x then true else !y then true else decide p) = false) : x = true ∧ y = true ∧ ¬ p := by
  cases x <;> cases y <;> by_cases hp : p <;> simp_all
theorem perm_tot {o : O} (h : okO o = true) (w : Int → Int) : w o.a + w o.b + w o.c + w o.d = w 1 + w 2 + w 3 + w 4 := by
  have h1 : o.a = 1 ∨ o.b = 1 ∨ o.c = 1 ∨ o.d = 1 := ok_has h 1 (by omega) (by omega)
  have h2 : o.a = 2 ∨ o.b = 2 ∨ o.c = 2 ∨ o.d = 2 := ok_has h 2 (by omega) (by omega)
  have h3 : o.a = 3 ∨ o.b = 3 ∨ o.c = 3 ∨ o.d = 3 := ok_has h 3 (by omega) (by omega)
  have h4 : o.a = 4 ∨ o.b = 4 ∨ o.c = 4 ∨ o.d = 4 := ok_has h 4 (by omega) (by omega)
  rcases h1 with h1 | h1 | h1 | h1 <;> rcases h2 with h2 | h2 | h2 | h2 <;> first | (exfalso; omega) | (rcases h3 with h3 | h3 | h3 | h3 <;> first | (exfalso; omega) | (rcases h4 with h4 | h4 | h4 | h4 <;> first | (exfalso; omega) | (rw [h1, h2, h3, h4] <;> omega)))
theorem sum_spl {o : O} (h : okO o = true) (w : Int → Int) (n : Int) : (runS w (restO o 0) (fun _ => 0) n).1 0 + (runS w (restO o 0) (fun _ => 0) n).1 1 + (runS w (restO o 0) (fun _ => 0) n).1 2 + (runS w (restO o 0) (fun _ => 0) n).1 3 = vf w o n 0 + vf w o n 1 + vf w o n 2 + vf w o n 3 := by
  have l0 := look h w n 0 (by decide)
  have l1 := look h w n 1 (by decide)
  have l2 := look h w n 2 (by decide)
  have l3 := look h w n 3 (by decide)
  generalize (runS w (restO o 0) (fun _ => 0) n).1 = S at *
  generalize vf w o n = V at *
  have e := perm_tot h (fun k => S (k - 1).toNat)
  have e' : S (o.a - 1).toNat + S (o.b - 1).toNat + S (o.c - 1).toNat + S (o.d - 1).toNat = S 0 + S 1 + S 2 + S 3 := e
  rw [← e', ← l0, ← l1, ← l2, ← l3]
  rfl
theorem left_eq {w : Int → Int} (hw : ∀ k, 0 ≤ w k) {o : O} {n : Int} (hn : 0 ≤ n ∧ n ≤ MX) (h : okO o = true) : lf w o n 4 = if w 1 + w 2 + w 3 + w 4 < n then n - (w 1 + w 2 + w 3 + w 4) else 0 := by
  have b4 := lf_bounds hw (o := o) hn 4
  rw [← perm_tot h w]
  have h0 : 0 ≤ vf w o n 0 ∧ vf w o n 0 ≤ n ∧ vf w o n 0 ≤ w o.a ∧ lf w o n 1 = n - vf w o n 0 ∧ (vf w o n 0 = n ∨ vf w o n 0 = w o.a) := vf_bounds hw (o := o) hn 0
  have h1 : 0 ≤ vf w o n 1 ∧ vf w o n 1 ≤ lf w o n 1 ∧ vf w o n 1 ≤ w o.b ∧ lf w o n 2 = lf w o n 1 - vf w o n 1 ∧ (vf w o n 1 = lf w o n 1 ∨ vf w o n 1 = w o.b) := vf_bounds hw (o := o) hn 1
  have h2 : 0 ≤ vf w o n 2 ∧ vf w o n 2 ≤ lf w o n 2 ∧ vf w o n 2 ≤ w o.c ∧ lf w o n 3 = lf w o n 2 - vf w o n 2 ∧ (vf w o n 2 = lf w o n 2 ∨ vf w o n 2 = w o.c) := vf_bounds hw (o := o) hn 2
  have h3 : 0 ≤ vf w o n 3 ∧ vf w o n 3 ≤ lf w o n 3 ∧ vf w o n 3 ≤ w o.d ∧ lf w o n 4 = lf w o n 3 - vf w o n 3 ∧ (vf w o n 3 = lf w o n 3 ∨ vf w o n 3 = w o.d) := vf_bounds hw (o := o) hn 3
  have g0 := hw o.a
  have g1 := hw o.b
  have g2 := hw o.c
  have g3 := hw o.d
  split <;> omega
theorem or4_false2 {x y z : Bool} {p : Prop} {_ : Decidable p} (h : (bif bif bif !x then true else !y then true else !z then true else decide p) = false) : x = true ∧ y = true ∧ z = true ∧ ¬ p := by
  cases x <;> cases y <;> cases z <;> by_cases hp : p <;> simp_all
end Go.Proofs.Ytepbibbeifbokaa.Sh
