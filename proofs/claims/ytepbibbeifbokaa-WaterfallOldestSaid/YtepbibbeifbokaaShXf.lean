/- The shadow machine over this program: when money behind a payment is right, plain. -/
import Derived.Test.YtepbibbeifbokaaShXd
namespace Go.Proofs.Ytepbibbeifbokaa.Sh
open Go Go.RowKit
set_option linter.unusedVariables false
set_option linter.unusedSimpArgs false
set_option maxRecDepth 100000
def before (d e : D) : Prop := d.n < e.n ∧ d.day < e.day
def fine (d : D) : Prop := 1 ≤ d.n ∧ may d.i = true ∧ may d.p = true ∧ d.i + d.p ≠ 0
def totI : List D → Int
  | [] => 0
  | d :: r => d.i + totI r
def totQ : List D → Int
  | [] => 0
  | d :: r => d.p + totQ r
def prevOf (xs : List D) : Nat → Option D
  | 0 => none
  | j + 1 => some (ix xs j)
def upD : Option D → D → Bool
  | none, _ => true
  | some e, d => decide (e.n < d.n) && decide (e.day < d.day)
def okD (q : Option D) (d : D) (a b : Int) : Bool := decide (1 ≤ d.n) && (may d.i && (may d.p && (!decide (d.i + d.p = 0) && (upD q d && (may (a + d.i) && may (b + d.p))))))
/-- goS, along a list. -/
def goL : Option D → List D → Int → Int → Option (Int × Int)
  | _, [], a, b => some (a, b)
  | q, d :: r, a, b => bif okD q d a b then goL (some d) r (a + d.i) (b + d.p) else none
theorem good_ok (xs : List D) (i : Nat) (a b : Int) : good xs i a b = okD (prevOf xs i) (ix xs i) a b := by
  unfold good okD
  cases i with
  | zero => rfl
  | succ j => simp [prevOf, upD]
theorem goS_L (xs : List D) : ∀ k i a b, i + k = xs.length → goS xs k i a b = goL (prevOf xs i) (xs.drop i) a b
  | 0, i, a, b, h => by rw [List.drop_eq_nil_of_le (by omega)]; rfl
  | k + 1, i, a, b, h => by
    have hlt : i < xs.length := by omega
    rw [List.drop_eq_getElem_cons hlt]
    have e : ix xs i = xs[i] := by simp [ix, List.getD_eq_getElem?_getD, List.getElem?_eq_getElem hlt]
    simp only [goS, goL]
    rw [goS_L xs k (i + 1) _ _ (by omega), ← e, good_ok]
    rfl
theorem goL_iff : ∀ (r : List D) (q : Option D) (a b : Int) (R : Int × Int), (0 ≤ a ∧ a ≤ MX) → (0 ≤ b ∧ b ≤ MX) → (goL q r a b = some R ↔ (∀ d ∈ r, fine d) ∧ r.Pairwise before ∧ (∀ e, q = some e → ∀ d ∈ r, before e d) ∧ R = (a + totI r, b + totQ r) ∧ a + totI r ≤ MX ∧ b + totQ r ≤ MX)
  | [], q, a, b, R, ha, hb => by
    simp only [goL, totI, totQ, Int.add_zero, Option.some.injEq]
    constructor
    · intro h
      exact ⟨by simp, List.Pairwise.nil, by simp, h.symm, ha.2, hb.2⟩
    · rintro ⟨_, _, _, h, _, _⟩
      exact h.symm
  | d :: r, q, a, b, R, ha, hb => by
    have key : okD q d a b = true ↔ fine d ∧ (∀ e, q = some e → before e d) ∧ may (a + d.i) = true ∧ may (b + d.p) = true := by
      unfold okD fine before
      cases q with
      | none => simp [upD, and_assoc]
      | some e => simp [upD, and_assoc]
    simp only [goL, totI, totQ]
    cases hc : okD q d a b with
    | false =>
      rw [cond_false]
      constructor
      · intro h; simp at h
      · rintro ⟨h1, h2, h3, h4, h5, h6⟩
        have hf := h1 d (by simp)
        have nn : ∀ l : List D, (∀ d ∈ l, fine d) → 0 ≤ totI l ∧ 0 ≤ totQ l := fun l => by
          induction l with
          | nil => intro _; exact ⟨Int.le_refl _, Int.le_refl _⟩
          | cons x l ih =>
            intro hx
            have h1 := ih fun y hy => hx y (by simp [hy])
            have h2 := hx x (by simp)
            have h3 := may_iff.mp h2.2.1
            have h4 := may_iff.mp h2.2.2.1
            simp only [totI, totQ]
            omega
        have hn := nn r fun y hy => h1 y (by simp [hy])
        have hi := may_iff.mp hf.2.1
        have hp := may_iff.mp hf.2.2.1
        have := key.mpr ⟨hf, fun e he => h3 e he d (by simp), may_iff.mpr (by omega), may_iff.mpr (by omega)⟩
        rw [hc] at this
        simp at this
    | true =>
      rw [cond_true]
      obtain ⟨hf, hq, m1, m2⟩ := key.mp hc
      rw [goL_iff r (some d) (a + d.i) (b + d.p) R (may_iff.mp m1) (may_iff.mp m2)]
      constructor
      · rintro ⟨h1, h2, h3, h4, h5, h6⟩
        refine ⟨fun x hx => ?_, List.pairwise_cons.mpr ⟨fun x hx => h3 d rfl x hx, h2⟩, fun e he x hx => ?_, by rw [h4]; congr 1 <;> omega, by omega, by omega⟩
        · rcases List.mem_cons.mp hx with rfl | hx
          · exact hf
          · exact h1 x hx
        · rcases List.mem_cons.mp hx with rfl | hx
          · exact hq e he
          · have a1 := hq e he
            have a2 := h3 d rfl x hx
            exact ⟨by have := a1.1; have := a2.1; omega, by have := a1.2; have := a2.2; omega⟩
      · rintro ⟨h1, h2, h3, h4, h5, h6⟩
        obtain ⟨p1, p2⟩ := List.pairwise_cons.mp h2
        exact ⟨fun x hx => h1 x (by simp [hx]), p2, fun e he x hx => by cases he; exact p1 x hx, by rw [h4]; congr 1 <;> omega, by omega, by omega⟩
theorem sums_iff {xs : List D} {R : Int × Int} : sumsOf xs = some R ↔ (∀ d ∈ xs, fine d) ∧ xs.Pairwise before ∧ R = (totI xs, totQ xs) ∧ totI xs ≤ MX ∧ totQ xs ≤ MX := by
  unfold sumsOf
  rw [goS_L xs xs.length 0 0 0 (by omega)]
  rw [goL_iff _ _ 0 0 R (by unfold MX; omega) (by unfold MX; omega)]
  simp only [List.drop_zero, Int.zero_add]
  constructor
  · rintro ⟨h1, h2, _, h4⟩; exact ⟨h1, h2, h4⟩
  · rintro ⟨h1, h2, h4⟩; exact ⟨h1, h2, fun e he => absurd he (by simp [prevOf]), h4⟩
/-- Sums of the first n. -/
def sumI (f : Nat → D) : Nat → Int
  | 0 => 0
  | n + 1 => sumI f n + (f n).i
def sumQ (f : Nat → D) : Nat → Int
  | 0 => 0
  | n + 1 => sumQ f n + (f n).p
theorem totI_app (L L' : List D) : totI (L ++ L') = totI L + totI L' := by
  induction L with
  | nil => simp [totI]
  | cons p r ih => simp [totI, ih]; omega
theorem totQ_app (L L' : List D) : totQ (L ++ L') = totQ L + totQ L' := by
  induction L with
  | nil => simp [totQ]
  | cons p r ih => simp [totQ, ih]; omega
theorem zD_zero {d : D} (h : zD d = true) : d.i = 0 ∧ d.p = 0 := by
  unfold zD at h
  by_cases h1 : d.i = 0
  · simp [h1] at h; exact ⟨h1, h⟩
  · simp [h1] at h
theorem keepF_tot (f : Nat → D) : ∀ n, totI (keepF f n) = sumI f n ∧ totQ (keepF f n) = sumQ f n
  | 0 => ⟨rfl, rfl⟩
  | n + 1 => by
    obtain ⟨h1, h2⟩ := keepF_tot f n
    rw [keepF_next]
    simp only [sumI, sumQ]
    cases hz : zD (f n) with
    | true =>
      have := zD_zero hz
      rw [cond_true, h1, h2]
      omega
    | false =>
      rw [cond_false, totI_app, totQ_app, h1, h2]
      simp [totI, totQ]
theorem listF_ix (xs : List D) : listF (ix xs) xs.length = xs := by
  refine List.ext_getElem (by simp [listF]) fun i h1 h2 => ?_
  simp [listF, ix, List.getD_eq_getElem?_getD, List.getElem?_eq_getElem h2]
theorem listF_tot (f : Nat → D) : ∀ n, totI (listF f n) = sumI f n ∧ totQ (listF f n) = sumQ f n
  | 0 => ⟨rfl, rfl⟩
  | n + 1 => by
    obtain ⟨h1, h2⟩ := listF_tot f n
    have e : listF f (n + 1) = listF f n ++ [f n] := by simp [listF, List.range_succ]
    rw [e, totI_app, totQ_app, h1, h2]
    simp [totI, totQ, sumI, sumQ]
theorem tot_ix (xs : List D) : totI xs = sumI (ix xs) xs.length ∧ totQ xs = sumQ (ix xs) xs.length := by
  have := listF_tot (ix xs) xs.length
  rw [listF_ix] at this
  exact this
theorem pa_sum {xs : List D} (hd : duesIn xs) {a b : Int} (ha : inMX a) (hb : inMX b) : ∀ k, k ≤ xs.length → sumI (paidD xs a b) k = sumI (ix xs) k - (a - pa xs a k) ∧ (pa xs a k = 0 ∨ pa xs a k = a - sumI (ix xs) k) ∧ sumQ (paidD xs a b) k = sumQ (ix xs) k - (b - pb xs b k) ∧ (pb xs b k = 0 ∨ pb xs b k = b - sumQ (ix xs) k) ∧ 0 ≤ sumI (ix xs) k ∧ 0 ≤ sumQ (ix xs) k
  | 0, _ => by simp [sumI, sumQ, pa, pb]
  | k + 1, hk => by
    obtain ⟨h1, h2, h3, h4, h5, h6⟩ := pa_sum hd ha hb k (by omega)
    have hdk := hd k (by omega)
    have p1 := pa_in hd ha k (by omega)
    have p2 := pb_in hd hb k (by omega)
    have m1 : minI (ix xs k).i (pa xs a k) = (ix xs k).i ∨ minI (ix xs k).i (pa xs a k) = pa xs a k := by unfold minI; split <;> simp
    have m2 : minI (ix xs k).p (pb xs b k) = (ix xs k).p ∨ minI (ix xs k).p (pb xs b k) = pb xs b k := by unfold minI; split <;> simp
    have n1 := minI_le hdk.1.1 p1.1
    have n2 := minI_le hdk.2.1 p2.1
    simp only [sumI, sumQ, pa, pb, paidD]
    refine ⟨by omega, ?_, by omega, ?_, by omega, by omega⟩
    · rcases m1 with e | e <;> rcases h2 with h | h <;> omega
    · rcases m2 with e | e <;> rcases h4 with h | h <;> omega
theorem paid_sums {xs : List D} {A B : Int} (hs : sumsOf xs = some (A, B)) {a b : Int} (ha : 0 ≤ a ∧ a ≤ A) (hb : 0 ≤ b ∧ b ≤ B) : sumsOf (paidL xs a b) = some (A - a, B - b) := by
  obtain ⟨hf, hp, hR, hI, hQ⟩ := sums_iff.mp hs
  simp only [Prod.mk.injEq] at hR
  obtain ⟨rfl, rfl⟩ := hR
  have hd : duesIn xs := fun i hi => go_in xs _ _ _ _ _ hs i (Nat.zero_le _) (by omega)
  have ha' : inMX a := ⟨ha.1, by omega⟩
  have hb' : inMX b := ⟨hb.1, by omega⟩
  obtain ⟨q1, q2, q3, q4, q5, q6⟩ := pa_sum hd ha' hb' xs.length (Nat.le_refl _)
  obtain ⟨t1, t2⟩ := tot_ix xs
  obtain ⟨k1, k2⟩ := keepF_tot (paidD xs a b) xs.length
  have z1 := pa_in hd ha' xs.length (Nat.le_refl _)
  have z2 := pb_in hd hb' xs.length (Nat.le_refl _)
  have e1 : pa xs a xs.length = 0 := by rcases q2 with h | h; exact h; have := z1.1; omega
  have e2 : pb xs b xs.length = 0 := by rcases q4 with h | h; exact h; have := z2.1; omega
  have hx : ∀ i, i < xs.length → ix xs i ∈ xs := fun i hi => by
    unfold ix
    rw [List.getD_eq_getElem?_getD, List.getElem?_eq_getElem hi]
    exact List.getElem_mem hi
  refine sums_iff.mpr ⟨fun d hdm => ?_, ?_, ?_, ?_, ?_⟩
  · obtain ⟨hm, hz⟩ := List.mem_filter.mp hdm
    obtain ⟨i, hi, rfl⟩ := List.mem_map.mp hm
    have hi' : i < xs.length := by simpa using hi
    have hfi := hf _ (hx i hi')
    have hdi := hd i hi'
    have p1 := pa_in hd ha' i (by omega)
    have p2 := pb_in hd hb' i (by omega)
    have n1 := minI_le hdi.1.1 p1.1
    have n2 := minI_le hdi.2.1 p2.1
    have hz' : zD (paidD xs a b i) = false := by simpa using hz
    refine ⟨hfi.1, may_iff.mpr ?_, may_iff.mpr ?_, ?_⟩
    · show 0 ≤ (ix xs i).i - minI (ix xs i).i (pa xs a i) ∧ (ix xs i).i - minI (ix xs i).i (pa xs a i) ≤ MX
      omega
    · show 0 ≤ (ix xs i).p - minI (ix xs i).p (pb xs b i) ∧ (ix xs i).p - minI (ix xs i).p (pb xs b i) ≤ MX
      omega
    · intro h0
      have g1 : (paidD xs a b i).i = 0 := by
        show (ix xs i).i - minI (ix xs i).i (pa xs a i) = 0
        have : (ix xs i).i - minI (ix xs i).i (pa xs a i) + ((ix xs i).p - minI (ix xs i).p (pb xs b i)) = 0 := h0
        omega
      have g2 : (paidD xs a b i).p = 0 := by
        show (ix xs i).p - minI (ix xs i).p (pb xs b i) = 0
        have : (ix xs i).i - minI (ix xs i).i (pa xs a i) + ((ix xs i).p - minI (ix xs i).p (pb xs b i)) = 0 := h0
        omega
      unfold zD at hz'
      rw [g1, g2] at hz'
      simp at hz'
  · refine List.Pairwise.filter _ ?_
    rw [List.pairwise_iff_getElem]
    intro i j hi hj hij
    have hi' : i < xs.length := by simpa [listF] using hi
    have hj' : j < xs.length := by simpa [listF] using hj
    have hb2 := List.pairwise_iff_getElem.mp hp i j hi' hj' hij
    have ei : ix xs i = xs[i] := by simp [ix, List.getD_eq_getElem?_getD, List.getElem?_eq_getElem hi']
    have ej : ix xs j = xs[j] := by simp [ix, List.getD_eq_getElem?_getD, List.getElem?_eq_getElem hj']
    simp only [listF, List.getElem_map, List.getElem_range]
    show (ix xs i).n < (ix xs j).n ∧ (ix xs i).day < (ix xs j).day
    rw [ei, ej]
    exact hb2
  · have : totI (paidL xs a b) = totI xs - a := by
      show totI (keepF (paidD xs a b) xs.length) = _
      rw [k1, q1, t1, e1]; omega
    have h2 : totQ (paidL xs a b) = totQ xs - b := by
      show totQ (keepF (paidD xs a b) xs.length) = _
      rw [k2, q3, t2, e2]; omega
    rw [this, h2]
  · show totI (keepF (paidD xs a b) xs.length) ≤ MX
    rw [k1, q1, e1, ← t1]; omega
  · show totQ (keepF (paidD xs a b) xs.length) ≤ MX
    rw [k2, q3, e2, ← t2]; omega
theorem spl_sum {m : M} {o : O} {n : Int} (ho : okO o = true) (hn : 0 ≤ n ∧ n ≤ MX) : (spl m o n).1 0 + (spl m o n).1 1 + (spl m o n).1 2 + (spl m o n).1 3 = n - (spl m o n).2 := by
  have h1 := sum_spl ho (owedM m) n
  rw [show runS (owedM m) (restO o 0) (fun _ => 0) n = spl m o n from rfl] at h1
  have h0 : lf (owedM m) o n 1 = n - vf (owedM m) o n 0 := (vf_bounds (owed_nonneg m) (o := o) hn 0).2.2.2.1
  have g1 : lf (owedM m) o n 2 = lf (owedM m) o n 1 - vf (owedM m) o n 1 := (vf_bounds (owed_nonneg m) (o := o) hn 1).2.2.2.1
  have g2 : lf (owedM m) o n 3 = lf (owedM m) o n 2 - vf (owedM m) o n 2 := (vf_bounds (owed_nonneg m) (o := o) hn 2).2.2.2.1
  have g3 : lf (owedM m) o n 4 = lf (owedM m) o n 3 - vf (owedM m) o n 3 := (vf_bounds (owed_nonneg m) (o := o) hn 3).2.2.2.1
  rw [h1, spl_left]
  omega
/-- Money behind a payment is right just if its cash may be. -/
theorem right_aft {m : M} {o : O} {n : Int} (hr : (readM m).2 = true) (ho : okO o = true) (hn : 0 ≤ n ∧ n ≤ MX) : ∃ A B, readM m = ((A, B), true) ∧ inMX A ∧ inMX B ∧ inMX m.fee ∧ inMX m.pen ∧ (0 ≤ (spl m o n).1 0 ∧ (spl m o n).1 0 ≤ m.fee) ∧ (0 ≤ (spl m o n).1 1 ∧ (spl m o n).1 1 ≤ m.pen) ∧ (0 ≤ (spl m o n).1 2 ∧ (spl m o n).1 2 ≤ A) ∧ (0 ≤ (spl m o n).1 3 ∧ (spl m o n).1 3 ≤ B) ∧
    ((readM (aft m o n)).2 = true ↔ m.cash + (n - (spl m o n).2) ≤ MX) ∧ ((readM (aft m o n)).2 = true → readM (aft m o n) = ((A - (spl m o n).1 2, B - (spl m o n).1 3), true)) := by
  obtain ⟨hf, ⟨A, B⟩, hs, hrm, hc1, hc2, hbal⟩ := right_all hr
  have hall := fits_all hf
  have hAB := sums_bounds hs
  rw [may_iff, may_iff] at hAB
  have ow : ∀ k, owedM m k = owedK m.pen m.fee A B k := fun k => by unfold owedM; rw [hrm]; rfl
  have i0 := spl_in (m := m) ho hn (c := 0) (by decide)
  have i1 := spl_in (m := m) ho hn (c := 1) (by decide)
  have i2 := spl_in (m := m) ho hn (c := 2) (by decide)
  have i3 := spl_in (m := m) ho hn (c := 3) (by decide)
  rw [ow] at i0 i1 i2 i3
  have o0 : owedK m.pen m.fee A B ((0 + 1 : Nat) : Int) = m.fee := rfl
  have o1 : owedK m.pen m.fee A B ((1 + 1 : Nat) : Int) = m.pen := rfl
  have o2 : owedK m.pen m.fee A B ((2 + 1 : Nat) : Int) = A := rfl
  have o3 : owedK m.pen m.fee A B ((3 + 1 : Nat) : Int) = B := rfl
  rw [o0] at i0
  rw [o1] at i1
  rw [o2] at i2
  rw [o3] at i3
  have hl := left_in (m := m) (o := o) hn
  have hsum := spl_sum (m := m) ho hn
  have hps := paid_sums hs (a := (spl m o n).1 2) (b := (spl m o n).1 3) ⟨i2.1.1, i2.2⟩ ⟨i3.1.1, i3.2⟩
  have hfa : fits (aft m o n) = true := by
    unfold fits nums aft aftM
    simp only [List.all_cons, List.all_nil, Bool.and_true, Bool.and_eq_true, may_iff]
    unfold inMX at *
    omega
  have hsa : sumsOf (aft m o n).dues = some (A - (spl m o n).1 2, B - (spl m o n).1 3) := hps
  have hba : haves (aft m o n) (A - (spl m o n).1 2, B - (spl m o n).1 3) = owns (aft m o n) := by
    unfold haves owns at hbal ⊢
    unfold aft aftM
    dsimp only at hbal ⊢
    omega
  have hca : (aft m o n).cash = m.cash + (n - (spl m o n).2) := rfl
  have fwd : (readM (aft m o n)).2 = true → m.cash + (n - (spl m o n).2) ≤ MX := fun h => by
    obtain ⟨_, _, _, _, _, h2, _⟩ := right_all h
    rw [hca] at h2
    exact h2
  have bwd : m.cash + (n - (spl m o n).2) ≤ MX → readM (aft m o n) = ((A - (spl m o n).1 2, B - (spl m o n).1 3), true) := fun h => by
    rw [readM_some hfa hsa (by rw [hca]; omega) (by rw [hca]; exact h), decide_eq_true hba]
  refine ⟨A, B, hrm, hAB.1, hAB.2, hall.2.2.2.1, hall.2.2.1, ⟨i0.1.1, i0.2⟩, ⟨i1.1.1, i1.2⟩, ⟨i2.1.1, i2.2⟩, ⟨i3.1.1, i3.2⟩, ⟨fwd, fun h => by rw [bwd h]⟩, fun h => bwd (fwd h)⟩
end Go.Proofs.Ytepbibbeifbokaa.Sh
