/- The shadow machine over this program: the law WaterfallSteps. -/
import Derived.Test.YtepbibbeifbokaaShXg
import Derived.Test.YtepbibbeifbokaaShXe
namespace Go.Proofs.Ytepbibbeifbokaa.Sh
open Go Go.RowKit
set_option linter.unusedVariables false
set_option linter.unusedSimpArgs false
set_option maxRecDepth 1000000
set_option maxHeartbeats 4000000
def payR : List D → Int → Int → List D
  | [], _, _ => []
  | d :: r, a, b => ⟨d.n, d.day, d.i - minI d.i a, d.p - minI d.p b⟩ :: payR r (a - minI d.i a) (b - minI d.p b)
def nz (L : List D) : List D := L.filter fun d => !zD d
theorem ix_succ (d : D) (r : List D) (i : Nat) : ix (d :: r) (i + 1) = ix r i := rfl
theorem pa_succ (d : D) (r : List D) (a : Int) : ∀ i, pa (d :: r) a (i + 1) = pa r (a - minI d.i a) i
  | 0 => rfl
  | i + 1 => by
    show pa (d :: r) a (i + 1) - minI (ix (d :: r) (i + 1)).i (pa (d :: r) a (i + 1)) = pa r (a - minI d.i a) i - minI (ix r i).i (pa r (a - minI d.i a) i)
    rw [pa_succ d r a i, ix_succ]
theorem pb_succ (d : D) (r : List D) (a : Int) : ∀ i, pb (d :: r) a (i + 1) = pb r (a - minI d.p a) i
  | 0 => rfl
  | i + 1 => by
    show pb (d :: r) a (i + 1) - minI (ix (d :: r) (i + 1)).p (pb (d :: r) a (i + 1)) = pb r (a - minI d.p a) i - minI (ix r i).p (pb r (a - minI d.p a) i)
    rw [pb_succ d r a i, ix_succ]
theorem listF_pay : ∀ (xs : List D) (a b : Int), listF (paidD xs a b) xs.length = payR xs a b
  | [], a, b => rfl
  | d :: r, a, b => by
    have ih := listF_pay r (a - minI d.i a) (b - minI d.p b)
    unfold listF at ih ⊢
    rw [List.length_cons, List.range_succ_eq_map, List.map_cons, List.map_map, payR, ← ih]
    refine congr (congrArg List.cons rfl) (List.map_congr_left fun i _ => ?_)
    show paidD (d :: r) a b (i + 1) = paidD r (a - minI d.i a) (b - minI d.p b) i
    unfold paidD
    rw [ix_succ, pa_succ, pb_succ]
theorem paidL_pay (xs : List D) (a b : Int) : paidL xs a b = nz (payR xs a b) := by
  unfold paidL keepF
  rw [listF_pay]
  rfl
def nnD (L : List D) : Prop := ∀ d ∈ L, 0 ≤ d.i ∧ 0 ≤ d.p
theorem payR_nz : ∀ (L : List D) (a b : Int), nnD L → 0 ≤ a → 0 ≤ b → nz (payR (nz L) a b) = nz (payR L a b)
  | [], a, b, _, _, _ => rfl
  | d :: r, a, b, hn, ha, hb => by
    have hd := hn d (by simp)
    have hr : nnD r := fun x hx => hn x (by simp [hx])
    have m1 := minI_le hd.1 ha
    have m2 := minI_le hd.2 hb
    cases hz : zD d with
    | true =>
      have h0 := zD_zero hz
      have e : nz (d :: r) = nz r := by unfold nz; rw [List.filter_cons, hz]; rfl
      have e1 : minI d.i a = 0 := by omega
      have e2 : minI d.p b = 0 := by omega
      rw [e, payR_nz r a b hr ha hb, payR, e1, e2, Int.sub_zero, Int.sub_zero, Int.sub_zero, Int.sub_zero]
      have hz2 : zD ⟨d.n, d.day, d.i, d.p⟩ = true := hz
      unfold nz
      rw [List.filter_cons, hz2]
      rfl
    | false =>
      have e : nz (d :: r) = d :: nz r := by unfold nz; rw [List.filter_cons, hz]; rfl
      rw [e, payR, payR]
      have ih := payR_nz r (a - minI d.i a) (b - minI d.p b) hr (by omega) (by omega)
      have c : ∀ (x : D) (l : List D), nz (x :: l) = if (!zD x) = true then x :: nz l else nz l := fun x l => by unfold nz; rw [List.filter_cons]
      rw [c, c, ih]
theorem min_twice {x a1 a2 : Int} (hx : 0 ≤ x) (h1 : 0 ≤ a1) (h2 : 0 ≤ a2) : minI x (a1 + a2) = minI x a1 + minI (x - minI x a1) a2 := by
  unfold minI
  (repeat' split) <;> omega
theorem payR_twice : ∀ (L : List D) (a1 b1 a2 b2 : Int), nnD L → 0 ≤ a1 → 0 ≤ b1 → 0 ≤ a2 → 0 ≤ b2 → payR (payR L a1 b1) a2 b2 = payR L (a1 + a2) (b1 + b2)
  | [], _, _, _, _, _, _, _, _, _ => rfl
  | d :: r, a1, b1, a2, b2, hn, h1, h2, h3, h4 => by
    have hd := hn d (by simp)
    have hr : nnD r := fun x hx => hn x (by simp [hx])
    have m1 := minI_le hd.1 h1
    have m2 := minI_le hd.2 h2
    have t1 := min_twice hd.1 h1 h3
    have t2 := min_twice hd.2 h2 h4
    have m3 := minI_le (x := d.i - minI d.i a1) (y := a2) (by omega) h3
    have m4 := minI_le (x := d.p - minI d.p b1) (y := b2) (by omega) h4
    simp only [payR]
    rw [payR_twice r _ _ _ _ hr (by omega) (by omega) (by omega) (by omega), t1, t2]
    have q1 : a1 - minI d.i a1 + (a2 - minI (d.i - minI d.i a1) a2) = a1 + a2 - (minI d.i a1 + minI (d.i - minI d.i a1) a2) := by omega
    have q2 : b1 - minI d.p b1 + (b2 - minI (d.p - minI d.p b1) b2) = b1 + b2 - (minI d.p b1 + minI (d.p - minI d.p b1) b2) := by omega
    have q3 : d.i - minI d.i a1 - minI (d.i - minI d.i a1) a2 = d.i - (minI d.i a1 + minI (d.i - minI d.i a1) a2) := by omega
    have q4 : d.p - minI d.p b1 - minI (d.p - minI d.p b1) b2 = d.p - (minI d.p b1 + minI (d.p - minI d.p b1) b2) := by omega
    rw [q1, q2, q3, q4]
theorem payR_nn : ∀ (L : List D) (a b : Int), nnD L → 0 ≤ a → 0 ≤ b → nnD (payR L a b)
  | [], _, _, _, _, _ => fun d hd => by simp [payR] at hd
  | d :: r, a, b, hn, ha, hb => by
    have hd := hn d (by simp)
    have hr : nnD r := fun x hx => hn x (by simp [hx])
    have m1 := minI_le hd.1 ha
    have m2 := minI_le hd.2 hb
    intro x hx
    rw [payR] at hx
    rcases List.mem_cons.mp hx with rfl | hx
    · dsimp only
      omega
    · exact payR_nn r _ _ hr (by omega) (by omega) x hx
theorem paid_twice {xs : List D} (hn : nnD xs) {a1 b1 a2 b2 : Int} (h1 : 0 ≤ a1) (h2 : 0 ≤ b1) (h3 : 0 ≤ a2) (h4 : 0 ≤ b2) : paidL (paidL xs a1 b1) a2 b2 = paidL xs (a1 + a2) (b1 + b2) := by
  rw [paidL_pay, paidL_pay, paidL_pay, payR_nz _ _ _ (payR_nn _ _ _ hn h1 h2) h3 h4, payR_twice _ _ _ _ _ hn h1 h2 h3 h4]
theorem duesIn_nn {xs : List D} (h : duesIn xs) : nnD xs := fun d hd => by
  obtain ⟨i, hi, rfl⟩ := List.getElem_of_mem hd
  have := h i hi
  rw [show ix xs i = xs[i] by simp [ix, List.getD_eq_getElem?_getD, List.getElem?_eq_getElem hi]] at this
  exact ⟨this.1.1, this.2.1⟩
/-- Two payments, kind by kind. -/
theorem lf_twice {w w' : Int → Int} (hw : ∀ k, 0 ≤ w k) (hw' : ∀ k, 0 ≤ w' k) {o : O} {a b : Int} (ha : 0 ≤ a ∧ a ≤ MX) (hb : 0 ≤ b ∧ b ≤ MX) (hab : a + b ≤ MX) (hww : ∀ i, i < 4 → w' (o.at i) = w (o.at i) - vf w o a i) : ∀ i, i ≤ 4 → lf w o (a + b) i = lf w o a i + lf w' o b i ∧ (i < 4 → vf w o (a + b) i = vf w o a i + vf w' o b i)
  | i, hi => by
    have key : lf w o (a + b) i = lf w o a i + lf w' o b i → i < 4 → vf w o (a + b) i = vf w o a i + vf w' o b i := fun h h4 => by
      have l1 := lf_bounds hw (o := o) ha i
      have l2 := lf_bounds hw' (o := o) hb i
      have hk := hww i h4
      have hwk := hw (o.at i)
      unfold vf at hk ⊢
      rw [h, hk]
      unfold minI
      (repeat' split) <;> omega
    have main : lf w o (a + b) i = lf w o a i + lf w' o b i := by
      match i, hi with
      | 0, _ => rfl
      | j + 1, hi =>
        obtain ⟨h1, h2⟩ := lf_twice hw hw' ha hb hab hww j (by omega)
        have v1 := (vf_bounds hw (o := o) ha j).2.2.2.1
        have v2 := (vf_bounds hw' (o := o) hb j).2.2.2.1
        have v3 := (vf_bounds hw (o := o) (n := a + b) ⟨by omega, hab⟩ j).2.2.2.1
        have := h2 (by omega)
        omega
    exact ⟨main, key main⟩
theorem steps_lem {m : M} {o : O} (hr : (readM m).2 = true) (ho : okO o = true) {a b : Int} (ha : 0 ≤ a ∧ a ≤ MX) (hb : 0 ≤ b ∧ b ≤ MX) (hab : a + b ≤ MX) (hc1 : m.cash + (a - (spl m o a).2) ≤ MX) (hc2 : m.cash + (a + b - (spl m o (a + b)).2) ≤ MX) :
    applyR (aft m o a) o b = (aft m o (a + b), (spl (aft m o a) o b).2, 0) ∧ (spl m o a).2 + (spl (aft m o a) o b).2 = (spl m o (a + b)).2 := by
  have hn : 0 ≤ a + b ∧ a + b ≤ MX := ⟨by omega, hab⟩
  obtain ⟨A, B, hrm, iA, iB, ife, ipe, s0, s1, s2, s3, hiff, hval⟩ := right_aft hr ho ha
  obtain ⟨_, hx2, _⟩ := apply_right hr ho ha hc1
  have hvx := hval hx2
  have ow : ∀ k, owedM m k = owedK m.pen m.fee A B k := fun k => by unfold owedM; rw [hrm]; rfl
  have ox : ∀ k, owedM (aft m o a) k = owedK (m.pen - (spl m o a).1 1) (m.fee - (spl m o a).1 0) (A - (spl m o a).1 2) (B - (spl m o a).1 3) k := fun k => by unfold owedM; rw [hvx]; rfl
  have hww : ∀ i, i < 4 → owedM (aft m o a) (o.at i) = owedM m (o.at i) - vf (owedM m) o a i := fun i hi => by
    have hk := valid_rng (o := o) (by rw [valid_ok]; exact ho) i hi
    have l := look ho (owedM m) a i hi
    rw [show runS (owedM m) (restO o 0) (fun _ => 0) a = spl m o a from rfl] at l
    rw [← l, ox, ow]
    generalize o.at i = k at hk
    rcases four hk with rfl | rfl | rfl | rfl
    · rfl
    · rfl
    · rfl
    · rfl
  have ht := lf_twice (owed_nonneg m) (owed_nonneg (aft m o a)) (o := o) ha hb hab hww
  have hleft : (spl m o a).2 + (spl (aft m o a) o b).2 = (spl m o (a + b)).2 := by
    rw [spl_left, spl_left, spl_left, (ht 4 (Nat.le_refl _)).1]
  have hs : ∀ c, c < 4 → (spl m o (a + b)).1 c = (spl m o a).1 c + (spl (aft m o a) o b).1 c := fun c hc => by
    obtain ⟨i, hi, e, h1⟩ := spl_kind (m := m) ho hn hc
    have l1 := look ho (owedM m) a i hi
    have l2 := look ho (owedM (aft m o a)) b i hi
    rw [e, show (((c + 1 : Nat) : Int) - 1).toNat = c by omega] at l1 l2
    rw [h1, (ht i (by omega)).2 hi, ← l1, ← l2]
    rfl
  have t2 := (spl_in (m := aft m o a) ho hb (c := 2) (by decide)).1
  have t3 := (spl_in (m := aft m o a) ho hb (c := 3) (by decide)).1
  have haft : aft (aft m o a) o b = aft m o (a + b) := by
    have e2 := hs 2 (by decide)
    have e3 := hs 3 (by decide)
    have hp := paid_twice (duesIn_nn (right_in hr).1) (a1 := (spl m o a).1 2) (b1 := (spl m o a).1 3) (a2 := (spl (aft m o a) o b).1 2) (b2 := (spl (aft m o a) o b).1 3) s2.1 s3.1 t2.1 t3.1
    rw [← e2, ← e3] at hp
    have e0 := hs 0 (by decide)
    have e1 := hs 1 (by decide)
    show (⟨m.pri, m.acc, paidL (paidL m.dues ((spl m o a).1 2) ((spl m o a).1 3)) ((spl (aft m o a) o b).1 2) ((spl (aft m o a) o b).1 3), m.pen - (spl m o a).1 1 - (spl (aft m o a) o b).1 1, m.fee - (spl m o a).1 0 - (spl (aft m o a) o b).1 0, m.una, m.cash + (a - (spl m o a).2) + (b - (spl (aft m o a) o b).2), m.ear, m.fin, m.cha⟩ : M) = ⟨m.pri, m.acc, paidL m.dues ((spl m o (a + b)).1 2) ((spl m o (a + b)).1 3), m.pen - (spl m o (a + b)).1 1, m.fee - (spl m o (a + b)).1 0, m.una, m.cash + (a + b - (spl m o (a + b)).2), m.ear, m.fin, m.cha⟩
    rw [hp, show m.pen - (spl m o a).1 1 - (spl (aft m o a) o b).1 1 = m.pen - (spl m o (a + b)).1 1 by omega, show m.fee - (spl m o a).1 0 - (spl (aft m o a) o b).1 0 = m.fee - (spl m o (a + b)).1 0 by omega, show m.cash + (a - (spl m o a).2) + (b - (spl (aft m o a) o b).2) = m.cash + (a + b - (spl m o (a + b)).2) by omega]
  have hcx : (aft m o a).cash + (b - (spl (aft m o a) o b).2) ≤ MX := by
    show m.cash + (a - (spl m o a).2) + (b - (spl (aft m o a) o b).2) ≤ MX
    omega
  obtain ⟨hy, _, _⟩ := apply_right hx2 ho hb hcx
  exact ⟨by rw [hy, haft], hleft⟩
theorem steps14 (m : M) (o : O) (p q : Int) (hlen : m.dues.length ≤ 9223372036854775807) : SCall Try.prog 14 [moneyAV m, orderAV o, .int .i64 p, .int .i64 q] [] (Told (.bool true)) := by
  refine scall_of (cfg_ok envY1_ok 0) Try.func14 (by kernel_rfl) rfl ?_
  generalize hK : Told _ = K
  have hd := isDues_m hlen
  have hoe : (⟨o.a, o.b, o.c, o.d⟩ : O) = o := rfl
  have hne : (10000000000000 : Int) ≠ 0 := by decide
  conv => whnf
  refine ⟨hd, ?_⟩
  rw [m_self]
  conv => whnf
  refine ⟨fun h1 => ?_, fun h1 => ?_⟩
  · conv => whnf
    subst hK
    exact told_bool rfl
  · obtain ⟨hr, hok, h60⟩ := or3_false (x := (readM m).2) (y := okO o) h1
    clear h1
    have hl1000 : (duesOf m.dues.length (dueRow m.dues)).length ≤ 1000 := by rw [duesOf_length]; omega
    conv => whnf
    refine ⟨⟨hne, hne⟩, ?_⟩
    have za := rem_boundsW p (n := 10000000000000) (by decide)
    have zb := rem_boundsW q (n := 10000000000000) (by decide)
    generalize (IntKind.u64.wrap p).tmod 10000000000000 = a at za
    generalize (IntKind.u64.wrap q).tmod 10000000000000 = b at zb
    rw [show IntKind.i64.wrap a = a from w64 (by omega) (by omega)]
    try rw [show IntKind.i64.wrap b = b from w64 (by omega) (by omega)]
    have ha : 0 ≤ a ∧ a ≤ MX := by unfold MX; omega
    have hb : 0 ≤ b ∧ b ≤ MX := by unfold MX; omega
    have hab : a + b ≤ MX := by unfold MX; omega
    have hn : 0 ≤ a + b ∧ a + b ≤ MX := ⟨by omega, hab⟩
    have wab : IntKind.i64.wrap (a + b) = a + b := w64 (by omega) (by omega)
    conv => whnf
    refine ⟨⟨hd, hl1000⟩, ?_⟩
    rw [m_self, hoe]
    conv => whnf
    refine ⟨⟨hd, hl1000⟩, ?_⟩
    rw [m_self, hoe, wab]
    by_cases hc1 : m.cash + (a - (spl m o a).2) ≤ MX
    · by_cases hc2 : m.cash + (a + b - (spl m o (a + b)).2) ≤ MX
      · obtain ⟨x1, _, _⟩ := apply_right hr hok ha hc1
        obtain ⟨z1, _, _⟩ := apply_right hr hok hn hc2
        obtain ⟨y1, y2⟩ := steps_lem hr hok ha hb hab hc1 hc2
        have lx := aft_len m o a
        have lz := aft_len m o (a + b)
        have li1 := left_in (m := m) (o := o) ha
        have li2 := left_in (m := m) (o := o) hn
        simp only [x1, z1]
        conv => whnf
        refine ⟨fun h => absurd h (by decide), fun _ => ?_⟩
        conv => whnf
        refine ⟨⟨isDues_m (m := aft m o a) (by omega), by show (duesOf _ _).length ≤ 1000; rw [duesOf_length]; omega⟩, ?_⟩
        rw [m_self, hoe]
        simp only [y1]
        conv => whnf
        refine ⟨fun _ => ⟨isDues_m (m := aft m o (a + b)) (by omega), isDues_m (m := aft m o (a + b)) (by omega)⟩, ?_⟩
        rw [m_self]
        conv => whnf
        subst hK
        refine told_bool ?_
        have ww : IntKind.i64.wrap ((spl m o a).2 + (spl (aft m o a) o b).2) = (spl m o (a + b)).2 := by
          rw [y2]
          unfold MX at *
          exact w64 (by omega) (by omega)
        rw [ww]
        simp [sM_self]
      · simp only [apply_wrong hr hok hn hc2]
        conv => whnf
        refine ⟨fun h => ?_, fun h => ?_⟩
        · conv => whnf
          subst hK
          refine told_bool ?_
          simp
        · exfalso
          have h' : (bif bif !true then true else (applyR m o a).2.2 != 0 then true else (3 : Int) != 0) = false := h
          cases ((applyR m o a).2.2 != 0) <;> simp at h'
    · simp only [apply_wrong hr hok ha hc1]
      conv => whnf
      refine ⟨fun h => ?_, fun h => absurd h (by simp)⟩
      conv => whnf
      subst hK
      refine told_bool ?_
      simp
end Go.Proofs.Ytepbibbeifbokaa.Sh
