/- The shadow machine over this program: money behind a payment, and what is left. -/
import Derived.Test.YtepbibbeifbokaaShXc
namespace Go.Proofs.Ytepbibbeifbokaa.Sh
open Go Go.RowKit
set_option linter.unusedVariables false
set_option linter.unusedSimpArgs false
set_option maxRecDepth 1000000
set_option maxHeartbeats 4000000
def zM : M := ⟨0, 0, [], 0, 0, 0, 0, 0, 0, 0⟩
/-- Money behind a payment. -/
def aftM (m : M) (s : Nat → Int) (n l : Int) : M := ⟨m.pri, m.acc, paidL m.dues (s 2) (s 3), m.pen - s 1, m.fee - s 0, m.una, m.cash + (n - l), m.ear, m.fin, m.cha⟩
def aft (m : M) (o : O) (n : Int) : M := aftM m (spl m o n).1 n (spl m o n).2
def applyR (m : M) (o : O) (n : Int) : M × Int × Int := bif mayW m o n then (bif (readM (aft m o n)).2 then (aft m o n, (spl m o n).2, 0) else (zM, 0, 3)) else (zM, 0, 1)
def applyV (m : M) (o : O) (n : Int) : AV := .tup [.agg [.int .i64 (applyR m o n).1.pri, .int .i64 (applyR m o n).1.acc, duesAV (applyR m o n).1.dues, .int .i64 (applyR m o n).1.pen, .int .i64 (applyR m o n).1.fee, .int .i64 (applyR m o n).1.una, .int .i64 (applyR m o n).1.cash, .int .i64 (applyR m o n).1.ear, .int .i64 (applyR m o n).1.fin, .int .i64 (applyR m o n).1.cha], .int .i64 (applyR m o n).2.1, .int .i64 (applyR m o n).2.2]
def mow2Q (r : M → O → Int → AV) : QSpec := fun vs => match vs with
  | [v, .agg [.int .i64 a, .int .i64 b, .int .i64 c, .int .i64 d], .int .i64 n] => match mOf v with
    | some (p, m) => some ([p ∧ m.dues.length ≤ 1000], r m ⟨a, b, c, d⟩ n)
    | none => none
  | _ => none
theorem mow2Q_of {f : FuncId} {r : M → O → Int → AV} (H : ∀ (m : M) (o : O) (n : Int), m.dues.length ≤ 1000 → SCall Try.prog f [moneyAV m, orderAV o, .int .i64 n] [] (Told (r m o n))) : ∀ vs ob q, mow2Q r vs = some (ob, q) → conj ob → SCall Try.prog f vs [] (Told q) := by
  intro vs ob q h hob
  unfold mow2Q at h
  split at h
  · rename_i v a b c d n
    split at h
    · rename_i p m hm
      simp only [Option.some.injEq, Prod.mk.injEq] at h
      obtain ⟨rfl, rfl⟩ := h
      obtain ⟨hp, hl⟩ : p ∧ m.dues.length ≤ 1000 := hob
      obtain ⟨hw, hlen⟩ := mOf_wk hm hp
      exact SCall.weaken (us := [moneyAV m, orderAV ⟨a, b, c, d⟩, .int .i64 n]) (H m ⟨a, b, c, d⟩ n hl) rfl fun i hi => match i, hi with | 0, _ => hw | 1, _ => Wk.refl _ | 2, _ => Wk.refl _
    · simp at h
  · simp at h
theorem wk_tup3 {x y z x' y' z' : AV} (h1 : Wk x x') (h2 : Wk y y') (h3 : Wk z z') : Wk (.tup [x, y, z]) (.tup [x', y', z']) := fun w Fz g c hv => by
  obtain ⟨vs, rfl, hl, hh⟩ := inv_tup hv
  refine .tup _ _ hl fun i hi => ?_
  have h0 := hh i hi
  match i, hi with
  | 0, _ => exact h1 _ _ _ _ h0
  | 1, _ => exact h2 _ _ _ _ h0
  | 2, _ => exact h3 _ _ _ _ h0
theorem may_parts {m : M} {o : O} {n : Int} (h : mayW m o n = true) : (readM m).2 = true ∧ okO o = true ∧ 0 ≤ n ∧ n ≤ MX := by
  unfold mayW at h
  rw [Bool.and_eq_true, Bool.and_eq_true, valid_ok, may_iff] at h
  exact ⟨h.2.2, h.1, h.2.1⟩
theorem splR_may {m : M} {o : O} {n : Int} (h : mayW m o n = true) : splR m o n = ((spl m o n).1, (spl m o n).2, 0) := by unfold splR; rw [h]; rfl
theorem splR_not {m : M} {o : O} {n : Int} (h : mayW m o n = false) : splR m o n = (fun _ => 0, 0, 1) := by unfold splR; rw [h]; rfl
/-- What each kind gets, by its own number. -/
theorem spl_kind {m : M} {o : O} {n : Int} (ho : okO o = true) (hn : 0 ≤ n ∧ n ≤ MX) {c : Nat} (hc : c < 4) : ∃ i, i < 4 ∧ o.at i = ((c + 1 : Nat) : Int) ∧ (spl m o n).1 c = vf (owedM m) o n i := by
  have hh := ok_has ho (c + 1) (by omega) (by omega)
  have key : ∃ i, i < 4 ∧ o.at i = ((c + 1 : Nat) : Int) := by
    rcases hh with h | h | h | h
    · exact ⟨0, by decide, h⟩
    · exact ⟨1, by decide, h⟩
    · exact ⟨2, by decide, h⟩
    · exact ⟨3, by decide, h⟩
  obtain ⟨i, hi, e⟩ := key
  have l := look ho (owedM m) n i hi
  rw [e, show (((c + 1 : Nat) : Int) - 1).toNat = c by omega] at l
  exact ⟨i, hi, e, l⟩
theorem spl_in {m : M} {o : O} {n : Int} (ho : okO o = true) (hn : 0 ≤ n ∧ n ≤ MX) {c : Nat} (hc : c < 4) : inMX ((spl m o n).1 c) ∧ (spl m o n).1 c ≤ owedM m ((c + 1 : Nat) : Int) := by
  obtain ⟨i, hi, e, h⟩ := spl_kind (m := m) ho hn hc
  have hv := vf_bounds (owed_nonneg m) (o := o) hn i
  have hl := lf_bounds (owed_nonneg m) (o := o) hn i
  rw [e] at hv
  rw [h]
  unfold inMX
  omega
theorem vsum0 {w : Int → Int} (hw : ∀ k, 0 ≤ w k) {o : O} {n : Int} (hn : 0 ≤ n ∧ n ≤ MX) : lf w o n 4 ≤ n := by
  have h0 : lf w o n 1 = n - vf w o n 0 := (vf_bounds hw (o := o) hn 0).2.2.2.1
  have h1 : lf w o n 2 = lf w o n 1 - vf w o n 1 := (vf_bounds hw (o := o) hn 1).2.2.2.1
  have h2 : lf w o n 3 = lf w o n 2 - vf w o n 2 := (vf_bounds hw (o := o) hn 2).2.2.2.1
  have h3 : lf w o n 4 = lf w o n 3 - vf w o n 3 := (vf_bounds hw (o := o) hn 3).2.2.2.1
  have g0 := (vf_bounds hw (o := o) hn 0).1
  have g1 := (vf_bounds hw (o := o) hn 1).1
  have g2 := (vf_bounds hw (o := o) hn 2).1
  have g3 := (vf_bounds hw (o := o) hn 3).1
  omega
theorem left_in {m : M} {o : O} {n : Int} (hn : 0 ≤ n ∧ n ≤ MX) : 0 ≤ (spl m o n).2 ∧ (spl m o n).2 ≤ n := by
  rw [spl_left]
  have hb := lf_bounds (owed_nonneg m) (o := o) hn 4
  have h0 := vsum0 (owed_nonneg m) (o := o) hn
  omega
theorem go_in (xs : List D) : ∀ k i a b r, goS xs k i a b = some r → ∀ j, i ≤ j → j < i + k → (0 ≤ (ix xs j).i ∧ (ix xs j).i ≤ MX) ∧ (0 ≤ (ix xs j).p ∧ (ix xs j).p ≤ MX)
  | 0, i, a, b, r, _, j, h1, h2 => by omega
  | k + 1, i, a, b, r, h, j, h1, h2 => by
    simp only [goS] at h
    cases hg : good xs i a b with
    | false => rw [hg] at h; simp at h
    | true =>
      rw [hg] at h
      by_cases hj : j = i
      · subst hj
        have := good_iff.mp hg
        exact ⟨may_iff.mp this.2.1, may_iff.mp this.2.2.1⟩
      · exact go_in xs k (i + 1) _ _ r h j (by omega) (by omega)
theorem right_in {m : M} (h : (readM m).2 = true) : duesIn m.dues ∧ inMX m.fee ∧ inMX m.pen ∧ (-MX ≤ m.cash ∧ m.cash ≤ MX) := by
  obtain ⟨hf, r, hs, _, hc1, hc2, _⟩ := right_all h
  have hall := fits_all hf
  exact ⟨fun i hi => go_in m.dues _ _ _ _ _ hs i (Nat.zero_le _) (by omega), hall.2.2.2.1, hall.2.2.1, hc1, hc2⟩
theorem cash_wrap {c n l : Int} (hc : -MX ≤ c ∧ c ≤ MX) (hn : 0 ≤ n ∧ n ≤ MX) (hl : 0 ≤ l ∧ l ≤ n) : IntKind.i64.wrap (c + IntKind.i64.wrap (n - l)) = c + (n - l) ∧ IntKind.i64.wrap (IntKind.i64.wrap (c + n) - l) = c + (n - l) := by
  unfold MX at *
  rw [w64 (n := n - l) (by omega) (by omega), w64 (n := c + n) (by omega) (by omega)]
  exact ⟨w64 (by omega) (by omega), by rw [w64 (by omega) (by omega)]; omega⟩
theorem told_none {m : M} {o : O} {n : Int} {e : Int} {h : List AO} (hr : applyR m o n = (zM, 0, e)) {k : AV} (hk : k = .int .i64 e ∨ k = .cint .i64 e) : Told (applyV m o n) (.tup [.agg [.int .i64 0, .int .i64 0, .nilsl, .int .i64 0, .int .i64 0, .int .i64 0, .int .i64 0, .int .i64 0, .int .i64 0, .int .i64 0], .cint .i64 0, k]) h := by
  unfold applyV
  rw [hr]
  rcases hk with rfl | rfl
  · exact ⟨trivial, wk_tup3 (wk_agg10 (ro_wk (.inl rfl))) (Wk.refl _) (Wk.refl _)⟩
  · exact ⟨trivial, wk_tup3 (wk_agg10 (ro_wk (.inl rfl))) (Wk.refl _) (Wk.refl _)⟩
theorem paid_len (xs : List D) (a b : Int) : (paidL xs a b).length ≤ xs.length := keepF_len _ _
theorem apply45 : ∀ vs ob r, mow2Q applyV vs = some (ob, r) → conj ob → SCall Try.prog 45 vs [] (Told r) := mow2Q_of fun m o n hlen => by
  refine scall_of (cfg_ok envX2_ok 0) Try.func45 (by kernel_rfl) rfl ?_
  generalize hK : Told _ = K
  have hd := isDues_m (m := m) (by omega)
  conv => whnf
  refine ⟨hd, ?_⟩
  rw [m_self, show (⟨o.a, o.b, o.c, o.d⟩ : O) = o from rfl]
  cases hmay : mayW m o n with
  | false =>
    simp only [splR_not hmay]
    conv => whnf
    refine ⟨fun _ => ?_, fun h => absurd h (by decide)⟩
    conv => whnf
    subst hK
    exact told_none (by unfold applyR; rw [hmay]; rfl) (.inl rfl)
  | true =>
    obtain ⟨hr, hok, hn⟩ := may_parts hmay
    obtain ⟨hdi, hfe, hpe, hca⟩ := right_in hr
    have hR := splR_may hmay
    have hsi := fun c (hc : c < 4) => (spl_in (m := m) hok hn hc).1
    have hli := left_in (m := m) (o := o) hn
    have haft : aft m o n = aftM m (spl m o n).1 n (spl m o n).2 := rfl
    have happ : applyR m o n = bif (readM (aft m o n)).2 then (aft m o n, (spl m o n).2, 0) else (zM, 0, 3) := by unfold applyR; rw [hmay]; rfl
    generalize spl m o n = S at hR hsi hli haft happ
    obtain ⟨s, l⟩ := S
    dsimp only at hR hsi hli haft happ
    simp only [hR]
    have hcw := cash_wrap hca hn hli
    conv => whnf
    refine ⟨fun h => absurd h (by decide), fun _ => ?_⟩
    conv => whnf
    have hpo : paidOb m (s 0) (s 1) (s 2) (s 3) := ⟨hlen, hdi, hfe, hpe, hsi 0 (by decide), hsi 1 (by decide), hsi 2 (by decide), hsi 3 (by decide)⟩
    refine ⟨⟨hd, by rw [m_self]; exact hpo⟩, ?_⟩
    rw [m_self]
    conv => whnf
    have hpl := paid_len m.dues (s 2) (s 3)
    refine ⟨isDues_self (xs := paidL m.dues (s 2) (s 3)) (by omega), ?_⟩
    rw [duesOf_self, hcw.1]
    conv => whnf
    refine ⟨fun h => ?_, fun h => ?_⟩
    · have h2 : (readM (aft m o n)).2 = false := by
        have : (!(readM (aftM m s n l)).2) = true := h
        rw [haft]
        simpa using this
      conv => whnf
      subst hK
      exact told_none (by rw [happ, h2]; rfl) (.inr rfl)
    · have h2 : (readM (aft m o n)).2 = true := by
        have : (!(readM (aftM m s n l)).2) = false := h
        rw [haft]
        simpa using this
      conv => whnf
      subst hK
      refine told_of trivial rfl ?_
      unfold applyV
      rw [happ, h2, cond_true, haft]
      rfl
theorem d_app (L : List D) (x : D) {i : Nat} (hi : i < L.length + 1) : ([.int .i64 (bif decide (i < L.length) then (ix L i).n else x.n), .int .i64 (bif decide (i < L.length) then (ix L i).day else x.day), .int .i64 (bif decide (i < L.length) then (ix L i).i else x.i), .int .i64 (bif decide (i < L.length) then (ix L i).p else x.p)] : List AV) = dCells (ix (L ++ [x])) i := by
  have e : ix (L ++ [x]) i = if i < L.length then ix L i else x := by
    unfold ix
    by_cases h : i < L.length
    · simp [h, List.getD_eq_getElem?_getD, List.getElem?_append]
    · have : i = L.length := by omega
      subst this
      simp [List.getD_eq_getElem?_getD]
  unfold dCells
  rw [e]
  by_cases h : i < L.length <;> simp [h]
theorem frozen_ix {L : List D} (h : L.length ≤ 9223372036854775807) : isDues 4 L.length (fun i => (dCells (ix L) (0 + i)).map AV.rv) ∧ duesOf L.length (fun i => (dCells (ix L) (0 + i)).map AV.rv) = L := by
  have e : (fun i => (dCells (ix L) (0 + i)).map AV.rv) = dueRow L := funext fun i => by
    show dueRow L (0 + i) = _
    rw [Nat.zero_add]
  rw [e]
  exact ⟨isDues_self h, duesOf_self L⟩
theorem zD_pos {d : D} {_ : Decidable (d.i > 0)} {_ : Decidable (d.p > 0)} (hi : 0 ≤ d.i) (hp : 0 ≤ d.p) : (bif decide (d.i > 0) then true else decide (d.p > 0)) = !zD d := by
  unfold zD
  by_cases h1 : d.i = 0
  · by_cases h2 : d.p = 0
    · simp [h1, h2]
    · have : d.p > 0 := by omega
      simp [h1, h2, this]
  · have : d.i > 0 := by omega
    simp [h1, this]
theorem refApply46 : ∀ vs ob r, mow2Q applyV vs = some (ob, r) → conj ob → SCall Try.prog 46 vs [] (Told r) := mow2Q_of fun m o n hlen => by
  refine scall_of (cfg_ok envX2_ok 0) Try.func46 (by kernel_rfl) rfl ?_
  generalize hK : Told _ = K
  have hd := isDues_m (m := m) (by omega)
  conv => whnf
  refine ⟨hd, ?_⟩
  rw [m_self, show (⟨o.a, o.b, o.c, o.d⟩ : O) = o from rfl]
  cases hmay : mayW m o n with
  | false =>
    simp only [splR_not hmay]
    conv => whnf
    refine ⟨fun _ => ?_, fun h => absurd h (by decide)⟩
    conv => whnf
    subst hK
    exact told_none (by unfold applyR; rw [hmay]; rfl) (.inl rfl)
  | true =>
    obtain ⟨hr, hok, hn⟩ := may_parts hmay
    obtain ⟨hdi, hfe, hpe, hca⟩ := right_in hr
    have hR := splR_may hmay
    have hsi := fun c (hc : c < 4) => (spl_in (m := m) hok hn hc).1
    have hli := left_in (m := m) (o := o) hn
    have haft : aft m o n = aftM m (spl m o n).1 n (spl m o n).2 := rfl
    have happ : applyR m o n = bif (readM (aft m o n)).2 then (aft m o n, (spl m o n).2, 0) else (zM, 0, 3) := by unfold applyR; rw [hmay]; rfl
    generalize spl m o n = S at hR hsi hli haft happ
    obtain ⟨s, l⟩ := S
    dsimp only at hR hsi hli haft happ
    simp only [hR]
    have hcw := cash_wrap hca hn hli
    have c0 : (0 : Int) ≤ 0 ∧ (0 : Int) < 4 := by decide
    have c1 : (0 : Int) ≤ 1 ∧ (1 : Int) < 4 := by decide
    have c2 : (0 : Int) ≤ 2 ∧ (2 : Int) < 4 := by decide
    have c3 : (0 : Int) ≤ 3 ∧ (3 : Int) < 4 := by decide
    have i0 := hsi 0 (by decide)
    have i1 := hsi 1 (by decide)
    have i2 := hsi 2 (by decide)
    have i3 := hsi 3 (by decide)
    have wf : IntKind.i64.wrap (m.fee - s 0) = m.fee - s 0 := by unfold inMX MX at *; exact w64 (by omega) (by omega)
    have wp : IntKind.i64.wrap (m.pen - s 1) = m.pen - s 1 := by unfold inMX MX at *; exact w64 (by omega) (by omega)
    conv => whnf
    refine ⟨fun h => absurd h (by decide), fun _ => ?_⟩
    conv => whnf
    refine ⟨c0, ?_⟩
    rw [hcw.2, wf]
    conv => whnf
    refine ⟨c1, ?_⟩
    rw [wp]
    conv => whnf
    refine ⟨[], by kernel_rfl, ?_⟩
    conv => whnf
    refine ⟨⟨c2, c3⟩, ?_⟩
    conv => whnf
    refine ⟨[(14, 4)], [3, 6, 10, 12, 13, 14, 15], 5, fun q st => ∃ (i : Nat) (L : List D), q = m.dues.length - i ∧ i ≤ m.dues.length ∧ L = keepF (paidD m.dues (s 2) (s 3)) i ∧ st = ⟨.top :: .top :: .top :: .ptr 0 1 1 0 0 :: .top :: .top :: .ptr 2 1 1 0 0 :: .top :: .top :: .top :: .int .i64 l :: .top :: .int .i64 (pa m.dues (s 2) i) :: .int .i64 (pb m.dues (s 3) i) :: .sl 4 4 0 L.length none :: .int .i64 i :: List.replicate 94 .top, [.lit 1 [.int .i64 m.pri, .int .i64 m.acc, duesAV m.dues, .int .i64 (m.pen - s 1), .int .i64 (m.fee - s 0), .int .i64 m.una, .int .i64 (m.cash + (n - l)), .int .i64 m.ear, .int .i64 m.fin, .int .i64 m.cha], .lit 1 [.int .i64 o.a, .int .i64 o.b, .int .i64 o.c, .int .i64 o.d], .lit 1 [.int .i64 0, .int .i64 0, .nilsl, .int .i64 0, .int .i64 0, .int .i64 0, .int .i64 0, .int .i64 0, .int .i64 0, .int .i64 0], .lit 1 [.int .i64 (s 0), .int .i64 (s 1), .int .i64 (s 2), .int .i64 (s 3)], .rows 4 L.length (dCells (ix L))]⟩, Nat.zero_le _, ⟨_, _, ?_, 0, [], rfl, Nat.zero_le _, rfl, rfl⟩, ?_⟩
    · exact ⟨rfl, rfl, fun o ho => match o, ho with | 0, _ => rfl | 1, _ => rfl | 2, _ => rfl | 3, _ => rfl | 4, _ => ⟨rfl, rfl, fun j hj => absurd hj (Nat.not_lt_zero _)⟩⟩
    · rintro q st ⟨i, L, rfl, hi, hL, rfl⟩
      have hLl : L.length ≤ i := by rw [hL]; exact keepF_len _ _
      conv => whnf
      refine ⟨fun h2 => ?_, fun h2 => ?_⟩
      · have hlt : i < m.dues.length := by have := of_decide_eq_true h2; omega
        have wi : IntKind.i64.wrap ((i : Int) + 1) = ((i + 1 : Nat) : Int) := by rw [w64 (by omega) (by omega)]; rfl
        have ei : ((i : Int)).toNat = i := Int.toNat_natCast i
        have hdd := hdi i hlt
        have ha := pa_in hdi i2 i hi
        have hb := pb_in hdi i3 i hi
        have wa := sub_wrap ha hdd.1
        have wb := sub_wrap hb hdd.2
        have ma := minI_le ha.1 hdd.1.1
        have mb := minI_le hb.1 hdd.2.1
        have ca : minI (pa m.dues (s 2) i) (ix m.dues i).i = minI (ix m.dues i).i (pa m.dues (s 2) i) := minI_comm _ _
        have cb : minI (pb m.dues (s 3) i) (ix m.dues i).p = minI (ix m.dues i).p (pb m.dues (s 3) i) := minI_comm _ _
        conv => whnf
        refine ⟨⟨by omega, by omega⟩, ?_⟩
        rw [ei]
        conv => whnf
        refine ⟨[], by kernel_rfl, ?_⟩
        conv => whnf
        rw [show (if (ix m.dues i).i < pa m.dues (s 2) i then (ix m.dues i).i else pa m.dues (s 2) i) = minI (pa m.dues (s 2) i) (ix m.dues i).i from rfl, show (if (ix m.dues i).p < pb m.dues (s 3) i then (ix m.dues i).p else pb m.dues (s 3) i) = minI (pb m.dues (s 3) i) (ix m.dues i).p from rfl, wa.1, wa.2, wb.1, wb.2, ca, cb]
        have hzz : (bif decide ((paidD m.dues (s 2) (s 3) i).i > 0) then true else decide ((paidD m.dues (s 2) (s 3) i).p > 0)) = !zD (paidD m.dues (s 2) (s 3) i) := zD_pos (by show 0 ≤ (ix m.dues i).i - minI (ix m.dues i).i (pa m.dues (s 2) i); omega) (by show 0 ≤ (ix m.dues i).p - minI (ix m.dues i).p (pb m.dues (s 3) i); omega)
        refine ⟨fun h3 => ?_, fun h3 => ?_⟩
        · have hz : zD (paidD m.dues (s 2) (s 3) i) = false := by
            have : (!zD (paidD m.dues (s 2) (s 3) i)) = true := hzz.symm.trans h3
            simpa using this
          conv => whnf
          refine ⟨⟨rfl, show (L.length + 1) * 32 ≤ _ by omega, fun i hi => ⟨rfl, rfl⟩⟩, ?_⟩
          conv => whnf
          refine ⟨m.dues.length - (i + 1), _, by omega, ?_, i + 1, L ++ [paidD m.dues (s 2) (s 3) i], rfl, hlt, by rw [keepF_next, hz, hL]; rfl, rfl⟩
          rw [← wi, List.length_append]
          exact ⟨rfl, rfl, fun o ho => match o, ho with | 0, _ => rfl | 1, _ => rfl | 2, _ => rfl | 3, _ => rfl | 4, _ => ⟨rfl, rfl, fun j hj => d_app L (paidD m.dues (s 2) (s 3) i) hj⟩⟩
        · have hz : zD (paidD m.dues (s 2) (s 3) i) = true := by
            have : (!zD (paidD m.dues (s 2) (s 3) i)) = false := hzz.symm.trans h3
            simpa using this
          conv => whnf
          refine ⟨m.dues.length - (i + 1), _, by omega, ?_, i + 1, L, rfl, hlt, by rw [keepF_next, hz, hL]; rfl, rfl⟩
          rw [← wi]
          exact ⟨rfl, rfl, fun o ho => match o, ho with | 0, _ => rfl | 1, _ => rfl | 2, _ => rfl | 3, _ => rfl | 4, _ => ⟨rfl, rfl, fun j hj => rfl⟩⟩
      · have he : i = m.dues.length := by have := of_decide_eq_false h2; omega
        subst he
        have hL' : L = paidL m.dues (s 2) (s 3) := hL
        have hfr := frozen_ix (L := L) (by omega)
        conv => whnf
        refine ⟨⟨show 0 + L.length ≤ L.length by omega, hfr.1⟩, ?_⟩
        rw [show duesOf L.length (fun i => List.map AV.rv (dCells (ix L) (0 + i))) = L from hfr.2]
        conv => whnf
        refine ⟨fun h => ?_, fun h => ?_⟩
        · have h3 : (readM (aft m o n)).2 = false := by
            have : (!(readM (⟨m.pri, m.acc, L, m.pen - s 1, m.fee - s 0, m.una, m.cash + (n - l), m.ear, m.fin, m.cha⟩ : M)).2) = true := h
            rw [hL'] at this
            rw [haft]
            simpa [aftM] using this
          conv => whnf
          subst hK
          exact told_none (by rw [happ, h3]; rfl) (.inr rfl)
        · have h3 : (readM (aft m o n)).2 = true := by
            have : (!(readM (⟨m.pri, m.acc, L, m.pen - s 1, m.fee - s 0, m.una, m.cash + (n - l), m.ear, m.fin, m.cha⟩ : M)).2) = false := h
            rw [hL'] at this
            rw [haft]
            simpa [aftM] using this
          conv => whnf
          subst hK
          refine ⟨show 0 + L.length ≤ L.length by omega, ?_⟩
          unfold applyV
          rw [happ, h3, cond_true, haft]
          show Wk _ (.tup [.agg [.int .i64 m.pri, .int .i64 m.acc, duesAV (paidL m.dues (s 2) (s 3)), .int .i64 (m.pen - s 1), .int .i64 (m.fee - s 0), .int .i64 m.una, .int .i64 (m.cash + (n - l)), .int .i64 m.ear, .int .i64 m.fin, .int .i64 m.cha], .int .i64 l, .int .i64 0])
          rw [← hL']
          exact wk_tup3 (wk_agg10 (dues_frozen (ds := L) (f := ix L) fun j _ => rfl)) (Wk.refl _) (Wk.refl _)
def envX3 : Env := (45, mow2Q applyV) :: (46, mow2Q applyV) :: envX2
theorem envX3_ok : EnvOK Try.prog envX3 := env_cons apply45 (env_cons refApply46 envX2_ok)
end Go.Proofs.Ytepbibbeifbokaa.Sh
