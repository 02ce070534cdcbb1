/- The shadow machine over this program: money behind a payment. -/
import Derived.Test.YtepbibbeifbokaaShXb
namespace Go.Proofs.Ytepbibbeifbokaa.Sh
open Go Go.RowKit
set_option linter.unusedVariables false
set_option linter.unusedSimpArgs false
set_option maxRecDepth 1000000
set_option maxHeartbeats 4000000
/-- What of a payment is left ahead of the i-th instalment: for interest, and for principal. -/
def pa (xs : List D) (a : Int) : Nat → Int
  | 0 => a
  | i + 1 => pa xs a i - minI (ix xs i).i (pa xs a i)
def pb (xs : List D) (b : Int) : Nat → Int
  | 0 => b
  | i + 1 => pb xs b i - minI (ix xs i).p (pb xs b i)
def paidD (xs : List D) (a b : Int) (i : Nat) : D := ⟨(ix xs i).n, (ix xs i).day, (ix xs i).i - minI (ix xs i).i (pa xs a i), (ix xs i).p - minI (ix xs i).p (pb xs b i)⟩
def paidL (xs : List D) (a b : Int) : List D := keepF (paidD xs a b) xs.length
def paidM (m : M) (s0 s1 s2 s3 : Int) : M := ⟨m.pri, m.acc, paidL m.dues s2 s3, m.pen - s1, m.fee - s0, m.una, m.cash, m.ear, m.fin, m.cha⟩
def paidAV (m : M) (s0 s1 s2 s3 : Int) : AV := .agg [.int .i64 m.pri, .int .i64 m.acc, duesAV (paidL m.dues s2 s3), .int .i64 (m.pen - s1), .int .i64 (m.fee - s0), .int .i64 m.una, .int .i64 m.cash, .int .i64 m.ear, .int .i64 m.fin, .int .i64 m.cha]
def duesIn (xs : List D) : Prop := ∀ i, i < xs.length → (0 ≤ (ix xs i).i ∧ (ix xs i).i ≤ MX) ∧ (0 ≤ (ix xs i).p ∧ (ix xs i).p ≤ MX)
def inMX (x : Int) : Prop := 0 ≤ x ∧ x ≤ MX
def paidOb (m : M) (s0 s1 s2 s3 : Int) : Prop := m.dues.length ≤ 1000 ∧ duesIn m.dues ∧ inMX m.fee ∧ inMX m.pen ∧ inMX s0 ∧ inMX s1 ∧ inMX s2 ∧ inMX s3
theorem minI_le {x y : Int} (hx : 0 ≤ x) (hy : 0 ≤ y) : 0 ≤ minI x y ∧ minI x y ≤ x ∧ minI x y ≤ y := minI_bounds hx hy
theorem minI_comm (x y : Int) : minI x y = minI y x := by unfold minI; (repeat' split) <;> omega
theorem pa_in {xs : List D} (hd : duesIn xs) {a : Int} (ha : inMX a) : ∀ i, i ≤ xs.length → inMX (pa xs a i)
  | 0, _ => ha
  | i + 1, h => by
    have h1 := pa_in hd ha i (by omega)
    have h2 := (hd i (by omega)).1
    have h3 := minI_le h2.1 h1.1
    unfold inMX at *
    simp only [pa]
    omega
theorem pb_in {xs : List D} (hd : duesIn xs) {a : Int} (ha : inMX a) : ∀ i, i ≤ xs.length → inMX (pb xs a i)
  | 0, _ => ha
  | i + 1, h => by
    have h1 := pb_in hd ha i (by omega)
    have h2 := (hd i (by omega)).2
    have h3 := minI_le h2.1 h1.1
    unfold inMX at *
    simp only [pb]
    omega
theorem sub_wrap {x y : Int} (hx : inMX x) (hy : inMX y) : IntKind.i64.wrap (x - minI x y) = x - minI x y ∧ IntKind.i64.wrap (y - minI x y) = y - minI x y := by
  have h := minI_le hx.1 hy.1
  unfold inMX MX at *
  exact ⟨w64 (by omega) (by omega), w64 (by omega) (by omega)⟩
theorem keepF_congr {f g : Nat → D} {n : Nat} (h : ∀ j, j < n → f j = g j) : keepF f n = keepF g n := by
  unfold keepF listF
  rw [List.map_congr_left fun j hj => h j (by simpa using hj)]
theorem wk_agg10 {c0 c1 c2 c2' c3 c4 c5 c6 c7 c8 c9 : AV} (h : Wk c2 c2') : Wk (.agg [c0, c1, c2, c3, c4, c5, c6, c7, c8, c9]) (.agg [c0, c1, c2', c3, c4, c5, c6, c7, c8, c9]) := fun w Fz g c hv => by
  obtain ⟨vs, rfl, hl, hh⟩ := inv_agg hv
  refine .agg _ _ hl fun i hi => ?_
  have h0 := hh i hi
  match i, hi with
  | 0, _ => exact h0
  | 1, _ => exact h0
  | 2, _ => exact h _ _ _ _ h0
  | 3, _ => exact h0
  | 4, _ => exact h0
  | 5, _ => exact h0
  | 6, _ => exact h0
  | 7, _ => exact h0
  | 8, _ => exact h0
  | 9, _ => exact h0
theorem dues_frozen {ds : List D} {f : Nat → D} (h : ∀ j, j < ds.length → f j = ix ds j) : Wk (.ro 4 ds.length none fun i => (dCells f (0 + i)).map AV.rv) (duesAV ds) := by
  unfold duesAV
  refine ro_wk (.inr ⟨rfl, fun i hi => ?_⟩)
  show [RV.int .i64 (f (0 + i)).n, .int .i64 (f (0 + i)).day, .int .i64 (f (0 + i)).i, .int .i64 (f (0 + i)).p] = dueRow ds i
  rw [Nat.zero_add, h i hi]
  rfl
def m4Q (ob : M → Int → Int → Int → Int → Prop) (r : M → Int → Int → Int → Int → AV) : QSpec := fun vs => match vs with
  | [v, .agg [.int .i64 a, .int .i64 b, .int .i64 c, .int .i64 d]] => match mOf v with
    | some (p, m) => some ([p ∧ ob m a b c d], r m a b c d)
    | none => none
  | _ => none
theorem updI_self (f : Nat → D) (q : Nat) (v : Int) : updI f q v q = ⟨(f q).n, (f q).day, v, (f q).p⟩ := by unfold updI; simp
theorem updI_other (f : Nat → D) {q j : Nat} (h : j ≠ q) (v : Int) : updI f q v j = f j := by unfold updI; rw [show (j == q) = false by simpa using h]; rfl
theorem updP_self (f : Nat → D) (q : Nat) (v : Int) : updP f q v q = ⟨(f q).n, (f q).day, (f q).i, v⟩ := by unfold updP; simp
theorem updP_other (f : Nat → D) {q j : Nat} (h : j ≠ q) (v : Int) : updP f q v j = f j := by unfold updP; rw [show (j == q) = false by simpa using h]; rfl
theorem paid61 : ∀ vs ob r, m4Q paidOb (paidAV) vs = some (ob, r) → conj ob → SCall Try.prog 61 vs [] (Told r) := by
  intro vs ob r h hob
  unfold m4Q at h
  split at h
  · rename_i v s0 s1 s2 s3
    split at h
    · rename_i p m hm
      simp only [Option.some.injEq, Prod.mk.injEq] at h
      obtain ⟨rfl, rfl⟩ := h
      obtain ⟨hp, hlen, hdi, hfe, hpe, h0, h1, h2, h3⟩ : p ∧ paidOb m s0 s1 s2 s3 := hob
      obtain ⟨hw, _⟩ := mOf_wk hm hp
      refine SCall.weaken (us := [moneyAV m, .agg [.int .i64 s0, .int .i64 s1, .int .i64 s2, .int .i64 s3]]) ?_ rfl fun i hi => match i, hi with | 0, _ => hw | 1, _ => Wk.refl _
      clear hw hm hp
      refine scall_of (cfg_ok envX1_ok 0) Try.func61 (by kernel_rfl) rfl ?_
      generalize hK : Told _ = K
      have c0 : (0 : Int) ≤ 0 ∧ (0 : Int) < 4 := by decide
      have c1 : (0 : Int) ≤ 1 ∧ (1 : Int) < 4 := by decide
      have c2 : (0 : Int) ≤ 2 ∧ (2 : Int) < 4 := by decide
      have c3 : (0 : Int) ≤ 3 ∧ (3 : Int) < 4 := by decide
      have wf : IntKind.i64.wrap (m.fee - s0) = m.fee - s0 := by unfold inMX MX at *; exact w64 (by omega) (by omega)
      have wp : IntKind.i64.wrap (m.pen - s1) = m.pen - s1 := by unfold inMX MX at *; exact w64 (by omega) (by omega)
      conv => whnf
      refine ⟨c0, ?_⟩
      rw [wf]
      conv => whnf
      refine ⟨c1, ?_⟩
      rw [wp]
      conv => whnf
      refine ⟨[(0, 4), (0, 5), (0, 6), (0, 7), (1, 4), (1, 5), (1, 6), (1, 7), (2, 4), (2, 5), (2, 6), (2, 7), (3, 4), (3, 5), (3, 6), (3, 7), (4, 5), (4, 7), (5, 6), (6, 7)], by kernel_rfl, ?_⟩
      conv => whnf
      refine ⟨⟨c2, c3⟩, rfl, ?_⟩
      conv => whnf
      refine clone66 (xs := m.dues) hlen (fun hz => ?_) ?_
      · conv => whnf
        refine ⟨[(7, 4)], [2, 4, 5, 6, 7, 29, 30], 6, fun q s => q = 0 ∧ s = ⟨.top :: .top :: .ptr 0 1 1 0 0 :: .top :: .ptr 2 1 1 0 0 :: .ptr 3 1 1 0 0 :: .ptr 4 1 1 0 0 :: .sl 5 4 0 0 none :: (List.replicate 21 .top ++ .int .i64 0 :: .int .i64 0 :: List.replicate 17 .top), [.lit 1 [.int .i64 m.pri, .int .i64 m.acc, duesAV m.dues, .int .i64 (m.pen - s1), .int .i64 (m.fee - s0), .int .i64 m.una, .int .i64 m.cash, .int .i64 m.ear, .int .i64 m.fin, .int .i64 m.cha], .lit 1 [.int .i64 s0, .int .i64 s1, .int .i64 s2, .int .i64 s3], .lit 1 [.int .i64 0, .int .i64 0, .nilsl, .int .i64 0, .int .i64 0, .int .i64 0, .int .i64 0, .int .i64 0, .int .i64 0, .int .i64 0], .lit 1 [.int .i64 s2], .lit 1 [.int .i64 s3], .rows 4 0 (dCells (ix []))]⟩, Nat.zero_le _, ⟨_, _, ?_, rfl, rfl⟩, ?_⟩
        · exact ⟨rfl, rfl, fun o ho => match o, ho with | 0, _ => rfl | 1, _ => rfl | 2, _ => rfl | 3, _ => rfl | 4, _ => rfl | 5, _ => ⟨rfl, rfl, fun j hj => absurd hj (Nat.not_lt_zero _)⟩⟩
        · rintro q s ⟨rfl, rfl⟩
          conv => whnf
          refine ⟨fun hh => absurd hh (by decide), fun _ => ?_⟩
          conv => whnf
          refine delA (n := 0) (f := ix []) (by omega) fun f' hf' => ?_
          conv => whnf
          subst hK
          have hz' : m.dues = [] := List.eq_nil_of_length_eq_zero hz
          have hpl : paidL m.dues s2 s3 = [] := by rw [hz']; rfl
          refine ⟨show 0 + 0 ≤ 0 by omega, ?_⟩
          show Wk _ (.agg [.int .i64 m.pri, .int .i64 m.acc, duesAV (paidL m.dues s2 s3), .int .i64 (m.pen - s1), .int .i64 (m.fee - s0), .int .i64 m.una, .int .i64 m.cash, .int .i64 m.ear, .int .i64 m.fin, .int .i64 m.cha])
          rw [hpl]
          exact wk_agg10 (dues_frozen (ds := []) (f := f') fun j hj => absurd hj (Nat.not_lt_zero _))
      · conv => whnf
        refine ⟨[], [2, 4, 5, 6, 7, 29, 30], 7, fun q s => ∃ (i : Nat) (f : Nat → D), q = m.dues.length - i ∧ i ≤ m.dues.length ∧ (∀ j, j < i → f j = paidD m.dues s2 s3 j) ∧ (∀ j, i ≤ j → f j = ix m.dues j) ∧ s = ⟨.top :: .top :: .ptr 0 1 1 0 0 :: .top :: .ptr 2 1 1 0 0 :: .ptr 3 1 1 0 0 :: .ptr 4 1 1 0 0 :: .sl 6 4 0 m.dues.length none :: (List.replicate 21 .top ++ .int .i64 m.dues.length :: .int .i64 i :: List.replicate 17 .top), [.lit 1 [.int .i64 m.pri, .int .i64 m.acc, duesAV m.dues, .int .i64 (m.pen - s1), .int .i64 (m.fee - s0), .int .i64 m.una, .int .i64 m.cash, .int .i64 m.ear, .int .i64 m.fin, .int .i64 m.cha], .lit 1 [.int .i64 s0, .int .i64 s1, .int .i64 s2, .int .i64 s3], .lit 1 [.int .i64 0, .int .i64 0, .nilsl, .int .i64 0, .int .i64 0, .int .i64 0, .int .i64 0, .int .i64 0, .int .i64 0, .int .i64 0], .lit 1 [.int .i64 (pa m.dues s2 i)], .lit 1 [.int .i64 (pb m.dues s3 i)], .dead, .rows 4 m.dues.length (dCells f)]⟩, Nat.zero_le _, ⟨_, _, ?_, 0, ix m.dues, rfl, Nat.zero_le _, fun j hj => absurd hj (Nat.not_lt_zero _), fun j _ => rfl, rfl⟩, ?_⟩
        · exact ⟨rfl, rfl, fun o ho => match o, ho with | 0, _ => rfl | 1, _ => rfl | 2, _ => rfl | 3, _ => rfl | 4, _ => rfl | 5, _ => rfl | 6, _ => ⟨rfl, rfl, fun j hj => rfl⟩⟩
        · rintro q s ⟨i, f, rfl, hi, hf1, hf2, rfl⟩
          conv => whnf
          refine ⟨fun hh => ?_, fun hh => ?_⟩
          · have hlt : i < m.dues.length := by have := of_decide_eq_true hh; omega
            have wi : IntKind.i64.wrap ((i : Int) + 1) = ((i + 1 : Nat) : Int) := by rw [w64 (by omega) (by omega)]; rfl
            have ei : 0 + ((i : Int)).toNat = i := by rw [Int.toNat_natCast, Nat.zero_add]
            have hfi : f i = ix m.dues i := hf2 i (Nat.le_refl _)
            have hdd := hdi i hlt
            have ha := pa_in hdi h2 i hi
            have hb := pb_in hdi h3 i hi
            have wa := sub_wrap hdd.1 ha
            have wb := sub_wrap hdd.2 hb
            conv => whnf
            refine ⟨⟨by omega, by omega⟩, ?_⟩
            rw [ei]
            conv => whnf
            refine lessIB hlt ?_
            rw [hfi, wa.1, wa.2]
            conv => whnf
            refine ⟨⟨by omega, by omega⟩, ?_⟩
            rw [ei]
            conv => whnf
            refine lessPB hlt ?_
            rw [show (updI f i ((ix m.dues i).i - minI (ix m.dues i).i (pa m.dues s2 i)) i).p = (ix m.dues i).p by rw [updI_self, hfi], wb.1, wb.2]
            conv => whnf
            refine ⟨m.dues.length - (i + 1), _, by omega, ?_, i + 1, updP (updI f i ((ix m.dues i).i - minI (ix m.dues i).i (pa m.dues s2 i))) i ((ix m.dues i).p - minI (ix m.dues i).p (pb m.dues s3 i)), rfl, hlt, fun j hj => ?_, fun j hj => ?_, rfl⟩
            · rw [← wi]
              exact ⟨rfl, rfl, fun o ho => match o, ho with | 0, _ => rfl | 1, _ => rfl | 2, _ => rfl | 3, _ => rfl | 4, _ => rfl | 5, _ => rfl | 6, _ => ⟨rfl, rfl, fun j hj => rfl⟩⟩
            · by_cases hji : j = i
              · subst hji
                rw [updP_self, updI_self, hfi]
                rfl
              · rw [updP_other _ hji, updI_other _ hji]
                exact hf1 j (by omega)
            · rw [updP_other _ (by omega), updI_other _ (by omega)]
              exact hf2 j (by omega)
          · have he : i = m.dues.length := by have := of_decide_eq_false hh; omega
            subst he
            have hkc : keepF f m.dues.length = paidL m.dues s2 s3 := keepF_congr hf1
            conv => whnf
            refine delB hlen fun f' hf' => ?_
            rw [hkc] at hf' ⊢
            have hcl := keepF_len (paidD m.dues s2 s3) m.dues.length
            conv => whnf
            subst hK
            refine ⟨show 0 + (paidL m.dues s2 s3).length ≤ m.dues.length by unfold paidL; omega, ?_⟩
            exact wk_agg10 (dues_frozen hf')
    · simp at h
  · simp at h
def envX2 : Env := (61, m4Q paidOb (paidAV)) :: envX1
theorem envX2_ok : EnvOK Try.prog envX2 := env_cons paid61 envX1_ok
end Go.Proofs.Ytepbibbeifbokaa.Sh
