/- The shadow machine over this program: copies with room behind them, and whether they stay (Due). -/
import Derived.Test.YtepbibbeifbokaaShI
namespace Go.Proofs.Ytepbibbeifbokaa.Sh
open Go Go.RowKit
set_option linter.unusedVariables false
set_option linter.unusedSimpArgs false
set_option maxRecDepth 100000
set_option maxHeartbeats 4000000
theorem ro_wk2 {s len len' : Nat} {cap cap' : Option Nat} {row row' : Nat → List RV} (hl : len = len') (hc : cap = cap') (h : ∀ i, i < cap.getD len → row i = row' i) : Wk (.ro s len cap row) (.ro s len' cap' row') := by
  subst hl hc
  intro w Fz g c hv
  cases hv with
  | ro _ _ _ _ _ hr =>
    cases hr with
    | ro _ _ _ _ A cc cs hlen hcap hc hr =>
      exact .ro _ _ _ _ _ (.ro _ _ _ _ _ _ cs hlen hcap hc (fun i hi j hj => by rw [← h i hi]; exact hr i hi j hj))
def ownD (xs : List D) (d : D) (i j : Nat) : D := if j < xs.length then ix xs j else if j < i then d else ⟨0, 0, 0, 0⟩
def ownCells (xs : List D) (d : D) (i j : Nat) : List AV := [.int .i64 (ownD xs d i j).n, .int .i64 (ownD xs d i j).day, .int .i64 (ownD xs d i j).i, .int .i64 (ownD xs d i j).p]
def ownRow (xs : List D) (d : D) (j : Nat) : List RV := [.int .i64 (ownD xs d (xs.length + 3) j).n, .int .i64 (ownD xs d (xs.length + 3) j).day, .int .i64 (ownD xs d (xs.length + 3) j).i, .int .i64 (ownD xs d (xs.length + 3) j).p]
def ownAV (xs : List D) (d : D) : AV := .ro 4 xs.length (some (xs.length + 3)) (ownRow xs d)
def ownQ : QSpec := fun vs => match vs with
  | [.ro s len cap row, .agg [.int .i64 a, .int .i64 b, .int .i64 c, .int .i64 d]] => some ([isDues s len row ∧ len ≤ 1000], ownAV (duesOf len row) ⟨a, b, c, d⟩)
  | _ => none
theorem own_entry (xs : List D) (d : D) (j : Nat) : ([.int .i64 (bif (decide (0 ≤ j) && decide (j < xs.length)) then (ix xs (j - 0)).n else 0), .int .i64 (bif (decide (0 ≤ j) && decide (j < xs.length)) then (ix xs (j - 0)).day else 0), .int .i64 (bif (decide (0 ≤ j) && decide (j < xs.length)) then (ix xs (j - 0)).i else 0), .int .i64 (bif (decide (0 ≤ j) && decide (j < xs.length)) then (ix xs (j - 0)).p else 0)] : List AV) = ownCells xs d xs.length j := by
  unfold ownCells ownD
  by_cases h : j < xs.length <;> simp [h]
theorem own_step {xs : List D} {d : D} {i : Nat} (hi : xs.length ≤ i) (j : Nat) : ([.int .i64 (bif (j == 0 + ((i : Nat) : Int).toNat) then d.n else (ownD xs d i j).n), .int .i64 (bif (j == 0 + ((i : Nat) : Int).toNat) then d.day else (ownD xs d i j).day), .int .i64 (bif (j == 0 + ((i : Nat) : Int).toNat) then d.i else (ownD xs d i j).i), .int .i64 (bif (j == 0 + ((i : Nat) : Int).toNat) then d.p else (ownD xs d i j).p)] : List AV) = ownCells xs d (i + 1) j := by
  have key : ownD xs d (i + 1) j = if j = i then d else ownD xs d i j := by
    unfold ownD
    by_cases h : j = i
    · subst h; simp [show ¬ j < xs.length by omega]
    · by_cases h2 : j < xs.length
      · simp [h2, h]
      · by_cases h3 : j < i
        · simp [h2, h3, h, show j < i + 1 by omega]
        · simp [h2, h3, h, show ¬ j < i + 1 by omega]
  unfold ownCells
  rw [key, Int.toNat_natCast, Nat.zero_add]
  by_cases h : j = i
  · simp [h]
  · simp [h, show (j == i) = false by simpa using h]
theorem own31 : ∀ vs ob r, ownQ vs = some (ob, r) → conj ob → SCall Try.prog 31 vs [] (Told r) := by
  intro vs ob r h hob
  unfold ownQ at h
  split at h
  · rename_i s len cap row a b c d
    simp only [Option.some.injEq, Prod.mk.injEq] at h
    obtain ⟨rfl, rfl⟩ := h
    obtain ⟨hd, hl⟩ : isDues s len row ∧ len ≤ 1000 := hob
    refine SCall.weaken (us := [duesAV (duesOf len row), .agg [.int .i64 a, .int .i64 b, .int .i64 c, .int .i64 d]]) ?_ rfl fun i hi => match i, hi with | 0, _ => dues_wk hd | 1, _ => Wk.refl _
    have hlen : (duesOf len row).length ≤ 1000 := by rw [duesOf_length]; exact hl
    generalize duesOf len row = xs at hlen
    refine scall_of (cfg_ok env12_ok 0) Try.func31 (by kernel_rfl) rfl ?_
    generalize hK : Told _ = K
    have wl : IntKind.i64.wrap ((xs.length : Int) + 3) = ((xs.length + 3 : Nat) : Int) := by rw [w64 (by omega) (by omega)]; rfl
    conv => whnf
    refine ⟨⟨by decide, by rw [wl]; omega, by rw [wl]; show ((xs.length + 3 : Nat) : Int) * 32 ≤ _; omega⟩, ?_⟩
    rw [wl, Int.toNat_natCast]
    conv => whnf
    rw [show Int.toNat 0 = 0 from rfl, Nat.zero_add]
    refine ⟨⟨by omega, Nat.le_refl _, show xs.length * 32 ≤ _ by omega, fun i hi => ⟨rfl, rfl⟩⟩, ?_⟩
    conv => whnf
    rw [wl, Int.toNat_natCast]
    refine ⟨⟨⟨by omega, by show ((xs.length + 3 : Nat) : Int) ≤ ((xs.length + 3 : Nat) : Int); omega⟩, trivial⟩, ?_⟩
    conv => whnf
    refine ⟨[], [3, 5, 6, 7], 2, fun q s => ∃ i : Nat, q = xs.length + 3 - i ∧ xs.length ≤ i ∧ i ≤ xs.length + 3 ∧ s = ⟨.top :: .top :: .top :: .ptr 0 1 1 0 0 :: .top :: .sl 1 4 0 xs.length (some (xs.length + 3)) :: .sl 1 4 0 (xs.length + 3) (some (xs.length + 3)) :: .int .i64 i :: List.replicate 25 .top, [.lit 1 [.int .i64 a, .int .i64 b, .int .i64 c, .int .i64 d], .rows 4 (xs.length + 3) (ownCells xs ⟨a, b, c, d⟩ i)]⟩, Nat.zero_le _, ⟨_, _, ?_, xs.length, rfl, Nat.le_refl _, by omega, rfl⟩, ?_⟩
    · exact ⟨rfl, rfl, fun o ho => match o, ho with | 0, _ => rfl | 1, _ => ⟨rfl, rfl, fun j hj => own_entry xs ⟨a, b, c, d⟩ j⟩⟩
    · rintro q s ⟨i, rfl, hi, hi3, rfl⟩
      conv => whnf
      refine ⟨fun h2 => ?_, fun h2 => ?_⟩
      · have hlt : i < xs.length + 3 := by have := of_decide_eq_true h2; omega
        have wi : IntKind.i64.wrap ((i : Int) + 1) = ((i + 1 : Nat) : Int) := by rw [w64 (by omega) (by omega)]; rfl
        conv => whnf
        refine ⟨⟨⟨by omega, by omega⟩, show 0 + (i : Int).toNat < xs.length + 3 by omega⟩, ?_⟩
        conv => whnf
        refine ⟨xs.length + 3 - (i + 1), _, by omega, ?_, i + 1, rfl, by omega, by omega, rfl⟩
        rw [← wi]
        exact ⟨rfl, rfl, fun o ho => match o, ho with | 0, _ => rfl | 1, _ => ⟨rfl, rfl, fun j hj => own_step (d := ⟨a, b, c, d⟩) hi j⟩⟩
      · have he : i = xs.length + 3 := by have := of_decide_eq_false h2; omega
        subst he
        conv => whnf
        subst hK
        refine ⟨show 0 + (xs.length + 3) ≤ xs.length + 3 by omega, ?_⟩
        exact ro_wk2 rfl rfl fun j hj => show ownRow xs ⟨a, b, c, d⟩ (0 + j) = _ by rw [Nat.zero_add]
  · simp at h
def eqD (x y : D) : Bool := (x.n == y.n) && ((x.day == y.day) && ((x.i == y.i) && (x.p == y.p)))
theorem eqD_iff {x y : D} : eqD x y = true ↔ x = y := by
  obtain ⟨a, b, c, d⟩ := x
  obtain ⟨a', b', c', d'⟩ := y
  simp [eqD]
theorem eqD_self (x : D) : eqD x x = true := eqD_iff.mpr rfl
def eqDQ : QSpec := fun vs => match vs with
  | [.agg [.int .i64 a, .int .i64 b, .int .i64 c, .int .i64 d], .agg [.int .i64 a', .int .i64 b', .int .i64 c', .int .i64 d']] => some ([], .bool (eqD ⟨a, b, c, d⟩ ⟨a', b', c', d'⟩))
  | _ => none
theorem eqD65 : ∀ vs ob r, eqDQ vs = some (ob, r) → conj ob → SCall Try.prog 65 vs [] (Told r) := by
  intro vs ob r h hob
  unfold eqDQ at h
  split at h
  · simp only [Option.some.injEq, Prod.mk.injEq] at h
    obtain ⟨rfl, rfl⟩ := h
    refine scall_of (cfg_ok env12_ok 0) Try.func65 (by kernel_rfl) rfl ?_
    generalize hK : Told _ = K
    conv => whnf
    subst hK
    exact told_bool rfl
  · simp at h
def eqS (xs ys : List D) : Nat → Nat → Bool
  | 0, _ => true
  | k + 1, i => bif eqD (ix xs i) (ix ys i) then eqS xs ys k (i + 1) else false
def sameD (xs ys : List D) : Bool := decide (xs.length = ys.length) && eqS xs ys xs.length 0
theorem eqS_iff (xs ys : List D) : ∀ k i, eqS xs ys k i = true ↔ ∀ j, i ≤ j → j < i + k → ix xs j = ix ys j
  | 0, i => by simp [eqS]; intros; omega
  | k + 1, i => by
    simp only [eqS]
    cases h : eqD (ix xs i) (ix ys i) with
    | false =>
      simp only [cond_false, Bool.false_eq_true, false_iff]
      intro hall
      rw [eqD_iff.mpr (hall i (Nat.le_refl _) (by omega))] at h
      simp at h
    | true =>
      rw [cond_true, eqS_iff xs ys k (i + 1)]
      constructor
      · intro hall j h1 h2
        by_cases hj : j = i
        · subst hj; exact eqD_iff.mp h
        · exact hall j (by omega) (by omega)
      · exact fun hall j h1 h2 => hall j (by omega) (by omega)
theorem sameD_iff {xs ys : List D} : sameD xs ys = true ↔ xs = ys := by
  unfold sameD
  rw [Bool.and_eq_true, decide_eq_true_iff, eqS_iff]
  constructor
  · rintro ⟨hl, h⟩
    refine List.ext_getElem hl fun i h1 h2 => ?_
    have := h i (Nat.zero_le _) (by omega)
    simpa [ix, List.getD_eq_getElem?_getD, List.getElem?_eq_getElem h1, List.getElem?_eq_getElem h2] using this
  · rintro rfl
    exact ⟨rfl, fun _ _ _ => rfl⟩
theorem sameD_self (xs : List D) : sameD xs xs = true := sameD_iff.mpr rfl
def env13 : Env := (65, eqDQ) :: (31, ownQ) :: env12
theorem env13_ok : EnvOK Try.prog env13 := env_cons eqD65 (env_cons own31 env12_ok)
def sameQ : QSpec := fun vs => match vs with
  | [.ro s len cap row, .ro s' len' cap' row', .fn 65 [] []] => some ([isDues s len row, isDues s' len' row'], .bool (sameD (duesOf len row) (duesOf len' row')))
  | _ => none
theorem same64 : ∀ vs ob r, sameQ vs = some (ob, r) → conj ob → SCall Try.prog 64 vs [] (Told r) := by
  intro vs ob r h hob
  unfold sameQ at h
  split at h
  · rename_i s len cap row s' len' cap' row'
    simp only [Option.some.injEq, Prod.mk.injEq] at h
    obtain ⟨rfl, rfl⟩ := h
    obtain ⟨hd, hd'⟩ : isDues s len row ∧ isDues s' len' row' := hob
    refine SCall.weaken (us := [duesAV (duesOf len row), duesAV (duesOf len' row'), .fn 65 [] []]) ?_ rfl fun i hi => match i, hi with | 0, _ => dues_wk hd | 1, _ => dues_wk hd' | 2, _ => Wk.refl _
    have hlen : (duesOf len row).length ≤ 9223372036854775807 := by rw [duesOf_length]; exact hd.1
    have hlen' : (duesOf len' row').length ≤ 9223372036854775807 := by rw [duesOf_length]; exact hd'.1
    generalize duesOf len row = xs at hlen
    generalize duesOf len' row' = ys at hlen'
    refine scall_of (cfg_ok env13_ok 0) Try.func64 (by kernel_rfl) rfl ?_
    generalize hK : Told _ = K
    conv => whnf
    refine ⟨fun h1 => ?_, fun h1 => ?_⟩
    · have hne : xs.length ≠ ys.length := by
        have : ¬ (xs.length : Int) = ys.length := by simpa using h1
        omega
      conv => whnf
      subst hK
      exact told_bool (by simp [sameD, hne])
    · have he : xs.length = ys.length := by
        have : (xs.length : Int) = ys.length := by simpa using h1
        omega
      conv => whnf
      refine ⟨[], [0, 1, 2, 7], 0, fun q s => ∃ i : Nat, q = xs.length - i ∧ i ≤ xs.length ∧ eqS xs ys (xs.length - i) i = sameD xs ys ∧ s = ⟨duesAV xs :: duesAV ys :: .fn 65 [] [] :: .top :: .top :: .top :: .top :: .int .i64 i :: List.replicate 22 .top, []⟩, Nat.zero_le _, ⟨_, _, ?_, 0, rfl, Nat.zero_le _, by simp [sameD, he], rfl⟩, ?_⟩
      · exact ⟨rfl, rfl, fun o ho => absurd ho (Nat.not_lt_zero _)⟩
      · rintro q s ⟨i, rfl, hi, hs, rfl⟩
        conv => whnf
        refine ⟨fun h2 => ?_, fun h2 => ?_⟩
        · have hlt : i < xs.length := by have := of_decide_eq_true h2; omega
          have hk : xs.length - i = (xs.length - (i + 1)) + 1 := by omega
          rw [hk, eqS] at hs
          have wi : IntKind.i64.wrap ((i : Int) + 1) = ((i + 1 : Nat) : Int) := by rw [w64 (by omega) (by omega)]; rfl
          conv => whnf
          refine ⟨[], by kernel_rfl, ?_⟩
          conv => whnf
          refine ⟨⟨⟨by omega, by omega⟩, ⟨by omega, by omega⟩⟩, ?_⟩
          conv => whnf
          have ei : ((i : Int)).toNat = i := Int.toNat_natCast i
          refine ⟨fun h3 => ?_, fun h3 => ?_⟩
          · have h4 : eqD (ix xs i) (ix ys i) = false := by rw [← ei]; simpa using h3
            rw [h4, cond_false] at hs
            conv => whnf
            subst hK
            exact told_bool hs
          · have h4 : eqD (ix xs i) (ix ys i) = true := by rw [← ei]; simpa using h3
            rw [h4, cond_true] at hs
            conv => whnf
            refine ⟨xs.length - (i + 1), _, by omega, ?_, i + 1, rfl, by omega, hs, rfl⟩
            rw [← wi]
            exact ⟨rfl, rfl, fun o ho => absurd ho (Nat.not_lt_zero _)⟩
        · have hz : xs.length - i = 0 := by have := of_decide_eq_false h2; omega
          rw [hz, eqS] at hs
          conv => whnf
          subst hK
          exact told_bool hs
  · simp at h
def env14 : Env := (64, sameQ) :: env13
theorem env14_ok : EnvOK Try.prog env14 := env_cons same64 env13_ok
def plainQ : QSpec := fun vs => match vs with
  | [.ro s len cap row, .ro s' len' cap' row'] => some ([isDues s len row, isDues s' len' row'], .bool (sameD (duesOf len row) (duesOf len' row')))
  | _ => none
theorem plain57 : ∀ vs ob r, plainQ vs = some (ob, r) → conj ob → SCall Try.prog 57 vs [] (Told r) := by
  intro vs ob r h hob
  unfold plainQ at h
  split at h
  · rename_i s len cap row s' len' cap' row'
    simp only [Option.some.injEq, Prod.mk.injEq] at h
    obtain ⟨rfl, rfl⟩ := h
    obtain ⟨hd, hd'⟩ : isDues s len row ∧ isDues s' len' row' := hob
    refine SCall.weaken (us := [duesAV (duesOf len row), duesAV (duesOf len' row')]) ?_ rfl fun i hi => match i, hi with | 0, _ => dues_wk hd | 1, _ => dues_wk hd'
    have hlen : (duesOf len row).length ≤ 9223372036854775807 := by rw [duesOf_length]; exact hd.1
    have hlen' : (duesOf len' row').length ≤ 9223372036854775807 := by rw [duesOf_length]; exact hd'.1
    generalize duesOf len row = xs at hlen
    generalize duesOf len' row' = ys at hlen'
    refine scall_of (cfg_ok env14_ok 0) Try.func57 (by kernel_rfl) rfl ?_
    generalize hK : Told _ = K
    conv => whnf
    refine ⟨⟨isDues_self hlen, isDues_self hlen'⟩, ?_⟩
    conv => whnf
    subst hK
    exact told_bool (by rw [duesOf_self, duesOf_self])
  · simp at h
def env15 : Env := (57, plainQ) :: env14
theorem env15_ok : EnvOK Try.prog env15 := env_cons plain57 env14_ok
theorem own_dues {xs : List D} {d : D} (h : xs.length ≤ 1000) : isDues 4 xs.length (ownRow xs d) ∧ duesOf xs.length (ownRow xs d) = xs := by
  refine ⟨isDues_of (by omega) fun i _ => ⟨ownD xs d (xs.length + 3) i, rfl⟩, ?_⟩
  refine List.ext_getElem (by simp [duesOf]) fun i h1 h2 => ?_
  simp [duesOf, ownRow, toD, ownD, h2, ix, List.getD_eq_getElem?_getD, List.getElem?_eq_getElem h2]
def isOwn (s len c : Nat) (row : Nat → List RV) (s' len' : Nat) (row' : Nat → List RV) (d : D) : Prop := ∃ xs : List D, xs.length ≤ 1000 ∧ s = 4 ∧ len = xs.length ∧ c = xs.length + 3 ∧ (∀ i, i < xs.length + 3 → row i = ownRow xs d i) ∧ isDues s' len' row' ∧ duesOf len' row' = xs
def keptQ : QSpec := fun vs => match vs with
  | [.ro s len (some c) row, .ro s' len' cap' row', .agg [.int .i64 a0, .int .i64 a1, .int .i64 a2, .int .i64 a3]] => some ([isOwn s len c row s' len' row' ⟨a0, a1, a2, a3⟩], .bool true)
  | _ => none
theorem kept35 : ∀ vs ob r, keptQ vs = some (ob, r) → conj ob → SCall Try.prog 35 vs [] (Told r) := by
  intro vs ob r h hob
  unfold keptQ at h
  split at h
  · rename_i s len c row s' len' cap' row' a0 a1 a2 a3
    simp only [Option.some.injEq, Prod.mk.injEq] at h
    obtain ⟨rfl, rfl⟩ := h
    obtain ⟨xs, hlen, rfl, rfl, rfl, hrow, hd', hxs⟩ : isOwn s len c row s' len' row' ⟨a0, a1, a2, a3⟩ := hob
    refine SCall.weaken (us := [ownAV xs ⟨a0, a1, a2, a3⟩, duesAV xs, .agg [.int .i64 a0, .int .i64 a1, .int .i64 a2, .int .i64 a3]]) ?_ rfl fun i hi => match i, hi with | 0, _ => ro_wk2 rfl rfl hrow | 1, _ => by subst hxs; exact dues_wk hd' | 2, _ => Wk.refl _
    clear hrow hd' hxs
    generalize hd : (⟨a0, a1, a2, a3⟩ : D) = d
    have ho := own_dues (d := d) hlen
    have wl : IntKind.i64.wrap ((xs.length : Int) + 3) = ((xs.length + 3 : Nat) : Int) := by rw [w64 (by omega) (by omega)]; rfl
    refine scall_of (cfg_ok env15_ok 0) Try.func35 (by kernel_rfl) rfl ?_
    generalize hK : Told _ = K
    conv => whnf
    refine ⟨⟨ho.1, isDues_self (by omega)⟩, ?_⟩
    conv => whnf
    refine ⟨fun h1 => ?_, fun h1 => ?_⟩
    · exfalso
      rw [ho.2, duesOf_self, sameD_self, wl] at h1
      simp at h1
    · conv => whnf
      rw [wl, Int.toNat_natCast]
      refine ⟨⟨⟨by omega, by show ((xs.length + 3 : Nat) : Int) ≤ ((xs.length + 3 : Nat) : Int); omega⟩, trivial⟩, ?_⟩
      conv => whnf
      refine ⟨[], [5, 7, 8], 1, fun q s => ∃ i : Nat, q = xs.length + 3 - i ∧ xs.length ≤ i ∧ i ≤ xs.length + 3 ∧ s = ⟨.top :: .top :: .top :: .top :: .top :: .ptr 0 1 1 0 0 :: .top :: .ro 4 (xs.length + 3) (some (xs.length + 3)) (ownRow xs d) :: .int .i64 i :: List.replicate 31 .top, [.lit 1 [.int .i64 a0, .int .i64 a1, .int .i64 a2, .int .i64 a3]]⟩, Nat.zero_le _, ⟨_, _, ?_, xs.length, rfl, Nat.le_refl _, by omega, rfl⟩, ?_⟩
      · exact ⟨rfl, rfl, fun o ho => match o, ho with | 0, _ => rfl⟩
      · rintro q s ⟨i, rfl, hi, hi3, rfl⟩
        conv => whnf
        refine ⟨fun h2 => ?_, fun h2 => ?_⟩
        · have hlt : i < xs.length + 3 := by have := of_decide_eq_true h2; omega
          have wi : IntKind.i64.wrap ((i : Int) + 1) = ((i + 1 : Nat) : Int) := by rw [w64 (by omega) (by omega)]; rfl
          have hown : ownD xs d (xs.length + 3) (i : Int).toNat = d := by
            rw [Int.toNat_natCast]
            unfold ownD
            rw [if_neg (by omega), if_pos hlt]
          conv => whnf
          refine ⟨[], by kernel_rfl, ?_⟩
          conv => whnf
          refine ⟨⟨by omega, by omega⟩, ?_⟩
          conv => whnf
          refine ⟨fun h3 => ?_, fun h3 => ?_⟩
          · exfalso
            rw [hown] at h3
            subst hd
            simp at h3
          · conv => whnf
            refine ⟨xs.length + 3 - (i + 1), _, by omega, ?_, i + 1, rfl, by omega, by omega, rfl⟩
            rw [← wi]
            exact ⟨rfl, rfl, fun o ho => match o, ho with | 0, _ => rfl⟩
        · conv => whnf
          subst hK
          exact told_bool rfl
  · simp at h
end Go.Proofs.Ytepbibbeifbokaa.Sh
