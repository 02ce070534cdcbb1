/- The shadow machine over this program: copies with room behind them, and whether they stay (Posting). -/
import Derived.Test.YtepbibbeifbokaaShJ
import Derived.Test.YtepbibbeifbokaaShPf
namespace Go.Proofs.Ytepbibbeifbokaa.Sh
open Go Go.RowKit
set_option linter.unusedVariables false
set_option linter.unusedSimpArgs false
set_option maxRecDepth 100000
set_option maxHeartbeats 4000000
def ownDP (xs : List P) (d : P) (i j : Nat) : P := if j < xs.length then ixp xs j else if j < i then d else ⟨0, 0⟩
def ownCellsP (xs : List P) (d : P) (i j : Nat) : List AV := [.int .i64 (ownDP xs d i j).a, .int .i64 (ownDP xs d i j).m]
def ownRowP (xs : List P) (d : P) (j : Nat) : List RV := [.int .i64 (ownDP xs d (xs.length + 3) j).a, .int .i64 (ownDP xs d (xs.length + 3) j).m]
def ownAVP (xs : List P) (d : P) : AV := .ro 2 xs.length (some (xs.length + 3)) (ownRowP xs d)
def ownQP : QSpec := fun vs => match vs with
  | [.ro s len cap row, .agg [.int .i64 a, .int .i64 b]] => some ([isPosts s len row ∧ len ≤ 1000], ownAVP (postsOf len row) ⟨a, b⟩)
  | _ => none
theorem own_entryP (xs : List P) (d : P) (j : Nat) : ([.int .i64 (bif (decide (0 ≤ j) && decide (j < xs.length)) then (ixp xs (j - 0)).a else 0), .int .i64 (bif (decide (0 ≤ j) && decide (j < xs.length)) then (ixp xs (j - 0)).m else 0)] : List AV) = ownCellsP xs d xs.length j := by
  unfold ownCellsP ownDP
  by_cases h : j < xs.length <;> simp [h]
theorem own_stepP {xs : List P} {d : P} {i : Nat} (hi : xs.length ≤ i) (j : Nat) : ([.int .i64 (bif (j == 0 + ((i : Nat) : Int).toNat) then d.a else (ownDP xs d i j).a), .int .i64 (bif (j == 0 + ((i : Nat) : Int).toNat) then d.m else (ownDP xs d i j).m)] : List AV) = ownCellsP xs d (i + 1) j := by
  have key : ownDP xs d (i + 1) j = if j = i then d else ownDP xs d i j := by
    unfold ownDP
    by_cases h : j = i
    · subst h; simp [show ¬ j < xs.length by omega]
    · by_cases h2 : j < xs.length
      · simp [h2, h]
      · by_cases h3 : j < i
        · simp [h2, h3, h, show j < i + 1 by omega]
        · simp [h2, h3, h, show ¬ j < i + 1 by omega]
  unfold ownCellsP
  rw [key, Int.toNat_natCast, Nat.zero_add]
  by_cases h : j = i
  · simp [h]
  · simp [h, show (j == i) = false by simpa using h]
theorem own37 : ∀ vs ob r, ownQP vs = some (ob, r) → conj ob → SCall Try.prog 37 vs [] (Told r) := by
  intro vs ob r h hob
  unfold ownQP at h
  split at h
  · rename_i s len cap row a b
    simp only [Option.some.injEq, Prod.mk.injEq] at h
    obtain ⟨rfl, rfl⟩ := h
    obtain ⟨hd, hl⟩ : isPosts s len row ∧ len ≤ 1000 := hob
    refine SCall.weaken (us := [postsAV (postsOf len row), .agg [.int .i64 a, .int .i64 b]]) ?_ rfl fun i hi => match i, hi with | 0, _ => posts_wk hd | 1, _ => Wk.refl _
    have hlen : (postsOf len row).length ≤ 1000 := by rw [postsOf_length]; exact hl
    generalize postsOf len row = xs at hlen
    refine scall_of (cfg_ok envP4_ok 0) Try.func37 (by kernel_rfl) rfl ?_
    generalize hK : Told _ = K
    have wl : IntKind.i64.wrap ((xs.length : Int) + 3) = ((xs.length + 3 : Nat) : Int) := by rw [w64 (by omega) (by omega)]; rfl
    conv => whnf
    refine ⟨⟨by decide, by rw [wl]; omega, by rw [wl]; show ((xs.length + 3 : Nat) : Int) * 16 ≤ _; omega⟩, ?_⟩
    rw [wl, Int.toNat_natCast]
    conv => whnf
    rw [show Int.toNat 0 = 0 from rfl, Nat.zero_add]
    refine ⟨⟨by omega, Nat.le_refl _, show xs.length * 16 ≤ _ by omega, fun i hi => ⟨rfl, rfl⟩⟩, ?_⟩
    conv => whnf
    rw [wl, Int.toNat_natCast]
    refine ⟨⟨⟨by omega, by show ((xs.length + 3 : Nat) : Int) ≤ ((xs.length + 3 : Nat) : Int); omega⟩, trivial⟩, ?_⟩
    conv => whnf
    refine ⟨[], [3, 5, 6, 7], 2, fun q s => ∃ i : Nat, q = xs.length + 3 - i ∧ xs.length ≤ i ∧ i ≤ xs.length + 3 ∧ s = ⟨.top :: .top :: .top :: .ptr 0 1 1 0 0 :: .top :: .sl 1 2 0 xs.length (some (xs.length + 3)) :: .sl 1 2 0 (xs.length + 3) (some (xs.length + 3)) :: .int .i64 i :: List.replicate 25 .top, [.lit 1 [.int .i64 a, .int .i64 b], .rows 2 (xs.length + 3) (ownCellsP xs ⟨a, b⟩ i)]⟩, Nat.zero_le _, ⟨_, _, ?_, xs.length, rfl, Nat.le_refl _, by omega, rfl⟩, ?_⟩
    · exact ⟨rfl, rfl, fun o ho => match o, ho with | 0, _ => rfl | 1, _ => ⟨rfl, rfl, fun j hj => own_entryP xs ⟨a, b⟩ j⟩⟩
    · rintro q s ⟨i, rfl, hi, hi3, rfl⟩
      conv => whnf
      refine ⟨fun h2 => ?_, fun h2 => ?_⟩
      · have hlt : i < xs.length + 3 := by have := of_decide_eq_true h2; omega
        have wi : IntKind.i64.wrap ((i : Int) + 1) = ((i + 1 : Nat) : Int) := by rw [w64 (by omega) (by omega)]; rfl
        conv => whnf
        refine ⟨⟨⟨by omega, by omega⟩, show 0 + (i : Int).toNat < xs.length + 3 by omega⟩, ?_⟩
        conv => whnf
        refine ⟨xs.length + 3 - (i + 1), _, by omega, ?_, i + 1, rfl, by omega, by omega, rfl⟩
        rw [← wi]
        exact ⟨rfl, rfl, fun o ho => match o, ho with | 0, _ => rfl | 1, _ => ⟨rfl, rfl, fun j hj => own_stepP (d := ⟨a, b⟩) hi j⟩⟩
      · have he : i = xs.length + 3 := by have := of_decide_eq_false h2; omega
        subst he
        conv => whnf
        subst hK
        refine ⟨show 0 + (xs.length + 3) ≤ xs.length + 3 by omega, ?_⟩
        exact ro_wk2 rfl rfl fun j hj => show ownRowP xs ⟨a, b⟩ (0 + j) = _ by rw [Nat.zero_add]
  · simp at h
def eqDP (x y : P) : Bool := (x.a == y.a) && (x.m == y.m)
theorem eqD_iffP {x y : P} : eqDP x y = true ↔ x = y := by
  obtain ⟨a, b⟩ := x
  obtain ⟨a', b'⟩ := y
  simp [eqDP]
theorem eqD_selfP (x : P) : eqDP x x = true := eqD_iffP.mpr rfl
def eqDQP : QSpec := fun vs => match vs with
  | [.agg [.int .i64 a, .int .i64 b], .agg [.int .i64 a', .int .i64 b']] => some ([], .bool (eqDP ⟨a, b⟩ ⟨a', b'⟩))
  | _ => none
theorem eqD60 : ∀ vs ob r, eqDQP vs = some (ob, r) → conj ob → SCall Try.prog 60 vs [] (Told r) := by
  intro vs ob r h hob
  unfold eqDQP at h
  split at h
  · simp only [Option.some.injEq, Prod.mk.injEq] at h
    obtain ⟨rfl, rfl⟩ := h
    refine scall_of (cfg_ok envP4_ok 0) Try.func60 (by kernel_rfl) rfl ?_
    generalize hK : Told _ = K
    conv => whnf
    subst hK
    exact told_bool rfl
  · simp at h
def eqSP (xs ys : List P) : Nat → Nat → Bool
  | 0, _ => true
  | k + 1, i => bif eqDP (ixp xs i) (ixp ys i) then eqSP xs ys k (i + 1) else false
def sameDP (xs ys : List P) : Bool := decide (xs.length = ys.length) && eqSP xs ys xs.length 0
theorem eqS_iffP (xs ys : List P) : ∀ k i, eqSP xs ys k i = true ↔ ∀ j, i ≤ j → j < i + k → ixp xs j = ixp ys j
  | 0, i => by simp [eqSP]; intros; omega
  | k + 1, i => by
    simp only [eqSP]
    cases h : eqDP (ixp xs i) (ixp ys i) with
    | false =>
      simp only [cond_false, Bool.false_eq_true, false_iff]
      intro hall
      rw [eqD_iffP.mpr (hall i (Nat.le_refl _) (by omega))] at h
      simp at h
    | true =>
      rw [cond_true, eqS_iffP xs ys k (i + 1)]
      constructor
      · intro hall j h1 h2
        by_cases hj : j = i
        · subst hj; exact eqD_iffP.mp h
        · exact hall j (by omega) (by omega)
      · exact fun hall j h1 h2 => hall j (by omega) (by omega)
theorem sameD_iffP {xs ys : List P} : sameDP xs ys = true ↔ xs = ys := by
  unfold sameDP
  rw [Bool.and_eq_true, decide_eq_true_iff, eqS_iffP]
  constructor
  · rintro ⟨hl, h⟩
    refine List.ext_getElem hl fun i h1 h2 => ?_
    have := h i (Nat.zero_le _) (by omega)
    simpa [ixp, List.getD_eq_getElem?_getD, List.getElem?_eq_getElem h1, List.getElem?_eq_getElem h2] using this
  · rintro rfl
    exact ⟨rfl, fun _ _ _ => rfl⟩
theorem sameD_selfP (xs : List P) : sameDP xs xs = true := sameD_iffP.mpr rfl
def envP5 : Env := (60, eqDQP) :: (37, ownQP) :: envP4
theorem envP5_ok : EnvOK Try.prog envP5 := env_cons eqD60 (env_cons own37 envP4_ok)
def sameQP : QSpec := fun vs => match vs with
  | [.ro s len cap row, .ro s' len' cap' row', .fn 60 [] []] => some ([isPosts s len row, isPosts s' len' row'], .bool (sameDP (postsOf len row) (postsOf len' row')))
  | _ => none
theorem same59 : ∀ vs ob r, sameQP vs = some (ob, r) → conj ob → SCall Try.prog 59 vs [] (Told r) := by
  intro vs ob r h hob
  unfold sameQP at h
  split at h
  · rename_i s len cap row s' len' cap' row'
    simp only [Option.some.injEq, Prod.mk.injEq] at h
    obtain ⟨rfl, rfl⟩ := h
    obtain ⟨hd, hd'⟩ : isPosts s len row ∧ isPosts s' len' row' := hob
    refine SCall.weaken (us := [postsAV (postsOf len row), postsAV (postsOf len' row'), .fn 60 [] []]) ?_ rfl fun i hi => match i, hi with | 0, _ => posts_wk hd | 1, _ => posts_wk hd' | 2, _ => Wk.refl _
    have hlen : (postsOf len row).length ≤ 9223372036854775807 := by rw [postsOf_length]; exact hd.1
    have hlen' : (postsOf len' row').length ≤ 9223372036854775807 := by rw [postsOf_length]; exact hd'.1
    generalize postsOf len row = xs at hlen
    generalize postsOf len' row' = ys at hlen'
    refine scall_of (cfg_ok envP5_ok 0) Try.func59 (by kernel_rfl) rfl ?_
    generalize hK : Told _ = K
    conv => whnf
    refine ⟨fun h1 => ?_, fun h1 => ?_⟩
    · have hne : xs.length ≠ ys.length := by
        have : ¬ (xs.length : Int) = ys.length := by simpa using h1
        omega
      conv => whnf
      subst hK
      exact told_bool (by simp [sameDP, hne])
    · have he : xs.length = ys.length := by
        have : (xs.length : Int) = ys.length := by simpa using h1
        omega
      conv => whnf
      refine ⟨[], [0, 1, 2, 7], 0, fun q s => ∃ i : Nat, q = xs.length - i ∧ i ≤ xs.length ∧ eqSP xs ys (xs.length - i) i = sameDP xs ys ∧ s = ⟨postsAV xs :: postsAV ys :: .fn 60 [] [] :: .top :: .top :: .top :: .top :: .int .i64 i :: List.replicate 22 .top, []⟩, Nat.zero_le _, ⟨_, _, ?_, 0, rfl, Nat.zero_le _, by simp [sameDP, he], rfl⟩, ?_⟩
      · exact ⟨rfl, rfl, fun o ho => absurd ho (Nat.not_lt_zero _)⟩
      · rintro q s ⟨i, rfl, hi, hs, rfl⟩
        conv => whnf
        refine ⟨fun h2 => ?_, fun h2 => ?_⟩
        · have hlt : i < xs.length := by have := of_decide_eq_true h2; omega
          have hk : xs.length - i = (xs.length - (i + 1)) + 1 := by omega
          rw [hk, eqSP] at hs
          have wi : IntKind.i64.wrap ((i : Int) + 1) = ((i + 1 : Nat) : Int) := by rw [w64 (by omega) (by omega)]; rfl
          conv => whnf
          refine ⟨[], by kernel_rfl, ?_⟩
          conv => whnf
          refine ⟨⟨⟨by omega, by omega⟩, ⟨by omega, by omega⟩⟩, ?_⟩
          conv => whnf
          have ei : ((i : Int)).toNat = i := Int.toNat_natCast i
          refine ⟨fun h3 => ?_, fun h3 => ?_⟩
          · have h4 : eqDP (ixp xs i) (ixp ys i) = false := by rw [← ei]; simpa using h3
            rw [h4, cond_false] at hs
            conv => whnf
            subst hK
            exact told_bool hs
          · have h4 : eqDP (ixp xs i) (ixp ys i) = true := by rw [← ei]; simpa using h3
            rw [h4, cond_true] at hs
            conv => whnf
            refine ⟨xs.length - (i + 1), _, by omega, ?_, i + 1, rfl, by omega, hs, rfl⟩
            rw [← wi]
            exact ⟨rfl, rfl, fun o ho => absurd ho (Nat.not_lt_zero _)⟩
        · have hz : xs.length - i = 0 := by have := of_decide_eq_false h2; omega
          rw [hz, eqSP] at hs
          conv => whnf
          subst hK
          exact told_bool hs
  · simp at h
def envP6 : Env := (59, sameQP) :: envP5
theorem envP6_ok : EnvOK Try.prog envP6 := env_cons same59 envP5_ok
def plainQP : QSpec := fun vs => match vs with
  | [.ro s len cap row, .ro s' len' cap' row'] => some ([isPosts s len row, isPosts s' len' row'], .bool (sameDP (postsOf len row) (postsOf len' row')))
  | _ => none
theorem plain42 : ∀ vs ob r, plainQP vs = some (ob, r) → conj ob → SCall Try.prog 42 vs [] (Told r) := by
  intro vs ob r h hob
  unfold plainQP at h
  split at h
  · rename_i s len cap row s' len' cap' row'
    simp only [Option.some.injEq, Prod.mk.injEq] at h
    obtain ⟨rfl, rfl⟩ := h
    obtain ⟨hd, hd'⟩ : isPosts s len row ∧ isPosts s' len' row' := hob
    refine SCall.weaken (us := [postsAV (postsOf len row), postsAV (postsOf len' row')]) ?_ rfl fun i hi => match i, hi with | 0, _ => posts_wk hd | 1, _ => posts_wk hd'
    have hlen : (postsOf len row).length ≤ 9223372036854775807 := by rw [postsOf_length]; exact hd.1
    have hlen' : (postsOf len' row').length ≤ 9223372036854775807 := by rw [postsOf_length]; exact hd'.1
    generalize postsOf len row = xs at hlen
    generalize postsOf len' row' = ys at hlen'
    refine scall_of (cfg_ok envP6_ok 0) Try.func42 (by kernel_rfl) rfl ?_
    generalize hK : Told _ = K
    conv => whnf
    refine ⟨⟨isPosts_self hlen, isPosts_self hlen'⟩, ?_⟩
    conv => whnf
    subst hK
    exact told_bool (by rw [postsOf_self, postsOf_self])
  · simp at h
def envP7 : Env := (42, plainQP) :: envP6
theorem envP7_ok : EnvOK Try.prog envP7 := env_cons plain42 envP6_ok
theorem own_duesP {xs : List P} {d : P} (h : xs.length ≤ 1000) : isPosts 2 xs.length (ownRowP xs d) ∧ postsOf xs.length (ownRowP xs d) = xs := by
  refine ⟨isPosts_of (by omega) fun i _ => ⟨ownDP xs d (xs.length + 3) i, rfl⟩, ?_⟩
  refine List.ext_getElem (by simp [postsOf]) fun i h1 h2 => ?_
  simp [postsOf, ownRowP, toP, ownDP, h2, ixp, List.getD_eq_getElem?_getD, List.getElem?_eq_getElem h2]
def isOwnP (s len c : Nat) (row : Nat → List RV) (s' len' : Nat) (row' : Nat → List RV) (d : P) : Prop := ∃ xs : List P, xs.length ≤ 1000 ∧ s = 2 ∧ len = xs.length ∧ c = xs.length + 3 ∧ (∀ i, i < xs.length + 3 → row i = ownRowP xs d i) ∧ isPosts s' len' row' ∧ postsOf len' row' = xs
def keptQP : QSpec := fun vs => match vs with
  | [.ro s len (some c) row, .ro s' len' cap' row', .agg [.int .i64 a0, .int .i64 a1]] => some ([isOwnP s len c row s' len' row' ⟨a0, a1⟩], .bool true)
  | _ => none
theorem kept43 : ∀ vs ob r, keptQP vs = some (ob, r) → conj ob → SCall Try.prog 43 vs [] (Told r) := by
  intro vs ob r h hob
  unfold keptQP at h
  split at h
  · rename_i s len c row s' len' cap' row' a0 a1
    simp only [Option.some.injEq, Prod.mk.injEq] at h
    obtain ⟨rfl, rfl⟩ := h
    obtain ⟨xs, hlen, rfl, rfl, rfl, hrow, hd', hxs⟩ : isOwnP s len c row s' len' row' ⟨a0, a1⟩ := hob
    refine SCall.weaken (us := [ownAVP xs ⟨a0, a1⟩, postsAV xs, .agg [.int .i64 a0, .int .i64 a1]]) ?_ rfl fun i hi => match i, hi with | 0, _ => ro_wk2 rfl rfl hrow | 1, _ => by subst hxs; exact posts_wk hd' | 2, _ => Wk.refl _
    clear hrow hd' hxs
    generalize hd : (⟨a0, a1⟩ : P) = d
    have ho := own_duesP (d := d) hlen
    have wl : IntKind.i64.wrap ((xs.length : Int) + 3) = ((xs.length + 3 : Nat) : Int) := by rw [w64 (by omega) (by omega)]; rfl
    refine scall_of (cfg_ok envP7_ok 0) Try.func43 (by kernel_rfl) rfl ?_
    generalize hK : Told _ = K
    conv => whnf
    refine ⟨⟨ho.1, isPosts_self (by omega)⟩, ?_⟩
    conv => whnf
    refine ⟨fun h1 => ?_, fun h1 => ?_⟩
    · exfalso
      rw [ho.2, postsOf_self, sameD_selfP, wl] at h1
      simp at h1
    · conv => whnf
      rw [wl, Int.toNat_natCast]
      refine ⟨⟨⟨by omega, by show ((xs.length + 3 : Nat) : Int) ≤ ((xs.length + 3 : Nat) : Int); omega⟩, trivial⟩, ?_⟩
      conv => whnf
      refine ⟨[], [5, 7, 8], 1, fun q s => ∃ i : Nat, q = xs.length + 3 - i ∧ xs.length ≤ i ∧ i ≤ xs.length + 3 ∧ s = ⟨.top :: .top :: .top :: .top :: .top :: .ptr 0 1 1 0 0 :: .top :: .ro 2 (xs.length + 3) (some (xs.length + 3)) (ownRowP xs d) :: .int .i64 i :: List.replicate 31 .top, [.lit 1 [.int .i64 a0, .int .i64 a1]]⟩, Nat.zero_le _, ⟨_, _, ?_, xs.length, rfl, Nat.le_refl _, by omega, rfl⟩, ?_⟩
      · exact ⟨rfl, rfl, fun o ho => match o, ho with | 0, _ => rfl⟩
      · rintro q s ⟨i, rfl, hi, hi3, rfl⟩
        conv => whnf
        refine ⟨fun h2 => ?_, fun h2 => ?_⟩
        · have hlt : i < xs.length + 3 := by have := of_decide_eq_true h2; omega
          have wi : IntKind.i64.wrap ((i : Int) + 1) = ((i + 1 : Nat) : Int) := by rw [w64 (by omega) (by omega)]; rfl
          have hown : ownDP xs d (xs.length + 3) (i : Int).toNat = d := by
            rw [Int.toNat_natCast]
            unfold ownDP
            rw [if_neg (by omega), if_pos hlt]
          conv => whnf
          refine ⟨[], by kernel_rfl, ?_⟩
          conv => whnf
          refine ⟨⟨by omega, by omega⟩, ?_⟩
          conv => whnf
          refine ⟨fun h3 => ?_, fun h3 => ?_⟩
          · exfalso
            rw [hown] at h3
            subst hd
            simp at h3
          · conv => whnf
            refine ⟨xs.length + 3 - (i + 1), _, by omega, ?_, i + 1, rfl, by omega, by omega, rfl⟩
            rw [← wi]
            exact ⟨rfl, rfl, fun o ho => match o, ho with | 0, _ => rfl⟩
        · conv => whnf
          subst hK
          exact told_bool rfl
  · simp at h
end Go.Proofs.Ytepbibbeifbokaa.Sh
