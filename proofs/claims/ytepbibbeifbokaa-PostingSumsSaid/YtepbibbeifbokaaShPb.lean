/- The shadow machine over this program: what lies between money and money. -/
import Derived.Test.YtepbibbeifbokaaShPa
namespace Go.Proofs.Ytepbibbeifbokaa.Sh
open Go Go.RowKit
set_option linter.unusedVariables false
set_option linter.unusedSimpArgs false
set_option maxRecDepth 100000
set_option maxHeartbeats 4000000
theorem or2n_iff {x y : Bool} : (bif !x then true else !y) = !(x && y) := by cases x <;> cases y <;> rfl
theorem refSum39 : ∀ vs ob r, pQ (fun xs => sumPV (sumP xs)) vs = some (ob, r) → conj ob → SCall Try.prog 39 vs [] (Told r) := pQ_of fun xs hlen => by
  refine scall_of (cfg_ok envP0_ok 0) Try.func39 (by kernel_rfl) rfl ?_
  generalize hK : Told _ = K
  conv => whnf
  refine ⟨[], [0, 4, 5], 0, fun q s => ∃ (i : Nat) (n : Int), q = xs.length - i ∧ i ≤ xs.length ∧ sumG xs (xs.length - i) i n = sumP xs ∧ may2 n = true ∧ s = ⟨postsAV xs :: .top :: .top :: .top :: .int .i64 n :: .int .i64 i :: List.replicate 32 .top, []⟩, Nat.zero_le _, ⟨_, _, ?_, 0, 0, rfl, Nat.zero_le _, rfl, by decide, rfl⟩, ?_⟩
  · exact ⟨rfl, rfl, fun o ho => absurd ho (Nat.not_lt_zero _)⟩
  · rintro q s ⟨i, n, rfl, hi, hs, hn, rfl⟩
    conv => whnf
    refine ⟨fun h2 => ?_, fun h2 => ?_⟩
    · have hlt : i < xs.length := by have := of_decide_eq_true h2; omega
      rw [sumG_next hlt] at hs
      have wi : IntKind.i64.wrap ((i : Int) + 1) = ((i + 1 : Nat) : Int) := by rw [w64 (by omega) (by omega)]; rfl
      have ei : ((i : Int)).toNat = i := Int.toNat_natCast i
      have hn' := may2_iff.mp hn
      conv => whnf
      refine ⟨⟨⟨by omega, by omega⟩, fun _ => ⟨by omega, by omega⟩⟩, ?_⟩
      rw [ei]
      conv => whnf
      refine ⟨fun h3 => ?_, fun h3 => ?_⟩
      · rw [or2n_iff] at h3
        have hno : sumP xs = none := by
          rw [← hs]
          cases h5 : may2 (ixp xs i).m with
          | false => rfl
          | true =>
            have h5' := may2_iff.mp h5
            rw [w64 (by omega) (by omega), h5] at h3
            rw [show may2 (n + (ixp xs i).m) = false by simpa using h3]
            rfl
        conv => whnf
        subst hK
        rw [hno]
        exact told_of trivial rfl rfl
      · rw [or2n_iff] at h3
        have h5 : may2 (ixp xs i).m = true := by
          cases h5 : may2 (ixp xs i).m with
          | true => rfl
          | false => rw [h5] at h3; simp at h3
        have h5' := may2_iff.mp h5
        rw [w64 (by omega) (by omega), h5] at h3
        have h4 : may2 (n + (ixp xs i).m) = true := by simpa using h3
        rw [h5, h4] at hs
        have wn : IntKind.i64.wrap (n + (ixp xs i).m) = n + (ixp xs i).m := w64 (by omega) (by omega)
        conv => whnf
        refine ⟨⟨by omega, by omega⟩, ?_⟩
        rw [ei]
        conv => whnf
        refine ⟨xs.length - (i + 1), _, by omega, ?_, i + 1, n + (ixp xs i).m, rfl, by omega, hs, h4, rfl⟩
        rw [← wi, wn]
        exact ⟨rfl, rfl, fun o ho => absurd ho (Nat.not_lt_zero _)⟩
    · have hz : xs.length - i = 0 := by have := of_decide_eq_false h2; omega
      rw [hz, sumG] at hs
      conv => whnf
      subst hK
      rw [← hs]
      exact told_of trivial rfl rfl
/-- What each account is more, from the first to the k-th. -/
def betL (a b : M) : Nat → List P
  | 0 => []
  | k + 1 => bif IntKind.i64.wrap (balM b ((k + 1 : Nat) : Int) - balM a ((k + 1 : Nat) : Int)) == 0 then betL a b k else betL a b k ++ [⟨((k + 1 : Nat) : Int), IntKind.i64.wrap (balM b ((k + 1 : Nat) : Int) - balM a ((k + 1 : Nat) : Int))⟩]
def both (a b : M) : Bool := (readM a).2 && (readM b).2
def bet (a b : M) : List P := bif both a b then betL a b 11 else []
def betV (a b : M) : AV := .tup [postsAV (bet a b), .int .i64 (bif both a b then 0 else 1)]
def mmQ (r : M → M → AV) : QSpec := fun vs => match vs with
  | [v, v'] => match mOf v, mOf v' with
    | some (p, m), some (p', m') => some ([p, p'], r m m')
    | _, _ => none
  | _ => none
theorem mmQ_of {f : FuncId} {r : M → M → AV} (H : ∀ m m' : M, m.dues.length ≤ 9223372036854775807 → m'.dues.length ≤ 9223372036854775807 → SCall Try.prog f [moneyAV m, moneyAV m'] [] (Told (r m m'))) : ∀ vs ob q, mmQ r vs = some (ob, q) → conj ob → SCall Try.prog f vs [] (Told q) := by
  intro vs ob q h hob
  unfold mmQ at h
  split at h
  · rename_i v v'
    split at h
    · rename_i p m p' m' hm hm'
      simp only [Option.some.injEq, Prod.mk.injEq] at h
      obtain ⟨rfl, rfl⟩ := h
      obtain ⟨hp, hp'⟩ : p ∧ p' := hob
      obtain ⟨hw, hlen⟩ := mOf_wk hm hp
      obtain ⟨hw', hlen'⟩ := mOf_wk hm' hp'
      exact SCall.weaken (us := [moneyAV m, moneyAV m']) (H m m' hlen hlen') rfl fun i hi => match i, hi with | 0, _ => hw | 1, _ => hw'
    · simp at h
  · simp at h
def booksQ : QSpec := mkQ (fun m k => .int .i64 (balM m k))
theorem balance55 : ∀ vs ob r, booksQ vs = some (ob, r) → conj ob → SCall Try.prog 55 vs [] (Told r) := mkQ_of fun m k hlen => by
  refine scall_of (cfg_ok env12_ok 0) Try.func55 (by kernel_rfl) rfl ?_
  generalize hK : Told _ = K
  conv => whnf
  refine ⟨isDues_m hlen, ?_⟩
  conv => whnf
  subst hK
  exact told_int (by rw [m_self])
def envP1 : Env := (55, booksQ) :: (39, pQ (fun xs => sumPV (sumP xs))) :: (29, pQ (fun xs => sumPV (sumP xs))) :: envP0
theorem envP1_ok : EnvOK Try.prog envP1 := env_cons balance55 (env_cons refSum39 (env_cons sum29 envP0_ok))
theorem or_not2 {x y : Bool} : (bif !x then true else !y) = true ↔ (x && y) = false := by cases x <;> cases y <;> simp
theorem wk_tup2 {x y x' y' : AV} (h1 : Wk x x') (h2 : Wk y y') : Wk (.tup [x, y]) (.tup [x', y']) := fun w Fz g c hv => by
  obtain ⟨vs, rfl, hl, hh⟩ := inv_tup hv
  refine .tup _ _ hl fun i hi => ?_
  have h0 := hh i hi
  match i, hi with
  | 0, _ => exact h1 _ _ _ _ h0
  | 1, _ => exact h2 _ _ _ _ h0
def postCells (xs : List P) (i : Nat) : List AV := [.int .i64 (ixp xs i).a, .int .i64 (ixp xs i).m]
theorem ixp_app (L : List P) (x : P) {i : Nat} (hi : i < L.length + 1) : ixp (L ++ [x]) i = if i < L.length then ixp L i else x := by
  unfold ixp
  by_cases h : i < L.length
  · simp [h, List.getD_eq_getElem?_getD, List.getElem?_append]
  · have : i = L.length := by omega
    subst this
    simp [List.getD_eq_getElem?_getD]
theorem post_app (L : List P) (x : P) {i : Nat} (hi : i < L.length + 1) : ([.int .i64 (bif decide (i < L.length) then (ixp L i).a else x.a), .int .i64 (bif decide (i < L.length) then (ixp L i).m else x.m)] : List AV) = postCells (L ++ [x]) i := by
  unfold postCells
  rw [ixp_app L x hi]
  by_cases h : i < L.length <;> simp [h]
theorem betL_len (a b : M) : ∀ j, (betL a b j).length ≤ j
  | 0 => Nat.le_refl _
  | j + 1 => by
    have := betL_len a b j
    simp only [betL]
    cases (IntKind.i64.wrap (balM b ((j + 1 : Nat) : Int) - balM a ((j + 1 : Nat) : Int)) == 0) <;> simp <;> omega
theorem bet_length0 (a b : M) : (bet a b).length ≤ 11 := by
  unfold bet
  cases both a b with
  | false => simp
  | true => exact betL_len a b 11
theorem told_bet {L : List P} {e : Int} {h : List AO} {k : AV} (hk : k = .cint .i64 e) (ho : nth .free h 2 = .rows 2 L.length (postCells L)) : Told (.tup [postsAV L, .int .i64 e]) (.tup [.sl 2 2 0 L.length none, k]) h := by
  subst hk
  refine ⟨?_, ?_⟩
  · show conj (frOb1 _ (.sl 2 2 0 L.length none) ++ _)
    unfold frOb1
    simp only [ho]
    show 0 + L.length ≤ L.length
    omega
  · show Wk (.tup [freeze1 _ (.sl 2 2 0 L.length none), .int .i64 e]) _
    unfold freeze1
    simp only [ho]
    refine wk_tup2 (ro_wk (.inr ⟨rfl, fun i _ => ?_⟩)) (Wk.refl _)
    show postRow L (0 + i) = _
    rw [Nat.zero_add]
theorem between28 : ∀ vs ob r, mmQ betV vs = some (ob, r) → conj ob → SCall Try.prog 28 vs [] (Told r) := mmQ_of fun a b hla hlb => by
  refine scall_of (cfg_ok envP1_ok 0) Try.func28 (by kernel_rfl) rfl ?_
  generalize hK : Told _ = K
  conv => whnf
  refine ⟨⟨isDues_m hla, fun _ => isDues_m hlb⟩, ?_⟩
  rw [duesOf_self, duesOf_self]
  conv => whnf
  refine ⟨fun h1 => ?_, fun h1 => ?_⟩
  · have h2 : both a b = false := or_not2.mp h1
    conv => whnf
    subst hK
    refine ⟨trivial, ?_⟩
    unfold betV bet
    rw [h2]
    show Wk (.tup [.ro 0 0 (some 0) fun _ => [], .int .i64 1]) _
    exact wk_tup2 (ro_wk (.inl rfl)) (Wk.refl _)
  · have h2 : both a b = true := by
      cases h3 : both a b with
      | true => rfl
      | false => exact absurd ((or_not2 (x := (readM a).2) (y := (readM b).2)).mpr h3) (by rw [show _ = false from h1]; decide)
    conv => whnf
    refine ⟨[], by kernel_rfl, ?_⟩
    conv => whnf
    refine ⟨[(8, 2)], [6, 7, 8, 9], 3, fun q s => ∃ (j : Nat) (L : List P), q = 11 - j ∧ j ≤ 11 ∧ L = betL a b j ∧ s = ⟨.top :: .top :: .top :: .top :: .top :: .top :: .fn 55 [.agg [.int .i64 a.pri, .int .i64 a.acc, duesAV a.dues, .int .i64 a.pen, .int .i64 a.fee, .int .i64 a.una, .int .i64 a.cash, .int .i64 a.ear, .int .i64 a.fin, .int .i64 a.cha]] [] :: .fn 55 [.agg [.int .i64 b.pri, .int .i64 b.acc, duesAV b.dues, .int .i64 b.pen, .int .i64 b.fee, .int .i64 b.una, .int .i64 b.cash, .int .i64 b.ear, .int .i64 b.fin, .int .i64 b.cha]] [] :: .sl 2 2 0 L.length none :: .int .i64 ((j + 1 : Nat) : Int) :: List.replicate 35 .top, [.lit 1 [.int .i64 a.pri, .int .i64 a.acc, duesAV a.dues, .int .i64 a.pen, .int .i64 a.fee, .int .i64 a.una, .int .i64 a.cash, .int .i64 a.ear, .int .i64 a.fin, .int .i64 a.cha], .lit 1 [.int .i64 b.pri, .int .i64 b.acc, duesAV b.dues, .int .i64 b.pen, .int .i64 b.fee, .int .i64 b.una, .int .i64 b.cash, .int .i64 b.ear, .int .i64 b.fin, .int .i64 b.cha], .rows 2 L.length (postCells L)]⟩, Nat.zero_le _, ⟨_, _, ?_, 0, [], rfl, Nat.zero_le _, rfl, rfl⟩, ?_⟩
    · exact ⟨rfl, rfl, fun o ho => match o, ho with | 0, _ => rfl | 1, _ => rfl | 2, _ => ⟨rfl, rfl, fun j hj => absurd hj (Nat.not_lt_zero _)⟩⟩
    · rintro q s ⟨j, L, rfl, hj, hL, rfl⟩
      have hlL : L.length ≤ 11 := by rw [hL]; exact Nat.le_trans (betL_len a b j) hj
      conv => whnf
      refine ⟨fun h3 => ?_, fun h3 => ?_⟩
      · have hlt : j + 1 ≤ 11 := by have := of_decide_eq_true h3; omega
        have wi : IntKind.i64.wrap (((j + 1 : Nat) : Int) + 1) = ((j + 1 + 1 : Nat) : Int) := by rw [w64 (by omega) (by omega)]; rfl
        conv => whnf
        refine ⟨⟨isDues_m hlb, isDues_m hla⟩, ?_⟩
        rw [duesOf_self, duesOf_self]
        conv => whnf
        refine ⟨fun h4 => ?_, fun h4 => ?_⟩
        · have h5 : (IntKind.i64.wrap (balM b ((j + 1 : Nat) : Int) - balM a ((j + 1 : Nat) : Int)) == 0) = false := by
            have : (!(IntKind.i64.wrap (balM b ((j + 1 : Nat) : Int) - balM a ((j + 1 : Nat) : Int)) == 0)) = true := h4
            simpa using this
          conv => whnf
          refine ⟨⟨rfl, show (L.length + 1) * 16 ≤ _ by omega, fun i hi => ⟨rfl, rfl⟩⟩, ?_⟩
          conv => whnf
          refine ⟨11 - (j + 1), _, by omega, ?_, j + 1, L ++ [⟨((j + 1 : Nat) : Int), IntKind.i64.wrap (balM b ((j + 1 : Nat) : Int) - balM a ((j + 1 : Nat) : Int))⟩], rfl, hlt, by rw [betL, h5, hL]; rfl, rfl⟩
          rw [← wi, List.length_append]
          exact ⟨rfl, rfl, fun o ho => match o, ho with | 0, _ => rfl | 1, _ => rfl | 2, _ => ⟨rfl, rfl, fun i hi => post_app L ⟨((j + 1 : Nat) : Int), IntKind.i64.wrap (balM b ((j + 1 : Nat) : Int) - balM a ((j + 1 : Nat) : Int))⟩ hi⟩⟩
        · have h5 : (IntKind.i64.wrap (balM b ((j + 1 : Nat) : Int) - balM a ((j + 1 : Nat) : Int)) == 0) = true := by
            have : (!(IntKind.i64.wrap (balM b ((j + 1 : Nat) : Int) - balM a ((j + 1 : Nat) : Int)) == 0)) = false := h4
            simpa using this
          conv => whnf
          refine ⟨11 - (j + 1), _, by omega, ?_, j + 1, L, rfl, hlt, by rw [betL, h5, hL]; rfl, rfl⟩
          rw [← wi]
          exact ⟨rfl, rfl, fun o ho => match o, ho with | 0, _ => rfl | 1, _ => rfl | 2, _ => ⟨rfl, rfl, fun i hi => rfl⟩⟩
      · have he : j = 11 := by have := of_decide_eq_false h3; omega
        subst he
        conv => whnf
        subst hK
        unfold betV bet
        rw [h2, cond_true, cond_true, ← hL]
        exact told_bet rfl rfl
end Go.Proofs.Ytepbibbeifbokaa.Sh
