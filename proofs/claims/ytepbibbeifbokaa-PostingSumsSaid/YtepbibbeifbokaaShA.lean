/- The shadow machine over this program: money, and whether it's right. -/
import Derived.Test.YtepbibbeifbokaaShT
namespace Go.Proofs.Ytepbibbeifbokaa.Sh
open Go Go.RowKit
set_option linter.unusedVariables false
set_option linter.unusedSimpArgs false
structure D where
  n : Int
  day : Int
  i : Int
  p : Int
instance : Inhabited D := ⟨⟨0, 0, 0, 0⟩⟩
structure M where
  pri : Int
  acc : Int
  dues : List D
  pen : Int
  fee : Int
  una : Int
  cash : Int
  ear : Int
  fin : Int
  cha : Int
def ix (xs : List D) (i : Nat) : D := xs.getD i default
def dueRow (xs : List D) (i : Nat) : List RV := [.int .i64 (ix xs i).n, .int .i64 (ix xs i).day, .int .i64 (ix xs i).i, .int .i64 (ix xs i).p]
def duesAV (xs : List D) : AV := .ro 4 xs.length none (dueRow xs)
def toD : List RV → D
  | [.int _ a, .int _ b, .int _ c, .int _ d] => ⟨a, b, c, d⟩
  | _ => default
def duesOf (len : Nat) (row : Nat → List RV) : List D := (List.range len).map fun i => toD (row i)
def isDues (s len : Nat) (row : Nat → List RV) : Prop := len ≤ 9223372036854775807 ∧ (len = 0 ∨ (s = 4 ∧ ∀ i, i < len → row i = dueRow (duesOf len row) i))
def MX : Int := 1000000000000000
def may (x : Int) : Bool := decide (0 ≤ x) && decide (x ≤ MX)
def good (xs : List D) (i : Nat) (a b : Int) : Bool := decide (1 ≤ (ix xs i).n) && (may (ix xs i).i && (may (ix xs i).p && (!decide ((ix xs i).i + (ix xs i).p = 0) && ((decide (i = 0) || (decide ((ix xs (i - 1)).n < (ix xs i).n) && decide ((ix xs (i - 1)).day < (ix xs i).day))) && (may (a + (ix xs i).i) && may (b + (ix xs i).p))))))
def goS (xs : List D) : Nat → Nat → Int → Int → Option (Int × Int)
  | 0, _, a, b => some (a, b)
  | k + 1, i, a, b => bif good xs i a b then goS xs k (i + 1) (a + (ix xs i).i) (b + (ix xs i).p) else none
def sumsOf (xs : List D) : Option (Int × Int) := goS xs xs.length 0 0 0
theorem may_iff {x : Int} : may x = true ↔ 0 ≤ x ∧ x ≤ MX := by simp [may]
theorem w64 {n : Int} (h1 : -9223372036854775808 ≤ n) (h2 : n ≤ 9223372036854775807) : IntKind.i64.wrap n = n := by
  unfold IntKind.wrap
  simp only [IntKind.bits, IntKind.signed]
  by_cases h : n % (2 ^ 64 : Int) ≥ (2 ^ (64 - 1) : Int)
  · simp [h]; omega
  · simp [h]; omega
theorem good_iff {xs : List D} {i : Nat} {a b : Int} : good xs i a b = true ↔ 1 ≤ (ix xs i).n ∧ may (ix xs i).i = true ∧ may (ix xs i).p = true ∧ (ix xs i).i + (ix xs i).p ≠ 0 ∧ (i = 0 ∨ ((ix xs (i - 1)).n < (ix xs i).n ∧ (ix xs (i - 1)).day < (ix xs i).day)) ∧ may (a + (ix xs i).i) = true ∧ may (b + (ix xs i).p) = true := by
  simp [good]
theorem go_bad {xs : List D} {i : Nat} {a b : Int} (hi : i < xs.length) (h : ¬ good xs i a b = true) : goS xs (xs.length - i) i a b = none := by
  have : xs.length - i = (xs.length - (i + 1)) + 1 := by omega
  rw [this, goS, Bool.eq_false_iff.mpr h]; rfl
theorem go_good {xs : List D} {i : Nat} {a b : Int} (hi : i < xs.length) (h : good xs i a b = true) : goS xs (xs.length - i) i a b = goS xs (xs.length - (i + 1)) (i + 1) (a + (ix xs i).i) (b + (ix xs i).p) := by
  have : xs.length - i = (xs.length - (i + 1)) + 1 := by omega
  rw [this, goS, h]; rfl
theorem bad_iff {mi mp s0 : Bool} {p1 p2 p3 p4 : Prop} {_ : Decidable p1} {_ : Decidable p2} {_ : Decidable p3} {_ : Decidable p4} : (bif bif bif bif !mi then true else !mp then true else s0 then true else decide p1 then true else bif decide p2 then bif decide p3 then true else decide p4 else false) = true ↔ ¬ (mi = true ∧ mp = true ∧ s0 = false ∧ ¬ p1 ∧ (p2 → ¬ p3 ∧ ¬ p4)) := by
  cases mi <;> cases mp <;> cases s0 <;> by_cases h1 : p1 <;> by_cases h2 : p2 <;> by_cases h3 : p3 <;> by_cases h4 : p4 <;> simp [h1, h2, h3, h4]
theorem bad_of {xs : List D} {i : Nat} {a b : Int} (hi : i < xs.length) (hlen : xs.length ≤ 9223372036854775807) (hg : good xs i a b = true) : may (ix xs i).i = true ∧ may (ix xs i).p = true ∧ (IntKind.i64.wrap ((ix xs i).i + (ix xs i).p) == 0) = false ∧ ¬ (ix xs i).n < 1 ∧ ((i : Int) > 0 → ¬ (ix xs i).n ≤ (ix xs (IntKind.i64.wrap ((i : Int) - 1)).toNat).n ∧ ¬ (ix xs i).day ≤ (ix xs (IntKind.i64.wrap ((i : Int) - 1)).toNat).day) := by
  obtain ⟨h1, h2, h3, h4, h5, h6, h7⟩ := good_iff.mp hg
  have m2 := may_iff.mp h2
  have m3 := may_iff.mp h3
  unfold MX at m2 m3
  refine ⟨h2, h3, ?_, by omega, fun h => ?_⟩
  · rw [w64 (by omega) (by omega)]; simpa using h4
  · rw [w64 (by omega) (by omega), show ((i : Int) - 1).toNat = i - 1 by omega]
    rcases h5 with h5 | h5
    · omega
    · exact ⟨by omega, by omega⟩
theorem good_of {xs : List D} {i : Nat} {a b : Int} (hi : i < xs.length) (hlen : xs.length ≤ 9223372036854775807) (h : may (ix xs i).i = true ∧ may (ix xs i).p = true ∧ (IntKind.i64.wrap ((ix xs i).i + (ix xs i).p) == 0) = false ∧ ¬ (ix xs i).n < 1 ∧ ((i : Int) > 0 → ¬ (ix xs i).n ≤ (ix xs (IntKind.i64.wrap ((i : Int) - 1)).toNat).n ∧ ¬ (ix xs i).day ≤ (ix xs (IntKind.i64.wrap ((i : Int) - 1)).toNat).day)) (h6 : may (a + (ix xs i).i) = true) (h7 : may (b + (ix xs i).p) = true) : good xs i a b = true := by
  obtain ⟨h2, h3, h4, h1, h5⟩ := h
  have m2 := may_iff.mp h2
  have m3 := may_iff.mp h3
  unfold MX at m2 m3
  rw [w64 (by omega) (by omega)] at h4
  refine good_iff.mpr ⟨by omega, h2, h3, by simpa using h4, ?_, h6, h7⟩
  by_cases h0 : i = 0
  · exact .inl h0
  · have := h5 (by omega)
    rw [w64 (by omega) (by omega), show ((i : Int) - 1).toNat = i - 1 by omega] at this
    exact .inr ⟨by omega, by omega⟩
theorem or_iff {x y : Bool} : (bif !x then true else !y) = true ↔ ¬ (x = true ∧ y = true) := by cases x <;> cases y <;> simp
theorem cond_may {p q : Prop} {_ : Decidable p} {_ : Decidable q} {x : Int} (h : (p ∧ q) ↔ (0 ≤ x ∧ x ≤ MX)) : (bif decide p then decide q else false) = may x := by
  rw [Bool.eq_iff_iff, may_iff, ← h]
  by_cases hp : p <;> simp [hp]
theorem goS_bounds (xs : List D) : ∀ k i a b r, may a = true → may b = true → goS xs k i a b = some r → may r.1 = true ∧ may r.2 = true
  | 0, i, a, b, r, ha, hb, h => by simp only [goS, Option.some.injEq] at h; subst h; exact ⟨ha, hb⟩
  | k + 1, i, a, b, r, ha, hb, h => by
    simp only [goS] at h
    cases hg : good xs i a b with
    | false => rw [hg] at h; simp at h
    | true =>
      rw [hg] at h
      simp only [good, Bool.and_eq_true] at hg
      exact goS_bounds xs k _ _ _ r hg.2.2.2.2.2.1 hg.2.2.2.2.2.2 h
theorem sums_bounds {xs : List D} {r : Int × Int} (h : sumsOf xs = some r) : may r.1 = true ∧ may r.2 = true := goS_bounds xs _ _ _ _ r (by decide) (by decide) h
theorem duesOf_length (len : Nat) (row : Nat → List RV) : (duesOf len row).length = len := by simp [duesOf]
theorem duesOf_self (xs : List D) : duesOf xs.length (dueRow xs) = xs := by
  refine List.ext_getElem (by simp [duesOf]) fun i h1 h2 => ?_
  simp [duesOf, dueRow, toD, ix, List.getD_eq_getElem?_getD, List.getElem?_eq_getElem h2]
theorem isDues_self {xs : List D} (h : xs.length ≤ 9223372036854775807) : isDues 4 xs.length (dueRow xs) := ⟨h, .inr ⟨rfl, fun i _ => by rw [duesOf_self]⟩⟩
theorem ro_wk {s len : Nat} {cap : Option Nat} {row row' : Nat → List RV} {s' : Nat} (h : len = 0 ∨ (s = s' ∧ ∀ i, i < len → row i = row' i)) : Wk (.ro s len cap row) (.ro s' len none row') := by
  intro w Fz g c hv
  cases hv with
  | ro _ _ _ _ _ hr =>
    cases hr with
    | ro _ _ _ _ A cc cs hlen hcap hc hr =>
      have hle : len ≤ cap.getD len := by cases hcp : cap with
        | none => simp
        | some n => have := hcap n hcp; simp; omega
      refine .ro _ _ _ _ _ (.ro _ _ _ _ _ _ cs hlen (fun n hn => by cases hn) (fun i hi j hj => ?_) (fun i hi j hj => ?_))
      · simp only [Option.getD_none] at hi
        rcases h with h | ⟨h, _⟩
        · omega
        · subst h; exact hc i (by omega) j hj
      · simp only [Option.getD_none] at hi
        rcases h with h | ⟨h, h2⟩
        · omega
        · subst h; rw [← h2 i hi]; exact hr i (by omega) j hj
theorem dues_wk {s len : Nat} {cap : Option Nat} {row : Nat → List RV} (h : isDues s len row) : Wk (.ro s len cap row) (duesAV (duesOf len row)) := by
  unfold duesAV
  rw [duesOf_length]
  exact ro_wk h.2
theorem SCall.weaken {P : Program} {f : FuncId} {vs us : List AV} {h : List AO} {K : AV → List AO → Prop} (H : SCall P f us h K) (hl : vs.length = us.length) (hw : ∀ i, i < vs.length → Wk (nth .top vs i) (nth .top us i)) : SCall P f vs h K :=
  ⟨H.1, fun B0 w0 w Fz g args hH hl2 hv => H.2 B0 w0 w Fz g args hH (by omega) fun i hi => hw i (by omega) _ _ _ _ (hv i (by omega))⟩
theorem Wk.refl (v : AV) : Wk v v := fun _ _ _ _ h => h
theorem told_of {q r r' : AV} {h : List AO} (h0 : conj (frObR (fun o => nth .free h o) r)) (h1 : freezeR (fun o => nth .free h o) r = q) (h2 : q = r') : Told r' r h := ⟨h0, by rw [h1, h2]; exact Wk.refl _⟩
theorem told_bool {b b' : Bool} {h : List AO} (e : b = b') : Told (.bool b') (.bool b) h := by subst e; exact ⟨trivial, Wk.refl _⟩
theorem told_int {k : IntKind} {b b' : Int} {h : List AO} (e : b = b') : Told (.int k b') (.int k b) h := by subst e; exact ⟨trivial, Wk.refl _⟩
theorem told_cint {k : IntKind} {b b' : Int} {h : List AO} (e : b = b') : Told (.int k b') (.cint k b) h := by subst e; exact ⟨trivial, Wk.refl _⟩

def mayQ : QSpec := fun vs => match vs with
  | [.int .i64 x] => some ([], .bool (may x))
  | _ => none
set_option maxRecDepth 100000
set_option maxHeartbeats 4000000
theorem may62 : ∀ vs ob r, mayQ vs = some (ob, r) → conj ob → SCall Try.prog 62 vs [] (Told r) := by
  intro vs ob r h hob
  unfold mayQ at h
  split at h
  · rename_i x
    simp only [Option.some.injEq, Prod.mk.injEq] at h
    obtain ⟨rfl, rfl⟩ := h
    refine scall_of (cfg_ok env_nil 0) Try.func62 (by kernel_rfl) rfl ?_
    generalize hK : Told _ = K
    conv => whnf
    subst hK
    exact told_bool (cond_may Iff.rfl)
  · simp at h
theorem may49 : ∀ vs ob r, mayQ vs = some (ob, r) → conj ob → SCall Try.prog 49 vs [] (Told r) := by
  intro vs ob r h hob
  unfold mayQ at h
  split at h
  · rename_i x
    simp only [Option.some.injEq, Prod.mk.injEq] at h
    obtain ⟨rfl, rfl⟩ := h
    refine scall_of (cfg_ok env_nil 0) Try.func49 (by kernel_rfl) rfl ?_
    generalize hK : Told _ = K
    conv => whnf
    subst hK
    exact told_bool (cond_may Iff.rfl)
  · simp at h
def env1 : Env := [(62, mayQ), (49, mayQ)]
theorem env1_ok : EnvOK Try.prog env1 := env_cons may62 (env_cons may49 env_nil)
def sumV (r : Option (Int × Int)) : AV := .tup [.agg [.int .i64 (r.getD (0, 0)).1, .int .i64 (r.getD (0, 0)).2], .bool r.isSome]
def ofQ : QSpec := fun vs => match vs with
  | [.ro s len cap row] => some ([isDues s len row], sumV (sumsOf (duesOf len row)))
  | _ => none
theorem of63 : ∀ vs ob r, ofQ vs = some (ob, r) → conj ob → SCall Try.prog 63 vs [] (Told r) := by
  intro vs ob r h hob
  unfold ofQ at h
  split at h
  · rename_i s len cap row
    simp only [Option.some.injEq, Prod.mk.injEq] at h
    obtain ⟨rfl, rfl⟩ := h
    have hob' : isDues s len row := hob
    refine SCall.weaken (us := [duesAV (duesOf len row)]) ?_ rfl fun i hi => ?_
    · have hlen : (duesOf len row).length ≤ 9223372036854775807 := by rw [duesOf_length]; exact hob'.1
      generalize duesOf len row = xs at hlen
      refine scall_of (cfg_ok env1_ok 0) Try.func63 (by kernel_rfl) rfl ?_
      generalize hK : Told _ = K
      conv => whnf
      refine ⟨[], [0, 2, 3, 4, 7, 8, 9], 2, fun m s => ∃ (i : Nat) (a b : Int), m = xs.length - i ∧ i ≤ xs.length ∧ goS xs (xs.length - i) i a b = sumsOf xs ∧ may a = true ∧ may b = true ∧ s = ⟨duesAV xs :: .top :: .ptr 0 1 1 0 0 :: .bool false :: .ptr 1 1 1 0 0 :: .top :: .top :: duesAV xs :: .int .i64 xs.length :: .int .i64 i :: List.replicate 79 .top, [.lit 1 [.int .i64 0, .int .i64 0], .lit 1 [.int .i64 a, .int .i64 b]]⟩, Nat.zero_le _, ⟨_, _, ?_, 0, 0, 0, rfl, Nat.zero_le _, rfl, by decide, by decide, rfl⟩, ?_⟩
      · refine ⟨?_, rfl, fun o ho => match o, ho with | 0, _ => rfl | 1, _ => rfl⟩
        rfl
      · rintro m s ⟨i, a, b, rfl, hi, hgo, ha, hb, rfl⟩
        conv => whnf
        refine ⟨fun h1 => ?_, fun h1 => ?_⟩
        · have hlt : i < xs.length := by have := of_decide_eq_true h1; omega
          conv => whnf
          refine ⟨⟨by omega, by omega⟩, ?_⟩
          conv => whnf
          refine ⟨[], by kernel_rfl, ?_⟩
          conv => whnf
          have hpos : (decide ((i : Int) > 0) = true) → 0 ≤ IntKind.i64.wrap ((i : Int) - 1) ∧ IntKind.i64.wrap ((i : Int) - 1) < xs.length := fun h => by
            have := of_decide_eq_true h
            rw [w64 (by omega) (by omega)]
            omega
          refine ⟨⟨fun _ h => hpos h, fun _ h _ => hpos h⟩, ?_⟩
          conv => whnf
          have ei : ((i : Int)).toNat = i := Int.toNat_natCast i
          refine ⟨fun hbad => ?_, fun hgood => ?_⟩
          · rw [bad_iff, ei] at hbad
            have hn : sumsOf xs = none := by rw [← hgo]; exact go_bad hlt fun hg => hbad (bad_of hlt hlen hg)
            conv => whnf
            subst hK
            rw [hn]
            exact told_of trivial rfl rfl
          · have hgd := Classical.byContradiction (fun h => Bool.false_ne_true (hgood.symm.trans (bad_iff.mpr h)))
            rw [ei] at hgd
            conv => whnf
            have m2 := may_iff.mp hgd.1
            have m3 := may_iff.mp hgd.2.1
            have ma := may_iff.mp ha
            have mb := may_iff.mp hb
            unfold MX at m2 m3 ma mb
            have wa : IntKind.i64.wrap (a + (ix xs i).i) = a + (ix xs i).i := w64 (by omega) (by omega)
            have wb : IntKind.i64.wrap (b + (ix xs i).p) = b + (ix xs i).p := w64 (by omega) (by omega)
            have wi : IntKind.i64.wrap ((i : Int) + 1) = ((i + 1 : Nat) : Int) := by rw [w64 (by omega) (by omega)]; rfl
            refine ⟨fun h2 => ?_, fun h2 => ?_⟩
            · rw [or_iff, ei, wa, wb] at h2
              have hn : sumsOf xs = none := by rw [← hgo]; exact go_bad hlt fun hg => h2 (let ⟨_, _, _, _, _, h6, h7⟩ := good_iff.mp hg; ⟨h6, h7⟩)
              conv => whnf
              subst hK
              rw [hn]
              exact told_of trivial rfl rfl
            · have h3 := Classical.byContradiction (fun h => Bool.false_ne_true (h2.symm.trans (or_iff.mpr h)))
              rw [ei, wa, wb] at h3
              have hg := good_of hlt hlen hgd h3.1 h3.2
              conv => whnf
              refine ⟨xs.length - (i + 1), _, by omega, ?_, i + 1, a + (ix xs i).i, b + (ix xs i).p, rfl, by omega, by rw [← go_good hlt hg, hgo], h3.1, h3.2, rfl⟩
              rw [← wa, ← wb, ← wi]
              exact ⟨rfl, rfl, fun o ho => match o, ho with | 0, _ => rfl | 1, _ => rfl⟩
        · have he : xs.length - i = 0 := by have := of_decide_eq_false h1; omega
          rw [he, goS] at hgo
          conv => whnf
          subst hK
          rw [← hgo]
          exact told_of trivial rfl rfl
    · match i, hi with
      | 0, _ => exact dues_wk hob'
  · simp at h
end Go.Proofs.Ytepbibbeifbokaa.Sh
