/- The shadow machine over this program: how much goes to each kind. -/
import Derived.Test.YtepbibbeifbokaaShWb
namespace Go.Proofs.Ytepbibbeifbokaa.Sh
open Go Go.RowKit
set_option linter.unusedVariables false
set_option linter.unusedSimpArgs false
set_option maxRecDepth 1000000
set_option maxHeartbeats 4000000
def minI (a b : Int) : Int := if b < a then b else a
/-- What a kind gets, where it's noted, and what is left. -/
def nextS (w k l : Int) (s : Nat → Int) : Nat → Int := fun c => bif (IntKind.i64.wrap (k - 1)).toNat == c then minI l w else s c
def nextL (w l : Int) : Int := IntKind.i64.wrap (l - minI l w)
theorem owed_nonneg (m : M) (k : Int) : 0 ≤ owedM m k := by
  unfold owedM
  cases hr : (readM m).2 with
  | false => exact Int.le_refl _
  | true =>
    obtain ⟨hf, r, hs, hrm, _, _, _⟩ := right_all hr
    have hall := fits_all hf
    have hb := sums_bounds hs
    rw [may_iff, may_iff] at hb
    unfold MX at hall hb
    simp only [hrm, cond_true]
    unfold owedK
    (repeat' split) <;> omega
theorem minI_bounds {l w : Int} (hl : 0 ≤ l) (hw : 0 ≤ w) : 0 ≤ minI l w ∧ minI l w ≤ l ∧ minI l w ≤ w := by
  unfold minI
  split <;> omega
theorem nextL_eq {l w : Int} (hl : 0 ≤ l ∧ l ≤ MX) (hw : 0 ≤ w) : nextL w l = l - minI l w ∧ 0 ≤ nextL w l ∧ nextL w l ≤ MX := by
  have := minI_bounds hl.1 hw
  unfold MX at *
  unfold nextL
  rw [w64 (by omega) (by omega)]
  omega
theorem kind52 {m : M} {o : O} {s : Nat → Int} {l k : Int} (hlen : m.dues.length ≤ 9223372036854775807) (hk : 1 ≤ k ∧ k ≤ 4) {K : AV → List AO → Prop}
    (hK : K (.tup []) [.lit 1 [.int .i64 m.pri, .int .i64 m.acc, duesAV m.dues, .int .i64 m.pen, .int .i64 m.fee, .int .i64 m.una, .int .i64 m.cash, .int .i64 m.ear, .int .i64 m.fin, .int .i64 m.cha], .lit 1 [.int .i64 o.a, .int .i64 o.b, .int .i64 o.c, .int .i64 o.d], .lit 1 [.int .i64 0, .int .i64 0, .int .i64 0, .int .i64 0], .lit 1 [.int .i64 m.pri, .int .i64 m.acc, duesAV m.dues, .int .i64 m.pen, .int .i64 m.fee, .int .i64 m.una, .int .i64 m.cash, .int .i64 m.ear, .int .i64 m.fin, .int .i64 m.cha, .int .i64 (nextS (owedM m k) k l s 0), .int .i64 (nextS (owedM m k) k l s 1), .int .i64 (nextS (owedM m k) k l s 2), .int .i64 (nextS (owedM m k) k l s 3), .int .i64 (nextL (owedM m k) l)]]) : SCall Try.prog 52 [.ptr 3 1 1 0 0, .int .i64 k] [.lit 1 [.int .i64 m.pri, .int .i64 m.acc, duesAV m.dues, .int .i64 m.pen, .int .i64 m.fee, .int .i64 m.una, .int .i64 m.cash, .int .i64 m.ear, .int .i64 m.fin, .int .i64 m.cha], .lit 1 [.int .i64 o.a, .int .i64 o.b, .int .i64 o.c, .int .i64 o.d], .lit 1 [.int .i64 0, .int .i64 0, .int .i64 0, .int .i64 0], .lit 1 [.int .i64 m.pri, .int .i64 m.acc, duesAV m.dues, .int .i64 m.pen, .int .i64 m.fee, .int .i64 m.una, .int .i64 m.cash, .int .i64 m.ear, .int .i64 m.fin, .int .i64 m.cha, .int .i64 (s 0), .int .i64 (s 1), .int .i64 (s 2), .int .i64 (s 3), .int .i64 l]] K := by
  refine scall_of (cfg_ok env12_ok 4) Try.func52 (by kernel_rfl) rfl ?_
  have hw : IntKind.i64.wrap (k - 1) = k - 1 := w64 (by omega) (by omega)
  conv => whnf
  refine ⟨[], by kernel_rfl, ?_⟩
  conv => whnf
  refine ⟨isDues_m hlen, ?_⟩
  rw [m_self]
  conv => whnf
  refine ⟨⟨⟨by rw [hw]; omega, by rw [hw]; omega⟩, show (IntKind.i64.wrap (k - 1)).toNat < 4 by rw [hw]; omega⟩, ?_⟩
  conv => whnf
  exact hK
def runS (w : Int → Int) : List Int → (Nat → Int) → Int → (Nat → Int) × Int
  | [], s, l => (s, l)
  | k :: r, s, l => runS w r (nextS (w k) k l s) (nextL (w k) l)
def spl (m : M) (o : O) (n : Int) : (Nat → Int) × Int := runS (owedM m) (restO o 0) (fun _ => 0) n
def splR (m : M) (o : O) (n : Int) : (Nat → Int) × Int × Int := bif mayW m o n then ((spl m o n).1, (spl m o n).2, 0) else (fun _ => 0, 0, 1)
def splitV (m : M) (o : O) (n : Int) : AV := .tup [.agg [.int .i64 ((splR m o n).1 0), .int .i64 ((splR m o n).1 1), .int .i64 ((splR m o n).1 2), .int .i64 ((splR m o n).1 3)], .int .i64 (splR m o n).2.1, .int .i64 (splR m o n).2.2]
def envW1 : Env := (51, mowQ (fun m o n => .bool (mayW m o n))) :: (18, ordQ (fun o => .bool (okO o))) :: envW0
theorem envW1_ok : EnvOK Try.prog envW1 := env_cons may51 (env_cons order18 envW0_ok)
theorem split20 : ∀ vs ob r, mowQ splitV vs = some (ob, r) → conj ob → SCall Try.prog 20 vs [] (Told r) := mowQ_of fun m o n hlen => by
  refine scall_of (cfg_ok envW1_ok 0) Try.func20 (by kernel_rfl) rfl ?_
  generalize hK : Told _ = K
  conv => whnf
  refine ⟨isDues_m hlen, ?_⟩
  rw [m_self]
  conv => whnf
  refine ⟨fun h1 => ?_, fun h1 => ?_⟩
  · have h2 : mayW m o n = false := by
      have : (!mayW m o n) = true := h1
      simpa using this
    conv => whnf
    subst hK
    refine told_of trivial rfl ?_
    unfold splitV splR
    rw [h2]
    rfl
  · have h2 : mayW m o n = true := by
      have : (!mayW m o n) = false := h1
      simpa using this
    have hv : validO o = true ∧ may n = true := by
      unfold mayW at h2
      rw [Bool.and_eq_true, Bool.and_eq_true] at h2
      exact ⟨h2.1, h2.2.1⟩
    have hkr := valid_rng hv.1
    have hn := may_iff.mp hv.2
    conv => whnf
    refine ⟨[], [6, 9, 10, 25, 26], 4, fun q st => ∃ (i : Nat) (s : Nat → Int) (l : Int), q = 4 - i ∧ i ≤ 4 ∧ runS (owedM m) (restO o i) s l = spl m o n ∧ (0 ≤ l ∧ l ≤ MX) ∧ st = ⟨.top :: .top :: .top :: .top :: .top :: .top :: .ptr 2 1 1 0 0 :: .top :: .top :: .ptr 3 1 1 0 0 :: .fn 52 [.ptr 3 1 1 0 0] [] :: (List.replicate 14 .top ++ .agg [.int .i64 o.a, .int .i64 o.b, .int .i64 o.c, .int .i64 o.d] :: .int .i64 i :: List.replicate 14 .top), [.lit 1 [.int .i64 m.pri, .int .i64 m.acc, duesAV m.dues, .int .i64 m.pen, .int .i64 m.fee, .int .i64 m.una, .int .i64 m.cash, .int .i64 m.ear, .int .i64 m.fin, .int .i64 m.cha], .lit 1 [.int .i64 o.a, .int .i64 o.b, .int .i64 o.c, .int .i64 o.d], .lit 1 [.int .i64 0, .int .i64 0, .int .i64 0, .int .i64 0], .lit 1 [.int .i64 m.pri, .int .i64 m.acc, duesAV m.dues, .int .i64 m.pen, .int .i64 m.fee, .int .i64 m.una, .int .i64 m.cash, .int .i64 m.ear, .int .i64 m.fin, .int .i64 m.cha, .int .i64 (s 0), .int .i64 (s 1), .int .i64 (s 2), .int .i64 (s 3), .int .i64 l]]⟩, Nat.zero_le _, ⟨_, _, ?_, 0, fun _ => 0, n, rfl, Nat.zero_le _, rfl, hn, rfl⟩, ?_⟩
    · exact ⟨rfl, rfl, fun o ho => match o, ho with | 0, _ => rfl | 1, _ => rfl | 2, _ => rfl | 3, _ => rfl⟩
    · rintro q st ⟨i, s, l, rfl, hi, hs, hl, rfl⟩
      conv => whnf
      refine ⟨fun h3 => ?_, fun h3 => ?_⟩
      · have hlt : i < 4 := by have := of_decide_eq_true h3; omega
        rw [rest_next o hlt, runS] at hs
        have wi : IntKind.i64.wrap ((i : Int) + 1) = ((i + 1 : Nat) : Int) := by rw [w64 (by omega) (by omega)]; rfl
        have ei : ((i : Int)).toNat = i := Int.toNat_natCast i
        conv => whnf
        refine ⟨⟨by omega, by omega⟩, ?_⟩
        rw [ei]
        have hki := hkr i hlt
        generalize hk : o.at i = k at hs hki
        replace hk : (bif i == 0 then o.a else bif i - 1 == 0 then o.b else bif i - 1 - 1 == 0 then o.c else o.d) = k := hk
        rw [hk]
        conv => whnf
        refine kind52 hlen hki ?_
        conv => whnf
        refine ⟨4 - (i + 1), _, by omega, ?_, i + 1, nextS (owedM m k) k l s, nextL (owedM m k) l, rfl, by omega, hs, (nextL_eq hl (owed_nonneg m k)).2, rfl⟩
        rw [← wi]
        exact ⟨rfl, rfl, fun o ho => match o, ho with | 0, _ => rfl | 1, _ => rfl | 2, _ => rfl | 3, _ => rfl⟩
      · have he : i = 4 := by have := of_decide_eq_false h3; omega
        subst he
        conv => whnf
        refine ⟨[(7, 8)], by kernel_rfl, ?_⟩
        conv => whnf
        refine ⟨rfl, ?_⟩
        conv => whnf
        subst hK
        refine told_of trivial rfl ?_
        unfold splitV splR
        rw [h2, cond_true, ← hs]
        rfl
def envW2 : Env := (20, mowQ splitV) :: envW1
theorem envW2_ok : EnvOK Try.prog envW2 := env_cons split20 envW1_ok
theorem awake19 : ∀ vs ob r, trueQ vs = some (ob, r) → conj ob → SCall Try.prog 19 vs [] (Told r) := by
  intro vs ob r h hob
  unfold trueQ at h
  split at h
  · simp only [Option.some.injEq, Prod.mk.injEq] at h
    obtain ⟨rfl, rfl⟩ := h
    refine scall_of (cfg_ok envW2_ok 0) Try.func19 (by kernel_rfl) rfl ?_
    generalize hK : Told _ = K
    conv => whnf
    have h0 : isDues 0 0 (fun _ => []) := ⟨Nat.zero_le _, .inl rfl⟩
    refine ⟨h0, ?_⟩
    conv => whnf
    subst hK
    exact told_bool (by kernel_rfl)
  · simp at h
def envW3 : Env := (19, trueQ) :: envW2
theorem envW3_ok : EnvOK Try.prog envW3 := env_cons awake19 envW2_ok
end Go.Proofs.Ytepbibbeifbokaa.Sh
