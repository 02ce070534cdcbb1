/- The shadow machine over this program: money that is right. -/
import Derived.Test.YtepbibbeifbokaaShA
namespace Go.Proofs.Ytepbibbeifbokaa.Sh
open Go Go.RowKit
set_option linter.unusedVariables false
set_option linter.unusedSimpArgs false
set_option maxRecDepth 100000
set_option maxHeartbeats 4000000
def moneyAV (m : M) : AV := .agg [.int .i64 m.pri, .int .i64 m.acc, duesAV m.dues, .int .i64 m.pen, .int .i64 m.fee, .int .i64 m.una, .int .i64 m.cash, .int .i64 m.ear, .int .i64 m.fin, .int .i64 m.cha]
/-- Money, and what must hold for its dues to be such. -/
def mOf : AV → Option (Prop × M)
  | .agg [.int .i64 pri, .int .i64 acc, .ro s len cap row, .int .i64 pen, .int .i64 fee, .int .i64 una, .int .i64 cash, .int .i64 ear, .int .i64 fin, .int .i64 cha] => some (isDues s len row, ⟨pri, acc, duesOf len row, pen, fee, una, cash, ear, fin, cha⟩)
  | _ => none
theorem mOf_wk {v : AV} {p : Prop} {m : M} (h : mOf v = some (p, m)) (hp : p) : Wk v (moneyAV m) ∧ m.dues.length ≤ 9223372036854775807 := by
  unfold mOf at h
  split at h
  · simp only [Option.some.injEq, Prod.mk.injEq] at h
    obtain ⟨rfl, rfl⟩ := h
    refine ⟨fun w Fz g c hv => ?_, by rw [duesOf_length]; exact hp.1⟩
    obtain ⟨vs, rfl, hl, hh⟩ := inv_agg hv
    refine .agg _ _ hl fun i hi => ?_
    have h0 := hh i hi
    match i, hi with
    | 0, _ => exact h0
    | 1, _ => exact h0
    | 2, _ => exact dues_wk hp w Fz g _ h0
    | 3, _ => exact h0
    | 4, _ => exact h0
    | 5, _ => exact h0
    | 6, _ => exact h0
    | 7, _ => exact h0
    | 8, _ => exact h0
    | 9, _ => exact h0
  · simp at h
def nums (m : M) : List Int := [m.pri, m.acc, m.pen, m.fee, m.una, m.ear, m.fin, m.cha]
def haves (m : M) (r : Int × Int) : Int := m.cash + m.pri + m.acc + r.1 + r.2 + m.pen + m.fee
def owns (m : M) : Int := m.una + m.ear + m.fin + m.cha
def fits (m : M) : Bool := (nums m).all may
def readM (m : M) : (Int × Int) × Bool :=
  bif fits m then match sumsOf m.dues with
    | none => ((0, 0), false)
    | some r => bif decide (-MX ≤ m.cash) && decide (m.cash ≤ MX) then (r, decide (haves m r = owns m)) else ((0, 0), false)
  else ((0, 0), false)
theorem chain_eq {m : M} {i : Nat} (h : i < 8) : (bif 0 + (i : Int).toNat == 0 then m.pri else bif 0 + (i : Int).toNat - 1 == 0 then m.acc else bif 0 + (i : Int).toNat - 1 - 1 == 0 then m.pen else bif 0 + (i : Int).toNat - 1 - 1 - 1 == 0 then m.fee else bif 0 + (i : Int).toNat - 1 - 1 - 1 - 1 == 0 then m.una else bif 0 + (i : Int).toNat - 1 - 1 - 1 - 1 - 1 == 0 then m.ear else bif 0 + (i : Int).toNat - 1 - 1 - 1 - 1 - 1 - 1 == 0 then m.fin else m.cha) = (nums m).getD i 0 :=
  match i, h with
  | 0, _ => rfl
  | 1, _ => rfl
  | 2, _ => rfl
  | 3, _ => rfl
  | 4, _ => rfl
  | 5, _ => rfl
  | 6, _ => rfl
  | 7, _ => rfl
theorem fits_not {m : M} {i : Nat} (h : i < 8) (hn : ¬ may ((nums m).getD i 0) = true) : fits m = false := by
  rw [Bool.eq_false_iff]
  intro hf
  refine hn (List.all_eq_true.mp hf _ ?_)
  have : i < (nums m).length := h
  rw [List.getD_eq_getElem?_getD, List.getElem?_eq_getElem this]
  exact List.getElem_mem _
theorem fits_next {m : M} {i : Nat} (h : i < 8) (ha : ((nums m).take i).all may = true) (hn : may ((nums m).getD i 0) = true) : ((nums m).take (i + 1)).all may = true := by
  have : i < (nums m).length := h
  rw [List.getD_eq_getElem?_getD, List.getElem?_eq_getElem this] at hn
  rw [List.take_add_one, List.getElem?_eq_getElem this, List.all_append, ha]
  simpa using hn
theorem fits_all {m : M} (h : fits m = true) : (0 ≤ m.pri ∧ m.pri ≤ MX) ∧ (0 ≤ m.acc ∧ m.acc ≤ MX) ∧ (0 ≤ m.pen ∧ m.pen ≤ MX) ∧ (0 ≤ m.fee ∧ m.fee ≤ MX) ∧ (0 ≤ m.una ∧ m.una ≤ MX) ∧ (0 ≤ m.ear ∧ m.ear ≤ MX) ∧ (0 ≤ m.fin ∧ m.fin ≤ MX) ∧ (0 ≤ m.cha ∧ m.cha ≤ MX) := by
  simp only [fits, nums, List.all_cons, List.all_nil, Bool.and_true, Bool.and_eq_true, may_iff] at h
  exact h
theorem readM_some {m : M} {r : Int × Int} (hf : fits m = true) (hs : sumsOf m.dues = some r) (h1 : -MX ≤ m.cash) (h2 : m.cash ≤ MX) : readM m = (r, decide (haves m r = owns m)) := by
  unfold readM
  rw [hf, hs]
  show (bif _ then _ else _) = _
  rw [decide_eq_true h1, decide_eq_true h2]
  rfl
theorem or3_iff {b : Bool} {p q : Prop} {_ : Decidable p} {_ : Decidable q} : (bif bif !b then true else decide p then true else decide q) = true ↔ ¬ (b = true ∧ ¬ p ∧ ¬ q) := by
  cases b <;> by_cases hp : p <;> by_cases hq : q <;> simp [hp, hq]
theorem not_iff {b : Bool} : (!b) = true ↔ ¬ b = true := by cases b <;> simp
def env2 : Env := (63, ofQ) :: env1
theorem env2_ok : EnvOK Try.prog env2 := env_cons of63 env1_ok
def readQ : QSpec := fun vs => match vs with
  | [v] => match mOf v with
    | some (p, m) => some ([p], .tup [.agg [.int .i64 (readM m).1.1, .int .i64 (readM m).1.2], .bool (readM m).2])
    | none => none
  | _ => none
theorem read53 : ∀ vs ob r, readQ vs = some (ob, r) → conj ob → SCall Try.prog 53 vs [] (Told r) := by
  intro vs ob r h hob
  unfold readQ at h
  split at h
  · rename_i v
    split at h
    · rename_i p m hm
      simp only [Option.some.injEq, Prod.mk.injEq] at h
      obtain ⟨rfl, rfl⟩ := h
      obtain ⟨hw, hlen⟩ := mOf_wk hm hob
      refine SCall.weaken (us := [moneyAV m]) ?_ rfl fun i hi => ?_
      · refine scall_of (cfg_ok env2_ok 0) Try.func53 (by kernel_rfl) rfl ?_
        clear hm hw hob
        generalize hK : Told _ = K
        conv => whnf
        refine ⟨[], [1, 2, 3, 25, 26, 27], 3, fun k s => ∃ i : Nat, k = 8 - i ∧ i ≤ 8 ∧ ((nums m).take i).all may = true ∧ s = ⟨.top :: .ptr 0 1 1 0 0 :: .ptr 1 1 1 0 0 :: .bool false :: (List.replicate 21 .top ++ .sl 2 1 0 8 (some 8) :: .int .i64 8 :: .int .i64 i :: List.replicate 61 .top), [.lit 1 [.int .i64 m.pri, .int .i64 m.acc, duesAV m.dues, .int .i64 m.pen, .int .i64 m.fee, .int .i64 m.una, .int .i64 m.cash, .int .i64 m.ear, .int .i64 m.fin, .int .i64 m.cha], .lit 1 [.int .i64 0, .int .i64 0], .lit 1 [.int .i64 m.pri, .int .i64 m.acc, .int .i64 m.pen, .int .i64 m.fee, .int .i64 m.una, .int .i64 m.ear, .int .i64 m.fin, .int .i64 m.cha]]⟩, Nat.zero_le _, ⟨_, _, ?_, 0, rfl, Nat.zero_le _, rfl, rfl⟩, ?_⟩
        · exact ⟨rfl, rfl, fun o ho => match o, ho with | 0, _ => rfl | 1, _ => rfl | 2, _ => rfl⟩
        · rintro k s ⟨i, rfl, hi, hall, rfl⟩
          conv => whnf
          refine ⟨fun h1 => ?_, fun h1 => ?_⟩
          · have hlt : i < 8 := by have := of_decide_eq_true h1; omega
            conv => whnf
            refine ⟨⟨⟨by omega, by omega⟩, show 0 + (i : Int).toNat < 8 by omega⟩, ?_⟩
            conv => whnf
            refine ⟨fun h2 => ?_, fun h2 => ?_⟩
            · have h3 : (!may ((nums m).getD i 0)) = true := by rw [← chain_eq hlt]; exact h2
              have hr : readM m = ((0, 0), false) := by unfold readM; rw [fits_not hlt (not_iff.mp h3)]; rfl
              conv => whnf
              subst hK
              rw [hr]
              exact told_of trivial rfl rfl
            · have h3 : (!may ((nums m).getD i 0)) = false := by rw [← chain_eq hlt]; exact h2
              have wi : IntKind.i64.wrap ((i : Int) + 1) = ((i + 1 : Nat) : Int) := by rw [w64 (by omega) (by omega)]; rfl
              conv => whnf
              refine ⟨8 - (i + 1), _, by omega, ?_, i + 1, rfl, by omega, fits_next hlt hall (by simpa using h3), rfl⟩
              rw [← wi]
              exact ⟨rfl, rfl, fun o ho => match o, ho with | 0, _ => rfl | 1, _ => rfl | 2, _ => rfl⟩
          · have he : i = 8 := by have := of_decide_eq_false h1; omega
            subst he
            conv => whnf
            refine ⟨isDues_self hlen, ?_⟩
            conv => whnf
            have hf : fits m = true := hall
            have es := duesOf_self m.dues
            refine ⟨fun h2 => ?_, fun h2 => ?_⟩
            · rw [or3_iff, es] at h2
              have hr : readM m = ((0, 0), false) := by
                unfold readM MX
                rw [hf]
                cases hs : sumsOf m.dues with
                | none => rfl
                | some r =>
                  have : ¬ (-1000000000000000 ≤ m.cash ∧ m.cash ≤ 1000000000000000) := fun ⟨a, b⟩ => h2 ⟨by rw [hs]; rfl, by omega, by omega⟩
                  have hb : (decide (-1000000000000000 ≤ m.cash) && decide (m.cash ≤ 1000000000000000)) = false := by
                    rw [Bool.eq_false_iff]
                    intro hh
                    rw [Bool.and_eq_true, decide_eq_true_iff, decide_eq_true_iff] at hh
                    exact this hh
                  show (bif _ then _ else _) = _
                  rw [hb]
                  rfl
              conv => whnf
              subst hK
              rw [hr]
              exact told_of trivial rfl rfl
            · have h3 := Classical.byContradiction (fun h => Bool.false_ne_true (h2.symm.trans (or3_iff.mpr h)))
              rw [es] at h3
              conv => whnf
              refine ⟨[(3, 14), (5, 14), (8, 14), (11, 14)], by kernel_rfl, ?_⟩
              conv => whnf
              refine ⟨rfl, ?_⟩
              conv => whnf
              subst hK
              obtain ⟨h4, h5, h6⟩ := h3
              obtain ⟨r, hs⟩ := Option.isSome_iff_exists.mp h4
              have hb := sums_bounds hs
              rw [may_iff, may_iff] at hb
              have hall' := fits_all hf
              refine told_of trivial rfl ?_
              show AV.tup [.agg [.int .i64 ((sumsOf (duesOf m.dues.length (dueRow m.dues))).getD (0, 0)).1, .int .i64 ((sumsOf (duesOf m.dues.length (dueRow m.dues))).getD (0, 0)).2], .bool (IntKind.i64.wrap (IntKind.i64.wrap (IntKind.i64.wrap (IntKind.i64.wrap (IntKind.i64.wrap (IntKind.i64.wrap (m.cash + m.pri) + m.acc) + ((sumsOf (duesOf m.dues.length (dueRow m.dues))).getD (0, 0)).1) + ((sumsOf (duesOf m.dues.length (dueRow m.dues))).getD (0, 0)).2) + m.pen) + m.fee) == IntKind.i64.wrap (IntKind.i64.wrap (IntKind.i64.wrap (m.una + m.ear) + m.fin) + m.cha))] = _
              rw [readM_some hf hs (by unfold MX; omega) (by unfold MX; omega), es, hs]
              unfold MX at hb hall'
              simp only [Option.getD_some]
              simp (disch := omega) only [w64]
              unfold haves owns
              rfl
      · match i, hi with
        | 0, _ => exact hw
    · simp at h
  · simp at h
end Go.Proofs.Ytepbibbeifbokaa.Sh
