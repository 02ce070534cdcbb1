/- The shadow machine over this program: the document's answer for an account's postings. -/
import Derived.Test.YtepbibbeifbokaaShPe
namespace Go.Proofs.Ytepbibbeifbokaa.Sh
open Go Go.RowKit
set_option linter.unusedVariables false
set_option linter.unusedSimpArgs false
set_option maxRecDepth 100000
set_option maxHeartbeats 4000000
theorem refOf41 : ∀ vs ob r, bkQ (fun bs k => sumPV (sumP (ofL bs k))) vs = some (ob, r) → conj ob → SCall Try.prog 41 vs [] (Told r) := bkQ_of fun bs k hsm => by
  refine scall_of (cfg_ok envP3_ok 0) Try.func41 (by kernel_rfl) rfl ?_
  generalize hK : Told _ = K
  have hT := ofL_len (k := k) hsm
  have hbl := hsm.1
  conv => whnf
  refine ⟨[(6, 2)], [0, 1, 6, 7], 1, fun q s => ∃ (i : Nat) (L : List P), q = bs.length - i ∧ i ≤ bs.length ∧ L ++ gat bs k (bs.length - i) i = ofL bs k ∧ s = ⟨batchesAV bs :: .int .i64 k :: .top :: .top :: .top :: .top :: .sl 0 2 0 L.length none :: .int .i64 i :: List.replicate 43 .top, [.rows 2 L.length (postCells L)]⟩, Nat.zero_le _, ⟨_, _, ?_, 0, [], rfl, Nat.zero_le _, rfl, rfl⟩, ?_⟩
  · exact ⟨rfl, rfl, fun o ho => match o, ho with | 0, _ => ⟨rfl, rfl, fun j hj => absurd hj (Nat.not_lt_zero _)⟩⟩
  · rintro q s ⟨i, L, rfl, hi, hL, rfl⟩
    conv => whnf
    refine ⟨fun h3 => ?_, fun h3 => ?_⟩
    · have hlt : i < bs.length := by have := of_decide_eq_true h3; omega
      have wi : IntKind.i64.wrap ((i : Int) + 1) = ((i + 1 : Nat) : Int) := by rw [w64 (by omega) (by omega)]; rfl
      have ei : ((i : Int)).toNat = i := Int.toNat_natCast i
      have hI : 0 ≤ (i : Int) ∧ (i : Int) < bs.length := by omega
      rw [gat_next hlt] at hL
      have hpl := hsm.2 _ (ixb_mem hlt)
      obtain ⟨ps, hps⟩ : ∃ ps, (ixb bs i).ps = ps := ⟨_, rfl⟩
      rw [hps] at hL hpl
      conv => whnf
      refine ⟨[], [0, 1, 6, 7, 8], 1, fun q s => ∃ (j : Nat) (L : List P), q = ps.length - j ∧ j ≤ ps.length ∧ L ++ (fil ps k (ps.length - j) j ++ gat bs k (bs.length - (i + 1)) (i + 1)) = ofL bs k ∧ s = ⟨batchesAV bs :: .int .i64 k :: .top :: .top :: .top :: .top :: .sl 0 2 0 L.length none :: .int .i64 i :: .int .i64 j :: List.replicate 42 .top, [.rows 2 L.length (postCells L)]⟩, Nat.zero_le _, ⟨_, _, ?_, 0, L, rfl, Nat.zero_le _, hL, rfl⟩, ?_⟩
      · exact ⟨rfl, rfl, fun o ho => match o, ho with | 0, _ => ⟨rfl, rfl, fun j hj => rfl⟩⟩
      · rintro q s ⟨j, L, rfl, hj, hL, rfl⟩
        have hLl : L.length ≤ 1000000 := by
          have := congrArg List.length hL
          rw [List.length_append] at this
          omega
        conv => whnf
        refine ⟨hI, ?_⟩
        rw [ei, hps]
        conv => whnf
        refine ⟨fun h4 => ?_, fun h4 => ?_⟩
        · have hlt2 : j < ps.length := by have := of_decide_eq_true h4; omega
          have wj : IntKind.i64.wrap ((j : Int) + 1) = ((j + 1 : Nat) : Int) := by rw [w64 (by omega) (by omega)]; rfl
          have ej : ((j : Int)).toNat = j := Int.toNat_natCast j
          rw [fil_next hlt2] at hL
          have hJ : 0 ≤ (j : Int) ∧ (j : Int) < ps.length := by omega
          conv => whnf
          rw [ei, hps]
          refine ⟨⟨hI, hJ⟩, ?_⟩
          rw [ej]
          conv => whnf
          refine ⟨fun h5 => ?_, fun h5 => ?_⟩
          · rw [h5] at hL
            conv => whnf
            rw [ei, hps]
            refine ⟨⟨hI, hJ, rfl, show (L.length + 1) * 16 ≤ _ by omega, fun i hi => ⟨rfl, rfl⟩⟩, ?_⟩
            rw [ej]
            conv => whnf
            refine ⟨ps.length - (j + 1), _, by omega, ?_, j + 1, L ++ [ixp ps j], rfl, hlt2, by rw [← hL]; simp, rfl⟩
            rw [← wj, List.length_append]
            exact ⟨rfl, rfl, fun o ho => match o, ho with | 0, _ => ⟨rfl, rfl, fun i hi => post_app L (ixp ps j) hi⟩⟩
          · rw [h5] at hL
            conv => whnf
            refine ⟨ps.length - (j + 1), _, by omega, ?_, j + 1, L, rfl, hlt2, hL, rfl⟩
            rw [← wj]
            exact ⟨rfl, rfl, fun o ho => match o, ho with | 0, _ => ⟨rfl, rfl, fun j hj => rfl⟩⟩
        · have hz : ps.length - j = 0 := by have := of_decide_eq_false h4; omega
          rw [hz, fil, List.nil_append] at hL
          conv => whnf
          refine ⟨bs.length - (i + 1), _, by omega, ?_, i + 1, L, rfl, hlt, hL, rfl⟩
          rw [← wi]
          exact ⟨rfl, rfl, fun o ho => match o, ho with | 0, _ => ⟨rfl, rfl, fun j hj => rfl⟩⟩
    · have hz : bs.length - i = 0 := by have := of_decide_eq_false h3; omega
      rw [hz, gat, List.append_nil] at hL
      subst hL
      have hf := posts_frozen (L := ofL bs k) (by omega)
      conv => whnf
      refine ⟨⟨show 0 + (ofL bs k).length ≤ (ofL bs k).length by omega, hf.1⟩, ?_⟩
      conv => whnf
      subst hK
      refine told_of trivial rfl ?_
      show sumPV (sumP (postsOf (ofL bs k).length fun i => (postCells (ofL bs k) (0 + i)).map AV.rv)) = _
      rw [hf.2]
/-- Not too much, from the i-th on, n of them. -/
def fewS (bs : List B) : Nat → Nat → Bool
  | 0, _ => true
  | n + 1, i => bif decide (((ixb bs i).ps.length : Int) > 30) then false else fewS bs n (i + 1)
def fewB (bs : List B) : Bool := bif fewS bs bs.length 0 then decide ((bs.length : Int) ≤ 30) else false
theorem fewS_all (bs : List B) : ∀ n i, i + n = bs.length → fewS bs n i = true → ∀ j, i ≤ j → j < bs.length → (ixb bs j).ps.length ≤ 30
  | 0, i, hi, h, j, h1, h2 => by omega
  | n + 1, i, hi, h, j, h1, h2 => by
    simp only [fewS] at h
    cases hc : decide (((ixb bs i).ps.length : Int) > 30) with
    | true => rw [hc] at h; simp at h
    | false =>
      rw [hc, cond_false] at h
      by_cases hj : j = i
      · subst hj; have := of_decide_eq_false hc; omega
      · exact fewS_all bs n (i + 1) (by omega) h j (by omega) h2
theorem few_small {bs : List B} (h : fewB bs = true) : smallB bs ∧ bs.length ≤ 30 := by
  unfold fewB at h
  cases hc : fewS bs bs.length 0 with
  | false => rw [hc] at h; simp at h
  | true =>
    rw [hc, cond_true] at h
    have hl := of_decide_eq_true h
    refine ⟨⟨by omega, fun b hb => ?_⟩, by omega⟩
    obtain ⟨j, hj, rfl⟩ := List.getElem_of_mem hb
    have := fewS_all bs bs.length 0 (by omega) hc j (Nat.zero_le _) hj
    rw [show ixb bs j = bs[j] by simp [ixb, List.getD_eq_getElem?_getD, List.getElem?_eq_getElem hj]] at this
    omega
def fewQ : QSpec := fun vs => match vs with
  | [.ro s len cap row] => some ([Wk (.ro s len cap row) (batchesAV (batchesOf len row)) ∧ len ≤ 9223372036854775807], .bool (fewB (batchesOf len row)))
  | _ => none
theorem few36 : ∀ vs ob r, fewQ vs = some (ob, r) → conj ob → SCall Try.prog 36 vs [] (Told r) := by
  intro vs ob r h hob
  unfold fewQ at h
  split at h
  · rename_i s len cap row
    simp only [Option.some.injEq, Prod.mk.injEq] at h
    obtain ⟨rfl, rfl⟩ := h
    obtain ⟨hw, hl⟩ : Wk (.ro s len cap row) (batchesAV (batchesOf len row)) ∧ len ≤ 9223372036854775807 := hob
    refine SCall.weaken (us := [batchesAV (batchesOf len row)]) ?_ rfl fun i hi => match i, hi with | 0, _ => hw
    have hlen : (batchesOf len row).length ≤ 9223372036854775807 := by rw [batchesOf_length]; exact hl
    generalize batchesOf len row = bs at hlen
    refine scall_of (cfg_ok envP3_ok 0) Try.func36 (by kernel_rfl) rfl ?_
    generalize hK : Told _ = K
    conv => whnf
    refine ⟨[], [0, 3], 0, fun q s => ∃ i : Nat, q = bs.length - i ∧ i ≤ bs.length ∧ (bif fewS bs (bs.length - i) i then decide ((bs.length : Int) ≤ 30) else false) = fewB bs ∧ s = ⟨batchesAV bs :: .top :: .top :: .int .i64 i :: List.replicate 16 .top, []⟩, Nat.zero_le _, ⟨_, _, ?_, 0, rfl, Nat.zero_le _, rfl, rfl⟩, ?_⟩
    · exact ⟨rfl, rfl, fun o ho => absurd ho (Nat.not_lt_zero _)⟩
    · rintro q s ⟨i, rfl, hi, hf, rfl⟩
      conv => whnf
      refine ⟨fun h3 => ?_, fun h3 => ?_⟩
      · have hlt : i < bs.length := by have := of_decide_eq_true h3; omega
        have wi : IntKind.i64.wrap ((i : Int) + 1) = ((i + 1 : Nat) : Int) := by rw [w64 (by omega) (by omega)]; rfl
        have ei : ((i : Int)).toNat = i := Int.toNat_natCast i
        rw [show bs.length - i = (bs.length - (i + 1)) + 1 by omega, fewS] at hf
        conv => whnf
        refine ⟨⟨by omega, by omega⟩, ?_⟩
        rw [ei]
        conv => whnf
        refine ⟨fun h4 => ?_, fun h4 => ?_⟩
        · rw [show decide (((ixb bs i).ps.length : Int) > 30) = true from h4] at hf
          conv => whnf
          subst hK
          exact told_bool hf
        · rw [show decide (((ixb bs i).ps.length : Int) > 30) = false from h4, cond_false] at hf
          conv => whnf
          refine ⟨bs.length - (i + 1), _, by omega, ?_, i + 1, rfl, hlt, hf, rfl⟩
          rw [← wi]
          exact ⟨rfl, rfl, fun o ho => absurd ho (Nat.not_lt_zero _)⟩
      · have hz : bs.length - i = 0 := by have := of_decide_eq_false h3; omega
        rw [hz, fewS, cond_true] at hf
        conv => whnf
        subst hK
        exact told_bool hf
  · simp at h
def envP4 : Env := (40, bkQ (fun bs k => sumPV (sumP (ofL bs k)))) :: (41, bkQ (fun bs k => sumPV (sumP (ofL bs k)))) :: (36, fewQ) :: envP3
theorem envP4_ok : EnvOK Try.prog envP4 := env_cons of40 (env_cons refOf41 (env_cons few36 envP3_ok))
end Go.Proofs.Ytepbibbeifbokaa.Sh
