/- The shadow machine: operations one after the other. -/
import Derived.Test.YtepbibbeifbokaaSh14
namespace Go.Proofs.Ytepbibbeifbokaa.Sh
open Go Go.RowKit
set_option linter.unusedVariables false
set_option linter.unusedSimpArgs false
section
variable {P : Program} {B0 : Nat} {w0 w w' : World} {Fz F2 : Nat → Prop} {g g' : Gh} {h : List AO} {a : Act}

theorem getD_set (xs : Array Value) (t : Nat) (v : Value) (i : Nat) : (xs.setIfInBounds t v).getD i undef = if t = i ∧ i < xs.size then v else xs.getD i undef := by
  simp only [Array.getD_eq_getD_getElem?, Array.getElem?_setIfInBounds]
  by_cases e : t = i
  · subst e
    by_cases hl : t < xs.size
    · simp [hl]
    · simp [hl]
  · simp [e]
theorem unwhen_of {t : Nat} {v : AV} (hv : ∀ d b x, v ≠ .when d b x) : unwhen t v = v := by
  cases v <;> first | rfl | exact absurd rfl (hv _ _ _)
theorem vr_not_when {v : AV} {c : Value} (hv : VR w Fz g v c) : ∀ d b x, v ≠ .when d b x := fun d b x e => by subst e; cases hv
/-- Writing a slot. -/
theorem FR.put {ts : List AV} {h' : List AO} (F : FR w Fz g ts a) (d : Option Nat) (v : AV) (c : Value) (hv : ∀ t, d = some t → SR w Fz g (a.put d c) (unwhen t v) c) : FR w Fz g (AState.put ⟨ts, h'⟩ d v).tmps (a.put d c) := by
  cases d with
  | none => exact F
  | some t =>
    refine ⟨F.defers, by simp [AState.put, Act.put, setNth_length, F.size], fun i hi => ?_⟩
    have hi' : i < ts.length := by simpa [AState.put, setNth_length] using hi
    simp only [AState.put, nth_setNth, List.length_map]
    simp only [Act.put, getD_set]
    by_cases e : t = i
    · subst e
      rw [if_pos ⟨rfl, hi'⟩, if_pos ⟨rfl, by rw [← F.size]; exact hi'⟩]
      exact hv t rfl
    · rw [if_neg (by omega), if_neg (by omega), map_top rfl]
      have hs := F.slots i hi'
      generalize nth .top ts i = q at hs
      by_cases hw : ∃ d' b x, q = .when d' b x
      · obtain ⟨d', b, x, rfl⟩ := hw
        simp only [unwhen]
        cases ed : (d' == t) with
        | true => exact .top _
        | false =>
          have hne : d' ≠ t := by simpa using ed
          simp only [cond_false]
          refine hs.imp (fun ⟨h1, h2⟩ => ⟨?_, h2⟩) (fun ⟨h1, h2⟩ => ⟨h1, ?_⟩)
          · simp only [getD_set]; rw [if_neg (by omega)]; exact h1
          · simp only [getD_set]; rw [if_neg (by omega)]; exact h2
      · have hnw : ∀ d b x, q ≠ .when d b x := fun d b x e => hw ⟨d, b, x, e⟩
        rw [unwhen_of hnw]
        exact SR.of (hs.vr hnw)
theorem FR.put_vr {ts : List AV} {h' : List AO} (F : FR w Fz g ts a) (d : Option Nat) {v : AV} {c : Value} (hv : VR w Fz g v c) : FR w Fz g (AState.put ⟨ts, h'⟩ d v).tmps (a.put d c) :=
  F.put d v c fun t _ => by rw [unwhen_of (vr_not_when hv)]; exact SR.of hv
theorem unguard_vr {v : AV} {c : Value} (h : SR w Fz g a v c) : SR w Fz g a v.unguard c := by
  cases v <;> first | exact h | exact .top _
theorem FR.unguard {ts : List AV} (F : FR w Fz g ts a) : FR w Fz g (ts.map AV.unguard) a :=
  ⟨F.defers, by simpa using F.size, fun i hi => by rw [map_top rfl]; exact unguard_vr (F.slots i (by simpa using hi))⟩
/-- A chain of guards holds when the last one does. -/
theorem chain_ok {s : AState} (F : FR w Fz g s.tmps a) : ∀ (n d : Nat) (b : Bool), a.tmps.getD d undef = .bool b → Chained (chain s n d b) a
  | 0, d, b, h => (Chained.nil a).cons h
  | n + 1, d, b, h => by
    simp only [chain]
    refine Chained.cons ?_ h
    have hs := F.get d
    unfold getTmp
    cases hq : nth .top s.tmps d with
    | when d' b' v =>
      rw [hq] at hs
      rcases hs with ⟨h1, _⟩ | ⟨h1, _⟩
      · exact chain_ok F n d' b' h1
      · rw [h] at h1; cases h1
    | _ => exact Chained.nil a
/-- What a chain's condition stands for. -/
theorem chainCond_eq {s : AState} (F : FR w Fz g s.tmps a) : ∀ (ch : List (Nat × Bool)) (p : Prop) (R : Prop → Prop), (∀ d b, (d, b) ∈ ch → a.tmps.getD d undef = .bool b) → chainCond s ch p R → ∃ q, R q ∧ (q → p)
  | [], p, R, hch, h => ⟨p, h, id⟩
  | (d, b) :: r, p, R, hch, h => by
    have hd := hch d b (by simp)
    have hs := F.get d
    unfold chainCond getTmp at h
    have key : ∀ x : Bool, (SR w Fz g a (.bool x) (a.tmps.getD d undef) ∨ ∃ d' b', SR w Fz g a (.when d' b' (.bool x)) (a.tmps.getD d undef)) → x = b := fun x hx => by
      rcases hx with hx | ⟨d', b', hx⟩
      · have := inv_bool (c := a.tmps.getD d undef) hx; rw [hd] at this; cases this; rfl
      · rcases hx with ⟨_, hx⟩ | ⟨hx, _⟩
        · have := inv_bool hx; rw [hd] at this; cases this; rfl
        · rw [hd] at hx; cases hx
    have go : ∀ p', chainCond s r p' R → (p' → p) → ∃ q, R q ∧ (q → p) := fun p' h' hp => by
      obtain ⟨q, h1, h2⟩ := chainCond_eq F r p' R (fun d b hm => hch d b (by simp [hm])) h'
      exact ⟨q, h1, fun hq => hp (h2 hq)⟩
    split at h
    · rename_i x hx
      rw [hx] at hs
      have e := key x (.inl hs)
      subst e
      cases x with
      | true => exact go _ h (fun hh => hh rfl)
      | false => exact go _ h (fun hh => hh rfl)
    · rename_i d' b' x hx
      rw [hx] at hs
      have e := key x (.inr ⟨_, _, hs⟩)
      subst e
      cases x with
      | true => exact go _ h (fun hh => hh rfl)
      | false => exact go _ h (fun hh => hh rfl)
    · exact go _ h id
theorem inChain_mem : ∀ {ch : List (Nat × Bool)} {d : Nat} {b : Bool}, (d, b) ∈ ch → inChain ch d b = true
  | [], d, b, h => by simp at h
  | (d', b') :: r, d, b, h => by
    simp only [inChain, Bool.or_eq_true, Bool.and_eq_true, beq_iff_eq]
    rcases List.mem_cons.mp h with e | e
    · cases e; exact .inl ⟨rfl, rfl⟩
    · exact .inr (inChain_mem e)
theorem runOps_obs {c : Cfg} {all : List Oper} : ∀ (os : List Oper) (obs : List Prop) (ts : List AV) (h : List AO) (K : AState → Prop), runOps c all os obs ts h K → conj obs
  | [], obs, ts, h, K, hr => by
    simp only [runOps] at hr
    exact (need_iff.mp hr).1
  | o :: os, obs, ts, h, K, hr => by
    simp only [runOps, fL_eq f3_eq, fL_eq f2_eq, f3_eq, fH_eq] at hr
    split at hr
    · split at hr
      · exact (need_iff.mp hr).1
      split at hr
      · exact (need_iff.mp hr).1
      · split at hr
        · exact (conj_append.mp (need_iff.mp hr).1).1
        · split at hr
          · split at hr
            · exact runOps_obs os _ _ _ K hr
            · exact runOps_obs os _ _ _ K hr
          · split at hr
            · exact (conj_append.mp (runOps_obs os _ _ _ K hr)).1
            · exact (conj_append.mp (runOps_obs os _ _ _ K hr)).1
        · exact hr.elim
    · split at hr
      · split at hr
        · exact runOps_obs os _ _ _ K hr
        · generalize hch : chain ⟨ts, h⟩ 8 _ _ = chn at hr
          have : ∀ (ch : List (Nat × Bool)) (p : Prop) (R : Prop → Prop), (∀ q, R q → conj obs) → chainCond ⟨ts, h⟩ ch p R → conj obs := fun ch => by
            induction ch with
            | nil => intro p R hR h; exact hR _ h
            | cons x r ih =>
              intro p R hR h
              obtain ⟨d, b⟩ := x
              unfold chainCond at h
              split at h
              · split at h <;> exact ih _ R hR h
              · split at h <;> exact ih _ R hR h
              · exact ih _ R hR h
          exact this _ _ _ (fun q hq => (conj_append.mp (runOps_obs os _ _ _ K hq)).1) hr
      · exact hr.elim
    · exact hr.elim
end
end Go.Proofs.Ytepbibbeifbokaa.Sh
