/- The shadow machine over this program: postings along a chain of money, plain. -/
import Derived.Test.YtepbibbeifbokaaShPd
import Derived.Test.YtepbibbeifbokaaShPf
namespace Go.Proofs.Ytepbibbeifbokaa.Sh
open Go Go.RowKit
set_option linter.unusedVariables false
set_option linter.unusedSimpArgs false
set_option maxRecDepth 100000
theorem fil_filter (ps : List P) (k : Int) : ∀ n j, j + n = ps.length → fil ps k n j = (ps.drop j).filter fun p => p.a == k
  | 0, j, h => by rw [List.drop_eq_nil_of_le (by omega)]; rfl
  | n + 1, j, h => by
    have hlt : j < ps.length := by omega
    rw [List.drop_eq_getElem_cons hlt, List.filter_cons]
    have e : ixp ps j = ps[j] := by simp [ixp, List.getD_eq_getElem?_getD, List.getElem?_eq_getElem hlt]
    simp only [fil]
    rw [fil_filter ps k n (j + 1) (by omega), e]
    cases (ps[j].a == k) <;> rfl
theorem gat_flat (bs : List B) (k : Int) : ∀ n i, i + n = bs.length → gat bs k n i = (bs.drop i).flatMap fun b => b.ps.filter fun p => p.a == k
  | 0, i, h => by rw [List.drop_eq_nil_of_le (by omega)]; rfl
  | n + 1, i, h => by
    have hlt : i < bs.length := by omega
    rw [List.drop_eq_getElem_cons hlt, List.flatMap_cons]
    have e : ixb bs i = bs[i] := by simp [ixb, List.getD_eq_getElem?_getD, List.getElem?_eq_getElem hlt]
    simp only [gat]
    rw [gat_flat bs k n (i + 1) (by omega), e, fil_filter _ _ _ 0 (by omega)]
    rfl
theorem ofL_flat (bs : List B) (k : Int) : ofL bs k = bs.flatMap fun b => b.ps.filter fun p => p.a == k := by
  unfold ofL
  rw [gat_flat bs k _ 0 (by omega)]
  rfl
theorem betL_filter (a b : M) (k : Int) : ∀ n : Nat, (betL a b n).filter (fun p => p.a == k) = if 1 ≤ k ∧ k ≤ n ∧ dif a b k ≠ 0 then [⟨k, dif a b k⟩] else []
  | 0 => by rw [if_neg (by omega)]; rfl
  | n + 1 => by
    rw [betL_step]
    have ih := betL_filter a b k n
    by_cases hk : k = ((n + 1 : Nat) : Int)
    · subst hk
      rw [if_neg (by omega)] at ih
      by_cases h0 : dif a b ((n + 1 : Nat) : Int) = 0
      · rw [if_pos h0, if_neg (fun h => h.2.2 h0)]
        exact ih
      · rw [if_neg h0, List.filter_append, ih, if_pos ⟨by omega, Int.le_refl _, h0⟩]
        simp
    · have e : (1 ≤ k ∧ k ≤ ((n + 1 : Nat) : Int) ∧ dif a b k ≠ 0) ↔ (1 ≤ k ∧ k ≤ (n : Int) ∧ dif a b k ≠ 0) := by
        constructor
        · rintro ⟨h1, h2, h3⟩; exact ⟨h1, by omega, h3⟩
        · rintro ⟨h1, h2, h3⟩; exact ⟨h1, by omega, h3⟩
      by_cases h0 : dif a b ((n + 1 : Nat) : Int) = 0
      · rw [if_pos h0, ih]
        by_cases hc : (1 ≤ k ∧ k ≤ (n : Int) ∧ dif a b k ≠ 0)
        · rw [if_pos hc, if_pos (e.mpr hc)]
        · rw [if_neg hc, if_neg (fun h => hc (e.mp h))]
      · rw [if_neg h0, List.filter_append, ih]
        have : (([⟨((n + 1 : Nat) : Int), dif a b ((n + 1 : Nat) : Int)⟩] : List P).filter fun p => p.a == k) = [] := by
          simp only [List.filter_cons, List.filter_nil]
          rw [if_neg (by simpa using fun h => hk h.symm)]
        rw [this, List.append_nil]
        by_cases hc : (1 ≤ k ∧ k ≤ (n : Int) ∧ dif a b k ≠ 0)
        · rw [if_pos hc, if_pos (e.mpr hc)]
        · rw [if_neg hc, if_neg (fun h => hc (e.mp h))]
def sumR : List P → Int → Option Int
  | [], n => some n
  | p :: r, n => bif may2 p.m && may2 (n + p.m) then sumR r (n + p.m) else none
theorem sumG_R (xs : List P) : ∀ k i n, i + k = xs.length → sumG xs k i n = sumR (xs.drop i) n
  | 0, i, n, h => by rw [List.drop_eq_nil_of_le (by omega)]; rfl
  | k + 1, i, n, h => by
    have hlt : i < xs.length := by omega
    rw [List.drop_eq_getElem_cons hlt]
    have e : ixp xs i = xs[i] := by simp [ixp, List.getD_eq_getElem?_getD, List.getElem?_eq_getElem hlt]
    simp only [sumG, sumR]
    rw [e, sumG_R xs k (i + 1) _ (by omega)]
theorem sumP_R (xs : List P) : sumP xs = sumR xs 0 := by
  unfold sumP
  rw [sumG_R xs _ 0 0 (by omega)]
  rfl
theorem sumR_app (xs ys : List P) : ∀ n, sumR (xs ++ ys) n = (sumR xs n).bind fun v => sumR ys v := by
  induction xs with
  | nil => intro n; rfl
  | cons p r ih =>
    intro n
    simp only [List.cons_append, sumR]
    cases (may2 p.m && may2 (n + p.m)) with
    | false => rfl
    | true => rw [cond_true, cond_true]; exact ih _
def ixM (xs : List M) (i : Nat) : M := xs.getD i ⟨0, 0, [], 0, 0, 0, 0, 0, 0, 0⟩
/-- The batches between each and the next. -/
def chB (L : List M) : Nat → List B
  | 0 => []
  | n + 1 => chB L n ++ [⟨((n + 1 : Nat) : Int), 0, bet (ixM L n) (ixM L (n + 1))⟩]
theorem chB_len (L : List M) : ∀ n, (chB L n).length = n
  | 0 => rfl
  | n + 1 => by simp [chB, chB_len L n]
theorem chB_small (L : List M) {n : Nat} (hn : n ≤ 1000) : smallB (chB L n) := by
  refine ⟨by rw [chB_len]; exact hn, ?_⟩
  clear hn
  induction n with
  | zero => intro b hb; simp [chB] at hb
  | succ n ih =>
    intro b hb
    rcases List.mem_append.mp hb with h | h
    · exact ih b h
    · simp only [List.mem_singleton] at h
      subst h
      have := bet_length0 (ixM L n) (ixM L (n + 1))
      show (bet (ixM L n) (ixM L (n + 1))).length ≤ 1000
      omega
theorem chain_sum {L : List M} (hL : ∀ i, i < L.length → (readM (ixM L i)).2 = true) {k : Int} (hk : 1 ≤ k ∧ k ≤ 11) : ∀ n, n < L.length → sumP (ofL (chB L n) k) = some (balM (ixM L n) k - balM (ixM L 0) k)
  | 0, h => by
    have : ofL (chB L 0) k = [] := rfl
    rw [this]
    show some (0 : Int) = _
    simp
  | n + 1, h => by
    have ih := chain_sum hL hk n (by omega)
    rw [sumP_R, ofL_flat] at ih ⊢
    rw [chB, List.flatMap_append, sumR_app, ih]
    show sumR (List.flatMap (fun b : B => b.ps.filter fun p => p.a == k) [⟨((n + 1 : Nat) : Int), 0, bet (ixM L n) (ixM L (n + 1))⟩]) (balM (ixM L n) k - balM (ixM L 0) k) = _
    have hb : both (ixM L n) (ixM L (n + 1)) = true := by unfold both; rw [hL n (by omega), hL (n + 1) h]; rfl
    have e : bet (ixM L n) (ixM L (n + 1)) = betL (ixM L n) (ixM L (n + 1)) 11 := by unfold bet; rw [hb]; rfl
    simp only [List.flatMap_cons, List.flatMap_nil, List.append_nil]
    rw [e, betL_filter]
    have b0 := balM_bound (ixM L 0) k
    have b1 := balM_bound (ixM L n) k
    have b2 := balM_bound (ixM L (n + 1)) k
    by_cases h0 : dif (ixM L n) (ixM L (n + 1)) k = 0
    · rw [if_neg (fun h => h.2.2 h0)]
      unfold dif at h0
      show some _ = some _
      congr 1
      omega
    · rw [if_pos ⟨hk.1, by omega, h0⟩]
      have hd := dif_bound (ixM L n) (ixM L (n + 1)) k
      simp only [sumR]
      rw [may2_iff.mpr hd, may2_iff.mpr (by unfold dif; omega), Bool.and_true, cond_true]
      congr 1
      unfold dif
      omega
end Go.Proofs.Ytepbibbeifbokaa.Sh
