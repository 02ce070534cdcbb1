/- Of two texts, a line each, the signs are both's. No condition beyond the statement's own. -/
import Derived.Test.YtgcodjjkpbnadaaLex
import Derived.Test.YtgcodjjkpbnadaaPx28
import Derived.Lib.Bytes
namespace Go.Proofs.Ytgcodjjkpbnadaa.Pure
open Go.RowKit Go.Proofs.Ytgcodjjkpbnadaa.P Go.Proofs.YtgcodjjkpbnadaaW.PrintWords Go.Proofs.YtgcodjjkpbnadaaW.PrintLast
set_option linter.unusedVariables false

def lsj (s : ByteArray) : List UInt8 := s.data.toList
theorem lsj_len (s : ByteArray) : (lsj s).length = s.size := by
  unfold lsj
  rw [Array.length_toList]
  rfl
theorem bt_lsj (s : ByteArray) (i : Nat) : bt s (i : Int) = (((lsj s)[i]?.getD 0).toNat : Int) := by
  unfold bt
  have e : (i : Int).toNat = i := by omega
  by_cases h : i < s.size
  · rw [dif_pos (by rw [e]; exact h)]
    have h2 : (lsj s)[i]? = some (s[i]) := by
      unfold lsj
      rw [Array.getElem?_toList]
      exact Array.getElem?_eq_getElem h
    rw [h2]
    simp [e]
  · rw [dif_neg (by rw [e]; exact h)]
    have h2 : (lsj s)[i]? = none := by
      rw [List.getElem?_eq_none_iff, lsj_len]
      omega
    rw [h2]
    rfl
theorem lsj_append (a b : ByteArray) : lsj (a ++ b) = lsj a ++ lsj b := by
  unfold lsj
  rw [ByteArray.data_append, Array.toList_append]
theorem lsj_extract (s : ByteArray) (p y : Nat) : lsj (s.extract p y) = ((lsj s).drop p).take (y - p) := by
  unfold lsj
  rw [ByteArray.data_extract, Array.toList_extract]
theorem lsj_inj {a b : ByteArray} (h : lsj a = lsj b) : a = b := by
  apply ByteArray.ext
  exact Array.toList_inj.mp h
/-- u is s, a line's end, t. -/
structure Joined (s t u : ByteArray) : Prop where
  size : u.size = s.size + 1 + t.size
  low : ∀ i : Nat, i < s.size → bt u (i : Int) = bt s (i : Int)
  mid : bt u (s.size : Int) = 10
  high : ∀ i : Nat, bt u ((s.size + 1 + i : Nat) : Int) = bt t (i : Int)
  cutLow : ∀ p y : Nat, y ≤ s.size → u.extract p y = s.extract p y
  cutHigh : ∀ p y : Nat, u.extract (s.size + 1 + p) (s.size + 1 + y) = t.extract p y
theorem joined_of (s t : ByteArray) : Joined s t ((s ++ (⟨#[10]⟩ : ByteArray)) ++ t) := by
  have hl : lsj ((s ++ (⟨#[10]⟩ : ByteArray)) ++ t) = lsj s ++ (10 :: lsj t) := by
    rw [lsj_append, lsj_append, List.append_assoc]
    rfl
  have hn := lsj_len s
  refine ⟨?_, ?_, ?_, ?_, ?_, ?_⟩
  · rw [ByteArray.size_append, ByteArray.size_append]
    rfl
  · intro i hi
    rw [bt_lsj, bt_lsj, hl, List.getElem?_append_left (by omega)]
  · rw [bt_lsj, hl, List.getElem?_append_right (by omega), hn]
    simp
  · intro i
    rw [bt_lsj, bt_lsj, hl, List.getElem?_append_right (by omega), hn, show s.size + 1 + i - s.size = i + 1 from by omega, List.getElem?_cons_succ]
  · intro p y hy
    apply lsj_inj
    rw [lsj_extract, lsj_extract, hl]
    by_cases hp : p ≤ y
    · rw [List.drop_append, List.take_append_of_le_length (by rw [List.length_drop]; omega)]
    · rw [show y - p = 0 from by omega, List.take_zero, List.take_zero]
  · intro p y
    apply lsj_inj
    rw [lsj_extract, lsj_extract, hl, List.drop_append, List.drop_eq_nil_of_le (by omega), hn, show s.size + 1 + p - s.size = p + 1 from by omega, List.drop_succ_cons, List.nil_append, show s.size + 1 + y - (s.size + 1 + p) = y - p from by omega]
theorem go_line (kd : Int) : goB kd 10 = false := by
  unfold goB
  split
  · decide
  split
  · decide
  · rfl
section
variable {s t u : ByteArray} (J : Joined s t u)
include J
theorem skip_high (d : Nat) : ∀ (b : Bool) (j : Nat), t.size - j = d → skip u b (s.size + 1 + j) = s.size + 1 + skip t b j := by
  induction d with
  | zero =>
    intro b j h
    conv => lhs; unfold skip
    conv => rhs; unfold skip
    rw [dif_neg (by rw [J.size]; omega), dif_neg (by omega)]
  | succ d ih =>
    intro b j h
    have h1 := ih false (j + 1) (by omega)
    have h2 := ih true (j + 1) (by omega)
    have h3 := ih b (j + 1) (by omega)
    conv => lhs; unfold skip
    conv => rhs; unfold skip
    rw [dif_pos (by rw [J.size]; omega), dif_pos (by omega), J.high j]
    rw [show s.size + 1 + (j + 1) = s.size + 1 + j + 1 from by omega] at h1 h2 h3
    repeat' split
    all_goals first | assumption | rfl
theorem skip_low (d : Nat) : ∀ (b : Bool) (i : Nat), s.size - i = d → i ≤ s.size → skip u b i = if skip s b i < s.size then skip s b i else s.size + 1 + skip t false 0 := by
  have hh := skip_high J t.size false 0 (by omega)
  rw [Nat.add_zero] at hh
  induction d with
  | zero =>
    intro b i h1 h2
    obtain rfl : i = s.size := by omega
    have e : skip s b s.size = s.size := by
      unfold skip
      rw [dif_neg (by omega)]
    rw [e, if_neg (by omega)]
    conv => lhs; unfold skip
    rw [dif_pos (by rw [J.size]; omega), if_pos J.mid, hh]
  | succ d ih =>
    intro b i h1 h2
    have hi : i < s.size := by omega
    have g1 := ih false (i + 1) (by omega) (by omega)
    have g2 := ih true (i + 1) (by omega) (by omega)
    have g3 := ih b (i + 1) (by omega) (by omega)
    have es : skip s b i = (if bt s i = 10 then skip s false (i + 1) else if bt s i = 35 then skip s true (i + 1) else if b = true then skip s b (i + 1) else if bt s i = 32 then skip s b (i + 1) else if bt s i = 9 then skip s b (i + 1) else i) := by
      conv => lhs; unfold skip
      rw [dif_pos hi]
    have eu : skip u b i = (if bt s i = 10 then skip u false (i + 1) else if bt s i = 35 then skip u true (i + 1) else if b = true then skip u b (i + 1) else if bt s i = 32 then skip u b (i + 1) else if bt s i = 9 then skip u b (i + 1) else i) := by
      conv => lhs; unfold skip
      rw [dif_pos (by rw [J.size]; omega), J.low i hi]
    rw [es, eu]
    by_cases c1 : bt s i = 10
    · rw [if_pos c1, if_pos c1]; exact g1
    rw [if_neg c1, if_neg c1]
    by_cases c2 : bt s i = 35
    · rw [if_pos c2, if_pos c2]; exact g2
    rw [if_neg c2, if_neg c2]
    by_cases c3 : b = true
    · rw [if_pos c3, if_pos c3]; exact g3
    rw [if_neg c3, if_neg c3]
    by_cases c4 : bt s i = 32
    · rw [if_pos c4, if_pos c4]; exact g3
    rw [if_neg c4, if_neg c4]
    by_cases c5 : bt s i = 9
    · rw [if_pos c5, if_pos c5]; exact g3
    rw [if_neg c5, if_neg c5, if_pos hi]
theorem span_high (kd : Int) (d : Nat) : ∀ (j : Nat), t.size - j = d → span u (goB kd) (s.size + 1 + j) = s.size + 1 + span t (goB kd) j := by
  induction d with
  | zero =>
    intro j h
    conv => lhs; unfold span
    conv => rhs; unfold span
    rw [dif_neg (by rw [J.size]; omega), dif_neg (by omega)]
  | succ d ih =>
    intro j h
    have h1 := ih (j + 1) (by omega)
    conv => lhs; unfold span
    conv => rhs; unfold span
    rw [dif_pos (by rw [J.size]; omega), dif_pos (by omega), J.high j]
    by_cases c : goB kd (bt t j) = true
    · rw [if_pos c, if_pos c]; exact h1
    · rw [if_neg c, if_neg c]
theorem span_low (kd : Int) (d : Nat) : ∀ (i : Nat), s.size - i = d → i ≤ s.size → span u (goB kd) i = span s (goB kd) i := by
  induction d with
  | zero =>
    intro i h1 h2
    obtain rfl : i = s.size := by omega
    conv => lhs; unfold span
    conv => rhs; unfold span
    rw [dif_pos (by rw [J.size]; omega), dif_neg (by omega), J.mid, if_neg (by rw [go_line]; decide)]
  | succ d ih =>
    intro i h1 h2
    have h3 := ih (i + 1) (by omega) (by omega)
    conv => lhs; unfold span
    conv => rhs; unfold span
    rw [dif_pos (by rw [J.size]; omega), dif_pos (by omega), J.low i (by omega)]
    by_cases c : goB kd (bt s i) = true
    · rw [if_pos c, if_pos c]; exact h3
    · rw [if_neg c, if_neg c]
theorem kind_low (p : Nat) (hp : p < s.size) : kindAt u p = kindAt s p := by
  unfold kindAt
  rw [J.low p hp]
  have e : (bt s p = 45 ∧ p + 1 < u.size ∧ digitB (bt u ((p + 1 : Nat) : Int)) = true) ↔ (bt s p = 45 ∧ p + 1 < s.size ∧ digitB (bt s ((p + 1 : Nat) : Int)) = true) := by
    by_cases c : p + 1 < s.size
    · rw [J.low (p + 1) c]
      constructor
      · exact fun h => ⟨h.1, c, h.2.2⟩
      · exact fun h => ⟨h.1, by rw [J.size]; omega, h.2.2⟩
    · constructor
      · intro h
        have e2 : p + 1 = s.size := by omega
        have h3 := h.2.2
        rw [e2, J.mid] at h3
        exact absurd h3 (by decide)
      · exact fun h => absurd h.2.1 c
  simp only [e]
theorem kind_high (p : Nat) : kindAt u (s.size + 1 + p) = kindAt t p := by
  unfold kindAt
  rw [J.high p]
  have e : (bt t p = 45 ∧ s.size + 1 + p + 1 < u.size ∧ digitB (bt u ((s.size + 1 + p + 1 : Nat) : Int)) = true) ↔ (bt t p = 45 ∧ p + 1 < t.size ∧ digitB (bt t ((p + 1 : Nat) : Int)) = true) := by
    have h := J.high (p + 1)
    rw [show s.size + 1 + (p + 1) = s.size + 1 + p + 1 from by omega] at h
    rw [h, J.size]
    constructor
    · exact fun h => ⟨h.1, by omega, h.2.2⟩
    · exact fun h => ⟨h.1, by omega, h.2.2⟩
  simp only [e]
end
theorem tj_cons (s : ByteArray) (p : Nat) (c : p < s.size) (n : ¬ kindAt s p = -1) : toksP s p = ((⟨kindAt s p, (p : Int), s.extract p (span s (goB (kindAt s p)) (p + 1))⟩ : S29) :: (toksP s (skip s false (span s (goB (kindAt s p)) (p + 1)))).1, (toksP s (skip s false (span s (goB (kindAt s p)) (p + 1)))).2) := by
  conv => lhs; unfold toksP
  rw [dif_pos c, if_neg n]
theorem tj_bad (s : ByteArray) (p : Nat) (c : p < s.size) (n : kindAt s p = -1) : toksP s p = ([], some p) := by
  conv => lhs; unfold toksP
  rw [dif_pos c, if_pos n]
theorem tj_end (s : ByteArray) (p : Nat) (c : ¬ p < s.size) : toksP s p = ([⟨0, (s.size : Int), ⟨#[]⟩⟩], none) := by
  conv => lhs; unfold toksP
  rw [dif_neg c]
def shift (n : Nat) (t : S29) : S29 := ⟨t.f0, ((t.f1 + (n : Int)) + 1), t.f2⟩
theorem toks_high {s t u : ByteArray} (J : Joined s t u) (d : Nat) : ∀ j, t.size - j < d → j ≤ t.size → toksP u (s.size + 1 + j) = ((toksP t j).1.map (shift s.size), (toksP t j).2.map (fun q => s.size + 1 + q)) := by
  induction d with
  | zero => intro j h; omega
  | succ d ih =>
    intro j h1 h2
    by_cases c : j < t.size
    · have cu : s.size + 1 + j < u.size := by rw [J.size]; omega
      by_cases n : kindAt t j = -1
      · rw [tj_bad t j c n, tj_bad u _ cu (by rw [kind_high J]; exact n)]
        rfl
      · rw [tj_cons t j c n, tj_cons u _ cu (by rw [kind_high J]; exact n), kind_high J]
        have g1 := span_ge' t (goB (kindAt t j)) (j + 1)
        have g2 := skip_ge' t false (span t (goB (kindAt t j)) (j + 1))
        have g3 := span_le' t (goB (kindAt t j)) (j + 1) (by omega)
        have g4 := skip_le' t false (span t (goB (kindAt t j)) (j + 1)) g3
        have e1 := span_high J (kindAt t j) _ (j + 1) rfl
        rw [show s.size + 1 + (j + 1) = s.size + 1 + j + 1 from by omega] at e1
        rw [e1, skip_high J _ _ _ rfl, ih _ (by omega) g4, J.cutHigh]
        simp only [List.map_cons, shift]
        rw [show ((s.size + 1 + j : Nat) : Int) = (j : Int) + (s.size : Int) + 1 from by omega]
    · rw [tj_end t j c, tj_end u _ (by rw [J.size]; omega)]
      simp only [List.map_cons, List.map_nil, shift, Option.map_none]
      rw [J.size, show ((s.size + 1 + t.size : Nat) : Int) = (t.size : Int) + (s.size : Int) + 1 from by omega]
theorem toks_ne_j (s : ByteArray) (p : Nat) (h : (toksP s p).2 = none) : (toksP s p).1 ≠ [] := by
  intro e
  by_cases c : p < s.size
  · by_cases n : kindAt s p = -1
    · rw [tj_bad s p c n] at h
      cases h
    · rw [tj_cons s p c n] at e
      cases e
  · rw [tj_end s p c] at e
    cases e
/-- The signs of both. -/
theorem toks_both {s t u : ByteArray} (J : Joined s t u) (d : Nat) : ∀ p, s.size - p < d → p ≤ s.size →
    (∀ q, (toksP s p).2 = some q → (toksP u (if p < s.size then p else s.size + 1 + skip t false 0)).2 = some q) ∧
    ((toksP s p).2 = none → toksP u (if p < s.size then p else s.size + 1 + skip t false 0) =
      ((toksP s p).1.dropLast ++ (toksP t (skip t false 0)).1.map (shift s.size), (toksP t (skip t false 0)).2.map (fun q => s.size + 1 + q))) := by
  induction d with
  | zero => intro p h; omega
  | succ d ih =>
    intro p h1 h2
    by_cases c : p < s.size
    · rw [if_pos c]
      have cu : p < u.size := by rw [J.size]; omega
      by_cases n : kindAt s p = -1
      · rw [tj_bad s p c n, tj_bad u p cu (by rw [kind_low J p c]; exact n)]
        exact And.intro (fun q h => h) (fun h => nomatch h)
      · have g1 := span_ge' s (goB (kindAt s p)) (p + 1)
        have g3 := span_le' s (goB (kindAt s p)) (p + 1) (by omega)
        have g2 := skip_ge' s false (span s (goB (kindAt s p)) (p + 1))
        have g4 := skip_le' s false (span s (goB (kindAt s p)) (p + 1)) g3
        rw [tj_cons s p c n, tj_cons u p cu (by rw [kind_low J p c]; exact n), kind_low J p c, span_low J (kindAt s p) _ (p + 1) rfl (by omega), J.cutLow p _ g3, skip_low J _ false _ rfl g3]
        obtain ⟨i1, i2⟩ := ih (skip s false (span s (goB (kindAt s p)) (p + 1))) (by omega) g4
        refine ⟨fun q h => i1 q h, fun h => ?_⟩
        simp only at h ⊢
        rw [i2 h]
        have hne := toks_ne_j s _ h
        rw [List.dropLast_cons_of_ne_nil hne]
        rfl
    · rw [if_neg c, tj_end s p c]
      refine And.intro (fun q h => nomatch h) (fun _ => ?_)
      rw [toks_high J (t.size + 1) _ (by omega) (skip_le' t false 0 (by omega))]
      rfl
theorem w64 (x : Int) (h1 : -1000000 ≤ x) (h2 : x ≤ 1000000) : wrap64 x = x := by
  unfold wrap64
  omega
theorem tj_len (s : ByteArray) (p : Nat) : (toksP s p).1.length ≤ s.size - p + 1 := toks_len s _ p (Nat.le_refl _)
theorem j_loop (x0 : ByteArray) (hx : x0.size ≤ 1000) (a b : List S29) (ha : a ≠ []) (hla : a.length ≤ 2000) (hlb : b.length ≤ 2000) (hb : ∀ t ∈ b, 0 ≤ t.f1 ∧ t.f1 ≤ 10000) (d : Nat) :
    ∀ (i k : Nat), (a.dropLast ++ b.map (shift x0.size)).length - i = d → i ≤ (a.dropLast ++ b.map (shift x0.size)).length → d < k →
    quittancelaw07_LexerJoins.l0 k x0 a b (a.dropLast ++ b.map (shift x0.size)) (i : Int) = some true := by
  have hap : 0 < a.length := List.length_pos_iff.mpr ha
  have hlen : (a.dropLast ++ b.map (shift x0.size)).length = a.length - 1 + b.length := by simp
  have hc1 : ∀ i, i < a.length - 1 → rd_T29 (a.dropLast ++ b.map (shift x0.size)) (i : Int) = rd_T29 a (i : Int) := by
    intro i hi
    unfold rd_T29
    rw [show (i : Int).toNat = i from by omega, List.getD_eq_getElem?_getD, List.getD_eq_getElem?_getD, List.getElem?_append_left (by simp; omega), List.getElem?_dropLast, if_pos hi]
  have hc2 : ∀ i, ¬ i < a.length - 1 → i < a.length - 1 + b.length → rd_T29 (a.dropLast ++ b.map (shift x0.size)) (i : Int) = shift x0.size (rd_T29 b (((i - (a.length - 1) : Nat)) : Int)) ∧ rd_T29 b (((i - (a.length - 1) : Nat)) : Int) ∈ b := by
    intro i hi hi2
    unfold rd_T29
    have hlt : i - (a.length - 1) < b.length := by omega
    rw [show (i : Int).toNat = i from by omega, show (((i - (a.length - 1) : Nat)) : Int).toNat = i - (a.length - 1) from by omega, List.getD_eq_getElem?_getD, List.getD_eq_getElem?_getD, List.getElem?_append_right (by simp; omega), List.length_dropLast, List.getElem?_map, List.getElem?_eq_getElem hlt]
    exact ⟨rfl, List.getElem_mem hlt⟩
  generalize a.dropLast ++ b.map (shift x0.size) = c at hlen hc1 hc2
  induction d with
  | zero =>
    intro i k h1 h2 h3
    obtain ⟨k, rfl⟩ : ∃ m, k = m + 1 := ⟨k - 1, by omega⟩
    rw [quittancelaw07_LexerJoins.l0, if_neg (by omega)]
  | succ d ih =>
    intro i k h1 h2 h3
    obtain ⟨k, rfl⟩ : ∃ m, k = m + 1 := ⟨k - 1, by omega⟩
    have nx := ih (i + 1) k (by omega) (by omega) (by omega)
    have w := Aside0.mk (show wrap64 ((i : Int) + 1) = ((i + 1 : Nat) : Int) by rw [w64 _ (by omega) (by omega)]; omega)
    have wa := Aside0.mk (show wrap64 ((a.length : Int) - 1) = ((a.length - 1 : Nat) : Int) by rw [w64 _ (by omega) (by omega)]; omega)
    have q1 : (i : Int) < (c.length : Int) := by omega
    have q0 : (0 : Int) ≤ (i : Int) := by omega
    rw [quittancelaw07_LexerJoins.l0, if_pos q1, wa.out]
    by_cases m : i < a.length - 1
    · have q2 : (i : Int) < ((a.length - 1 : Nat) : Int) := by omega
      have q3 : (i : Int) < (a.length : Int) := by omega
      rw [if_pos q2, if_pos q0, if_pos q3, hc1 i m]
      simp only [beq_self_eq_true, Bool.not_true, Bool.or_self]
      rw [if_neg (by decide), w.out]
      exact nx
    · have q2 : ¬ (i : Int) < ((a.length - 1 : Nat) : Int) := by omega
      have wi := Aside0.mk (show wrap64 ((wrap64 ((i : Int) - (a.length : Int))) + 1) = ((i - (a.length - 1) : Nat) : Int) by
        rw [show wrap64 ((i : Int) - (a.length : Int)) = (i : Int) - (a.length : Int) from w64 _ (by omega) (by omega)]
        rw [w64 _ (by omega) (by omega)]
        try omega)
      obtain ⟨e, hm⟩ := hc2 i m (by omega)
      have hbd := hb _ hm
      have q4 : (0 : Int) ≤ ((i - (a.length - 1) : Nat) : Int) := by omega
      have q5 : ((i - (a.length - 1) : Nat) : Int) < (b.length : Int) := by omega
      rw [if_neg q2, wi.out, if_pos q4, if_pos q5, if_pos q0, e]
      generalize rd_T29 b ((i - (a.length - 1) : Nat) : Int) = z at hbd
      have wz : wrap64 ((wrap64 (z.f1 + (x0.size : Int))) + 1) = z.f1 + (x0.size : Int) + 1 := by
        rw [show wrap64 (z.f1 + (x0.size : Int)) = z.f1 + (x0.size : Int) from w64 _ (by omega) (by omega)]
        rw [w64 _ (by omega) (by omega)]
        try omega
      rw [wz]
      simp only [shift, beq_self_eq_true, Bool.not_true, Bool.or_self]
      rw [if_neg (by decide), w.out]
      exact nx
theorem toks_at (s : ByteArray) (d : Nat) : ∀ p, s.size - p < d → ∀ t ∈ (toksP s p).1, 0 ≤ t.f1 ∧ t.f1 ≤ (s.size : Int) := by
  induction d with
  | zero => intro p h; omega
  | succ d ih =>
    intro p h t ht
    by_cases c : p < s.size
    · by_cases n : kindAt s p = -1
      · rw [tj_bad s p c n] at ht
        cases ht
      · rw [tj_cons s p c n] at ht
        have g1 := span_ge' s (goB (kindAt s p)) (p + 1)
        have g2 := skip_ge' s false (span s (goB (kindAt s p)) (p + 1))
        rcases List.mem_cons.mp ht with e | e
        · rw [e]
          simp only
          omega
        · exact ih _ (by omega) t e
    · rw [tj_end s p c] at ht
      rw [List.mem_singleton.mp ht]
      simp only
      omega
theorem bad_le (s : ByteArray) (d : Nat) : ∀ (p q : Nat), s.size - p < d → (toksP s p).2 = some q → q < s.size := by
  induction d with
  | zero => intro p q h; omega
  | succ d ih =>
    intro p q h1 h2
    by_cases c : p < s.size
    · by_cases n : kindAt s p = -1
      · rw [tj_bad s p c n] at h2
        cases h2
        exact c
      · rw [tj_cons s p c n] at h2
        have g1 := span_ge' s (goB (kindAt s p)) (p + 1)
        have g2 := skip_ge' s false (span s (goB (kindAt s p)) (p + 1))
        exact ih _ q (by omega) h2
    · rw [tj_end s p c] at h2
      cases h2
theorem LexerJoins : quittancelaw07_LexerJoins.Pure := by
  intro s t _ _
  have aw : ∃ k, quittancelaw07_LexerJoins.j0 k s t true = some true := by
    refine ⟨60 + 1, ?_⟩
    rw [quittancelaw07_LexerJoins.j0, if_pos rfl, awake_60]
    rfl
  by_cases h : (s.size : Int) > 1000
  · obtain ⟨k, hk⟩ := aw
    refine ⟨k, ?_⟩
    unfold quittancelaw07_LexerJoins.f
    rw [if_pos h]
    exact hk
  by_cases h2 : (t.size : Int) > 1000
  · obtain ⟨k, hk⟩ := aw
    refine ⟨k, ?_⟩
    unfold quittancelaw07_LexerJoins.f
    rw [if_neg h, decide_eq_true h2]
    exact hk
  have J := joined_of s t
  have hsz1 : (s ++ (⟨#[10]⟩ : ByteArray)).size = s.size + 1 := by
    rw [ByteArray.size_append]
    rfl
  have hU := skip_low J s.size false 0 (by omega) (by omega)
  obtain ⟨b1, b2⟩ := toks_both J (s.size + 1) (skip s false 0) (by omega) (skip_le' s false 0 (by omega))
  rw [← hU] at b1 b2
  have A1 := All_eq s (by omega)
  have A2 := All_eq t (by omega)
  have A3 := All_eq ((s ++ (⟨#[10]⟩ : ByteArray)) ++ t) (by rw [J.size]; omega)
  rw [J.size] at A3
  have l1 := tj_len s (skip s false 0)
  have l2 := tj_len t (skip t false 0)
  have ne1 := toks_ne_j s (skip s false 0)
  have at2 := toks_at t (t.size + 1) (skip t false 0) (by omega)
  generalize toksP s (skip s false 0) = X at b1 b2 A1 l1 ne1
  have hbad := fun q => bad_le t (t.size + 1) (skip t false 0) q (by omega)
  generalize toksP t (skip t false 0) = Y at b1 b2 A2 l2 at2 hbad
  generalize toksP ((s ++ (⟨#[10]⟩ : ByteArray)) ++ t) (skip ((s ++ (⟨#[10]⟩ : ByteArray)) ++ t) false 0) = U at b1 b2 A3
  clear J hU aw
  obtain ⟨n, hn⟩ : ∃ n : Nat, n = 9000 := ⟨_, rfl⟩
  have loop := fun h1 h3 h4 h5 => j_loop s (by omega) X.1 Y.1 h1 h3 h4 h5 _ 0 n rfl (by omega)
  refine ⟨n + 1 + 1 + 1, ?_⟩
  unfold quittancelaw07_LexerJoins.f
  rw [if_neg h, decide_eq_false h2, quittancelaw07_LexerJoins.j0, if_neg (by decide), A1 _ (by omega), A2 _ (by omega), A3 _ (by omega), awake_eq _ (by omega), hsz1]
  have q1 : s.size + 1 ≤ 9223372036854775807 := by omega
  have q2 : s.size + 1 + t.size ≤ 9223372036854775807 := by omega
  simp only [if_pos q1, if_pos q2]
  clear A1 A2 A3 q1 q2 hsz1
  cases hX : X.2 with
  | some q =>
    have hu := b1 q hX
    have e1 : T [] X = some ([], (q : Int), 6) := by unfold T; rw [hX]
    have e3 : T [] U = some ([], (q : Int), 6) := by unfold T; rw [hu]
    obtain ⟨r2, hr2⟩ : ∃ r, T [] Y = some r := by
      unfold T
      cases Y.2 <;> exact ⟨_, rfl⟩
    rw [e1, e3, hr2]
    simp only [Option.bind_some, if_true]
    rw [quittancelaw07_LexerJoins.j1, if_pos (by decide), awake_eq _ (by omega)]
    rfl
  | none =>
    have hu := b2 hX
    have hne := ne1 hX
    have e1 : T [] X = some (X.1, 0, 0) := by unfold T; rw [hX]; rfl
    have hpos := List.length_pos_iff.mpr hne
    rw [e1]
    cases hY : Y.2 with
    | some q =>
      have e2 : T [] Y = some ([], (q : Int), 6) := by unfold T; rw [hY]
      have hu2 : U.2 = some (s.size + 1 + q) := by rw [hu, hY]; rfl
      have e3 : T [] U = some ([], ((s.size + 1 + q : Nat) : Int), 6) := by unfold T; rw [hu2]
      rw [e2, e3, Option.bind_some, Option.bind_some, Option.bind_some, Option.bind_some, if_pos rfl]
      have hq : (q : Int) ≤ 10000 := by
        have := hbad q hY
        omega
      have wq : wrap64 ((wrap64 ((q : Int) + (s.size : Int))) + 1) = ((s.size + 1 + q : Nat) : Int) := by
        rw [show wrap64 ((q : Int) + (s.size : Int)) = (q : Int) + (s.size : Int) from w64 _ (by omega) (by omega)]
        rw [w64 _ (by omega) (by omega)]
        try omega
      rw [quittancelaw07_LexerJoins.j1, if_neg (show ¬ ((0 : Int) != 0) = true by decide), if_neg (show ¬ (6 : Int) = 0 by decide), if_pos rfl, wq, if_pos rfl]
      rfl
    | none =>
      have e2 : T [] Y = some (Y.1, 0, 0) := by unfold T; rw [hY]; rfl
      have hu2 : U.2 = none := by rw [hu, hY]; rfl
      have e3 : T [] U = some (U.1, 0, 0) := by unfold T; rw [hu2]; rfl
      have hu1 : U.1 = X.1.dropLast ++ Y.1.map (shift s.size) := by rw [hu]
      rw [e2, e3, hu1, Option.bind_some, Option.bind_some, Option.bind_some, Option.bind_some, if_pos rfl]
      have hlen : (X.1.dropLast ++ Y.1.map (shift s.size)).length = X.1.length - 1 + Y.1.length := by simp
      have wl := Aside0.mk (show wrap64 ((wrap64 ((X.1.length : Int) - 1)) + (Y.1.length : Int)) = ((X.1.length - 1 + Y.1.length : Nat) : Int) by
        rw [show wrap64 ((X.1.length : Int) - 1) = (X.1.length : Int) - 1 from w64 _ (by omega) (by omega)]
        rw [w64 _ (by omega) (by omega)]
        try omega)
      have z : ¬ (X.1.length : Int) = 0 := by omega
      rw [quittancelaw07_LexerJoins.j1, if_neg (show ¬ ((0 : Int) != 0) = true by decide), if_pos rfl, if_neg z, if_pos rfl, hlen, wl.out, quittancelaw07_LexerJoins.j2, if_neg (by simp)]
      exact loop hne (by omega) (by omega) (fun t ht => ⟨(at2 t ht).1, by have := (at2 t ht).2; omega⟩) (by rw [hlen]; omega)
end Go.Proofs.Ytgcodjjkpbnadaa.Pure
