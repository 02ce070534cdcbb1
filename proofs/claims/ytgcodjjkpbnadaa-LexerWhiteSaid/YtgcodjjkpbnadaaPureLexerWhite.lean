/- More white, and remarks, between the signs of a text are the same signs, elsewhere. No condition beyond the statement's own. -/
import Derived.Test.YtgcodjjkpbnadaaLex
import Derived.Test.YtgcodjjkpbnadaaPx26
import Derived.Lib.Bytes
namespace Go.Proofs.Ytgcodjjkpbnadaa.Pure
open Go.RowKit Go.Proofs.Ytgcodjjkpbnadaa.P Go.Proofs.YtgcodjjkpbnadaaW.PrintWords Go.Proofs.YtgcodjjkpbnadaaW.PrintLast
set_option linter.unusedVariables false

def lst (s : ByteArray) : List UInt8 := s.data.toList
theorem lst_len (s : ByteArray) : (lst s).length = s.size := by
  unfold lst
  rw [Array.length_toList]
  rfl
theorem bt_lst (s : ByteArray) (i : Nat) : bt s (i : Int) = (((lst s)[i]?.getD 0).toNat : Int) := by
  unfold bt
  have e : (i : Int).toNat = i := by omega
  by_cases h : i < s.size
  · rw [dif_pos (by rw [e]; exact h)]
    have h2 : (lst s)[i]? = some (s[i]) := by
      unfold lst
      rw [Array.getElem?_toList]
      exact Array.getElem?_eq_getElem h
    rw [h2]
    simp [e]
  · rw [dif_neg (by rw [e]; exact h)]
    have h2 : (lst s)[i]? = none := by
      rw [List.getElem?_eq_none_iff, lst_len]
      omega
    rw [h2]
    rfl
theorem lst_append (a b : ByteArray) : lst (a ++ b) = lst a ++ lst b := by
  unfold lst
  rw [ByteArray.data_append, Array.toList_append]
theorem lst_extract (s : ByteArray) (p y : Nat) : lst (s.extract p y) = ((lst s).drop p).take (y - p) := by
  unfold lst
  rw [ByteArray.data_extract, Array.toList_extract]
theorem toList_lst (s : ByteArray) : s.toList = lst s := Go.Lib.toList_data s
/-- The byte that stands k behind a place. -/
theorem bt_drop (s : ByteArray) (a : Nat) (L : List UInt8) (h : (lst s).drop a = L) (k : Nat) : bt s ((a + k : Nat) : Int) = ((L[k]?.getD 0).toNat : Int) := by
  rw [bt_lst, ← h, List.getElem?_drop]
theorem size_drop (s : ByteArray) (a : Nat) (L : List UInt8) (h : (lst s).drop a = L) (ha : a ≤ s.size) : s.size = a + L.length := by
  rw [← h, List.length_drop, lst_len]
  omega
/-- A text that is a sign of a kind. -/
structure Sign (kd : Int) (w : List UInt8) : Prop where
  kinds : kd = 1 ∨ kd = 2 ∨ kd = 3
  ex : ∃ c cs, w = c :: cs ∧ (∀ b ∈ cs, goB kd (b.toNat : Int) = true) ∧
    ((letterB (c.toNat : Int) = true ∧ kd = 1) ∨ (letterB (c.toNat : Int) = false ∧ digitB (c.toNat : Int) = true ∧ kd = 2) ∨
      (letterB (c.toNat : Int) = false ∧ digitB (c.toNat : Int) = false ∧ (c.toNat : Int) = 45 ∧ kd = 2 ∧ ∃ d ds, cs = d :: ds ∧ digitB (d.toNat : Int) = true) ∨
      (letterB (c.toNat : Int) = false ∧ digitB (c.toNat : Int) = false ∧ ((c.toNat : Int) = 123 ∨ (c.toNat : Int) = 125 ∨ (c.toNat : Int) = 59) ∧ kd = 3))
theorem span_all (s : ByteArray) (g : Int → Bool) (d : Nat) : ∀ i, s.size - i = d → ∀ j, i ≤ j → j < span s g i → g (bt s (j : Int)) = true := by
  induction d with
  | zero =>
    intro i h j h1 h2
    unfold span at h2
    rw [dif_neg (by omega)] at h2
    omega
  | succ d ih =>
    intro i h j h1 h2
    unfold span at h2
    rw [dif_pos (by omega)] at h2
    by_cases c : g (bt s (i : Int)) = true
    · rw [if_pos c] at h2
      by_cases e : j = i
      · rw [e]; exact c
      · exact ih (i + 1) (by omega) j (by omega) h2
    · rw [if_neg c] at h2
      omega
theorem digit_number (c : Int) (h : digitB c = true) : inNumberB c = true := by
  unfold inNumberB
  rw [if_pos h]
theorem sign_of (s : ByteArray) (p : Nat) (hp : p < s.size) (hk : ¬ kindAt s p = -1) : Sign (kindAt s p) (lst (s.extract p (span s (goB (kindAt s p)) (p + 1)))) := by
  have h1 := span_ge' s (goB (kindAt s p)) (p + 1)
  have h2 := span_le' s (goB (kindAt s p)) (p + 1) (by omega)
  have h3 := span_all s (goB (kindAt s p)) _ (p + 1) rfl
  refine ⟨by rcases kindAt_cases s p with h | h | h | h <;> omega, ?_⟩
  have hd : (lst s).drop p = ((lst s)[p]'(by rw [lst_len]; exact hp)) :: (lst s).drop (p + 1) := List.drop_eq_getElem_cons _
  have hbp : bt s (p : Int) = (((lst s)[p]'(by rw [lst_len]; exact hp)).toNat : Int) := by
    rw [bt_lst, List.getElem?_eq_getElem (by rw [lst_len]; exact hp)]
    rfl
  generalize (lst s)[p]'(by rw [lst_len]; exact hp) = c at hd hbp
  generalize hy : span s (goB (kindAt s p)) (p + 1) = y at h1 h2 h3
  refine ⟨c, ((lst s).drop (p + 1)).take (y - (p + 1)), ?_, ?_, ?_⟩
  · rw [lst_extract, hd, show y - p = (y - (p + 1)) + 1 from by omega, List.take_succ_cons]
  · intro b hb
    obtain ⟨j, hj, rfl⟩ := List.mem_iff_getElem.mp hb
    rw [List.length_take] at hj
    have hj2 : p + 1 + j < s.size := by
      rw [List.length_drop, lst_len] at hj
      omega
    have := h3 (p + 1 + j) (by omega) (by omega)
    rw [bt_lst, List.getElem?_eq_getElem (by rw [lst_len]; exact hj2)] at this
    rw [List.getElem_take, List.getElem_drop]
    exact this
  · have hkd : kindAt s p = kindAt s p := rfl
    conv at hkd => rhs; unfold kindAt
    rw [hbp] at hkd
    by_cases c1 : letterB (c.toNat : Int) = true
    · rw [if_pos c1] at hkd
      exact .inl ⟨c1, hkd⟩
    rw [if_neg c1] at hkd
    replace c1 := Bool.eq_false_iff.mpr c1
    by_cases c2 : digitB (c.toNat : Int) = true
    · rw [if_pos c2] at hkd
      exact .inr (.inl ⟨c1, c2, hkd⟩)
    rw [if_neg c2] at hkd
    replace c2 := Bool.eq_false_iff.mpr c2
    by_cases c3 : (c.toNat : Int) = 45 ∧ p + 1 < s.size ∧ digitB (bt s ((p + 1 : Nat) : Int)) = true
    · rw [if_pos c3] at hkd
      refine .inr (.inr (.inl ⟨c1, c2, c3.1, hkd, ?_⟩))
      have hlt : p + 1 < (lst s).length := by rw [lst_len]; exact c3.2.1
      have hgo : goB (kindAt s p) (bt s ((p + 1 : Nat) : Int)) = true := by
        rw [hkd]
        exact digit_number _ c3.2.2
      have hy2 : p + 1 < y := by
        rw [← hy]
        unfold span
        rw [dif_pos c3.2.1, if_pos hgo]
        have := span_ge' s (goB (kindAt s p)) (p + 1 + 1)
        omega
      refine ⟨(lst s)[p + 1], ((lst s).drop (p + 1 + 1)).take (y - (p + 1 + 1)), ?_, ?_⟩
      · rw [List.drop_eq_getElem_cons hlt, show y - (p + 1) = (y - (p + 1 + 1)) + 1 from by omega, List.take_succ_cons]
      · have := c3.2.2
        rw [bt_lst, List.getElem?_eq_getElem hlt] at this
        exact this
    rw [if_neg c3] at hkd
    by_cases c4 : (c.toNat : Int) = 123 ∨ (c.toNat : Int) = 125 ∨ (c.toNat : Int) = 59
    · rw [if_pos c4] at hkd
      exact .inr (.inr (.inr ⟨c1, c2, c4, hkd⟩))
    rw [if_neg c4] at hkd
    exact absurd hkd hk
theorem go_white (kd : Int) (h : kd = 1 ∨ kd = 2 ∨ kd = 3) : goB kd 32 = false := by
  rcases h with rfl | rfl | rfl <;> decide
/-- Where a sign stands in a text, and white, or the end, behind it: it is read. -/
theorem sign_read (u : ByteArray) (p : Nat) (kd : Int) (w rest : List UInt8) (h : Sign kd w) (hd : (lst u).drop p = w ++ rest) (hp : p < u.size) (hr : rest = [] ∨ ∃ r, rest = 32 :: r) :
    kindAt u p = kd ∧ span u (goB kd) (p + 1) = p + w.length ∧ lst (u.extract p (p + w.length)) = w := by
  obtain ⟨hk, c, cs, rfl, hall, hc⟩ := h
  have hsz := size_drop u p _ hd (by omega)
  have hb0 : bt u (p : Int) = (c.toNat : Int) := by
    have := bt_drop u p _ hd 0
    simpa using this
  have hb1 : ∀ j, bt u ((p + 1 + j : Nat) : Int) = (((cs ++ rest)[j]?.getD 0).toNat : Int) := by
    intro j
    have := bt_drop u p _ hd (1 + j)
    rw [show p + (1 + j) = p + 1 + j from by omega] at this
    rw [this, show 1 + j = j + 1 from by omega]
    simp
  have hlen : (c :: cs ++ rest).length = 1 + cs.length + rest.length := by simp; omega
  rw [hlen] at hsz
  refine ⟨?_, ?_, ?_⟩
  · unfold kindAt
    rw [hb0]
    rcases hc with ⟨a, b⟩ | ⟨a, b, d⟩ | ⟨a, b, d, e, d1, ds, rfl, f⟩ | ⟨a, b, d, e⟩
    · rw [if_pos a, b]
    · rw [if_neg (by rw [a]; decide), if_pos b, d]
    · have hbd : bt u ((p + 1 : Nat) : Int) = (d1.toNat : Int) := by
        have := hb1 0
        simpa using this
      rw [if_neg (by rw [a]; decide), if_neg (by rw [b]; decide), if_pos ⟨d, by simp at hsz; omega, by rw [hbd]; exact f⟩, e]
    · have n : ¬ ((c.toNat : Int) = 45 ∧ p + 1 < u.size ∧ digitB (bt u ((p + 1 : Nat) : Int)) = true) := fun z => by omega
      rw [if_neg (by rw [a]; decide), if_neg (by rw [b]; decide), if_neg n, if_pos d, e]
  · have key : ∀ d j, cs.length - j = d → j ≤ cs.length → span u (goB kd) (p + 1 + j) = p + 1 + cs.length := by
      intro d
      induction d with
      | zero =>
        intro j h1 h2
        obtain rfl : j = cs.length := by omega
        unfold span
        rcases hr with rfl | ⟨r, rfl⟩
        · simp at hsz
          rw [dif_neg (by omega)]
        · have hb := hb1 cs.length
          simp at hb
          rw [dif_pos (by simp at hsz; omega), show ((p + 1 + cs.length : Nat) : Int) = (p : Int) + 1 + (cs.length : Int) from by omega, hb, if_neg (by rw [go_white kd hk]; decide)]
      | succ d ih =>
        intro j h1 h2
        have hlt : j < cs.length := by omega
        unfold span
        have hb := hb1 j
        rw [List.getElem?_append_left hlt, List.getElem?_eq_getElem hlt, Option.getD_some] at hb
        rw [dif_pos (by omega), hb, if_pos (hall _ (List.getElem_mem hlt))]
        exact ih (j + 1) (by omega) (by omega)
    have := key cs.length 0 (by omega) (by omega)
    rw [Nat.add_zero] at this
    rw [this]
    simp
    omega
  · rw [lst_extract, hd, show p + (c :: cs).length - p = (c :: cs).length from by omega, List.take_left]
/-- White: a blank, a remark without a line's end, a line's end, a tab. -/
theorem white_skip (u : ByteArray) (a : Nat) (r rest : List UInt8) (hr : ∀ b ∈ r, b ≠ 10) (hd : (lst u).drop a = 32 :: 35 :: (r ++ 10 :: 9 :: rest)) (ha : a ≤ u.size) :
    skip u false a = skip u false (a + 4 + r.length) := by
  have hsz := size_drop u a _ hd ha
  have hlen : (32 :: 35 :: (r ++ 10 :: 9 :: rest)).length = 4 + r.length + rest.length := by simp; omega
  rw [hlen] at hsz
  have b0 : bt u (a : Int) = 32 := by simpa using bt_drop u a _ hd 0
  have b1 : bt u ((a + 1 : Nat) : Int) = 35 := by simpa using bt_drop u a _ hd 1
  have br : ∀ j, bt u ((a + 2 + j : Nat) : Int) = (((r ++ 10 :: 9 :: rest)[j]?.getD 0).toNat : Int) := by
    intro j
    have := bt_drop u a _ hd (2 + j)
    rw [show a + (2 + j) = a + 2 + j from by omega] at this
    rw [this, show 2 + j = j + 2 from by omega]
    simp
  have key : ∀ d j, r.length - j = d → j ≤ r.length → skip u true (a + 2 + j) = skip u false (a + 2 + r.length + 1) := by
    intro d
    induction d with
    | zero =>
      intro j h1 h2
      obtain rfl : j = r.length := by omega
      have hb := br r.length
      rw [List.getElem?_append_right (Nat.le_refl _)] at hb
      simp only [Nat.sub_self, List.getElem?_cons_zero, Option.getD_some] at hb
      conv => lhs; unfold skip
      rw [dif_pos (by omega), if_pos (by rw [hb]; rfl)]
    | succ d ih =>
      intro j h1 h2
      have hlt : j < r.length := by omega
      have hb := br j
      rw [List.getElem?_append_left hlt, List.getElem?_eq_getElem hlt] at hb
      have hne : ¬ bt u ((a + 2 + j : Nat) : Int) = 10 := by
        rw [hb]
        intro e
        refine hr _ (List.getElem_mem hlt) ?_
        apply UInt8.toNat_inj.mp
        have e' : ((r[j]).toNat : Int) = 10 := e
        show (r[j]).toNat = 10
        omega
      conv => lhs; unfold skip
      rw [dif_pos (by omega), if_neg hne]
      have := ih (j + 1) (by omega) (by omega)
      by_cases c : bt u ((a + 2 + j : Nat) : Int) = 35
      · rw [if_pos c]; exact this
      · rw [if_neg c, if_pos rfl]; exact this
  have e1 : skip u false a = skip u false (a + 1) := by
    conv => lhs; unfold skip
    rw [dif_pos (by omega), b0]
    simp
  have e2 : skip u false (a + 1) = skip u true (a + 1 + 1) := by
    conv => lhs; unfold skip
    rw [dif_pos (by omega), b1]
    simp
  have e3 : skip u false (a + 2 + r.length + 1) = skip u false (a + 2 + r.length + 1 + 1) := by
    have hb := br (r.length + 1)
    rw [List.getElem?_append_right (by omega)] at hb
    simp only [Nat.add_sub_cancel_left, List.getElem?_cons_succ, List.getElem?_cons_zero, Option.getD_some] at hb
    rw [show a + 2 + (r.length + 1) = a + 2 + r.length + 1 from by omega] at hb
    conv => lhs; unfold skip
    rw [dif_pos (by omega), hb]
    simp
  have h4 := key r.length 0 (by omega) (by omega)
  rw [Nat.add_zero] at h4
  rw [e1, e2, show a + 1 + 1 = a + 2 from rfl, h4, e3, show a + 2 + r.length + 1 + 1 = a + 4 + r.length from by omega]
theorem letter_plain (c : Int) (h : letterB c = true) : c ≠ 10 ∧ c ≠ 35 ∧ c ≠ 32 ∧ c ≠ 9 := by
  unfold letterB at h
  refine ⟨?_, ?_, ?_, ?_⟩ <;> (rintro rfl; revert h; decide)
theorem digit_plain (c : Int) (h : digitB c = true) : c ≠ 10 ∧ c ≠ 35 ∧ c ≠ 32 ∧ c ≠ 9 := by
  unfold digitB at h
  refine ⟨?_, ?_, ?_, ?_⟩ <;> (rintro rfl; revert h; decide)
theorem sign_stop (u : ByteArray) (p : Nat) (kd : Int) (w rest : List UInt8) (h : Sign kd w) (hd : (lst u).drop p = w ++ rest) (hp : p < u.size) : skip u false p = p := by
  obtain ⟨hk, c, cs, rfl, hall, hc⟩ := h
  have hb0 : bt u (p : Int) = (c.toNat : Int) := by simpa using bt_drop u p _ hd 0
  have hn : (c.toNat : Int) ≠ 10 ∧ (c.toNat : Int) ≠ 35 ∧ (c.toNat : Int) ≠ 32 ∧ (c.toNat : Int) ≠ 9 := by
    rcases hc with ⟨a, b⟩ | ⟨a, b, d⟩ | ⟨a, b, d, e⟩ | ⟨a, b, d, e⟩
    · exact letter_plain _ a
    · exact digit_plain _ b
    · omega
    · omega
  unfold skip
  rw [dif_pos hp, hb0, if_neg hn.1, if_neg hn.2.1, if_neg (by decide), if_neg hn.2.2.1, if_neg hn.2.2.2]
theorem toksP_cons (s : ByteArray) (p : Nat) (c : p < s.size) (n : ¬ kindAt s p = -1) : toksP s p = ((⟨kindAt s p, (p : Int), s.extract p (span s (goB (kindAt s p)) (p + 1))⟩ : S29) :: (toksP s (skip s false (span s (goB (kindAt s p)) (p + 1)))).1, (toksP s (skip s false (span s (goB (kindAt s p)) (p + 1)))).2) := by
  conv => lhs; unfold toksP
  rw [dif_pos c, if_neg n]
theorem toksP_bad (s : ByteArray) (p : Nat) (c : p < s.size) (n : kindAt s p = -1) : toksP s p = ([], some p) := by
  conv => lhs; unfold toksP
  rw [dif_pos c, if_pos n]
theorem toksP_end (s : ByteArray) (p : Nat) (c : ¬ p < s.size) : toksP s p = ([⟨0, (s.size : Int), ⟨#[]⟩⟩], none) := by
  conv => lhs; unfold toksP
  rw [dif_neg c]
/-- The signs as they are written anew. -/
def anew (r : List UInt8) (l : List S29) : List UInt8 := (l.map fun t => 32 :: 35 :: (r ++ 10 :: 9 :: lst t.f2)).flatten
theorem anew_cons (r : List UInt8) (t : S29) (l : List S29) : anew r (t :: l) = 32 :: 35 :: (r ++ 10 :: 9 :: (lst t.f2 ++ anew r l)) := by
  unfold anew
  simp
theorem anew_head (r : List UInt8) (l : List S29) : anew r l = [] ∨ ∃ q, anew r l = 32 :: q := by
  cases l with
  | nil => exact .inl rfl
  | cons t l => exact .inr ⟨_, anew_cons r t l⟩
theorem anew_toks (s : ByteArray) (u : ByteArray) (r : List UInt8) (hr : ∀ b ∈ r, b ≠ 10) (d : Nat) : ∀ (p a : Nat), s.size - p < d → (toksP s p).2 = none → a ≤ u.size → (lst u).drop a = anew r (toksP s p).1 →
    (toksP u (skip u false a)).2 = none ∧ (toksP u (skip u false a)).1.map (fun t => (t.f0, lst t.f2)) = (toksP s p).1.map (fun t => (t.f0, lst t.f2)) := by
  induction d with
  | zero => intro p a h; omega
  | succ d ih =>
    intro p a h1 hn ha hd
    by_cases c : p < s.size
    · by_cases n : kindAt s p = -1
      · rw [toksP_bad s p c n] at hn
        cases hn
      rw [toksP_cons s p c n] at hn hd ⊢
      have g1 := span_ge' s (goB (kindAt s p)) (p + 1)
      have g2 := skip_ge' s false (span s (goB (kindAt s p)) (p + 1))
      have hs := sign_of s p c n
      have IH := ih (skip s false (span s (goB (kindAt s p)) (p + 1)))
      generalize hkd : kindAt s p = kd at *
      generalize hy : span s (goB kd) (p + 1) = y at *
      generalize hL : toksP s (skip s false y) = L at *
      simp only at hn hd
      rw [anew_cons] at hd
      simp only at hd
      have w1 := white_skip u a r _ hr hd ha
      have hlen := size_drop u a _ hd ha
      have hd2 : (lst u).drop (a + 4 + r.length) = lst (s.extract p y) ++ anew r L.1 := by
        rw [show a + 4 + r.length = a + (4 + r.length) from by omega, ← List.drop_drop, hd]
        rw [show 4 + r.length = (r.length + 2) + 1 + 1 from by omega, List.drop_succ_cons, List.drop_succ_cons, List.drop_append, List.drop_eq_nil_of_le (by omega), show r.length + 2 - r.length = 2 from by omega]
        rfl
      have hpos : 0 < (lst (s.extract p y)).length := by
        obtain ⟨_, c0, cs, e, _⟩ := hs
        rw [e]
        simp
      have hplt : a + 4 + r.length < u.size := by
        simp at hlen
        omega
      have hstop := sign_stop u _ kd _ _ hs hd2 hplt
      obtain ⟨r1, r2, r3⟩ := sign_read u _ kd _ _ hs hd2 hplt (anew_head r L.1)
      have hd3 : (lst u).drop (a + 4 + r.length + (lst (s.extract p y)).length) = anew r L.1 := by
        rw [← List.drop_drop, hd2, List.drop_left]
      obtain ⟨i1, i2⟩ := IH (a + 4 + r.length + (lst (s.extract p y)).length) (by omega) hn (by simp at hlen; omega) hd3
      rw [w1, hstop, toksP_cons u _ hplt (by rw [r1]; exact n), r1, r2]
      refine ⟨i1, ?_⟩
      simp only [List.map_cons]
      rw [i2, r3]
    · rw [toksP_end s p c] at hn hd ⊢
      have hd' : (lst u).drop a = 32 :: 35 :: (r ++ 10 :: 9 :: []) := by
        rw [hd]
        unfold anew
        simp [lst]
      have w1 := white_skip u a r _ hr hd' ha
      have hlen := size_drop u a _ hd' ha
      have hend : skip u false (a + 4 + r.length) = u.size := by
        simp at hlen
        unfold skip
        rw [dif_neg (by omega)]
        omega
      rw [w1, hend, toksP_end u _ (by omega)]
      exact ⟨rfl, rfl⟩
/-- True, with enough rounds. -/
def Evt (f : Nat → Option Bool) : Prop := ∃ K, ∀ k, K ≤ k → f k = some true
theorem Evt.step {f g : Nat → Option Bool} (h : Evt g) (e : ∀ k, f (k + 1) = g k) : Evt f := by
  obtain ⟨K, hK⟩ := h
  refine ⟨K + 1, fun k hk => ?_⟩
  obtain ⟨k, rfl⟩ : ∃ m, k = m + 1 := ⟨k - 1, by omega⟩
  rw [e]
  exact hK k (by omega)
theorem toks_small (s : ByteArray) (d : Nat) : ∀ p, s.size - p < d → ∀ t ∈ (toksP s p).1, t.f2.size ≤ s.size := by
  induction d with
  | zero => intro p h; omega
  | succ d ih =>
    intro p h t ht
    by_cases c : p < s.size
    · by_cases n : kindAt s p = -1
      · rw [toksP_bad s p c n] at ht
        cases ht
      · rw [toksP_cons s p c n] at ht
        have g1 := span_ge' s (goB (kindAt s p)) (p + 1)
        have g2 := skip_ge' s false (span s (goB (kindAt s p)) (p + 1))
        rcases List.mem_cons.mp ht with e | e
        · rw [e]
          simp only
          rw [ByteArray.size_extract]
          omega
        · exact ih _ (by omega) t e
    · rw [toksP_end s p c] at ht
      rw [List.mem_singleton.mp ht]
      show 0 ≤ s.size
      omega
theorem w_l2 (l m : List S29) (hl : l.length ≤ 30000) (hm : m.map (fun t => (t.f0, lst t.f2)) = l.map (fun t => (t.f0, lst t.f2))) (d : Nat) : ∀ i, l.length - i = d → i ≤ l.length → Evt (fun k => quittancelaw07_LexerWhite.l2 k l m (i : Int)) := by
  have hlen : m.length = l.length := by
    have := congrArg List.length hm
    simpa using this
  induction d with
  | zero =>
    intro i h1 h2
    refine ⟨1, fun k hk => ?_⟩
    obtain ⟨k, rfl⟩ : ∃ q, k = q + 1 := ⟨k - 1, by omega⟩
    show quittancelaw07_LexerWhite.l2 (k + 1) l m (i : Int) = some true
    rw [quittancelaw07_LexerWhite.l2, if_neg (by omega)]
  | succ d ih =>
    intro i h1 h2
    refine (ih (i + 1) (by omega) (by omega)).step (fun k => ?_)
    have e := congrArg (fun q => q[i]?) hm
    simp only [List.getElem?_map] at e
    have hi : i < l.length := by omega
    rw [List.getElem?_eq_getElem hi, List.getElem?_eq_getElem (by omega : i < m.length)] at e
    simp only [Option.map_some, Option.some.injEq, Prod.mk.injEq] at e
    have r1 : rd_T29 l (i : Int) = l[i] := by
      unfold rd_T29
      rw [show (i : Int).toNat = i from by omega, List.getD_eq_getElem?_getD, List.getElem?_eq_getElem hi]
      rfl
    have r2 : rd_T29 m (i : Int) = m[i] := by
      unfold rd_T29
      rw [show (i : Int).toNat = i from by omega, List.getD_eq_getElem?_getD, List.getElem?_eq_getElem (by omega : i < m.length)]
      rfl
    have w := Aside0.mk (show wrap64 ((i : Int) + 1) = ((i + 1 : Nat) : Int) by unfold wrap64; omega)
    have q1 : (i : Int) < (l.length : Int) := by omega
    have q2 : (0 : Int) ≤ (i : Int) := by omega
    have q3 : (i : Int) < (m.length : Int) := by omega
    show quittancelaw07_LexerWhite.l2 (k + 1) l m (i : Int) = _
    rw [quittancelaw07_LexerWhite.l2, if_pos q1, if_pos q2, if_pos q3, r1, r2, if_pos e.1, if_pos (by rw [toList_lst, toList_lst]; exact e.2), w.out]
theorem anew_take (r : List UInt8) (l : List S29) (i : Nat) (h : i < l.length) : anew r (l.take (i + 1)) = anew r (l.take i) ++ (32 :: 35 :: (r ++ [10, 9])) ++ lst (l[i]).f2 := by
  rw [List.take_succ_eq_append_getElem h]
  unfold anew
  rw [List.map_append, List.flatten_append]
  simp only [List.map_cons, List.map_nil, List.flatten_cons, List.flatten_nil, List.append_nil, List.cons_append, List.append_assoc, List.nil_append]
theorem w_l1 (s : ByteArray) (hs : s.size ≤ 500) (x5 : ByteArray) (r : List UInt8) (hr : ∀ b ∈ r, b ≠ 10) (h5 : lst x5 = 32 :: 35 :: (r ++ [10, 9])) (h5s : x5.size ≤ 100)
    (hn : (toksP s (skip s false 0)).2 = none) (d : Nat) : ∀ (i : Nat) (x : ByteArray), (toksP s (skip s false 0)).1.length - i = d → i ≤ (toksP s (skip s false 0)).1.length → x.size ≤ 1000 * i → lst x = anew r ((toksP s (skip s false 0)).1.take i) →
    Evt (fun k => quittancelaw07_LexerWhite.l1 k x5 (toksP s (skip s false 0)).1 x (i : Int)) := by
  have hl := toks_len s s.size (skip s false 0) (by omega)
  have hsm := toks_small s (s.size + 1) (skip s false 0) (by omega)
  have hanew := fun u => anew_toks s u r hr (s.size + 1) (skip s false 0) 0 (by omega) hn (by omega)
  generalize toksP s (skip s false 0) = L at *
  induction d with
  | zero =>
    intro i x h1 h2 h3 h4
    have q1 : ¬ (i : Int) < (L.1.length : Int) := by omega
    rw [List.take_of_length_le (by omega)] at h4
    by_cases big : (x.size : Int) > 20000
    · refine ⟨61, fun k hk => ?_⟩
      obtain ⟨k, rfl⟩ : ∃ q, k = q + 1 := ⟨k - 1, by omega⟩
      show quittancelaw07_LexerWhite.l1 (k + 1) x5 L.1 x (i : Int) = some true
      rw [quittancelaw07_LexerWhite.l1, if_neg q1, if_pos big, awake_eq k (by omega)]
      rfl
    obtain ⟨a1, a2⟩ := hanew x (by rw [List.drop_zero]; exact h4)
    have hA := All_eq x (by omega)
    generalize toksP x (skip x false 0) = M at a1 a2 hA
    obtain ⟨K, hK⟩ := w_l2 L.1 M.1 (by omega) a2 L.1.length 0 (by omega) (by omega)
    have hlen : M.1.length = L.1.length := by
      have := congrArg List.length a2
      simpa using this
    refine ⟨K + 20010, fun k hk => ?_⟩
    obtain ⟨k, rfl⟩ : ∃ q, k = q + 1 + 1 := ⟨k - 2, by omega⟩
    show quittancelaw07_LexerWhite.l1 (k + 1 + 1) x5 L.1 x (i : Int) = some true
    rw [quittancelaw07_LexerWhite.l1, if_neg q1, if_neg big, hA (k + 1) (by omega), awake_eq (k + 1) (by omega)]
    unfold T
    rw [a1]
    simp only [Option.bind_some, if_true, List.nil_append]
    rw [quittancelaw07_LexerWhite.j3, hlen, if_neg (by simp)]
    exact hK k (by omega)
  | succ d ih =>
    intro i x h1 h2 h3 h4
    have hi : i < L.1.length := by omega
    have hf := hsm _ (List.getElem_mem hi)
    have hsz : (x ++ x5).size = x.size + x5.size := ByteArray.size_append
    have hsz2 : ((x ++ x5) ++ (L.1[i]).f2).size = x.size + x5.size + (L.1[i]).f2.size := by rw [ByteArray.size_append, hsz]
    have nx := ih (i + 1) ((x ++ x5) ++ (L.1[i]).f2) (by omega) (by omega) (by rw [hsz2]; omega) (by rw [anew_take r L.1 i hi, lst_append, lst_append, h4, h5])
    refine nx.step (fun k => ?_)
    have r1 : rd_T29 L.1 (i : Int) = L.1[i] := by
      unfold rd_T29
      rw [show (i : Int).toNat = i from by omega, List.getD_eq_getElem?_getD, List.getElem?_eq_getElem hi]
      rfl
    have w := Aside0.mk (show wrap64 ((i : Int) + 1) = ((i + 1 : Nat) : Int) by unfold wrap64; omega)
    have q1 : (i : Int) < (L.1.length : Int) := by omega
    have q2 : (0 : Int) ≤ (i : Int) := by omega
    have q3 : x.size + x5.size ≤ 9223372036854775807 := by omega
    have q4 : (x ++ x5).size + (L.1[i]).f2.size ≤ 9223372036854775807 := by omega
    show quittancelaw07_LexerWhite.l1 (k + 1) x5 L.1 x (i : Int) = _
    rw [quittancelaw07_LexerWhite.l1, if_pos q1, if_pos q3, if_pos q2, r1, if_pos q4, w.out]
theorem w_l0 (s q : ByteArray) (hs : s.size ≤ 500) (hq : q.size ≤ 50) (d : Nat) : ∀ (i : Nat) (x : ByteArray) (r : List UInt8), q.size - i = d → i ≤ q.size → r.length ≤ i → (∀ b ∈ r, b ≠ 10) → lst x = 32 :: 35 :: r →
    Evt (fun k => quittancelaw07_LexerWhite.l0 k s q x (i : Int)) := by
  induction d with
  | zero =>
    intro i x r h1 h2 h3 h4 h5
    have q1 : ¬ (i : Int) < (q.size : Int) := by omega
    have hxs : x.size = 2 + r.length := by
      rw [← lst_len, h5]
      simp
      omega
    have q2 : x.size + 2 ≤ 9223372036854775807 := by omega
    have hR := AllR_eq s (by omega)
    cases hn : (toksP s (skip s false 0)).2 with
    | some p =>
      refine ⟨10000, fun k hk => ?_⟩
      obtain ⟨k, rfl⟩ : ∃ q, k = q + 1 := ⟨k - 1, by omega⟩
      show quittancelaw07_LexerWhite.l0 (k + 1) s q x (i : Int) = some true
      rw [quittancelaw07_LexerWhite.l0, if_neg q1, if_pos q2, hR k (by omega)]
      unfold T
      rw [hn]
      simp only [Option.bind_some]
      rw [if_neg (by decide), awake_eq k (by omega)]
      rfl
    | none =>
      have hx5 : lst (x ++ (⟨#[10, 9]⟩ : ByteArray)) = 32 :: 35 :: (r ++ [10, 9]) := by
        rw [lst_append, h5]
        rfl
      have hxs5 : (x ++ (⟨#[10, 9]⟩ : ByteArray)).size ≤ 100 := by
        rw [ByteArray.size_append, hxs]
        show 2 + r.length + 2 ≤ 100
        omega
      obtain ⟨K, hK⟩ := w_l1 s hs (x ++ (⟨#[10, 9]⟩ : ByteArray)) r h4 hx5 hxs5 hn _ 0 ⟨#[]⟩ rfl (by omega) (by show 0 ≤ _; omega) rfl
      refine ⟨K + 10000, fun k hk => ?_⟩
      obtain ⟨k, rfl⟩ : ∃ q, k = q + 1 := ⟨k - 1, by omega⟩
      show quittancelaw07_LexerWhite.l0 (k + 1) s q x (i : Int) = some true
      rw [quittancelaw07_LexerWhite.l0, if_neg q1, if_pos q2, hR k (by omega)]
      unfold T
      rw [hn]
      simp only [Option.bind_some, List.nil_append]
      rw [if_pos trivial]
      exact hK k (by omega)
  | succ d ih =>
    intro i x r h1 h2 h3 h4 h5
    have hi : i < q.size := by omega
    have hil : i < (lst q).length := by rw [lst_len]; exact hi
    have hxs : x.size = 2 + r.length := by
      rw [← lst_len, h5]
      simp
      omega
    have w := Aside0.mk (wr i q.size hi (by omega))
    have q1 : (i : Int) < (q.size : Int) := by omega
    have q2 : (0 : Int) ≤ (i : Int) := by omega
    have hb : bt q (i : Int) = (((lst q)[i]).toNat : Int) := by
      rw [bt_lst, List.getElem?_eq_getElem hil]
      rfl
    by_cases c : bt q (i : Int) = 10
    · refine (ih (i + 1) x r (by omega) (by omega) (by omega) h4 h5).step (fun k => ?_)
      show quittancelaw07_LexerWhite.l0 (k + 1) s q x (i : Int) = _
      rw [quittancelaw07_LexerWhite.l0, if_pos q1, if_pos q2, if_pos c, w.out]
    · have he : lst (q.extract i (i + 1)) = [(lst q)[i]] := by
        rw [lst_extract, List.drop_eq_getElem_cons hil, show i + 1 - i = 0 + 1 from by omega, List.take_succ_cons, List.take_zero]
      have hes : (q.extract i (i + 1)).size = 1 := by
        rw [← lst_len, he]
        rfl
      have nx := ih (i + 1) (x ++ q.extract i (i + 1)) (r ++ [(lst q)[i]]) (by omega) (by omega) (by simp; omega) (by
        intro b hbm
        rcases List.mem_append.mp hbm with e | e
        · exact h4 b e
        · rw [List.mem_singleton.mp e]
          intro e2
          rw [hb, e2] at c
          exact c rfl) (by rw [lst_append, h5, he]; simp)
      refine nx.step (fun k => ?_)
      have q3 : (i : Int) ≤ ((i + 1 : Nat) : Int) := by omega
      have q4 : ((i + 1 : Nat) : Int) ≤ (q.size : Int) := by omega
      show quittancelaw07_LexerWhite.l0 (k + 1) s q x (i : Int) = _
      rw [quittancelaw07_LexerWhite.l0, if_pos q1, if_pos q2, if_neg c, w.out, if_pos q3, if_pos q4, show (i : Int).toNat = i from by omega, show ((i + 1 : Nat) : Int).toNat = i + 1 from by omega, if_pos (by omega)]
theorem LexerWhite : quittancelaw07_LexerWhite.Pure := by
  intro s q _ _
  have aw : ∃ k, quittancelaw07_LexerWhite.j0 k s q true = some true := by
    refine ⟨60 + 1, ?_⟩
    rw [quittancelaw07_LexerWhite.j0, if_pos rfl, awake_60]
    rfl
  by_cases h : (s.size : Int) > 500
  · obtain ⟨k, hk⟩ := aw
    refine ⟨k, ?_⟩
    unfold quittancelaw07_LexerWhite.f
    rw [if_pos h]
    exact hk
  by_cases h2 : (q.size : Int) > 50
  · obtain ⟨k, hk⟩ := aw
    refine ⟨k, ?_⟩
    unfold quittancelaw07_LexerWhite.f
    rw [if_neg h, decide_eq_true h2]
    exact hk
  obtain ⟨K, hK⟩ := w_l0 s q (by omega) (by omega) q.size 0 ⟨#[32, 35]⟩ [] (by omega) (by omega) (by simp) (by simp) rfl
  refine ⟨K + 1, ?_⟩
  unfold quittancelaw07_LexerWhite.f
  rw [if_neg h, decide_eq_false h2, quittancelaw07_LexerWhite.j0, if_neg (by decide)]
  exact hK K (Nat.le_refl _)
end Go.Proofs.Ytgcodjjkpbnadaa.Pure
