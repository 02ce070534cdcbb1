/- The signs of a text stand where they stood, one behind the other, and between them there is white, and remarks, alone. No condition beyond the statement's own. -/
import Derived.Test.YtgcodjjkpbnadaaLex
import Derived.Test.YtgcodjjkpbnadaaPx25
import Derived.Lib.Bytes
namespace Go.Proofs.Ytgcodjjkpbnadaa.Pure
open Go.RowKit Go.Proofs.Ytgcodjjkpbnadaa.P Go.Proofs.YtgcodjjkpbnadaaW.PrintWords Go.Proofs.YtgcodjjkpbnadaaW.PrintLast
set_option linter.unusedVariables false

theorem toks_ne (s : ByteArray) (p : Nat) (h : (toksP s p).2 = none) : (toksP s p).1 ≠ [] := by
  intro e
  unfold toksP at h e
  by_cases c : p < s.size
  · rw [dif_pos c] at h e
    by_cases n : kindAt s p = -1
    · rw [if_pos n] at h
      cases h
    · rw [if_neg n] at e
      cases e
  · rw [dif_neg c] at e
    cases e
theorem inner (s : ByteArray) (hs : s.size ≤ 3000) (l : List S29) (i : Int) (kd : Int) (p : Nat) (tx : ByteArray) (hp : p ≤ s.size)
    (h : ∃ k, quittancelaw07_LexerStand.l0 k s l (wrap64 ((p : Int) + (tx.size : Int))) (wrap64 (i + 1)) = some true) (d : Nat) :
    ∀ (b : Bool) (j : Nat), p - j = d → j ≤ p → skip s b j = p → ∃ k, quittancelaw07_LexerStand.l1 k s l i b (j : Int) kd (p : Int) tx = some true := by
  induction d with
  | zero =>
    intro b j h1 h2 h3
    obtain ⟨k, hk⟩ := h
    refine ⟨k + 1, ?_⟩
    unfold quittancelaw07_LexerStand.l1
    rw [if_neg (by omega)]
    exact hk
  | succ d ih =>
    intro b j h1 h2 h3
    have c : j < s.size := by omega
    have e : wrap64 ((j : Int) + 1) = ((j + 1 : Nat) : Int) := wr j s.size c (by omega)
    unfold skip at h3
    rw [dif_pos c] at h3
    have go : ∀ b', skip s b' (j + 1) = p → ∃ k, quittancelaw07_LexerStand.l1 k s l i b' (wrap64 ((j : Int) + 1)) kd (p : Int) tx = some true := by
      intro b' hb'
      rw [e]
      exact ih b' (j + 1) (by omega) (by omega) hb'
    by_cases c1 : bt s j = 10
    · rw [if_pos c1] at h3
      obtain ⟨k, hk⟩ := go false h3
      refine ⟨k + 2, ?_⟩
      unfold quittancelaw07_LexerStand.l1
      rw [if_pos (by omega), if_pos (by omega), if_pos (by omega), if_neg (by omega)]
      unfold quittancelaw07_LexerStand.j4
      rw [if_pos c1, if_neg (by omega), if_neg (by omega)]
      exact hk
    rw [if_neg c1] at h3
    by_cases c2 : bt s j = 35
    · rw [if_pos c2] at h3
      obtain ⟨k, hk⟩ := go true h3
      refine ⟨k + 2, ?_⟩
      unfold quittancelaw07_LexerStand.l1
      rw [if_pos (by omega), if_pos (by omega), if_pos (by omega), if_pos c2]
      unfold quittancelaw07_LexerStand.j4
      rw [if_neg c1, if_pos rfl]
      exact hk
    rw [if_neg c2] at h3
    have step : (b = true ∨ bt s j = 32 ∨ bt s j = 9) → skip s b (j + 1) = p → ∃ k, quittancelaw07_LexerStand.l1 k s l i b (j : Int) kd (p : Int) tx = some true := by
      intro hb hsk
      obtain ⟨k, hk⟩ := go b hsk
      refine ⟨k + 2, ?_⟩
      unfold quittancelaw07_LexerStand.l1
      rw [if_pos (by omega), if_pos (by omega), if_pos (by omega), if_neg c2]
      unfold quittancelaw07_LexerStand.j4
      rw [if_neg c1]
      by_cases b1 : b = true
      · rw [if_pos b1]
        exact hk
      rw [if_neg b1]
      by_cases b2 : bt s j = 32
      · rw [if_pos b2]
        exact hk
      rw [if_neg b2, if_pos (by rcases hb with h | h | h; exact absurd h b1; exact absurd h b2; exact h)]
      exact hk
    by_cases c3 : b = true
    · rw [if_pos c3] at h3
      exact step (.inl c3) h3
    rw [if_neg c3] at h3
    by_cases c4 : bt s j = 32
    · rw [if_pos c4] at h3
      exact step (.inr (.inl c4)) h3
    rw [if_neg c4] at h3
    by_cases c5 : bt s j = 9
    · rw [if_pos c5] at h3
      exact step (.inr (.inr c5)) h3
    rw [if_neg c5] at h3
    omega
theorem stand_loop (s : ByteArray) (hs : s.size ≤ 3000) (l : List S29) (hl : l.length ≤ 5000) (d : Nat) : ∀ (a i : Nat), s.size - a < d → a ≤ s.size → i < l.length →
    l.drop i = (toksP s (skip s false a)).1 → (toksP s (skip s false a)).2 = none → ∃ k, quittancelaw07_LexerStand.l0 k s l (a : Int) (i : Int) = some true := by
  induction d with
  | zero => intro a i h; omega
  | succ d ih =>
    intro a i hd ha hi hdr hn
    have hg := skip_ge' s false a
    have hle := skip_le' s false a ha
    have hinner := inner s hs l (i : Int)
    have hsk : skip s false a = skip s false a := rfl
    generalize hp : skip s false a = p at hdr hn hg hle
    have ei := Aside0.mk (show wrap64 ((i : Int) + 1) = ((i + 1 : Nat) : Int) by unfold wrap64; omega)
    have el := Aside0.mk (show wrap64 ((l.length : Int) - 1) = (l.length : Int) - 1 by unfold wrap64; omega)
    have hget : ∀ t r, l.drop i = t :: r → rd_T29 l (i : Int) = t := by
      intro t r h
      unfold rd_T29
      rw [show (i : Int).toNat = i from by omega, List.getD_eq_getElem?_getD, ← List.head?_drop, h]
      rfl
    unfold toksP at hdr hn
    by_cases c : p < s.size
    · rw [dif_pos c] at hdr hn
      by_cases n : kindAt s p = -1
      · rw [if_pos n] at hn
        cases hn
      rw [if_neg n] at hdr hn
      have h1 := span_ge' s (goB (kindAt s p)) (p + 1)
      have h2 := span_le' s (goB (kindAt s p)) (p + 1) (by omega)
      have hr := hget _ _ hdr
      generalize hy : span s (goB (kindAt s p)) (p + 1) = y at hdr hn h1 h2 hr
      have hsz : (s.extract p y).size = y - p := by rw [ByteArray.size_extract]; omega
      have h0 : ¬ kindAt s p = 0 := by rcases kindAt_cases s p with h | h | h | h <;> omega
      have hdr' : l.drop (i + 1) = (toksP s (skip s false y)).1 := by
        have : l.drop (i + 1) = (l.drop i).tail := by rw [List.tail_drop]
        rw [this, hdr]
        rfl
      have hi' : i + 1 < l.length := by
        have := toks_ne s _ hn
        rw [← hdr'] at this
        apply Classical.byContradiction
        intro hc
        exact this (List.drop_eq_nil_of_le (by omega))
      obtain ⟨k0, hk0⟩ := ih y (i + 1) (by omega) h2 hi' hdr' hn
      have ew := Aside0.mk (show wrap64 ((p : Int) + ((s.extract p y).size : Int)) = (y : Int) by rw [hsz]; unfold wrap64; omega)
      have hk1 : ∃ k, quittancelaw07_LexerStand.l0 k s l (wrap64 ((p : Int) + ((s.extract p y).size : Int))) (wrap64 ((i : Int) + 1)) = some true := by
        refine ⟨k0, ?_⟩
        rw [ew.out, ei.out]
        exact hk0
      obtain ⟨k, hk⟩ := hinner (kindAt s p) p (s.extract p y) (by omega) hk1 (p - a) false a rfl hg hp
      clear hinner hk1
      refine ⟨k + 1 + 1, ?_⟩
      rw [quittancelaw07_LexerStand.l0]
      rw [if_pos (by omega), if_pos (by omega), hr]
      simp only
      have q1 : ¬ ((p : Int) < (a : Int)) := by omega
      have q2 : ¬ ((y : Int) > (s.size : Int)) := by omega
      have q3 : (0 : Int) ≤ (p : Int) := by omega
      have q4 : (p : Int) ≤ (y : Int) := by omega
      have q5 : (y : Int) ≤ (s.size : Int) := by omega
      have q6 : (s.extract (p : Int).toNat (y : Int).toNat).toList = (s.extract p y).toList := by rw [show (p : Int).toNat = p from by omega, show (y : Int).toNat = y from by omega]
      rw [ew.out, if_neg q1, if_neg q2, if_pos q3, if_pos q4, if_pos q5, if_pos q6, el.out]
      have e1 : ((kindAt s p == 0) != ((i : Int) == (l.length : Int) - 1)) = false := by
        rw [beq_eq_false_iff_ne.mpr h0, beq_eq_false_iff_ne.mpr (show ¬ (i : Int) = (l.length : Int) - 1 by omega)]
        rfl
      have e2 : ((s.extract p y).toList == ([] : List UInt8)) = false := by
        apply beq_eq_false_iff_ne.mpr
        intro hnil
        have := congrArg List.length hnil
        have e3 : (s.extract p y).toList.length = (s.extract p y).size := by
          rw [Go.Lib.toList_data, Array.length_toList]
          rfl
        rw [e3, hsz] at this
        simp at this
        omega
      rw [e1, if_neg (by decide), if_neg h0, e2]
      unfold quittancelaw07_LexerStand.j2
      rw [if_neg (by decide)]
      exact hk
    · rw [dif_neg c] at hdr hn
      have hr := hget _ _ hdr
      have hil : l.length = i + 1 := by
        have := congrArg List.length hdr
        simp at this
        omega
      have hps : p = s.size := by omega
      have ew := Aside0.mk (show wrap64 ((s.size : Int) + (((⟨#[]⟩ : ByteArray)).size : Int)) = (s.size : Int) by
        show wrap64 ((s.size : Int) + 0) = _
        unfold wrap64
        omega)
      have hlast : ∃ k, quittancelaw07_LexerStand.l0 k s l (wrap64 ((s.size : Int) + (((⟨#[]⟩ : ByteArray)).size : Int))) (wrap64 ((i : Int) + 1)) = some true := by
        refine ⟨1, ?_⟩
        rw [ew.out, ei.out]
        unfold quittancelaw07_LexerStand.l0
        rw [if_neg (by omega), if_pos (by omega)]
        simp
      obtain ⟨k, hk⟩ := hinner 0 s.size (⟨#[]⟩ : ByteArray) (by omega) hlast (s.size - a) false a rfl (by omega) (by omega)
      clear hinner hlast
      refine ⟨k + 1 + 1, ?_⟩
      rw [quittancelaw07_LexerStand.l0]
      rw [if_pos (by omega), if_pos (by omega), hr]
      simp only
      have ex : (s.extract (s.size : Int).toNat (s.size : Int).toNat).toList = ((⟨#[]⟩ : ByteArray)).toList := by
        have e3 : (s.extract (s.size : Int).toNat (s.size : Int).toNat) = (⟨#[]⟩ : ByteArray) := by
          apply ByteArray.ext
          apply Array.ext
          · have : (s.extract (s.size : Int).toNat (s.size : Int).toNat).size = 0 := by rw [ByteArray.size_extract]; omega
            exact this
          · intro j _ h2
            exact absurd h2 (by simp)
        rw [e3]
      have q1 : ¬ ((s.size : Int) < (a : Int)) := by omega
      have q2 : ¬ ((s.size : Int) > (s.size : Int)) := by omega
      have q3 : (0 : Int) ≤ (s.size : Int) := by omega
      have q4 : (s.size : Int) ≤ (s.size : Int) := by omega
      rw [ew.out, if_neg q1, if_neg q2, if_pos q3, if_pos q4, if_pos q4, if_pos ex, el.out]
      have e1 : (((0 : Int) == 0) != ((i : Int) == (l.length : Int) - 1)) = false := by
        rw [beq_iff_eq.mpr (show (i : Int) = (l.length : Int) - 1 by omega)]
        rfl
      rw [e1, if_neg (by decide), if_pos trivial]
      unfold quittancelaw07_LexerStand.j2
      rw [if_neg (by decide)]
      exact hk
theorem bad_lt (s : ByteArray) (d : Nat) : ∀ (p q : Nat), s.size - p < d → (toksP s p).2 = some q → q < s.size := by
  induction d with
  | zero => intro p q h; omega
  | succ d ih =>
    intro p q h1 h2
    unfold toksP at h2
    by_cases c : p < s.size
    · rw [dif_pos c] at h2
      by_cases n : kindAt s p = -1
      · rw [if_pos n] at h2
        cases h2
        exact c
      · rw [if_neg n] at h2
        have g1 := span_ge' s (goB (kindAt s p)) (p + 1)
        have g2 := skip_ge' s false (span s (goB (kindAt s p)) (p + 1))
        exact ih _ q (by omega) h2
    · rw [dif_neg c] at h2
      cases h2
theorem j0_mono (s : ByteArray) (l : List S29) (x y : Int) (b : Bool) (k m : Nat) (h : quittancelaw07_LexerStand.j0 k s l x y b = some true) : quittancelaw07_LexerStand.j0 (k + m) s l x y b = some true := by
  induction m with
  | zero => exact h
  | succ m ih => exact (quittancelaw07_LexerStand.mono_l (k + m)).1 _ _ _ _ _ _ ih
theorem LexerStand : quittancelaw07_LexerStand.Pure := by
  intro s _
  by_cases hs : (s.size : Int) > 3000
  · refine ⟨200000, ?_⟩
    unfold quittancelaw07_LexerStand.f
    rw [if_pos hs, awake_eq 200000 (by decide)]
    rfl
  have start : ∃ k, quittancelaw07_LexerStand.j0 k s (match (toksP s (skip s false 0)).2 with | none => (toksP s (skip s false 0)).1 | some _ => []) (match (toksP s (skip s false 0)).2 with | none => 0 | some p => (p : Int)) (match (toksP s (skip s false 0)).2 with | none => 0 | some _ => 6) (match (toksP s (skip s false 0)).2 with | none => false | some _ => true) = some true := by
    cases hr : (toksP s (skip s false 0)).2 with
    | none =>
      have hl := toks_len s s.size (skip s false 0) (by omega)
      have hne := toks_ne s _ hr
      obtain ⟨k, hk⟩ := stand_loop s (by omega) (toksP s (skip s false 0)).1 (by omega) (s.size + 1) 0 0 (by omega) (by omega) (List.length_pos_iff.mpr hne) rfl hr
      refine ⟨k + 1, ?_⟩
      show quittancelaw07_LexerStand.j0 (k + 1) s (toksP s (skip s false 0)).1 0 0 false = some true
      rw [quittancelaw07_LexerStand.j0]
      rw [if_neg (by decide)]
      exact hk
    | some p =>
      have hlt := bad_lt s (s.size + 1) _ p (by omega) hr
      refine ⟨100 + 1, ?_⟩
      show quittancelaw07_LexerStand.j0 (100 + 1) s [] (p : Int) 6 true = some true
      rw [quittancelaw07_LexerStand.j0]
      rw [if_pos rfl, awake_eq 100 (by decide)]
      simp
      omega
  obtain ⟨k, hk⟩ := start
  obtain ⟨n, hn⟩ : ∃ n : Nat, n = 200000 := ⟨_, rfl⟩
  refine ⟨k + n, ?_⟩
  unfold quittancelaw07_LexerStand.f
  rw [if_neg hs, awake_eq (k + n) (by omega), All_eq s (by omega) (k + n) (by omega)]
  have hk' := j0_mono _ _ _ _ _ k n hk
  unfold T
  cases hr : (toksP s (skip s false 0)).2 with
  | none =>
    rw [hr] at hk'
    simpa using hk'
  | some p =>
    rw [hr] at hk'
    simpa using hk'
end Go.Proofs.Ytgcodjjkpbnadaa.Pure
