/- Plain laws on the signs of a text: what lexer.All and the reference's All come to, in one function (toksP). Conditions: the text has at most 20000 bytes. -/
import Derived.Test.YtgcodjjkpbnadaaPx16
import Derived.Test.YtgcodjjkpbnadaaPx20
import Derived.Test.YtgcodjjkpbnadaaPx23
namespace Go.Proofs.Ytgcodjjkpbnadaa.Pure
open Go.RowKit Go.Proofs.Ytgcodjjkpbnadaa.P Go.Proofs.YtgcodjjkpbnadaaW.PrintWords Go.Proofs.YtgcodjjkpbnadaaW.PrintLast
set_option linter.unusedVariables false

/-- Where the next sign, or the end, stands. -/
def skip (s : ByteArray) (b : Bool) (i : Nat) : Nat :=
  if h : i < s.size then
    if bt s i = 10 then skip s false (i + 1) else if bt s i = 35 then skip s true (i + 1) else if b = true then skip s b (i + 1) else
    if bt s i = 32 then skip s b (i + 1) else if bt s i = 9 then skip s b (i + 1) else i
  else i
termination_by s.size - i
/-- Where a sign ends. -/
def span (s : ByteArray) (g : Int → Bool) (i : Nat) : Nat :=
  if h : i < s.size then (if g (bt s i) = true then span s g (i + 1) else i) else i
termination_by s.size - i
def kindAt (s : ByteArray) (p : Nat) : Int :=
  if letterB (bt s p) = true then 1 else if digitB (bt s p) = true then 2 else
  if bt s p = 45 ∧ p + 1 < s.size ∧ digitB (bt s ((p + 1 : Nat) : Int)) = true then 2 else
  if bt s p = 123 ∨ bt s p = 125 ∨ bt s p = 59 then 3 else -1
def goB (k : Int) : Int → Bool := if k = 1 then inWordB else if k = 2 then inNumberB else noneB

theorem skip_ge (s : ByteArray) (d : Nat) : ∀ (b : Bool) (i : Nat), s.size - i ≤ d → i ≤ skip s b i := by
  induction d with
  | zero => intro b i h; unfold skip; rw [dif_neg (by omega)]; exact Nat.le_refl _
  | succ d ih =>
    intro b i h
    unfold skip
    have h1 := fun b => ih b (i + 1) (by omega)
    have h2 := h1 false
    have h3 := h1 true
    have h4 := h1 b
    by_cases c : i < s.size
    · rw [dif_pos c]
      repeat' split
      all_goals omega
    · rw [dif_neg c]; exact Nat.le_refl _
theorem skip_le (s : ByteArray) (d : Nat) : ∀ (b : Bool) (i : Nat), s.size - i ≤ d → i ≤ s.size → skip s b i ≤ s.size := by
  induction d with
  | zero => intro b i h hi; unfold skip; rw [dif_neg (by omega)]; exact hi
  | succ d ih =>
    intro b i h hi
    unfold skip
    by_cases c : i < s.size
    · have h1 := fun b => ih b (i + 1) (by omega) (by omega)
      have h2 := h1 false
      have h3 := h1 true
      have h4 := h1 b
      rw [dif_pos c]
      repeat' split
      all_goals omega
    · rw [dif_neg c]; exact hi
theorem span_ge (s : ByteArray) (g : Int → Bool) (d : Nat) : ∀ (i : Nat), s.size - i ≤ d → i ≤ span s g i := by
  induction d with
  | zero => intro i h; unfold span; rw [dif_neg (by omega)]; exact Nat.le_refl _
  | succ d ih =>
    intro i h
    unfold span
    have h1 := ih (i + 1) (by omega)
    by_cases c : i < s.size
    · rw [dif_pos c]; split <;> omega
    · rw [dif_neg c]; exact Nat.le_refl _
theorem span_le (s : ByteArray) (g : Int → Bool) (d : Nat) : ∀ (i : Nat), s.size - i ≤ d → i ≤ s.size → span s g i ≤ s.size := by
  induction d with
  | zero => intro i h hi; unfold span; rw [dif_neg (by omega)]; exact hi
  | succ d ih =>
    intro i h hi
    unfold span
    by_cases c : i < s.size
    · have h1 := ih (i + 1) (by omega) (by omega)
      rw [dif_pos c]; split <;> omega
    · rw [dif_neg c]; exact hi
theorem skip_ge' (s : ByteArray) (b : Bool) (i : Nat) : i ≤ skip s b i := skip_ge s _ b i (Nat.le_refl _)
theorem span_ge' (s : ByteArray) (g : Int → Bool) (i : Nat) : i ≤ span s g i := span_ge s g _ i (Nat.le_refl _)
theorem skip_le' (s : ByteArray) (b : Bool) (i : Nat) (h : i ≤ s.size) : skip s b i ≤ s.size := skip_le s _ b i (Nat.le_refl _) h
theorem span_le' (s : ByteArray) (g : Int → Bool) (i : Nat) (h : i ≤ s.size) : span s g i ≤ s.size := span_le s g _ i (Nat.le_refl _) h

/-- The signs from a place on where a sign, or the end, stands; the second: where none stands. -/
def toksP (s : ByteArray) (p : Nat) : List S29 × Option Nat :=
  if h : p < s.size then
    if kindAt s p = -1 then ([], some p) else
    ((⟨kindAt s p, (p : Int), s.extract p (span s (goB (kindAt s p)) (p + 1))⟩ : S29) :: (toksP s (skip s false (span s (goB (kindAt s p)) (p + 1)))).1, (toksP s (skip s false (span s (goB (kindAt s p)) (p + 1)))).2)
  else ([⟨0, (s.size : Int), ⟨#[]⟩⟩], none)
termination_by s.size - p
decreasing_by
  all_goals
    have h1 := span_ge' s (goB (kindAt s p)) (p + 1)
    have h2 := skip_ge' s false (span s (goB (kindAt s p)) (p + 1))
    omega
def T (l : List S29) (r : List S29 × Option Nat) : Option (List S29 × Int × Int) :=
  match r.2 with
  | none => some (l ++ r.1, 0, 0)
  | some p => some ([], (p : Int), 6)
theorem T_cons (l : List S29) (t : S29) (r : List S29 × Option Nat) : T (l ++ [t]) r = T l (t :: r.1, r.2) := by
  unfold T
  cases r.2 <;> simp
theorem kindAt_cases (s : ByteArray) (p : Nat) : kindAt s p = 1 ∨ kindAt s p = 2 ∨ kindAt s p = 3 ∨ kindAt s p = -1 := by
  unfold kindAt
  repeat' split
  all_goals omega
theorem wr (i n : Nat) (h : i < n) (hn : n ≤ 20000) : wrap64 ((i : Int) + 1) = ((i + 1 : Nat) : Int) := by
  unfold wrap64
  omega

/-! ### the program's -/
theorem pass_eq (s : ByteArray) (hs : s.size ≤ 20000) (k : Nat) : ∀ (b : Bool) (i : Nat), s.size - i < k → lexer_lexer_pass.l0 k b s (i : Int) = some (s, ((skip s b i : Nat) : Int)) := by
  induction k with
  | zero => intro b i h; omega
  | succ k ih =>
    intro b i h
    unfold lexer_lexer_pass.l0 skip
    by_cases c : i < s.size
    · rw [if_pos (by omega), if_pos (by omega), dif_pos c, wr i _ c hs]
      have h1 := fun b => ih b (i + 1) (by omega)
      by_cases c1 : bt s i = 10
      · rw [if_pos c1, if_pos c1, h1]
      rw [if_neg c1, if_neg c1]
      by_cases c2 : bt s i = 35
      · rw [if_pos c2, if_pos c2, h1]
      rw [if_neg c2, if_neg c2]
      by_cases c3 : b = true
      · rw [if_pos c3, if_pos c3, h1]
      rw [if_neg c3, if_neg c3]
      by_cases c4 : bt s i = 32
      · rw [if_pos c4, if_pos c4, h1]
      rw [if_neg c4, if_neg c4]
      by_cases c5 : bt s i = 9
      · rw [if_pos c5, if_pos c5, h1]
      rw [if_neg c5, if_neg c5]
    · rw [if_neg (by omega), dif_neg c]
theorem run_eq (s : ByteArray) (hs : s.size ≤ 20000) (g : Int → Bool) (k : Nat) : ∀ (i : Nat), s.size - i < k → lexer_lexer_run.l0 g s k (i : Int) = some ((span s g i : Nat) : Int) := by
  induction k with
  | zero => intro i h; omega
  | succ k ih =>
    intro i h
    unfold lexer_lexer_run.l0 span
    by_cases c : i < s.size
    · rw [if_pos (by omega), if_pos (by omega), dif_pos c, wr i _ c hs]
      by_cases c1 : g (bt s i) = true
      · rw [if_pos c1, if_pos c1, ih (i + 1) (by omega)]
      · rw [if_neg c1, if_neg c1]
    · rw [if_neg (by omega), dif_neg c]
theorem runf_eq (s : ByteArray) (hs : s.size ≤ 20000) (g : Int → Bool) (k : Nat) (p : Nat) (kd : Int) (hp : p < s.size) (hk : s.size - p < k) :
    lexer_lexer_run.f k g s (p : Int) kd = some (⟨kd, (p : Int), s.extract p (span s g (p + 1))⟩, ((span s g (p + 1) : Nat) : Int)) := by
  have h1 := span_ge' s g (p + 1)
  have h2 := span_le' s g (p + 1) (by omega)
  unfold lexer_lexer_run.f
  rw [wr p _ hp hs, run_eq s hs g k (p + 1) (by omega)]
  simp only [Option.bind_some]
  rw [if_pos (by omega), if_pos (by omega), if_pos (by omega)]
  rfl
theorem next_eq (s : ByteArray) (hs : s.size ≤ 20000) (k i : Nat) (hi : i ≤ s.size) (hk : s.size - i < k) : lexer_lexer_next.f k s (i : Int) =
    (if skip s false i = s.size then some (some ⟨0, (s.size : Int), ⟨#[]⟩⟩, (s.size : Int)) else
      if kindAt s (skip s false i) = -1 then some (none, ((skip s false i : Nat) : Int)) else
      some (some ⟨kindAt s (skip s false i), ((skip s false i : Nat) : Int), s.extract (skip s false i) (span s (goB (kindAt s (skip s false i))) (skip s false i + 1))⟩, ((span s (goB (kindAt s (skip s false i))) (skip s false i + 1) : Nat) : Int))) := by
  have hg := skip_ge' s false i
  have hl := skip_le' s false i hi
  unfold lexer_lexer_next.f lexer_lexer_pass.f
  rw [pass_eq s hs k false i hk]
  simp only [Option.bind_some]
  generalize skip s false i = p at hg hl ⊢
  by_cases c : p = s.size
  · rw [if_pos (by omega), if_pos c, c]
  rw [if_neg (by omega), if_neg c, if_pos (by omega), if_pos (by omega)]
  have hp : p < s.size := by omega
  have e1 : ((p : Int) + 1) = ((p + 1 : Nat) : Int) := by omega
  have e2 : ((p + 1 : Nat) : Int) < (s.size : Int) ↔ p + 1 < s.size := by omega
  unfold kindAt
  rw [e1]
  by_cases c1 : letterB (bt s p) = true
  · rw [if_pos c1, if_pos c1, runf_eq s hs _ k p 1 hp (by omega)]
    simp [goB]
  rw [if_neg c1, if_neg c1]
  by_cases c2 : digitB (bt s p) = true
  · rw [if_pos c2, if_pos c2, runf_eq s hs _ k p 2 hp (by omega)]
    simp [goB]
  rw [if_neg c2, if_neg c2]
  by_cases c3 : bt s p = 45 ∧ p + 1 < s.size ∧ digitB (bt s ((p + 1 : Nat) : Int)) = true
  · rw [if_pos ⟨c3.1, by omega, c3.2.2⟩, if_pos c3, runf_eq s hs _ k p 2 hp (by omega)]
    simp [goB]
  rw [if_neg (fun h => c3 ⟨h.1, by omega, h.2.2⟩), if_neg c3]
  by_cases c4 : bt s p = 123 ∨ bt s p = 125 ∨ bt s p = 59
  · rw [if_pos c4, if_pos c4, runf_eq s hs _ k p 3 hp (by omega)]
    simp [goB]
  rw [if_neg c4, if_neg c4]
  simp
theorem All_l0 (s : ByteArray) (hs : s.size ≤ 20000) (k : Nat) : ∀ (i : Nat) (l : List S29), i ≤ s.size → l.length ≤ i → s.size - i + 1 < k → lexer_All.l0 s k (i : Int) l = T l (toksP s (skip s false i)) := by
  induction k with
  | zero => intro i l hi hl h; omega
  | succ k ih =>
    intro i l hi hl hk
    have hg := skip_ge' s false i
    have hle := skip_le' s false i hi
    unfold lexer_All.l0
    rw [next_eq s hs k i hi (by omega)]
    generalize skip s false i = p at hg hle ⊢
    by_cases c : p = s.size
    · rw [if_pos c]
      unfold toksP
      rw [dif_neg (by omega)]
      simp only [Option.bind_some]
      rw [if_pos (by omega)]
      simp [T]
    rw [if_neg c]
    unfold toksP
    rw [dif_pos (by omega)]
    by_cases c1 : kindAt s p = -1
    · rw [if_pos c1, if_pos c1]
      simp [T]
    rw [if_neg c1, if_neg c1]
    simp only [Option.bind_some]
    have h0 : ¬ kindAt s p = 0 := by rcases kindAt_cases s p with h | h | h | h <;> omega
    have h1 := span_ge' s (goB (kindAt s p)) (p + 1)
    have h2 := span_le' s (goB (kindAt s p)) (p + 1) (by omega)
    rw [if_pos (by omega), if_neg h0, ih _ _ h2 (by simp; omega) (by omega), T_cons]
theorem All_eq (s : ByteArray) (hs : s.size ≤ 20000) (k : Nat) (hk : s.size + 1 < k) : lexer_All.f k s = T [] (toksP s (skip s false 0)) := by
  unfold lexer_All.f
  rw [if_neg (by omega)]
  exact All_l0 s hs k 0 [] (by omega) (by simp) (by omega)
theorem All_long (s : ByteArray) (hs : ¬ s.size ≤ 20000) (k : Nat) : lexer_All.f k s = some ([], 0, 3) := by
  unfold lexer_All.f
  rw [if_pos (by omega)]

/-! ### the reference's -/
theorem letterR (c : Int) : quittanceref07_letter.f c = some (letterB c) := letterB_some c
theorem digitR (c : Int) : quittanceref07_digit.f c = some (digitB c) := digitB_some c
theorem goesR (k c : Int) (h : k = 1 ∨ k = 2) : quittanceref07_goes.f k c = some (goB k c) := by
  unfold quittanceref07_goes.f
  rw [letterR, digitR]
  rcases h with rfl | rfl
  · rw [if_pos rfl]
    unfold goB inWordB
    rw [if_pos rfl]
    cases letterB c <;> cases digitB c <;> simp
  · rw [if_neg (by decide)]
    unfold goB inNumberB
    simp only [Option.bind_some]
    simp only [show ¬ ((2 : Int) = 1) from by decide, if_false, if_true]
    repeat' split
    all_goals first | rfl | (rename_i h; exact absurd rfl h) | simp_all
theorem kindR (s : ByteArray) (hs : s.size ≤ 20000) (k : Nat) (p : Nat) (hp : p < s.size) : quittanceref07_kind.f (k + 1) s (p : Int) = some (kindAt s p) := by
  unfold quittanceref07_kind.f
  rw [if_pos (by omega), if_pos (by omega), letterR, digitR, wr p _ hp hs]
  simp only [Option.bind_some, quittanceref07_kind.j0]
  unfold kindAt
  by_cases c1 : letterB (bt s p) = true
  · rw [if_pos c1, if_pos c1]
  rw [if_neg c1, if_neg c1]
  by_cases c2 : digitB (bt s p) = true
  · rw [if_pos c2, if_pos c2]
    simp
  rw [if_neg c2, if_neg c2, digitR]
  simp only [Option.bind_some]
  by_cases c3 : bt s p = 45
  · by_cases c4 : p + 1 < s.size
    · have c4' : (((p + 1 : Nat) : Int) < (s.size : Int)) := by omega
      have c4'' : (0 : Int) ≤ ((p + 1 : Nat) : Int) := by omega
      by_cases c5 : digitB (bt s ((p + 1 : Nat) : Int)) = true
      · rw [if_pos c3, if_pos c4', if_pos c4'', if_pos c5, if_pos ⟨c3, c4, c5⟩]
      · have n : ¬ (bt s p = 45 ∧ p + 1 < s.size ∧ digitB (bt s ((p + 1 : Nat) : Int)) = true) := fun h => c5 h.2.2
        replace c5 := Bool.eq_false_iff.mpr c5
        rw [if_pos c3, if_pos c4', if_pos c4'', if_neg n, c5]
        simp [c3]
    · have c4' : ¬ (((p + 1 : Nat) : Int) < (s.size : Int)) := by omega
      have n : ¬ (bt s p = 45 ∧ p + 1 < s.size ∧ digitB (bt s ((p + 1 : Nat) : Int)) = true) := fun h => c4 h.2.1
      rw [if_pos c3, if_neg c4', if_neg n]
      simp [c3]
  · have n : ¬ (bt s p = 45 ∧ p + 1 < s.size ∧ digitB (bt s ((p + 1 : Nat) : Int)) = true) := fun h => c3 h.1
    rw [if_neg c3, if_neg n]
    by_cases a1 : bt s p = 123
    · simp [a1]
    by_cases a2 : bt s p = 125
    · simp [a2]
    by_cases a3 : bt s p = 59
    · simp [a3]
    simp [a1, a2, a3]
/-- From a token on, behind its first byte. -/
theorem l2R (s : ByteArray) (hs : s.size ≤ 20000) (kd : Int) (hkd : kd = 1 ∨ kd = 2 ∨ kd = 3) (p : Nat) (l : List S29) (hl : l.length ≤ p)
    (ih : ∀ (i : Nat) (k : Nat) (l : List S29), p < i → i ≤ s.size → l.length ≤ i → 6 * (s.size - i) + 8 ≤ k → quittanceref07_All.l0 k s l (i : Int) = T l (toksP s (skip s false i))) (d : Nat) :
    ∀ (i k : Nat), s.size - i ≤ d → p < i → i ≤ s.size → 6 * (s.size - i) + 9 ≤ k →
    quittanceref07_All.l2 k s l (i : Int) kd (p : Int) = T (l ++ [⟨kd, (p : Int), s.extract p (span s (goB kd) i)⟩]) (toksP s (skip s false (span s (goB kd) i))) := by
  have fin : ∀ (i k : Nat), p < i → i ≤ s.size → 6 * (s.size - i) + 8 ≤ k → (if 0 ≤ (p : Int) then (if (p : Int) ≤ (i : Int) then (if (i : Int) ≤ (s.size : Int) then (if l.length < 4398046511104 then (quittanceref07_All.l0 k s (l ++ [(⟨kd, (p : Int), s.extract ((p : Int) : Int).toNat ((i : Int) : Int).toNat⟩ : S29)]) (i : Int)) else (none)) else (none)) else (none)) else (none)) = T (l ++ [⟨kd, (p : Int), s.extract p i⟩]) (toksP s (skip s false i)) := by
    intro i k h1 h2 h3
    rw [if_pos (by omega), if_pos (by omega), if_pos (by omega), if_pos (by omega), ih i k _ h1 h2 (by simp; omega) h3]
    rfl
  induction d with
  | zero =>
    intro i k h1 h2 h3 h4
    obtain ⟨k, rfl⟩ : ∃ m, k = m + 1 := ⟨k - 1, by omega⟩
    unfold quittanceref07_All.l2
    have e : span s (goB kd) i = i := by unfold span; rw [dif_neg (by omega)]
    have c : ¬ ((i : Int) < (s.size : Int)) := by omega
    rw [e, if_neg c, fin i k h2 h3 (by omega)]
    simp
  | succ d ihd =>
    intro i k h1 h2 h3 h4
    obtain ⟨k, rfl⟩ : ∃ m, k = m + 1 := ⟨k - 1, by omega⟩
    unfold quittanceref07_All.l2
    by_cases c3 : kd = 3
    · have e : span s (goB kd) i = i := by
        unfold span
        subst c3
        have : goB 3 (bt s i) = false := rfl
        rw [this]
        simp
      rw [e, if_pos c3, fin i k h2 h3 (by omega)]
    rw [if_neg c3]
    by_cases c : i < s.size
    · have c' : ((i : Int) < (s.size : Int)) := by omega
      have c0 : (0 : Int) ≤ (i : Int) := by omega
      rw [if_pos c', if_pos c0, goesR kd _ (by omega)]
      simp only [Option.bind_some]
      by_cases g : goB kd (bt s i) = true
      · have e : span s (goB kd) i = span s (goB kd) (i + 1) := by
          conv => lhs; unfold span
          rw [dif_pos c, if_pos g]
        rw [if_pos g, wr i _ c hs, e]
        exact ihd (i + 1) k (by omega) (by omega) (by omega) (by omega)
      · have e : span s (goB kd) i = i := by
          unfold span
          rw [dif_pos c, if_neg g]
        rw [if_neg g, e, fin i k h2 h3 (by omega)]
    · have c' : ¬ ((i : Int) < (s.size : Int)) := by omega
      have e : span s (goB kd) i = i := by unfold span; rw [dif_neg c]
      rw [if_neg c', e, fin i k h2 h3 (by omega)]
theorem l0l1 (s : ByteArray) (hs : s.size ≤ 20000) (d : Nat) :
    (∀ (i k : Nat) (l : List S29), s.size - i ≤ d → i ≤ s.size → l.length ≤ i → 6 * (s.size - i) + 8 ≤ k → quittanceref07_All.l0 k s l (i : Int) = T l (toksP s (skip s false i))) ∧
    (∀ (i k : Nat) (l : List S29), s.size - i ≤ d → i ≤ s.size → l.length ≤ i → 6 * (s.size - i) + 11 ≤ k → quittanceref07_All.l1 k s l (i : Int) = T l (toksP s (skip s true i))) := by
  have fin : ∀ (i k : Nat) (l : List S29), ¬ i < s.size → i ≤ s.size → l.length ≤ i → 1 ≤ k → quittanceref07_All.l0 k s l (i : Int) = T l (toksP s i) := by
    intro i k l c hi hl hk
    obtain ⟨k, rfl⟩ : ∃ m, k = m + 1 := ⟨k - 1, by omega⟩
    unfold quittanceref07_All.l0
    have c' : ¬ ((i : Int) < (s.size : Int)) := by omega
    unfold toksP
    rw [if_neg c', dif_neg c, if_pos (by omega)]
    simp [T]
  have sk : ∀ (b : Bool) (i : Nat), ¬ i < s.size → skip s b i = i := by
    intro b i c
    unfold skip
    rw [dif_neg c]
  induction d with
  | zero =>
    constructor
    · intro i k l h1 h2 h3 h4
      rw [sk _ _ (by omega)]
      exact fin i k l (by omega) h2 h3 (by omega)
    · intro i k l h1 h2 h3 h4
      obtain ⟨k, rfl⟩ : ∃ m, k = m + 1 := ⟨k - 1, by omega⟩
      unfold quittanceref07_All.l1
      have c' : ¬ ((i : Int) < (s.size : Int)) := by omega
      rw [if_neg c', sk _ _ (by omega)]
      exact fin i k l (by omega) h2 h3 (by omega)
  | succ d ih =>
    obtain ⟨ih0, ih1⟩ := ih
    have A : ∀ (i k : Nat) (l : List S29), s.size - i ≤ d + 1 → i ≤ s.size → l.length ≤ i → 6 * (s.size - i) + 8 ≤ k → quittanceref07_All.l0 k s l (i : Int) = T l (toksP s (skip s false i)) := by
      intro i k l h1 h2 h3 h4
      by_cases c : i < s.size
      · obtain ⟨k, rfl⟩ : ∃ m, k = m + 3 := ⟨k - 3, by omega⟩
        have c' : ((i : Int) < (s.size : Int)) := by omega
        have c0 : (0 : Int) ≤ (i : Int) := by omega
        have e : skip s false i = (if bt s i = 10 then skip s false (i + 1) else if bt s i = 35 then skip s true (i + 1) else if bt s i = 32 then skip s false (i + 1) else if bt s i = 9 then skip s false (i + 1) else i) := by
          conv => lhs; unfold skip
          rw [dif_pos c]
          simp
        rw [e]
        have white : quittanceref07_All.j1 (k + 2) s l (i : Int) (bt s i) true = T l (toksP s (skip s false (i + 1))) := by
          unfold quittanceref07_All.j1
          rw [if_pos rfl, wr i _ c hs]
          exact ih0 (i + 1) (k + 1) l (by omega) (by omega) (by omega) (by omega)
        unfold quittanceref07_All.l0
        rw [if_pos c', if_pos c0]
        by_cases w1 : bt s i = 32
        · rw [if_pos w1, white]
          simp [w1]
        rw [if_neg w1]
        by_cases w2 : bt s i = 9
        · rw [if_pos w2, white]
          simp [w2]
        rw [if_neg w2]
        by_cases w3 : bt s i = 10
        · have : ((bt s i) == 10) = true := beq_iff_eq.mpr w3
          rw [this, white]
          simp [w3]
        have : ((bt s i) == 10) = false := beq_eq_false_iff_ne.mpr w3
        rw [this]
        unfold quittanceref07_All.j1
        rw [if_neg (by decide)]
        by_cases w4 : bt s i = 35
        · rw [if_pos w4]
          unfold quittanceref07_All.l1
          rw [if_pos c', if_pos c0, if_neg w3, wr i _ c hs, ih1 (i + 1) k l (by omega) (by omega) (by omega) (by omega)]
          simp [w4]
        rw [if_neg w4, kindR s hs k i c]
        simp only [Option.bind_some, w1, w2, w3, w4, if_false]
        unfold toksP
        rw [dif_pos c]
        by_cases n : kindAt s i = -1
        · rw [if_pos n, if_pos (by omega)]
          simp [T]
        have hk := kindAt_cases s i
        rw [if_neg n, if_neg (by omega), wr i _ c hs, l2R s hs (kindAt s i) (by omega) i l h3 (fun j k' l' g1 g2 g3 g4 => ih0 j k' l' (by omega) g2 g3 g4) s.size (i + 1) (k + 1) (by omega) (by omega) (by omega) (by omega), T_cons]
      · rw [sk _ _ c]
        exact fin i k l c h2 h3 (by omega)
    refine ⟨A, ?_⟩
    intro i k l h1 h2 h3 h4
    obtain ⟨k, rfl⟩ : ∃ m, k = m + 1 := ⟨k - 1, by omega⟩
    unfold quittanceref07_All.l1
    by_cases c : i < s.size
    · have c' : ((i : Int) < (s.size : Int)) := by omega
      have c0 : (0 : Int) ≤ (i : Int) := by omega
      have e : skip s true i = (if bt s i = 10 then skip s false (i + 1) else skip s true (i + 1)) := by
        conv => lhs; unfold skip
        rw [dif_pos c]
        by_cases w : bt s i = 10
        · simp [w]
        · by_cases w2 : bt s i = 35 <;> simp [w, w2]
      rw [if_pos c', if_pos c0, e]
      by_cases w : bt s i = 10
      · rw [if_pos w, if_pos w, A i k l h1 h2 h3 (by omega)]
        have e2 : skip s false i = skip s false (i + 1) := by
          conv => lhs; unfold skip
          rw [dif_pos c, if_pos w]
        rw [e2]
      · rw [if_neg w, if_neg w, wr i _ c hs]
        exact ih1 (i + 1) k l (by omega) (by omega) (by omega) (by omega)
    · have c' : ¬ ((i : Int) < (s.size : Int)) := by omega
      rw [if_neg c', sk _ _ c]
      exact fin i k l c h2 h3 (by omega)
theorem AllR_eq (s : ByteArray) (hs : s.size ≤ 20000) (k : Nat) (hk : 6 * s.size + 8 ≤ k) : quittanceref07_All.f k s = T [] (toksP s (skip s false 0)) := by
  unfold quittanceref07_All.f
  rw [if_neg (by omega)]
  exact (l0l1 s hs s.size).1 0 k [] (by omega) (by omega) (by simp) (by omega)
theorem AllR_long (s : ByteArray) (hs : ¬ s.size ≤ 20000) (k : Nat) : quittanceref07_All.f k s = some ([], 0, 3) := by
  unfold quittanceref07_All.f
  rw [if_pos (by omega)]
/-! ### what is alike -/
theorem same_refl (l : List S29) (hl : l.length ≤ 9000000000000000000) (k : Nat) : ∀ (i : Nat), i ≤ l.length → l.length - i < k → api_Token__at_17.l0 k l l (i : Int) = some true := by
  induction k with
  | zero => intro i h1 h2; omega
  | succ k ih =>
    intro i h1 h2
    unfold api_Token__at_17.l0
    by_cases c : i < l.length
    · rw [if_pos (by omega), if_pos (by omega), if_pos (by omega)]
      have e : wrap64 ((i : Int) + 1) = ((i + 1 : Nat) : Int) := by unfold wrap64; omega
      simp only [api_Token_1.f, beq_self_eq_true, Bool.and_self, Option.bind_some, if_true]
      rw [e]
      exact ih (i + 1) (by omega) (by omega)
    · rw [if_neg (by omega)]
theorem plain_refl (l : List S29) (hl : l.length ≤ 9000000000000000000) (k : Nat) (hk : l.length < k) : api_Token_11.f k l l = some true := by
  unfold api_Token_11.f api_Token__at_17.f
  rw [if_pos rfl]
  have h := same_refl l hl k 0 (by omega) (by omega)
  first
  | rw [h]; rfl
  | (have h' : api_Token__at_17.l0 k l l 0 = some true := h; rw [h']; rfl)
theorem toks_len (s : ByteArray) (d : Nat) : ∀ (p : Nat), s.size - p ≤ d → (toksP s p).1.length ≤ s.size - p + 1 := by
  induction d with
  | zero =>
    intro p h
    unfold toksP
    rw [dif_neg (by omega)]
    simp
  | succ d ih =>
    intro p h
    unfold toksP
    by_cases c : p < s.size
    · rw [dif_pos c]
      have h1 := span_ge' s (goB (kindAt s p)) (p + 1)
      have h2 := skip_ge' s false (span s (goB (kindAt s p)) (p + 1))
      split
      · simp
      · have h3 := ih (skip s false (span s (goB (kindAt s p)) (p + 1))) (by omega)
        simp only [List.length_cons]
        omega
    · rw [dif_neg c]
      simp
theorem awake_60 : quittancelaw07_awake.f 60 = some true := by decide +kernel
theorem awake_eq (k : Nat) (hk : 60 ≤ k) : quittancelaw07_awake.f k = some true := by
  obtain ⟨d, rfl⟩ : ∃ d, k = 60 + d := ⟨k - 60, by omega⟩
  clear hk
  induction d with
  | zero => exact awake_60
  | succ d ih => exact quittancelaw07_awake.mono _ _ ih
end Go.Proofs.Ytgcodjjkpbnadaa.Pure
