/- A text of 20000 equal letters is one word and the end; of 20001 it is refused with ErrRange. No condition beyond the statement's own. -/
import Derived.Test.YtgcodjjkpbnadaaLex
import Derived.Test.YtgcodjjkpbnadaaPx27
import Derived.Lib.Bytes
namespace Go.Proofs.Ytgcodjjkpbnadaa.Pure
open Go.RowKit Go.Proofs.Ytgcodjjkpbnadaa.P Go.Proofs.YtgcodjjkpbnadaaW.PrintWords Go.Proofs.YtgcodjjkpbnadaaW.PrintLast
set_option linter.unusedVariables false

theorem strOf_data (xs : List Int) : (strOfNums xs).data.toList = xs.map fun n => UInt8.ofNat n.toNat := by
  have h := Go.Lib.strOfNums_toList xs
  rw [Go.Lib.toList_data] at h
  exact h
theorem strOf_size (xs : List Int) : (strOfNums xs).size = xs.length := by
  have h := congrArg List.length (strOf_data xs)
  rw [List.length_map, Array.length_toList] at h
  exact h
theorem strOf_bt (n : Nat) (c : Int) (h0 : 0 ≤ c) (h1 : c ≤ 255) (i : Nat) (hi : i < n) : bt (strOfNums (List.replicate n c)) (i : Int) = c := by
  have hs : (strOfNums (List.replicate n c)).size = n := by rw [strOf_size, List.length_replicate]
  unfold bt
  have hlt : (i : Int).toNat < (strOfNums (List.replicate n c)).size := by rw [hs]; omega
  rw [dif_pos hlt]
  have e : (strOfNums (List.replicate n c))[(i : Int).toNat] = UInt8.ofNat c.toNat := by
    have h := strOf_data (List.replicate n c)
    rw [List.map_replicate] at h
    have h2 : (strOfNums (List.replicate n c)).data.toList[(i : Int).toNat]? = some (UInt8.ofNat c.toNat) := by
      rw [h, List.getElem?_replicate, if_pos (by omega)]
    rw [Array.getElem?_toList] at h2
    have h3 := Array.getElem?_eq_some_iff.1 h2
    obtain ⟨_, h4⟩ := h3
    exact h4
  rw [e]
  simp only [UInt8.toNat_ofNat']
  omega
/-- The loop that fills the text. -/
theorem fill (a0 : Int) (a1 : Bool) (n : Nat) (hn : n ≤ 20001) (d : Nat) : ∀ (i k : Nat), n - i = d → i ≤ n → d < k →
    quittancelaw07_LexerLong.l0 k a0 a1 (n : Int) (List.replicate i ((97 + (Int.tmod a0 26)) % 256) ++ List.replicate (n - i) 0) (n : Int) (i : Int) =
    quittancelaw07_LexerLong.l0 (k - d) a0 a1 (n : Int) (List.replicate n ((97 + (Int.tmod a0 26)) % 256)) (n : Int) (n : Int) := by
  induction d with
  | zero =>
    intro i k h1 h2 h3
    obtain rfl : i = n := by omega
    simp
  | succ d ih =>
    intro i k h1 h2 h3
    obtain ⟨k, rfl⟩ : ∃ m, k = m + 1 := ⟨k - 1, by omega⟩
    conv => lhs; unfold quittancelaw07_LexerLong.l0
    have e : wrap64 ((i : Int) + 1) = ((i + 1 : Nat) : Int) := by unfold wrap64; omega
    have e2 : (List.replicate i ((97 + (Int.tmod a0 26)) % 256) ++ List.replicate (n - i) 0).set (i : Int).toNat ((97 + (Int.tmod a0 26)) % 256) = List.replicate (i + 1) ((97 + (Int.tmod a0 26)) % 256) ++ List.replicate (n - (i + 1)) 0 := by
      rw [show (i : Int).toNat = i from by omega, List.set_append, if_neg (by simp), List.length_replicate, Nat.sub_self, show n - i = (n - (i + 1)) + 1 from by omega, List.replicate_succ, List.set_cons_zero, List.replicate_succ', List.append_assoc]
      rfl
    rw [if_pos (by omega), if_pos (by omega), if_pos (by simp; omega), e, e2, ih (i + 1) k (by omega) (by omega) (by omega), show k + 1 - (d + 1) = k - d from by omega]
theorem word_span (s : ByteArray) (g : Int → Bool) (hg : ∀ i : Nat, i < s.size → g (bt s i) = true) (d : Nat) : ∀ i, s.size - i = d → i ≤ s.size → span s g i = s.size := by
  induction d with
  | zero => intro i h1 h2; unfold span; rw [dif_neg (by omega)]; omega
  | succ d ih =>
    intro i h1 h2
    unfold span
    rw [dif_pos (by omega), if_pos (hg i (by omega)), ih (i + 1) (by omega) (by omega)]
theorem LexerLong : quittancelaw07_LexerLong.Pure := by
  intro a0 a1 hw
  have hb : 0 ≤ a0 ∧ a0 ≤ 255 := by
    have h := hw
    simp [Lit.wf, IntKind.min, IntKind.max, IntKind.bits, IntKind.signed] at h
    omega
  have hc : 97 ≤ (97 + (Int.tmod a0 26)) % 256 ∧ (97 + (Int.tmod a0 26)) % 256 ≤ 122 := by
    have h1 := Int.tmod_nonneg 26 hb.1
    have h2 := Int.tmod_lt_of_pos a0 (show (0 : Int) < 26 by decide)
    omega
  have main : ∀ n : Nat, (n = 20001 ∧ a1 = true ∨ n = 20000 ∧ a1 = false) → quittancelaw07_LexerLong.j0 (199999 + 1) a0 a1 (n : Int) = some true := by
    intro n hn
    have key := fill a0 a1 n (by omega) n 0 199999 (by omega) (by omega) (by omega)
    simp only [quittancelaw07_LexerLong.j0]
    rw [if_pos (by omega), if_pos (by omega)]
    simp only [Option.bind_some, List.length_replicate]
    rw [show (n : Int).toNat = n from by omega]
    simp only [List.replicate_zero, List.nil_append, Nat.sub_zero] at key
    have key2 : quittancelaw07_LexerLong.l0 199999 a0 a1 (n : Int) (List.replicate n 0) (n : Int) 0 = quittancelaw07_LexerLong.l0 (199999 - n) a0 a1 (n : Int) (List.replicate n ((97 + (Int.tmod a0 26)) % 256)) (n : Int) (n : Int) := key
    rw [key2]
    obtain ⟨k, hk⟩ : ∃ m, 199999 - n = m + 1 := ⟨199998 - n, by omega⟩
    rw [hk]
    unfold quittancelaw07_LexerLong.l0
    rw [if_neg (by omega)]
    generalize hC : (97 + (Int.tmod a0 26)) % 256 = c at hc ⊢
    have hs : (strOfNums (List.replicate n c)).size = n := by rw [strOf_size, List.length_replicate]
    have hbt := strOf_bt n c (by omega) (by omega)
    generalize strOfNums (List.replicate n c) = s at hs hbt ⊢
    rw [awake_eq k (by omega)]
    rcases hn with ⟨rfl, rfl⟩ | ⟨rfl, rfl⟩
    · rw [All_long s (by omega)]
      simp
    · have hl : letterB c = true := by
        unfold letterB
        rw [if_pos (by omega), if_pos (by omega)]
      have hb0 : bt s ((0 : Nat) : Int) = c := hbt 0 (by omega)
      have hk0 : skip s false 0 = 0 := by
        unfold skip
        rw [dif_pos (by omega), hb0, if_neg (by omega), if_neg (by omega), if_neg (by decide), if_neg (by omega), if_neg (by omega)]
      have hkd : kindAt s 0 = 1 := by
        unfold kindAt
        rw [hb0, if_pos hl]
      have hsp : span s (goB 1) 1 = s.size := by
        refine word_span s (goB 1) (fun i hi => ?_) (s.size - 1) 1 (by omega) (by omega)
        rw [hbt i (by omega)]
        unfold goB inWordB
        rw [if_pos rfl, if_pos hl]
      have hkn : skip s false s.size = s.size := by
        unfold skip
        rw [dif_neg (by omega)]
      have ht : toksP s 0 = ([⟨1, 0, s.extract 0 s.size⟩, ⟨0, (s.size : Int), ⟨#[]⟩⟩], none) := by
        unfold toksP
        rw [dif_pos (by omega), hkd, if_neg (by decide), hsp, hkn]
        unfold toksP
        rw [dif_neg (by omega)]
        rfl
      rw [All_eq s (by omega) k (by omega), hk0, ht]
      simp [T, rd_T29, hs]
  unfold quittancelaw07_LexerLong.f
  refine ⟨199999 + 1, ?_⟩
  cases a1 with
  | true => rw [if_pos rfl]; exact main 20001 (.inl ⟨rfl, rfl⟩)
  | false => rw [if_neg (by decide)]; exact main 20000 (.inr ⟨rfl, rfl⟩)
end Go.Proofs.Ytgcodjjkpbnadaa.Pure
