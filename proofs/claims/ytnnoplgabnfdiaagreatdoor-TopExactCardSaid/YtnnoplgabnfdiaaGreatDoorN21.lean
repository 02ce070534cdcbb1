/- Part 21 of a proof over the shadow machine. -/
import Derived.Test.YtnnoplgabnfdiaaGreatDoorN20
/- The shadow machine over this program: what may be a name, by the reference. -/
namespace Go.Proofs.YtnnoplgabnfdiaaGreatDoor.Sh
open Go Go.RowKit
set_option linter.unusedVariables false
set_option linter.unusedSimpArgs false
set_option maxRecDepth 100000
set_option maxHeartbeats 4000000
theorem in56 : ∀ vs ob r, inQ vs = some (ob, r) → conj ob → SCall Tryz.prog 56 vs [] (Told r) := in_of fun v a b => by
  refine scall_of (cfg_ok env_nil 0) Tryz.func56 (by kernel_rfl) rfl ?_
  generalize hK : Told _ = K
  conv => whnf
  subst hK
  exact told_bool rfl
def isF (y : Int) : Bool := bif decide (y ≥ -25567) then decide (y ≤ 84370) else false
def isR : QSpec := fun vs => match vs with | [.int .i64 y] => some ([True], .bool (isF y)) | _ => none
theorem isAny114 : ∀ vs ob r, isR vs = some (ob, r) → conj ob → SCall Tryz.prog 114 vs [] (Told r) := one_of (p := fun _ => True) fun y hy => by
  refine scall_of (cfg_ok env_nil 0) Tryz.func114 (by kernel_rfl) rfl ?_
  generalize hK : Told _ = K
  conv => whnf
  subst hK
  exact told_bool rfl
def wordsB : List ByteArray := [⟨#[112, 114, 111, 100, 117, 99, 116]⟩, ⟨#[99, 111, 117, 110, 116]⟩, ⟨#[116, 104, 105, 114, 116, 121]⟩, ⟨#[102, 105, 120, 101, 100]⟩, ⟨#[97, 99, 116, 117, 97, 108]⟩, ⟨#[114, 111, 117, 110, 100]⟩, ⟨#[104, 97, 108, 102, 45, 117, 112]⟩, ⟨#[100, 111, 119, 110]⟩, ⟨#[107, 105, 110, 100]⟩, ⟨#[97, 110, 110, 117, 105, 116, 121]⟩, ⟨#[101, 113, 117, 97, 108]⟩, ⟨#[98, 117, 108, 108, 101, 116]⟩, ⟨#[101, 118, 101, 114, 121]⟩, ⟨#[116, 105, 109, 101, 115]⟩, ⟨#[103, 114, 97, 99, 101]⟩, ⟨#[114, 97, 116, 101]⟩, ⟨#[112, 101, 110, 97, 108, 116, 121]⟩, ⟨#[114, 101, 115, 101, 116]⟩, ⟨#[108, 97, 116, 101]⟩, ⟨#[99, 97, 112]⟩, ⟨#[104, 111, 108, 105, 100, 97, 121]⟩, ⟨#[111, 114, 100, 101, 114]⟩, ⟨#[102, 101, 101, 115]⟩, ⟨#[105, 110, 116, 101, 114, 101, 115, 116]⟩, ⟨#[112, 114, 105, 110, 99, 105, 112, 97, 108]⟩, ⟨#[111, 118, 101, 114]⟩, ⟨#[104, 111, 108, 100]⟩, ⟨#[112, 114, 101, 112, 97, 121]⟩, ⟨#[114, 101, 102, 117, 110, 100]⟩, ⟨#[114, 111, 108, 108]⟩, ⟨#[115, 116, 97, 121]⟩, ⟨#[110, 101, 120, 116]⟩, ⟨#[119, 105, 116, 104, 105, 110]⟩, ⟨#[112, 114, 101, 118, 105, 111, 117, 115]⟩]
def wordsR : Nat → List RV := fun i => [.str (nth ⟨#[]⟩ wordsB i)]
theorem ro_cap {s n : Nat} {c : Option Nat} {r : Nat → List RV} : Wk (.ro s n c r) (.ro s n none r) := fun w Fz g v hv => by
  obtain ⟨A, cc, cs, rfl, hl, hcap, h1, h2⟩ := inv_ro2 hv
  have hle : n ≤ c.getD n := by
    cases c with
    | none => exact Nat.le_refl _
    | some m => have := hcap m rfl; show n ≤ m; omega
  exact .ro _ _ _ _ _ (.ro _ _ _ _ _ _ cs hl (fun n hn => by cases hn) (fun i hi => h1 i (Nat.lt_of_lt_of_le hi hle)) (fun i hi => h2 i (Nat.lt_of_lt_of_le hi hle)))
theorem Wk.trans {x y z : AV} (h1 : Wk x y) (h2 : Wk y z) : Wk x z := fun w Fz g v hv => h2 _ _ _ _ (h1 _ _ _ _ hv)
theorem words113 : SCall Tryz.prog 113 [] [] (Told (.ro 1 34 none wordsR)) := by
  refine scall_of (cfg_ok env_nil 0) Tryz.func113 (by kernel_rfl) rfl ?_
  generalize hK : Told _ = K
  conv => whnf
  subst hK
  refine told_wk trivial (Wk.trans ro_cap (ro_congr fun i hi => ?_))
  match i, hi with
  | 0, _ => rfl
  | 1, _ => rfl
  | 2, _ => rfl
  | 3, _ => rfl
  | 4, _ => rfl
  | 5, _ => rfl
  | 6, _ => rfl
  | 7, _ => rfl
  | 8, _ => rfl
  | 9, _ => rfl
  | 10, _ => rfl
  | 11, _ => rfl
  | 12, _ => rfl
  | 13, _ => rfl
  | 14, _ => rfl
  | 15, _ => rfl
  | 16, _ => rfl
  | 17, _ => rfl
  | 18, _ => rfl
  | 19, _ => rfl
  | 20, _ => rfl
  | 21, _ => rfl
  | 22, _ => rfl
  | 23, _ => rfl
  | 24, _ => rfl
  | 25, _ => rfl
  | 26, _ => rfl
  | 27, _ => rfl
  | 28, _ => rfl
  | 29, _ => rfl
  | 30, _ => rfl
  | 31, _ => rfl
  | 32, _ => rfl
  | 33, _ => rfl
  | n + 34, h => exact absurd h (by omega)
theorem any_false {p : ByteArray → Bool} {L : List ByteArray} (h : ∀ i, i < L.length → p (nth ⟨#[]⟩ L i) = false) : L.any p = false := by
  induction L with
  | nil => rfl
  | cons a L ih => rw [List.any_cons, show p a = false from h 0 (by simp), ih fun i hi => h (i + 1) (by simpa using hi)]; rfl
theorem any_true {p : ByteArray → Bool} {L : List ByteArray} {i : Nat} (hi : i < L.length) (h : p (nth ⟨#[]⟩ L i) = true) : L.any p = true := by
  induction L generalizing i with
  | nil => exact absurd hi (by simp)
  | cons a L ih => cases i with
    | zero => rw [List.any_cons, show p a = true from h]; rfl
    | succ i => rw [List.any_cons, ih (by simpa using hi) h, Bool.or_true]
theorem in112 (s : ByteArray) : SCall Tryz.prog 112 [.ro 1 34 none wordsR, .str s] [] (Told (.bool (wordsB.any fun x => x.data.toList == s.data.toList))) := by
  refine scall_of (cfg_ok env_nil 0) Tryz.func112 (by kernel_rfl) rfl ?_
  generalize hK : Told _ = K
  conv => whnf
  refine .inr ⟨[], [0, 1, 5], 0, fun m st => ∃ i : Nat, m = 34 - i ∧ i ≤ 34 ∧ (∀ j, j < i → ((nth ⟨#[]⟩ wordsB j).data.toList == s.data.toList) = false) ∧ st = ⟨.ro 1 34 none wordsR :: .str s :: .top :: .top :: .top :: .int .i64 i :: List.replicate 12 .top, []⟩, Nat.zero_le _, ⟨_, _, ?_, 0, rfl, Nat.zero_le _, (fun j hj => absurd hj (by omega)), rfl⟩, ?_⟩
  · exact seq_rfl _
  rintro m st ⟨i, rfl, hi, hN, rfl⟩
  conv => whnf
  refine bsplit (fun h => ?_) (fun h => ?_)
  · have hlt : i < 34 := by have := of_decide_eq_true h; omega
    conv => whnf
    refine ⟨⟨by omega, by omega⟩, ?_⟩
    rw [show ((i : Int)).toNat = i from Int.toNat_natCast i]
    conv => whnf
    refine bsplit (fun h => ?_) (fun h => ?_)
    · conv => whnf
      subst hK
      exact told_bool (any_true (p := fun x => x.data.toList == s.data.toList) (i := i) (by rw [show wordsB.length = 34 from rfl]; exact hlt) h).symm
    · conv => whnf
      refine ⟨34 - (i + 1), _, by omega, ?_, i + 1, rfl, by omega, fun j hj => ?_, rfl⟩
      · rw [show ((i + 1 : Nat) : Int) = IntKind.i64.wrap ((i : Int) + 1) from by rw [w64 (by omega) (by omega)]; rfl]
        exact seq_rfl _
      · by_cases e : j = i
        · rw [e]; exact h
        · exact hN j (by omega)
  · conv => whnf
    have hii : i = 34 := by have := of_decide_eq_false h; omega
    subst hii
    subst hK
    exact told_bool (any_false (p := fun x => x.data.toList == s.data.toList) (L := wordsB) fun j hj => hN j hj).symm
/-- Which texts are names: their bytes, their length, and not a word. -/
def badR (s : ByteArray) (i : Nat) : Bool := bif !(bif decide (byteAt s i ≥ 97) then decide (byteAt s i ≤ 122) else false) then (bif (i : Int) == 0 then true else !(bif (bif decide (byteAt s i ≥ 48) then decide (byteAt s i ≤ 57) else false) then true else byteAt s i == 45)) else false
def goodN (s : ByteArray) : Prop := ∀ i, i < s.size → badR s i = false
noncomputable def nmF (s : ByteArray) : Bool := @decide (goodN s ∧ 1 ≤ s.size ∧ s.size ≤ 20 ∧ (wordsB.any fun x => x.data.toList == s.data.toList) = false) (Classical.propDecidable _)
theorem nmF_true {s : ByteArray} (h : goodN s ∧ 1 ≤ s.size ∧ s.size ≤ 20 ∧ (wordsB.any fun x => x.data.toList == s.data.toList) = false) : nmF s = true := by unfold nmF; exact @decide_eq_true _ (_) h
theorem nmF_false {s : ByteArray} (h : ¬ (goodN s ∧ 1 ≤ s.size ∧ s.size ≤ 20 ∧ (wordsB.any fun x => x.data.toList == s.data.toList) = false)) : nmF s = false := by unfold nmF; exact @decide_eq_false _ (_) h
def envPd1 (s : ByteArray) : Env := [(112, exQ [.ro 1 34 none wordsR, .str s] (.bool (wordsB.any fun x => x.data.toList == s.data.toList))), (113, exQ [] (.ro 1 34 none wordsR))]
theorem envPd1_ok (s : ByteArray) : EnvOK Tryz.prog (envPd1 s) := env_cons (exQ_of (in112 s)) (env_cons (exQ_of words113) env_nil)
theorem name55 (s : ByteArray) (hz : s.size < 9223372036854775808) : SCall Tryz.prog 55 [.str s] [] (Told (.bool (nmF s))) := by
  refine scall_of (cfg_ok (envPd1_ok s) 0) Tryz.func55 (by kernel_rfl) rfl ?_
  generalize hK : Told _ = K
  conv => whnf
  refine .inr ⟨[], [0, 3], 0, fun m st => ∃ i : Nat, m = s.size - i ∧ i ≤ s.size ∧ (∀ j, j < i → badR s j = false) ∧ st = ⟨.str s :: .top :: .top :: .int .i64 i :: List.replicate 58 .top, []⟩, Nat.zero_le _, ⟨_, _, ?_, 0, rfl, Nat.zero_le _, (fun j hj => absurd hj (by omega)), rfl⟩, ?_⟩
  · exact seq_rfl _
  rintro m st ⟨i, rfl, hi, hN, rfl⟩
  conv => whnf
  refine bsplit (fun h => ?_) (fun h => ?_)
  · have hlt : i < s.size := by have := of_decide_eq_true h; omega
    conv => whnf
    refine ⟨⟨⟨by omega, by omega⟩, fun _ => ⟨by omega, by omega⟩⟩, ?_⟩
    rw [show ((i : Int)).toNat = i from Int.toNat_natCast i]
    conv => whnf
    refine ⟨⟨⟨by omega, by omega⟩, fun _ => ⟨by omega, by omega⟩, fun _ => ⟨by omega, by omega⟩⟩, ?_⟩
    rw [show ((i : Int)).toNat = i from Int.toNat_natCast i]
    conv => whnf
    refine bsplit (fun h => ?_) (fun h => ?_)
    · conv => whnf
      subst hK
      exact told_bool (nmF_false fun ⟨h1, _⟩ => by exact absurd (h1 i hlt) (by rw [show badR s i = true from h]; decide)).symm
    · conv => whnf
      refine ⟨s.size - (i + 1), _, by omega, ?_, i + 1, rfl, by omega, fun j hj => ?_, rfl⟩
      · rw [show ((i + 1 : Nat) : Int) = IntKind.i64.wrap ((i : Int) + 1) from by rw [w64 (by omega) (by omega)]; rfl]
        exact seq_rfl _
      · by_cases e : j = i
        · rw [e]; exact h
        · exact hN j (by omega)
  · conv => whnf
    have hii : i = s.size := by have := of_decide_eq_false h; omega
    subst hii
    refine ⟨⟨fun _ => rfl, fun _ => rfl⟩, ?_⟩
    conv => whnf
    subst hK
    refine told_bool ?_
    by_cases hx : goodN s ∧ 1 ≤ s.size ∧ s.size ≤ 20 ∧ (wordsB.any fun x => x.data.toList == s.data.toList) = false
    · rw [nmF_true hx]
      obtain ⟨_, h1, h2, h3⟩ := hx
      rw [decide_eq_true (show (s.size : Int) ≥ 1 by omega), decide_eq_true (show (s.size : Int) ≤ 20 by omega), h3]
      rfl
    · rw [nmF_false hx]
      by_cases h1 : (s.size : Int) ≥ 1
      · by_cases h2 : (s.size : Int) ≤ 20
        · rw [decide_eq_true h1, decide_eq_true h2]
          cases h3 : (wordsB.any fun x => x.data.toList == s.data.toList) with
          | false => exact absurd ⟨hN, by omega, by omega, h3⟩ hx
          | true => rfl
        · rw [decide_eq_true h1, decide_eq_false h2]; rfl
      · rw [decide_eq_false h1]; rfl
/-! ### Such a text is a name -/
def spl : List ByteArray → List UInt8
  | [] => [32]
  | w :: ws => 32 :: (w.data.toList ++ spl ws)
theorem pre_word {s w r : List UInt8} (hs : (32 : UInt8) ∉ s) (hw : (32 : UInt8) ∉ w) (h : s ++ [32] <+: w ++ 32 :: r) : s = w := by
  induction s generalizing w with
  | nil => cases w with
    | nil => rfl
    | cons b w => exact absurd (List.cons_prefix_cons.mp h).1 (fun e => hw (by rw [e]; exact List.mem_cons_self))
  | cons a s ih => cases w with
    | nil => exact absurd (List.cons_prefix_cons.mp h).1 (fun e => hs (by rw [e]; exact List.mem_cons_self))
    | cons b w =>
      obtain ⟨e, h2⟩ := List.cons_prefix_cons.mp h
      rw [e, ih (fun hm => hs (List.mem_cons_of_mem _ hm)) (fun hm => hw (List.mem_cons_of_mem _ hm)) h2]
theorem in_word {s w r : List UInt8} (hw : (32 : UInt8) ∉ w) (h : 32 :: (s ++ [32]) <:+: w ++ 32 :: r) : 32 :: (s ++ [32]) <:+: 32 :: r := by
  induction w with
  | nil => exact h
  | cons b w ih =>
    rcases List.infix_cons_iff.mp h with h1 | h1
    · exact absurd (List.cons_prefix_cons.mp h1).1 (fun e => hw (by rw [e]; exact List.mem_cons_self))
    · exact ih (fun hm => hw (List.mem_cons_of_mem _ hm)) h1
theorem in_spl {s : List UInt8} (hs : (32 : UInt8) ∉ s) : ∀ ws : List ByteArray, (∀ w ∈ ws, (32 : UInt8) ∉ w.data.toList) → 32 :: (s ++ [32]) <:+: spl ws → ∃ w ∈ ws, w.data.toList = s
  | [], _, h => by
    have := h.length_le
    simp [spl] at this
  | w :: ws, hw, h => by
    obtain ⟨r, hr⟩ : ∃ r, spl ws = 32 :: r := by cases ws <;> exact ⟨_, rfl⟩
    have hw0 := hw w List.mem_cons_self
    rw [show spl (w :: ws) = 32 :: (w.data.toList ++ spl ws) from rfl, hr] at h
    rcases List.infix_cons_iff.mp h with h1 | h1
    · exact ⟨w, List.mem_cons_self, (pre_word hs hw0 (List.cons_prefix_cons.mp h1).2).symm⟩
    · have h2 := in_word hw0 h1
      rw [← hr] at h2
      obtain ⟨x, hx, e⟩ := in_spl hs ws (fun w hm => hw w (List.mem_cons_of_mem _ hm)) h2
      exact ⟨x, List.mem_cons_of_mem _ hx, e⟩
theorem contains_infix {l sub : List UInt8} (h : Lib.contains l sub = true) : sub <:+: l := by
  unfold Lib.contains at h
  replace h := of_decide_eq_true h
  induction l with
  | nil =>
    unfold Lib.index at h
    cases sub with
    | nil => exact List.nil_infix
    | cons a b => rw [show (a :: b).isEmpty = false from rfl] at h; exact absurd h (by decide)
  | cons b l ih =>
    unfold Lib.index at h
    by_cases hp : sub.isPrefixOf (b :: l) = true
    · exact (List.isPrefixOf_iff_prefix.mp hp).isInfix
    · rw [if_neg hp] at h
      by_cases hi : (Lib.index l sub == -1) = true
      · rw [if_pos hi] at h; exact absurd h (by decide)
      · rw [if_neg hi] at h
        have hge := Lib.index_ge l sub
        have hne : Lib.index l sub ≠ -1 := fun e => hi (by rw [e]; rfl)
        exact List.infix_cons_iff.mpr (.inr (ih (by omega)))
theorem words_spl : wordsL = spl wordsB := by decide
theorem words_no : ∀ w ∈ wordsB, (32 : UInt8) ∉ w.data.toList := by decide
theorem rng_t {c a b : Int} (h : a ≤ c ∧ c ≤ b) : (bif decide (c ≥ a) then decide (c ≤ b) else false) = true := inF_iff.mpr h
theorem rng_f {c a b : Int} (h : ¬ (a ≤ c ∧ c ≤ b)) : (bif decide (c ≥ a) then decide (c ≤ b) else false) = false := by
  cases e : inF c a b with
  | true => exact absurd (inF_iff.mp e) h
  | false => exact e
theorem good_c {s : ByteArray} {i : Nat} (h : badR s i = false) : (97 ≤ byteAt s i ∧ byteAt s i ≤ 122) ∨ (i ≠ 0 ∧ ((48 ≤ byteAt s i ∧ byteAt s i ≤ 57) ∨ byteAt s i = 45)) := by
  by_cases a : 97 ≤ byteAt s i ∧ byteAt s i ≤ 122
  · exact .inl a
  unfold badR at h
  rw [rng_f a] at h
  by_cases hi : i = 0
  · subst hi; exact absurd (show true = false from h) (by decide)
  refine .inr ⟨hi, ?_⟩
  by_cases b : 48 ≤ byteAt s i ∧ byteAt s i ≤ 57
  · exact .inl b
  rw [rng_f b, show ((i : Int) == 0) = false from beq_nf (by omega)] at h
  cases e : byteAt s i == 45 with
  | true => exact .inr (by simpa using e)
  | false => rw [e] at h; exact absurd h (by decide)
theorem bad_c {c : Int} (h : (97 ≤ c ∧ c ≤ 122) ∨ (48 ≤ c ∧ c ≤ 57) ∨ c = 45) : badB c = false := by
  unfold badB
  rcases h with h | h | h
  · rw [decide_eq_false (show ¬ c < 97 by omega), decide_eq_false (show ¬ c > 122 by omega)]; rfl
  · rw [decide_eq_false (show ¬ c < 48 by omega), decide_eq_false (show ¬ c > 57 by omega)]
    cases (bif decide (c < 97) then true else decide (c > 122)) <;> rfl
  · rw [h]; rfl
theorem no_space {s : ByteArray} (h : ∀ i, i < s.size → badB (byteAt s i) = false) : (32 : UInt8) ∉ s.data.toList := fun hm => by
  obtain ⟨i, hi, e⟩ := List.mem_iff_getElem.mp hm
  have hz : s.size = s.data.toList.length := rfl
  have := h i (by rw [hz]; exact hi)
  have hb : byteAt s i = 32 := by
    unfold byteAt
    rw [List.getD_eq_getElem?_getD, List.getElem?_eq_getElem hi, e]; rfl
  rw [hb] at this
  exact absurd this (by decide)
theorem nmF_ok {s : ByteArray} (h : nmF s = true) : NameOK s := by
  unfold nmF at h
  obtain ⟨hg, h1, h2, h3⟩ := @of_decide_eq_true _ (_) h
  have hb : ∀ i, i < s.size → badB (byteAt s i) = false := fun i hi => bad_c (by
    rcases good_c (hg i hi) with h | ⟨_, h⟩
    · exact .inl h
    · exact .inr h)
  have h0 := good_c (hg 0 (by omega))
  refine ⟨h1, h2, by omega, by omega, hb, ?_⟩
  cases hc : Lib.contains wordsL ((⟨#[32]⟩ ++ s) ++ ⟨#[32]⟩ : ByteArray).data.toList with
  | false => rfl
  | true =>
    have hi := contains_infix hc
    rw [show ((⟨#[32]⟩ ++ s) ++ ⟨#[32]⟩ : ByteArray).data.toList = 32 :: (s.data.toList ++ [32]) from by simp, words_spl] at hi
    obtain ⟨w, hw, e⟩ := in_spl (no_space hb) wordsB words_no hi
    rw [List.any_eq_false] at h3
    exact absurd (by rw [e]; simp) (h3 w hw)
end Go.Proofs.YtnnoplgabnfdiaaGreatDoor.Sh
/- The shadow machine: what a call leaves: of its memory the objects up to some place, new ones among them. -/
namespace Go.Proofs.YtnnoplgabnfdiaaGreatDoor.Sh
open Go Go.RowKit
set_option linter.unusedVariables false
set_option linter.unusedSimpArgs false
/-- The same object, but for what lies beyond a row's end; or one of which nothing is told. -/
def OQ (x y : AO) : Prop := y = .dead ∨ OEq x y
/-- The same memory, in this sense. -/
def HEq (h h' : List AO) : Prop := h.length = h'.length ∧ ∀ o, o < h.length → OQ (nth .free h o) (nth .free h' o)
section
variable {P : Program} {h : List AO}
theorem OEq.refl (x : AO) : OEq x x := by
  cases x <;> first | rfl | exact ⟨rfl, rfl, fun i hi => rfl⟩
theorem HR.heq {B0 : Nat} {w0 w : World} {Fz : Nat → Prop} {g : Gh} {h h2 : List AO} (he : HEq h h2) (H : HR B0 w0 w Fz g h) : HR B0 w0 w Fz g h2 := by
  obtain ⟨e2, e3⟩ := he
  have hHas : ∀ o b, o < h.length → Has g o (nth .free h2 o) b → Has g o (nth .free h o) b := fun o b ho hh => by
    rcases e3 o ho with e | this
    · rw [e] at hh; exact hh.elim
    · revert hh
      cases hq : nth .free h o <;> cases hq' : nth .free h2 o <;> rw [hq, hq'] at this <;> simp [OEq] at this <;> simp [Has]
  refine ⟨H.below, H.base, H.fz, fun o ho => H.free o (by omega), fun o ho => ?_, fun o b ho hh => H.own o b (by omega) (hHas o b (by omega) hh), fun o o' b ho ho' hh hh' => H.sep o o' b (by omega) (by omega) (hHas o b (by omega) hh) (hHas o' b (by omega) hh'), H.gl⟩
  have hO := H.objs o (by omega)
  rcases e3 o (by omega) with e | this
  · rw [e]; trivial
  cases hq : nth .free h o with
  | rows z n row =>
    cases hq' : nth .free h2 o with
    | rows z' n' row' =>
      rw [hq, hq'] at this
      simp only [OEq] at this
      obtain ⟨rfl, rfl, hr⟩ := this
      rw [hq] at hO
      obtain ⟨b, κ, h1, h2, h3⟩ := hO
      exact ⟨b, κ, h1, h2, h3.imp id fun ⟨cs, t, q1, q2, q3⟩ => ⟨cs, t, q1, q2, fun i hi j hj => by rw [← hr i hi]; exact q3 i hi j hj⟩⟩
    | _ => rw [hq, hq'] at this; simp [OEq] at this
  | _ =>
    rw [hq] at hO this
    cases hq' : nth .free h2 o <;> rw [hq'] at this <;> simp [OEq] at this
    all_goals first | exact hO | (rw [← this.1, ← this.2]; exact hO)
theorem SCall.heq {f : FuncId} {vs : List AV} {K K' : AR → List AO → Prop} (H : SCall P f vs h K) (hk : ∀ r h', K r h' → ∃ h2, HEq h' h2 ∧ K' r h2) : SCall P f vs h K' :=
  fun B0 w0 w Fz g args hH hl hv => (H B0 w0 w Fz g args hH hl hv).mono fun e w' ⟨r, c, h', Fz', g', h1, h2, h3, h4, h5⟩ => by
    obtain ⟨q, q1, q2⟩ := hk _ _ h2
    exact ⟨r, c, q, Fz', g', h1, q2, h3, h4.heq q1, h5⟩
theorem kept_of4 {f : FuncId} {vs : List AV} {h1 : List AO} {r : AV} (hl : h.length ≤ h1.length) (hr : plain r = true) (ho : ∀ o, o < h1.length → (o < h.length ∧ nth .free h1 o = nth .free h o) ∨ belowO h1.length (nth .free h1 o) = nth .free h1 o)
    (H : SCall P f vs h (Kept2 h h1 r)) : SCall P f vs h fun r' h' => r' = .ret r ∧ h' = h1 := fun B0 w0 w Fz g args hH hlen hv => by
  refine (H B0 w0 w Fz g args hH hlen hv).mono fun e w' ⟨r', c, h', Fz', g', he, ⟨e1, t, e2⟩, hrv, H', hon⟩ => ?_
  subst e1; subst e2
  have hn : ∀ o, o < h1.length → nth .free (h1 ++ t) o = nth .free h1 o := fun o ho => by rw [nth_append, if_pos (by omega)]
  have hHas : ∀ o b, o < h1.length → Has (cutG h1.length g') o (nth .free h1 o) b → Has g' o (nth .free (h1 ++ t) o) b := fun o b ho hh => by
    rw [hn o (by omega)]
    exact (Has.eq (show cutG h1.length g' o = g' o by unfold cutG; rw [if_pos (by omega)])).mp hh
  have hgf : ∀ o, h1.length ≤ o → g o = none := fun o ho => hH.free o (by omega)
  refine ⟨.ret r, c, h1, Fz', cutG h1.length g', he, ⟨rfl, rfl⟩, plain_vr hr hrv, ⟨H'.below, H'.base, H'.fz, fun o ho' => ?_, fun o ho' => ?_, fun o b ho' hh => H'.own o b (by simp; omega) (hHas o b ho' hh), fun o o' b h1' h2' hh hh' => H'.sep o o' b (by simp; omega) (by simp; omega) (hHas o b h1' hh) (hHas o' b h2' hh'), H'.gl⟩, ⟨hon.same, hon.fz, fun o x hx => ?_, hon.new, hon.size, fun o b κ hb => ?_⟩⟩
  · unfold cutG; rw [if_neg (by omega)]
  · have h1o := H'.objs o (by simp; omega)
    rw [hn o ho'] at h1o
    rcases ho o ho' with ⟨e', e⟩ | e
    · have h0 := hH.objs o e'
      rw [← e] at h0
      exact or_cut hgf ho' h1o h0
    · exact or_below ho' e h1o
  · have hoo : o < h1.length := by
      rcases Nat.lt_or_ge o h1.length with e | e
      · exact e
      · rw [hgf o e] at hx; cases hx
    exact cut_at hoo (hon.gh o x hx)
  · unfold cutG at hb
    by_cases hoo : o < h1.length
    · rw [if_pos hoo] at hb; exact hon.newg o b κ hb
    · rw [if_neg hoo] at hb; cases hb
def HEqL : List AO → List AO → Prop
  | [], [] => True
  | x :: xs, y :: ys => OQ x y ∧ HEqL xs ys
  | _, _ => False
theorem heq_of : ∀ {h h2 : List AO}, HEqL h h2 → HEq h h2
  | [], [], _ => ⟨rfl, fun o ho => absurd ho (by simp)⟩
  | x :: xs, y :: ys, ⟨h1, h2⟩ => by
    obtain ⟨e1, e2⟩ := heq_of h2
    refine ⟨by simp [e1], fun o ho => ?_⟩
    cases o with
    | zero => exact h1
    | succ o => exact e2 o (by simpa using ho)
  | [], _ :: _, h => h.elim
  | _ :: _, [], h => h.elim
theorem HEq.append {h h2 : List AO} (e : HEq h h2) (t : List AO) : HEq (h ++ t) (h2 ++ t) := by
  obtain ⟨e1, e2⟩ := e
  refine ⟨by simp [e1], fun o ho => ?_⟩
  rw [nth_append, nth_append, e1]
  by_cases hc : o < h2.length
  · rw [if_pos hc, if_pos hc]; exact e2 o (by omega)
  · rw [if_neg hc, if_neg hc]
    exact .inr (OEq.refl _)
/-- The same, but for what lies beyond a row's end. -/
def Kept5 (h1 : List AO) (r : AV) (r' : AR) (h' : List AO) : Prop := r' = .ret r ∧ ∃ hh t, h' = hh ++ t ∧ HEq hh h1
theorem kept_of5 {f : FuncId} {vs : List AV} {h1 : List AO} {r : AV} (hl : h.length ≤ h1.length) (hr : plain r = true) (ho : ∀ o, o < h1.length → (o < h.length ∧ nth .free h1 o = nth .free h o) ∨ belowO h1.length (nth .free h1 o) = nth .free h1 o)
    (H : SCall P f vs h (Kept5 h1 r)) : SCall P f vs h fun r' h' => r' = .ret r ∧ h' = h1 :=
  kept_of4 hl hr ho (H.heq fun r h' ⟨e1, hh, t, e2, e3⟩ => ⟨h1 ++ t, by rw [e2]; exact e3.append t, e1, t, rfl⟩)
end
end Go.Proofs.YtnnoplgabnfdiaaGreatDoor.Sh
/- The shadow machine over this program: the loan is paid out. -/
namespace Go.Proofs.YtnnoplgabnfdiaaGreatDoor.Sh
open Go Go.RowKit
set_option linter.unusedVariables false
set_option linter.unusedSimpArgs false
set_option maxRecDepth 100000
set_option maxHeartbeats 4000000
def envY1 (p : PR) (a : Int) (PP V L : Nat → Int) : Env := [(301, planQ p a PP V L), (213, mustIQ)]
theorem envY1_ok {p : PR} {a : Int} {PP V L : Nat → Int} (H : Plan p a PP V L) : EnvOK Tryz.prog (envY1 p a PP V L) := env_cons (planQ_of H) (env_cons must213 env_nil)
def lineC (p : PR) (PP V L : Nat → Int) (i : Nat) : List AV := [.int .i64 (dueF (p.ev * ((i : Int) + 1))), .int .i64 (PP i), .int .i64 (V i), .int .i64 (L (i + 1))]

theorem disburse277_1 (p : PR) (a : Int) (PP V L : Nat → Int) (hp : SHP p) (hn : p.tm.toNat = 1) (ha : 1 ≤ a ∧ a ≤ 10000) (H : Plan p a PP V L) (x0 x1 x2 x4 x5 x6 x7 xt xu xe xf : AO) : SCall Tryz.prog 277 [.ptr 3 1 1 0 0, .ptr 8 1 1 0 0, .agg (evA a)] [x0, x1, x2, runL p false 0 .nilsl, x4, x5, x6, x7, .lit 1 (s0 p).cells, xt, xu, xe, xf] (fun r h' => r = .ret (.tup []) ∧ h' = [x0, x1, x2, runL p false 0 .nilsl, x4, x5, x6, x7, .lit 1 (boxC p (.sl 16 1 0 1 none) a (0 - a)), xt, xu, xe, xf, .dead, .dead, .dead, .rows 1 1 fun i => [.int .i64 (PP i)]]) := by
  have hE := hp.sh
  refine kept_of5 (by simp) rfl (fun o ho => ?_) ?_
  · match o, ho with
    | 0, _ | 1, _ | 2, _ | 3, _ | 4, _ | 5, _ | 6, _ | 7, _ | 9, _ | 10, _ | 11, _ | 12, _ => exact .inl ⟨by simp, rfl⟩
    | 13, _ | 14, _ | 15, _ | 8, _ | 16, _ => exact .inr rfl
    | n + 17, h => exact absurd h (by simp)
  refine scall_ofV (cfg_ok (envY1_ok H) 13) Tryz.func277 (by kernel_rfl) rfl ?_
  generalize hK : Kept5 _ _ = K
  conv => whnf
  refine .inr ⟨[], by kernel_rfl, ?_⟩
  conv => whnf
  refine ⟨⟨rfl, rfl, rfl⟩, ?_⟩
  conv => whnf
  refine ⟨rfl, ?_⟩
  conv => whnf
  refine .inr ⟨[(4, 7)], by kernel_rfl, ?_⟩
  conv => whnf
  refine ⟨rfl, ?_⟩
  conv => whnf
  refine .inl ⟨[(), ()], ?_⟩
  refine unroll_step fun k hk => ?_
  conv => whnf
  refine bt (by rw [hn]; rfl) ?_
  conv => whnf
  refine ⟨⟨by decide, by rw [hn]; decide⟩, ?_⟩
  conv => whnf
  refine .inl ⟨8, [(4, 7)], by kernel_rfl, ?_⟩
  conv => whnf
  refine ⟨rfl, ?_⟩
  conv => whnf
  refine ⟨show 1 * 8 ≤ 140737488355328 from by decide, ?_⟩
  conv => whnf
  subst hk
  refine unroll_step fun k hk => ?_
  conv => whnf
  refine bf (by rw [hn]; rfl) ?_
  conv => whnf
  subst hk
  conv => whnf
  refine .inr ⟨[], by kernel_rfl, ?_⟩
  conv => whnf
  refine .inr ⟨[], by kernel_rfl, ?_⟩
  conv => whnf
  subst hK
  have e8 : AO.lit 1 [.int .i64 19723, .bool true, .int .i64 19723, .sl 16 1 0 1 none, .int .i64 1, .int .i64 p.rt, .int .i64 (IntKind.i64.wrap (0 + a)), .int .i64 0, .ro 4 0 none fun _ => [], .int .i64 0, .int .i64 0, .int .i64 0, .int .i64 (IntKind.i64.wrap (0 - 0 - a)), .int .i64 0, .int .i64 0, .int .i64 0, .int .i64 0, .int .i64 0, .int .i64 0] = .lit 1 (boxC p (.sl 16 1 0 1 none) a (0 - a)) := by
    rw [w64 (n := 0 + a) (by omega) (by omega), w64 (n := 0 - 0 - a) (by omega) (by omega), Int.zero_add, Int.sub_zero]; rfl
  refine ⟨rfl, [_, _, _, _, _, _, _, _, AO.lit 1 [.int .i64 19723, .bool true, .int .i64 19723, .sl 16 1 0 1 none, .int .i64 1, .int .i64 p.rt, .int .i64 (IntKind.i64.wrap (0 + a)), .int .i64 0, .ro 4 0 none fun _ => [], .int .i64 0, .int .i64 0, .int .i64 0, .int .i64 (IntKind.i64.wrap (0 - 0 - a)), .int .i64 0, .int .i64 0, .int .i64 0, .int .i64 0, .int .i64 0, .int .i64 0], _, _, _, _, _, _, _, _], _, rfl, heq_of ⟨.inr (OEq.refl _), .inr (OEq.refl _), .inr (OEq.refl _), .inr rfl, .inr (OEq.refl _), .inr (OEq.refl _), .inr (OEq.refl _), .inr (OEq.refl _), .inr e8, .inr (OEq.refl _), .inr (OEq.refl _), .inr (OEq.refl _), .inr (OEq.refl _), .inl rfl, .inl rfl, .inl rfl, .inr ⟨rfl, rfl, fun i hi => ?_⟩, trivial⟩⟩
  match i, hi with
  | 0, _ => exact rfl
theorem disburse277_12 (p : PR) (a : Int) (PP V L : Nat → Int) (hp : SHP p) (hn : p.tm.toNat = 12) (ha : 1 ≤ a ∧ a ≤ 10000) (H : Plan p a PP V L) (x0 x1 x2 x4 x5 x6 x7 xt xu xe xf : AO) : SCall Tryz.prog 277 [.ptr 3 1 1 0 0, .ptr 8 1 1 0 0, .agg (evA a)] [x0, x1, x2, runL p false 0 .nilsl, x4, x5, x6, x7, .lit 1 (s0 p).cells, xt, xu, xe, xf] (fun r h' => r = .ret (.tup []) ∧ h' = [x0, x1, x2, runL p false 0 .nilsl, x4, x5, x6, x7, .lit 1 (boxC p (.sl 49 1 0 12 none) a (0 - a)), xt, xu, xe, xf, .dead, .dead, .dead, .dead, .dead, .dead, .dead, .dead, .dead, .dead, .dead, .dead, .dead, .dead, .dead, .dead, .dead, .dead, .dead, .dead, .dead, .dead, .dead, .dead, .dead, .dead, .dead, .dead, .dead, .dead, .dead, .dead, .dead, .dead, .dead, .dead, .rows 1 12 fun i => [.int .i64 (PP i)]]) := by
  have hE := hp.sh
  refine kept_of5 (by simp) rfl (fun o ho => ?_) ?_
  · match o, ho with
    | 0, _ | 1, _ | 2, _ | 3, _ | 4, _ | 5, _ | 6, _ | 7, _ | 9, _ | 10, _ | 11, _ | 12, _ => exact .inl ⟨by simp, rfl⟩
    | 13, _ | 14, _ | 15, _ | 16, _ | 17, _ | 18, _ | 19, _ | 20, _ | 21, _ | 22, _ | 23, _ | 24, _ | 25, _ | 26, _ | 27, _ | 28, _ | 29, _ | 30, _ | 31, _ | 32, _ | 33, _ | 34, _ | 35, _ | 36, _ | 37, _ | 38, _ | 39, _ | 40, _ | 41, _ | 42, _ | 43, _ | 44, _ | 45, _ | 46, _ | 47, _ | 48, _ | 8, _ | 49, _ => exact .inr rfl
    | n + 50, h => exact absurd h (by simp)
  refine scall_ofV (cfg_ok (envY1_ok H) 13) Tryz.func277 (by kernel_rfl) rfl ?_
  generalize hK : Kept5 _ _ = K
  conv => whnf
  refine .inr ⟨[], by kernel_rfl, ?_⟩
  conv => whnf
  refine ⟨⟨rfl, rfl, rfl⟩, ?_⟩
  conv => whnf
  refine ⟨rfl, ?_⟩
  conv => whnf
  refine .inr ⟨[(4, 7)], by kernel_rfl, ?_⟩
  conv => whnf
  refine ⟨rfl, ?_⟩
  conv => whnf
  refine .inl ⟨[(), (), (), (), (), (), (), (), (), (), (), (), ()], ?_⟩
  refine unroll_step fun k hk => ?_
  conv => whnf
  refine bt (by rw [hn]; rfl) ?_
  conv => whnf
  refine ⟨⟨by decide, by rw [hn]; decide⟩, ?_⟩
  conv => whnf
  refine .inl ⟨8, [(4, 7)], by kernel_rfl, ?_⟩
  conv => whnf
  refine ⟨rfl, ?_⟩
  conv => whnf
  refine ⟨show 1 * 8 ≤ 140737488355328 from by decide, ?_⟩
  conv => whnf
  subst hk
  refine unroll_step fun k hk => ?_
  conv => whnf
  refine bt (by rw [hn]; rfl) ?_
  conv => whnf
  refine ⟨⟨by decide, by rw [hn]; decide⟩, ?_⟩
  conv => whnf
  refine .inl ⟨8, [(4, 7)], by kernel_rfl, ?_⟩
  conv => whnf
  refine ⟨rfl, ?_⟩
  conv => whnf
  refine ⟨⟨rfl, by decide, by decide, fun i hi => ⟨rfl, rfl⟩⟩, ?_⟩
  conv => whnf
  subst hk
  refine unroll_step fun k hk => ?_
  conv => whnf
  refine bt (by rw [hn]; rfl) ?_
  conv => whnf
  refine ⟨⟨by decide, by rw [hn]; decide⟩, ?_⟩
  conv => whnf
  refine .inl ⟨8, [(4, 7)], by kernel_rfl, ?_⟩
  conv => whnf
  refine ⟨rfl, ?_⟩
  conv => whnf
  refine ⟨⟨rfl, by decide, by decide, fun i hi => ⟨rfl, rfl⟩⟩, ?_⟩
  conv => whnf
  subst hk
  refine unroll_step fun k hk => ?_
  conv => whnf
  refine bt (by rw [hn]; rfl) ?_
  conv => whnf
  refine ⟨⟨by decide, by rw [hn]; decide⟩, ?_⟩
  conv => whnf
  refine .inl ⟨8, [(4, 7)], by kernel_rfl, ?_⟩
  conv => whnf
  refine ⟨rfl, ?_⟩
  conv => whnf
  refine ⟨⟨rfl, by decide, by decide, fun i hi => ⟨rfl, rfl⟩⟩, ?_⟩
  conv => whnf
  subst hk
  refine unroll_step fun k hk => ?_
  conv => whnf
  refine bt (by rw [hn]; rfl) ?_
  conv => whnf
  refine ⟨⟨by decide, by rw [hn]; decide⟩, ?_⟩
  conv => whnf
  refine .inl ⟨8, [(4, 7)], by kernel_rfl, ?_⟩
  conv => whnf
  refine ⟨rfl, ?_⟩
  conv => whnf
  refine ⟨⟨rfl, by decide, by decide, fun i hi => ⟨rfl, rfl⟩⟩, ?_⟩
  conv => whnf
  subst hk
  refine unroll_step fun k hk => ?_
  conv => whnf
  refine bt (by rw [hn]; rfl) ?_
  conv => whnf
  refine ⟨⟨by decide, by rw [hn]; decide⟩, ?_⟩
  conv => whnf
  refine .inl ⟨8, [(4, 7)], by kernel_rfl, ?_⟩
  conv => whnf
  refine ⟨rfl, ?_⟩
  conv => whnf
  refine ⟨⟨rfl, by decide, by decide, fun i hi => ⟨rfl, rfl⟩⟩, ?_⟩
  conv => whnf
  subst hk
  refine unroll_step fun k hk => ?_
  conv => whnf
  refine bt (by rw [hn]; rfl) ?_
  conv => whnf
  refine ⟨⟨by decide, by rw [hn]; decide⟩, ?_⟩
  conv => whnf
  refine .inl ⟨8, [(4, 7)], by kernel_rfl, ?_⟩
  conv => whnf
  refine ⟨rfl, ?_⟩
  conv => whnf
  refine ⟨⟨rfl, by decide, by decide, fun i hi => ⟨rfl, rfl⟩⟩, ?_⟩
  conv => whnf
  subst hk
  refine unroll_step fun k hk => ?_
  conv => whnf
  refine bt (by rw [hn]; rfl) ?_
  conv => whnf
  refine ⟨⟨by decide, by rw [hn]; decide⟩, ?_⟩
  conv => whnf
  refine .inl ⟨8, [(4, 7)], by kernel_rfl, ?_⟩
  conv => whnf
  refine ⟨rfl, ?_⟩
  conv => whnf
  refine ⟨⟨rfl, by decide, by decide, fun i hi => ⟨rfl, rfl⟩⟩, ?_⟩
  conv => whnf
  subst hk
  refine unroll_step fun k hk => ?_
  conv => whnf
  refine bt (by rw [hn]; rfl) ?_
  conv => whnf
  refine ⟨⟨by decide, by rw [hn]; decide⟩, ?_⟩
  conv => whnf
  refine .inl ⟨8, [(4, 7)], by kernel_rfl, ?_⟩
  conv => whnf
  refine ⟨rfl, ?_⟩
  conv => whnf
  refine ⟨⟨rfl, by decide, by decide, fun i hi => ⟨rfl, rfl⟩⟩, ?_⟩
  conv => whnf
  subst hk
  refine unroll_step fun k hk => ?_
  conv => whnf
  refine bt (by rw [hn]; rfl) ?_
  conv => whnf
  refine ⟨⟨by decide, by rw [hn]; decide⟩, ?_⟩
  conv => whnf
  refine .inl ⟨8, [(4, 7)], by kernel_rfl, ?_⟩
  conv => whnf
  refine ⟨rfl, ?_⟩
  conv => whnf
  refine ⟨⟨rfl, by decide, by decide, fun i hi => ⟨rfl, rfl⟩⟩, ?_⟩
  conv => whnf
  subst hk
  refine unroll_step fun k hk => ?_
  conv => whnf
  refine bt (by rw [hn]; rfl) ?_
  conv => whnf
  refine ⟨⟨by decide, by rw [hn]; decide⟩, ?_⟩
  conv => whnf
  refine .inl ⟨8, [(4, 7)], by kernel_rfl, ?_⟩
  conv => whnf
  refine ⟨rfl, ?_⟩
  conv => whnf
  refine ⟨⟨rfl, by decide, by decide, fun i hi => ⟨rfl, rfl⟩⟩, ?_⟩
  conv => whnf
  subst hk
  refine unroll_step fun k hk => ?_
  conv => whnf
  refine bt (by rw [hn]; rfl) ?_
  conv => whnf
  refine ⟨⟨by decide, by rw [hn]; decide⟩, ?_⟩
  conv => whnf
  refine .inl ⟨8, [(4, 7)], by kernel_rfl, ?_⟩
  conv => whnf
  refine ⟨rfl, ?_⟩
  conv => whnf
  refine ⟨⟨rfl, by decide, by decide, fun i hi => ⟨rfl, rfl⟩⟩, ?_⟩
  conv => whnf
  subst hk
  refine unroll_step fun k hk => ?_
  conv => whnf
  refine bf (by rw [hn]; rfl) ?_
  conv => whnf
  subst hk
  conv => whnf
  refine .inr ⟨[], by kernel_rfl, ?_⟩
  conv => whnf
  refine .inr ⟨[], by kernel_rfl, ?_⟩
  conv => whnf
  subst hK
  have e8 : AO.lit 1 [.int .i64 19723, .bool true, .int .i64 19723, .sl 49 1 0 12 none, .int .i64 1, .int .i64 p.rt, .int .i64 (IntKind.i64.wrap (0 + a)), .int .i64 0, .ro 4 0 none fun _ => [], .int .i64 0, .int .i64 0, .int .i64 0, .int .i64 (IntKind.i64.wrap (0 - 0 - a)), .int .i64 0, .int .i64 0, .int .i64 0, .int .i64 0, .int .i64 0, .int .i64 0] = .lit 1 (boxC p (.sl 49 1 0 12 none) a (0 - a)) := by
    rw [w64 (n := 0 + a) (by omega) (by omega), w64 (n := 0 - 0 - a) (by omega) (by omega), Int.zero_add, Int.sub_zero]; rfl
  refine ⟨rfl, [_, _, _, _, _, _, _, _, AO.lit 1 [.int .i64 19723, .bool true, .int .i64 19723, .sl 49 1 0 12 none, .int .i64 1, .int .i64 p.rt, .int .i64 (IntKind.i64.wrap (0 + a)), .int .i64 0, .ro 4 0 none fun _ => [], .int .i64 0, .int .i64 0, .int .i64 0, .int .i64 (IntKind.i64.wrap (0 - 0 - a)), .int .i64 0, .int .i64 0, .int .i64 0, .int .i64 0, .int .i64 0, .int .i64 0], _, _, _, _, _, _, _, _, _, _, _, _, _, _, _, _, _, _, _, _, _, _, _, _, _, _, _, _, _, _, _, _, _, _, _, _, _, _, _, _, _], _, rfl, heq_of ⟨.inr (OEq.refl _), .inr (OEq.refl _), .inr (OEq.refl _), .inr rfl, .inr (OEq.refl _), .inr (OEq.refl _), .inr (OEq.refl _), .inr (OEq.refl _), .inr e8, .inr (OEq.refl _), .inr (OEq.refl _), .inr (OEq.refl _), .inr (OEq.refl _), .inl rfl, .inl rfl, .inl rfl, .inl rfl, .inl rfl, .inl rfl, .inl rfl, .inl rfl, .inl rfl, .inl rfl, .inl rfl, .inl rfl, .inl rfl, .inl rfl, .inl rfl, .inl rfl, .inl rfl, .inl rfl, .inl rfl, .inl rfl, .inl rfl, .inl rfl, .inl rfl, .inl rfl, .inl rfl, .inl rfl, .inl rfl, .inl rfl, .inl rfl, .inl rfl, .inl rfl, .inl rfl, .inl rfl, .inl rfl, .inl rfl, .inl rfl, .inr ⟨rfl, rfl, fun i hi => ?_⟩, trivial⟩⟩
  match i, hi with
  | 0, _ | 1, _ | 2, _ | 3, _ | 4, _ | 5, _ | 6, _ | 7, _ | 8, _ | 9, _ | 10, _ | 11, _ => exact rfl
end Go.Proofs.YtnnoplgabnfdiaaGreatDoor.Sh
/- The shadow machine over this program: an event happens. -/
namespace Go.Proofs.YtnnoplgabnfdiaaGreatDoor.Sh
open Go Go.RowKit
set_option linter.unusedVariables false
set_option linter.unusedSimpArgs false
set_option maxRecDepth 100000
set_option maxHeartbeats 4000000
def envY2 : Env := [(78, eventQ), (213, mustIQ), (90, moQ rightR)]
theorem envY2_ok : EnvOK Tryz.prog envY2 := env_cons event78 (env_cons must213 (env_cons right90 env_nil))

theorem happens3_1 (p : PR) (a : Int) (PP V L : Nat → Int) (hp : SHP p) (hn : p.tm.toNat = 1) (ha : 1 ≤ a ∧ a ≤ 10000) (H : Plan p a PP V L) (x0 x1 x2 x4 x5 x6 x7 xt xu xe : AO) : SCall Tryz.prog 211 [.ptr 3 1 1 0 0, .ptr 8 1 1 0 0, .agg (evA a)] [x0, x1, x2, runL p false 0 .nilsl, x4, x5, x6, x7, .lit 1 (s0 p).cells, xt, xu, xe] (fun r h' => r = .ret (.tup []) ∧ h' = [x0, x1, x2, runL p false 0 .nilsl, x4, x5, x6, x7, .lit 1 (boxC p (.sl 16 1 0 1 none) a (0 - a)), xt, xu, xe, .lit 1 (evA a), .dead, .dead, .dead, .rows 1 1 fun i => [.int .i64 (PP i)]]) := by
  refine scall_ofU (cfgS_ok envY2_ok (SY1_ok p) 12) Tryz.func211 (by kernel_rfl) rfl ?_
  generalize hK : (fun (r : AR) (h' : List AO) => r = .ret (.tup []) ∧ h' = [x0, x1, x2, runL p false 0 .nilsl, x4, x5, x6, x7, .lit 1 (boxC p (.sl 16 1 0 1 none) a (0 - a)), xt, xu, xe, .lit 1 (evA a), .dead, .dead, .dead, .rows 1 1 fun i => [.int .i64 (PP i)]]) = K
  conv => whnf
  refine ⟨⟨⟨⟨rfl, rfl, rfl, rfl⟩, ha⟩, rfl⟩, ?_⟩
  conv => whnf
  refine .inr ⟨[], by kernel_rfl, ?_⟩
  conv => whnf
  refine ⟨⟨⟨rfl, rfl, rfl, rfl, rfl, rfl, rfl⟩, ⟨show (0 : Int) ≤ 0 ∧ (0 : Int) ≤ 100000000000000 by omega, show (0 : Int) ≤ 0 ∧ (0 : Int) ≤ 100000000000000 by omega, rfl⟩⟩, ?_⟩
  conv => whnf
  refine .inr ⟨[], by kernel_rfl, ?_⟩
  conv => whnf
  refine .inl ⟨7, by kernel_rfl, ?_⟩
  conv => whnf
  refine ⟨⟨rfl, rfl, show (0 : Int) ≤ 1 by decide, show (1 : Int) < 6 by decide⟩, ?_⟩
  conv => whnf
  refine (disburse277_1 p a PP V L hp hn ha H x0 x1 x2 x4 x5 x6 x7 xt xu xe _).mono fun r h' ⟨e1, e2⟩ => ?_
  subst e1 e2
  conv => whnf
  refine ⟨⟨⟨rfl, rfl, rfl, rfl, rfl, rfl, rfl⟩, ⟨show (0 : Int) ≤ a ∧ a ≤ 100000000000000 by omega, show (0 : Int) ≤ 0 ∧ (0 : Int) ≤ 100000000000000 by omega, rfl⟩⟩, ?_⟩
  conv => whnf
  subst hK
  exact ⟨rfl, rfl⟩
theorem happens3_12 (p : PR) (a : Int) (PP V L : Nat → Int) (hp : SHP p) (hn : p.tm.toNat = 12) (ha : 1 ≤ a ∧ a ≤ 10000) (H : Plan p a PP V L) (x0 x1 x2 x4 x5 x6 x7 xt xu xe : AO) : SCall Tryz.prog 211 [.ptr 3 1 1 0 0, .ptr 8 1 1 0 0, .agg (evA a)] [x0, x1, x2, runL p false 0 .nilsl, x4, x5, x6, x7, .lit 1 (s0 p).cells, xt, xu, xe] (fun r h' => r = .ret (.tup []) ∧ h' = [x0, x1, x2, runL p false 0 .nilsl, x4, x5, x6, x7, .lit 1 (boxC p (.sl 49 1 0 12 none) a (0 - a)), xt, xu, xe, .lit 1 (evA a), .dead, .dead, .dead, .dead, .dead, .dead, .dead, .dead, .dead, .dead, .dead, .dead, .dead, .dead, .dead, .dead, .dead, .dead, .dead, .dead, .dead, .dead, .dead, .dead, .dead, .dead, .dead, .dead, .dead, .dead, .dead, .dead, .dead, .dead, .dead, .dead, .rows 1 12 fun i => [.int .i64 (PP i)]]) := by
  refine scall_ofU (cfgS_ok envY2_ok (SY1_ok p) 12) Tryz.func211 (by kernel_rfl) rfl ?_
  generalize hK : (fun (r : AR) (h' : List AO) => r = .ret (.tup []) ∧ h' = [x0, x1, x2, runL p false 0 .nilsl, x4, x5, x6, x7, .lit 1 (boxC p (.sl 49 1 0 12 none) a (0 - a)), xt, xu, xe, .lit 1 (evA a), .dead, .dead, .dead, .dead, .dead, .dead, .dead, .dead, .dead, .dead, .dead, .dead, .dead, .dead, .dead, .dead, .dead, .dead, .dead, .dead, .dead, .dead, .dead, .dead, .dead, .dead, .dead, .dead, .dead, .dead, .dead, .dead, .dead, .dead, .dead, .dead, .rows 1 12 fun i => [.int .i64 (PP i)]]) = K
  conv => whnf
  refine ⟨⟨⟨⟨rfl, rfl, rfl, rfl⟩, ha⟩, rfl⟩, ?_⟩
  conv => whnf
  refine .inr ⟨[], by kernel_rfl, ?_⟩
  conv => whnf
  refine ⟨⟨⟨rfl, rfl, rfl, rfl, rfl, rfl, rfl⟩, ⟨show (0 : Int) ≤ 0 ∧ (0 : Int) ≤ 100000000000000 by omega, show (0 : Int) ≤ 0 ∧ (0 : Int) ≤ 100000000000000 by omega, rfl⟩⟩, ?_⟩
  conv => whnf
  refine .inr ⟨[], by kernel_rfl, ?_⟩
  conv => whnf
  refine .inl ⟨7, by kernel_rfl, ?_⟩
  conv => whnf
  refine ⟨⟨rfl, rfl, show (0 : Int) ≤ 1 by decide, show (1 : Int) < 6 by decide⟩, ?_⟩
  conv => whnf
  refine (disburse277_12 p a PP V L hp hn ha H x0 x1 x2 x4 x5 x6 x7 xt xu xe _).mono fun r h' ⟨e1, e2⟩ => ?_
  subst e1 e2
  conv => whnf
  refine ⟨⟨⟨rfl, rfl, rfl, rfl, rfl, rfl, rfl⟩, ⟨show (0 : Int) ≤ a ∧ a ≤ 100000000000000 by omega, show (0 : Int) ≤ 0 ∧ (0 : Int) ≤ 100000000000000 by omega, rfl⟩⟩, ?_⟩
  conv => whnf
  subst hK
  exact ⟨rfl, rfl⟩
end Go.Proofs.YtnnoplgabnfdiaaGreatDoor.Sh
/- The shadow machine over this program: a day. -/
namespace Go.Proofs.YtnnoplgabnfdiaaGreatDoor.Sh
open Go Go.RowKit
set_option linter.unusedVariables false
set_option linter.unusedSimpArgs false
set_option maxRecDepth 100000
set_option maxHeartbeats 4000000
theorem day183_3_1 (p : PR) (a : Int) (PP V L : Nat → Int) (hp : SHP p) (hn : p.tm.toNat = 1) (ha : 1 ≤ a ∧ a ≤ 10000) (H : Plan p a PP V L) (x0 x1 x2 x4 x5 x6 x7 : AO) : SCall Tryz.prog 183 [.ptr 3 1 1 0 0, (s0 p).av, .ro 5 1 none (evR a)] [x0, x1, x2, runL p false 0 .nilsl, x4, x5, x6, x7] (fun r h' => r = .ret (.tup [(s1 p a PP).av, .int .i64 0]) ∧ h' = [x0, x1, x2, runL p false 0 .nilsl, x4, x5, x6, x7]) := by
  refine kept_of3 rfl (fun o ho => .inl rfl) ?_
  refine scall_ofD (cfg_ok envY2_ok 8) Tryz.func183 (by kernel_rfl) rfl ?_
  generalize hK : Kept3 _ _ _ = K
  conv => whnf
  refine ⟨⟨⟨rfl, rfl, rfl, rfl, rfl, rfl, rfl⟩, ⟨show (0 : Int) ≤ 0 ∧ (0 : Int) ≤ 100000000000000 by omega, show (0 : Int) ≤ 0 ∧ (0 : Int) ≤ 100000000000000 by omega, rfl⟩⟩, ?_⟩
  conv => whnf
  refine (roll3 p x0 x1 x2 x4 x5 x6 x7 _ _).mono fun r h' ⟨e1, e2⟩ => ?_
  subst e1 e2
  conv => whnf
  refine .inl ⟨[(), ()], ?_⟩
  refine unroll_step fun k hk => ?_
  conv => whnf
  refine ⟨⟨by decide, by decide⟩, ?_⟩
  conv => whnf
  refine (happens3_1 p a PP V L hp hn ha H x0 x1 x2 x4 x5 x6 x7 _ _ _).mono fun r h' ⟨e1, e2⟩ => ?_
  subst e1 e2
  conv => whnf
  subst hk
  refine unroll_step fun k hk => ?_
  conv => whnf
  subst hk
  conv => whnf
  refine (lateD3_1 p a (0 - a) x0 x1 x2 x4 x5 x6 x7 _ _ _ _ _ _ _ _ _).mono fun r h' ⟨e1, e2⟩ => ?_
  subst e1 e2
  conv => whnf
  refine ⟨rfl, ?_⟩
  conv => whnf
  refine ⟨⟨⟨rfl, rfl, rfl, rfl, rfl, rfl, rfl⟩, ⟨show (0 : Int) ≤ a ∧ a ≤ 100000000000000 by omega, show (0 : Int) ≤ 0 ∧ (0 : Int) ≤ 100000000000000 by omega, rfl⟩⟩, ?_⟩
  conv => whnf
  refine dcall_of (cfg_ok env_nil 0) Tryz.func209 (by kernel_rfl) ?_
  conv => whnf
  subst hK
  refine ⟨⟨_, rfl⟩, show 0 + 1 ≤ 1 from Nat.le_refl _, wk_tup rfl fun i hi => ?_⟩
  replace hi : i < 2 := hi
  match i, hi with
  | 0, _ =>
    refine wk_agg rfl fun i hi => ?_
    replace hi : i < 19 := hi
    match i, hi with
    | 3, _ =>
      have e : (fun i => List.map AV.rv ((fun i => [AV.int .i64 (PP i)]) (0 + i))) = fun i => [RV.int .i64 (PP i)] := by
        funext i; rw [Nat.zero_add]; rfl
      show Wk (.ro 1 1 none (fun i => List.map AV.rv ((fun i => [AV.int .i64 (PP i)]) (0 + i)))) (.ro 1 p.tm.toNat none fun i => [RV.int .i64 (PP i)])
      rw [hn, e]
      exact Wk.refl _
    | 0, _ | 1, _ | 2, _ | 4, _ | 5, _ | 6, _ | 7, _ | 8, _ | 9, _ | 10, _ | 11, _ | 12, _ | 13, _ | 14, _ | 15, _ | 16, _ | 17, _ | 18, _ => exact Wk.refl _
    | n + 19, h => exact absurd h (by omega)
  | 1, _ => exact Wk.refl _
  | n + 2, h => exact absurd h (by omega)
theorem day183_3_12 (p : PR) (a : Int) (PP V L : Nat → Int) (hp : SHP p) (hn : p.tm.toNat = 12) (ha : 1 ≤ a ∧ a ≤ 10000) (H : Plan p a PP V L) (x0 x1 x2 x4 x5 x6 x7 : AO) : SCall Tryz.prog 183 [.ptr 3 1 1 0 0, (s0 p).av, .ro 5 1 none (evR a)] [x0, x1, x2, runL p false 0 .nilsl, x4, x5, x6, x7] (fun r h' => r = .ret (.tup [(s1 p a PP).av, .int .i64 0]) ∧ h' = [x0, x1, x2, runL p false 0 .nilsl, x4, x5, x6, x7]) := by
  refine kept_of3 rfl (fun o ho => .inl rfl) ?_
  refine scall_ofD (cfg_ok envY2_ok 8) Tryz.func183 (by kernel_rfl) rfl ?_
  generalize hK : Kept3 _ _ _ = K
  conv => whnf
  refine ⟨⟨⟨rfl, rfl, rfl, rfl, rfl, rfl, rfl⟩, ⟨show (0 : Int) ≤ 0 ∧ (0 : Int) ≤ 100000000000000 by omega, show (0 : Int) ≤ 0 ∧ (0 : Int) ≤ 100000000000000 by omega, rfl⟩⟩, ?_⟩
  conv => whnf
  refine (roll3 p x0 x1 x2 x4 x5 x6 x7 _ _).mono fun r h' ⟨e1, e2⟩ => ?_
  subst e1 e2
  conv => whnf
  refine .inl ⟨[(), ()], ?_⟩
  refine unroll_step fun k hk => ?_
  conv => whnf
  refine ⟨⟨by decide, by decide⟩, ?_⟩
  conv => whnf
  refine (happens3_12 p a PP V L hp hn ha H x0 x1 x2 x4 x5 x6 x7 _ _ _).mono fun r h' ⟨e1, e2⟩ => ?_
  subst e1 e2
  conv => whnf
  subst hk
  refine unroll_step fun k hk => ?_
  conv => whnf
  subst hk
  conv => whnf
  refine (lateD3_12 p a (0 - a) x0 x1 x2 x4 x5 x6 x7 _ _ _ _ _ _ _ _ _ _ _ _ _ _ _ _ _ _ _ _ _ _ _ _ _ _ _ _ _ _ _ _ _ _ _ _ _ _ _ _ _ _).mono fun r h' ⟨e1, e2⟩ => ?_
  subst e1 e2
  conv => whnf
  refine ⟨rfl, ?_⟩
  conv => whnf
  refine ⟨⟨⟨rfl, rfl, rfl, rfl, rfl, rfl, rfl⟩, ⟨show (0 : Int) ≤ a ∧ a ≤ 100000000000000 by omega, show (0 : Int) ≤ 0 ∧ (0 : Int) ≤ 100000000000000 by omega, rfl⟩⟩, ?_⟩
  conv => whnf
  refine dcall_of (cfg_ok env_nil 0) Tryz.func209 (by kernel_rfl) ?_
  conv => whnf
  subst hK
  refine ⟨⟨_, rfl⟩, show 0 + 12 ≤ 12 from Nat.le_refl _, wk_tup rfl fun i hi => ?_⟩
  replace hi : i < 2 := hi
  match i, hi with
  | 0, _ =>
    refine wk_agg rfl fun i hi => ?_
    replace hi : i < 19 := hi
    match i, hi with
    | 3, _ =>
      have e : (fun i => List.map AV.rv ((fun i => [AV.int .i64 (PP i)]) (0 + i))) = fun i => [RV.int .i64 (PP i)] := by
        funext i; rw [Nat.zero_add]; rfl
      show Wk (.ro 1 12 none (fun i => List.map AV.rv ((fun i => [AV.int .i64 (PP i)]) (0 + i)))) (.ro 1 p.tm.toNat none fun i => [RV.int .i64 (PP i)])
      rw [hn, e]
      exact Wk.refl _
    | 0, _ | 1, _ | 2, _ | 4, _ | 5, _ | 6, _ | 7, _ | 8, _ | 9, _ | 10, _ | 11, _ | 12, _ | 13, _ | 14, _ | 15, _ | 16, _ | 17, _ | 18, _ => exact Wk.refl _
    | n + 19, h => exact absurd h (by omega)
  | 1, _ => exact Wk.refl _
  | n + 2, h => exact absurd h (by omega)
theorem day183_4 (p : PR) (s : ST) (hp : SHP p) (ho : s.op = true) (hs : s.start = 19723) (hn : s.nx = 1) (hpn : 1 ≤ s.pn) (hd : dueF p.ev ≠ s.day) (rw : Nat → List RV) (hP : 0 ≤ s.P ∧ s.P ≤ 100000000000000) (hA : 0 ≤ s.A ∧ s.A ≤ 100000000000000) (x0 x1 x2 x3 x5 x6 x7 : AO) : SCall Tryz.prog 183 [.ptr 4 1 1 0 0, s.av, .ro 5 0 none rw] [x0, x1, x2, x3, runL p true 19723 (.ro 1 p.tm.toNat none (dueRV p)), x5, x6, x7] (fun r h' => r = .ret (.tup [s.av, .int .i64 0]) ∧ h' = [x0, x1, x2, x3, runL p true 19723 (.ro 1 p.tm.toNat none (dueRV p)), x5, x6, x7]) := by
  have hE := hp.sh
  refine kept_of3 rfl (fun o ho => .inl rfl) ?_
  refine scall_ofD (cfg_ok envY2_ok 8) Tryz.func183 (by kernel_rfl) rfl ?_
  generalize hK : Kept3 _ _ _ = K
  conv => whnf
  refine ⟨⟨⟨rfl, rfl, rfl, rfl, rfl, rfl, rfl⟩, ⟨hP, hA, rfl⟩⟩, ?_⟩
  conv => whnf
  refine (roll4 p s hp ho hs hn hpn hd x0 x1 x2 x3 x5 x6 x7 _ _).mono fun r h' ⟨e1, e2⟩ => ?_
  subst e1 e2
  conv => whnf
  refine .inl ⟨[()], ?_⟩
  refine unroll_step fun k hk => ?_
  conv => whnf
  subst hk
  conv => whnf
  refine (lateD4 p s x0 x1 x2 x3 x5 x6 x7 _ _ _).mono fun r h' ⟨e1, e2⟩ => ?_
  subst e1 e2
  conv => whnf
  refine ⟨rfl, ?_⟩
  conv => whnf
  refine ⟨⟨⟨rfl, rfl, rfl, rfl, rfl, rfl, rfl⟩, ⟨hP, hA, rfl⟩⟩, ?_⟩
  conv => whnf
  refine dcall_of (cfg_ok env_nil 0) Tryz.func209 (by kernel_rfl) ?_
  conv => whnf
  subst hK
  refine ⟨⟨_, rfl⟩, trivial, wk_tup rfl fun i hi => ?_⟩
  replace hi : i < 2 := hi
  match i, hi with
  | 0, _ =>
    refine wk_agg rfl fun i hi => ?_
    replace hi : i < 19 := hi
    match i, hi with
    | 0, _ | 1, _ | 2, _ | 3, _ | 4, _ | 5, _ | 6, _ | 7, _ | 8, _ | 9, _ | 10, _ | 11, _ | 12, _ | 13, _ | 14, _ | 15, _ | 16, _ | 17, _ | 18, _ => exact Wk.refl _
    | n + 19, h => exact absurd h (by omega)
  | 1, _ => exact Wk.refl _
  | n + 2, h => exact absurd h (by omega)
end Go.Proofs.YtnnoplgabnfdiaaGreatDoor.Sh
