/- The shadow machine over this program: batches, and an account's postings in them. -/
import Derived.Test.YtepbibbeifbokaaShPc
namespace Go.Proofs.Ytepbibbeifbokaa.Sh
open Go Go.RowKit
set_option linter.unusedVariables false
set_option linter.unusedSimpArgs false
set_option maxRecDepth 100000
set_option maxHeartbeats 4000000
structure B where
  seq : Int
  day : Int
  ps : List P
instance : Inhabited B := ⟨⟨0, 0, []⟩⟩
def ixb (xs : List B) (i : Nat) : B := xs.getD i default
def batchRow (xs : List B) (i : Nat) : List RV := [.int .i64 (ixb xs i).seq, .int .i64 (ixb xs i).day, .ro 2 (ixb xs i).ps.length none (postRow (ixb xs i).ps)]
def batchesAV (xs : List B) : AV := .ro 3 xs.length none (batchRow xs)
def toB : List RV → B
  | [.int _ a, .int _ b, .ro _ l _ r] => ⟨a, b, postsOf l r⟩
  | _ => default
def batchesOf (len : Nat) (row : Nat → List RV) : List B := (List.range len).map fun i => toB (row i)
theorem batchesOf_length (len : Nat) (row : Nat → List RV) : (batchesOf len row).length = len := by simp [batchesOf]
theorem batchesOf_self (xs : List B) : batchesOf xs.length (batchRow xs) = xs := by
  refine List.ext_getElem (by simp [batchesOf]) fun i h1 h2 => ?_
  simp [batchesOf, batchRow, toB, ixb, List.getD_eq_getElem?_getD, List.getElem?_eq_getElem h2, postsOf_self]
def smallB (xs : List B) : Prop := xs.length ≤ 1000 ∧ ∀ b ∈ xs, b.ps.length ≤ 1000
theorem ixb_mem {L : List B} {i : Nat} (h : i < L.length) : ixb L i ∈ L := by
  unfold ixb
  rw [List.getD_eq_getElem?_getD, List.getElem?_eq_getElem h]
  exact List.getElem_mem h
/-- The postings of an account, from the j-th on, n of them. -/
def fil (ps : List P) (k : Int) : Nat → Nat → List P
  | 0, _ => []
  | n + 1, j => bif (ixp ps j).a == k then ixp ps j :: fil ps k n (j + 1) else fil ps k n (j + 1)
def gat (bs : List B) (k : Int) : Nat → Nat → List P
  | 0, _ => []
  | n + 1, i => fil (ixb bs i).ps k (ixb bs i).ps.length 0 ++ gat bs k n (i + 1)
def ofL (bs : List B) (k : Int) : List P := gat bs k bs.length 0
theorem fil_len (ps : List P) (k : Int) : ∀ n j, (fil ps k n j).length ≤ n
  | 0, j => Nat.le_refl _
  | n + 1, j => by
    have := fil_len ps k n (j + 1)
    simp only [fil]
    cases ((ixp ps j).a == k) <;> simp <;> omega
theorem gat_len (bs : List B) (k : Int) (h : smallB bs) : ∀ n i, i + n = bs.length → (gat bs k n i).length ≤ 1000 * n
  | 0, i, _ => by simp [gat]
  | n + 1, i, hi => by
    have h1 := gat_len bs k h n (i + 1) (by omega)
    have h2 := fil_len (ixb bs i).ps k (ixb bs i).ps.length 0
    have h3 := h.2 _ (ixb_mem (L := bs) (i := i) (by omega))
    simp only [gat, List.length_append]
    omega
theorem ofL_len {bs : List B} {k : Int} (h : smallB bs) : (ofL bs k).length ≤ 1000000 := by
  have := gat_len bs k h bs.length 0 (by omega)
  have := h.1
  unfold ofL
  omega
theorem fil_next {ps : List P} {k : Int} {j : Nat} (h : j < ps.length) : fil ps k (ps.length - j) j = (bif (ixp ps j).a == k then [ixp ps j] else []) ++ fil ps k (ps.length - (j + 1)) (j + 1) := by
  rw [show ps.length - j = (ps.length - (j + 1)) + 1 by omega, fil]
  cases ((ixp ps j).a == k) <;> rfl
theorem gat_next {bs : List B} {k : Int} {i : Nat} (h : i < bs.length) : gat bs k (bs.length - i) i = fil (ixb bs i).ps k (ixb bs i).ps.length 0 ++ gat bs k (bs.length - (i + 1)) (i + 1) := by
  rw [show bs.length - i = (bs.length - (i + 1)) + 1 by omega, gat]
/-- Of batches and a number. -/
def bkQ (r : List B → Int → AV) : QSpec := fun vs => match vs with
  | [.ro s len cap row, .int .i64 k] => some ([Wk (.ro s len cap row) (batchesAV (batchesOf len row)) ∧ smallB (batchesOf len row)], r (batchesOf len row) k)
  | _ => none
theorem bkQ_of {f : FuncId} {r : List B → Int → AV} (H : ∀ (xs : List B) (k : Int), smallB xs → SCall Try.prog f [batchesAV xs, .int .i64 k] [] (Told (r xs k))) : ∀ vs ob q, bkQ r vs = some (ob, q) → conj ob → SCall Try.prog f vs [] (Told q) := by
  intro vs ob q h hob
  unfold bkQ at h
  split at h
  · rename_i s len cap row k
    simp only [Option.some.injEq, Prod.mk.injEq] at h
    obtain ⟨rfl, rfl⟩ := h
    obtain ⟨hw, hs⟩ : Wk (.ro s len cap row) (batchesAV (batchesOf len row)) ∧ smallB (batchesOf len row) := hob
    exact SCall.weaken (us := [batchesAV (batchesOf len row), .int .i64 k]) (H _ k hs) rfl fun i hi => match i, hi with | 0, _ => hw | 1, _ => Wk.refl _
  · simp at h
theorem posts_frozen {L : List P} (h : L.length ≤ 9223372036854775807) : isPosts 2 L.length (fun i => (postCells L (0 + i)).map AV.rv) ∧ postsOf L.length (fun i => (postCells L (0 + i)).map AV.rv) = L := by
  have e : (fun i => (postCells L (0 + i)).map AV.rv) = postRow L := funext fun i => by
    show postRow L (0 + i) = _
    rw [Nat.zero_add]
  rw [e]
  exact ⟨isPosts_self h, postsOf_self L⟩
theorem of40 : ∀ vs ob r, bkQ (fun bs k => sumPV (sumP (ofL bs k))) vs = some (ob, r) → conj ob → SCall Try.prog 40 vs [] (Told r) := bkQ_of fun bs k hsm => by
  refine scall_of (cfg_ok envP3_ok 0) Try.func40 (by kernel_rfl) rfl ?_
  generalize hK : Told _ = K
  have hT := ofL_len (k := k) hsm
  have hbl := hsm.1
  conv => whnf
  refine ⟨[(6, 2)], [1, 6, 11, 12, 13], 1, fun q s => ∃ (i : Nat) (L : List P), q = bs.length - i ∧ i ≤ bs.length ∧ L ++ gat bs k (bs.length - i) i = ofL bs k ∧ s = ⟨.top :: .int .i64 k :: .top :: .top :: .top :: .top :: .sl 0 2 0 L.length none :: .top :: .top :: .top :: .top :: batchesAV bs :: .int .i64 bs.length :: .int .i64 i :: List.replicate 24 .top, [.rows 2 L.length (postCells L)]⟩, Nat.zero_le _, ⟨_, _, ?_, 0, [], rfl, Nat.zero_le _, rfl, rfl⟩, ?_⟩
  · exact ⟨rfl, rfl, fun o ho => match o, ho with | 0, _ => ⟨rfl, rfl, fun j hj => absurd hj (Nat.not_lt_zero _)⟩⟩
  · rintro q s ⟨i, L, rfl, hi, hL, rfl⟩
    conv => whnf
    refine ⟨fun h3 => ?_, fun h3 => ?_⟩
    · have hlt : i < bs.length := by have := of_decide_eq_true h3; omega
      have wi : IntKind.i64.wrap ((i : Int) + 1) = ((i + 1 : Nat) : Int) := by rw [w64 (by omega) (by omega)]; rfl
      have ei : ((i : Int)).toNat = i := Int.toNat_natCast i
      rw [gat_next hlt] at hL
      have hpl := hsm.2 _ (ixb_mem hlt)
      conv => whnf
      refine ⟨⟨by omega, by omega⟩, ?_⟩
      rw [ei]
      generalize hps : (ixb bs i).ps = ps at hL hpl
      conv => whnf
      refine ⟨[], [1, 6, 11, 12, 13, 18, 19, 20], 1, fun q s => ∃ (j : Nat) (L : List P), q = ps.length - j ∧ j ≤ ps.length ∧ L ++ (fil ps k (ps.length - j) j ++ gat bs k (bs.length - (i + 1)) (i + 1)) = ofL bs k ∧ s = ⟨.top :: .int .i64 k :: .top :: .top :: .top :: .top :: .sl 0 2 0 L.length none :: .top :: .top :: .top :: .top :: batchesAV bs :: .int .i64 bs.length :: .int .i64 i :: .top :: .top :: .top :: .top :: .ro 2 ps.length none (postRow ps) :: .int .i64 ps.length :: .int .i64 j :: List.replicate 17 .top, [.rows 2 L.length (postCells L)]⟩, Nat.zero_le _, ⟨_, _, ?_, 0, L, rfl, Nat.zero_le _, hL, rfl⟩, ?_⟩
      · exact ⟨rfl, rfl, fun o ho => match o, ho with | 0, _ => ⟨rfl, rfl, fun j hj => rfl⟩⟩
      · rintro q s ⟨j, L, rfl, hj, hL, rfl⟩
        have hLl : L.length ≤ 1000000 := by
          have := congrArg List.length hL
          rw [List.length_append] at this
          omega
        conv => whnf
        refine ⟨fun h4 => ?_, fun h4 => ?_⟩
        · have hlt2 : j < ps.length := by have := of_decide_eq_true h4; omega
          have wj : IntKind.i64.wrap ((j : Int) + 1) = ((j + 1 : Nat) : Int) := by rw [w64 (by omega) (by omega)]; rfl
          have ej : ((j : Int)).toNat = j := Int.toNat_natCast j
          rw [fil_next hlt2] at hL
          conv => whnf
          refine ⟨⟨by omega, by omega⟩, ?_⟩
          rw [ej]
          conv => whnf
          refine ⟨fun h5 => ?_, fun h5 => ?_⟩
          · rw [h5] at hL
            conv => whnf
            refine ⟨⟨rfl, show (L.length + 1) * 16 ≤ _ by omega, fun i hi => ⟨rfl, rfl⟩⟩, ?_⟩
            conv => whnf
            refine ⟨ps.length - (j + 1), _, by omega, ?_, j + 1, L ++ [ixp ps j], rfl, hlt2, by rw [← hL]; simp, rfl⟩
            rw [← wj, List.length_append]
            exact ⟨rfl, rfl, fun o ho => match o, ho with | 0, _ => ⟨rfl, rfl, fun i hi => post_app L (ixp ps j) hi⟩⟩
          · rw [h5] at hL
            conv => whnf
            refine ⟨ps.length - (j + 1), _, by omega, ?_, j + 1, L, rfl, hlt2, hL, rfl⟩
            rw [← wj]
            exact ⟨rfl, rfl, fun o ho => match o, ho with | 0, _ => ⟨rfl, rfl, fun j hj => rfl⟩⟩
        · have hz : ps.length - j = 0 := by have := of_decide_eq_false h4; omega
          rw [hz, fil, List.nil_append] at hL
          conv => whnf
          refine ⟨bs.length - (i + 1), _, by omega, ?_, i + 1, L, rfl, hlt, hL, rfl⟩
          rw [← wi]
          exact ⟨rfl, rfl, fun o ho => match o, ho with | 0, _ => ⟨rfl, rfl, fun j hj => rfl⟩⟩
    · have hz : bs.length - i = 0 := by have := of_decide_eq_false h3; omega
      rw [hz, gat, List.append_nil] at hL
      subst hL
      have hf := posts_frozen (L := ofL bs k) (by omega)
      conv => whnf
      refine ⟨⟨show 0 + (ofL bs k).length ≤ (ofL bs k).length by omega, hf.1⟩, ?_⟩
      conv => whnf
      subst hK
      refine told_of trivial rfl ?_
      show sumPV (sumP (postsOf (ofL bs k).length fun i => (postCells (ofL bs k) (0 + i)).map AV.rv)) = _
      rw [hf.2]
end Go.Proofs.Ytepbibbeifbokaa.Sh
