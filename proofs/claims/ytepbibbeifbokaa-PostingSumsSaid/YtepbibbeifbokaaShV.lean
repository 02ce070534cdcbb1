/- The shadow machine over this program: the law PostingSums. -/
import Derived.Test.YtepbibbeifbokaaShPi
import Derived.Test.YtepbibbeifbokaaShU
namespace Go.Proofs.Ytepbibbeifbokaa.Sh
open Go Go.RowKit
set_option linter.unusedVariables false
set_option linter.unusedSimpArgs false
set_option maxRecDepth 1000000
set_option maxHeartbeats 4000000
def lowP (L : List P) : Prop := ∀ p ∈ L, -1000000000000 ≤ p.m ∧ p.m ≤ 1000000000000
theorem low_sumR (r : List P) : ∀ (n : Int), lowP r → -2000000000000000 + 1000000000000 * (r.length : Int) ≤ n → n ≤ 2000000000000000 - 1000000000000 * (r.length : Int) → sumR r n = some (n + totP r) ∧ -1000000000000 * (r.length : Int) ≤ totP r ∧ totP r ≤ 1000000000000 * (r.length : Int) := by
  induction r with
  | nil =>
    intro n _ _ _
    have h0 : totP [] = 0 := rfl
    rw [h0, Int.add_zero]
    refine ⟨rfl, ?_, ?_⟩ <;> simp
  | cons p r ih =>
    intro n hl h1 h2
    have hp := hl p (by simp)
    rw [List.length_cons] at h1 h2 ⊢
    obtain ⟨a1, a2, a3⟩ := ih (n + p.m) (fun x hx => hl x (by simp [hx])) (by omega) (by omega)
    have ht : totP (p :: r) = p.m + totP r := rfl
    have hs : sumR (p :: r) n = bif may2 p.m && may2 (n + p.m) then sumR r (n + p.m) else none := rfl
    rw [hs, ht, may2_iff.mpr (by omega), may2_iff.mpr (by omega), Bool.and_true, cond_true, a1]
    refine ⟨by congr 1; omega, by omega, by omega⟩
theorem low_sum {L : List P} (h : lowP L) (hl : L.length ≤ 40) : sumP L = some (totP L) ∧ -40000000000000 ≤ totP L ∧ totP L ≤ 40000000000000 := by
  obtain ⟨a1, a2, a3⟩ := low_sumR L 0 h (by omega) (by omega)
  rw [sumP_R, a1]
  refine ⟨by simp, by omega, by omega⟩
theorem big_sum {L : List P} {p : P} (hp : may2 p.m = false) : sumP (L ++ [p]) = none := by
  rw [sumP_R, sumR_app]
  cases sumR L 0 with
  | none => rfl
  | some v => simp [sumR, hp]
theorem frozen_part {L : List P} {o n : Nat} (h : o + n ≤ L.length) (hL : L.length ≤ 1000) : isPosts 2 n (fun i => (postCells L (o + i)).map AV.rv) ∧ postsOf n (fun i => (postCells L (o + i)).map AV.rv) = (L.drop o).take n := by
  refine ⟨isPosts_of (by omega) fun i _ => ⟨ixp L (o + i), rfl⟩, ?_⟩
  refine List.ext_getElem (by simp [postsOf]; omega) fun i h1 h2 => ?_
  have hi : i < n := by simpa [postsOf] using h1
  simp only [postsOf, List.getElem_map, List.getElem_range, List.getElem_take, List.getElem_drop]
  show (⟨(ixp L (o + i)).a, (ixp L (o + i)).m⟩ : P) = L[o + i]
  simp [ixp, List.getD_eq_getElem?_getD, List.getElem?_eq_getElem (show o + i < L.length by omega)]
def badRow (L : List P) (k : Nat) (big : Int) (i : Nat) : List RV := [.int .i64 (bif decide (0 + i < k) then (ixp L (0 + (0 + i))).a else 1), .int .i64 (bif decide (0 + i < k) then (ixp L (0 + (0 + i))).m else big)]
theorem bad_posts {L : List P} {k : Nat} {big : Int} (hk : k ≤ L.length) (hL : L.length ≤ 1000) : isPosts 2 (k + 1) (badRow L k big) ∧ postsOf (k + 1) (badRow L k big) = L.take k ++ [⟨1, big⟩] := by
  refine ⟨isPosts_of (by omega) fun i _ => ⟨⟨_, _⟩, rfl⟩, ?_⟩
  refine List.ext_getElem (by simp [postsOf, Nat.min_eq_left hk]) fun i h1 h2 => ?_
  have hi : i < k + 1 := by simpa [postsOf] using h1
  simp only [postsOf, List.getElem_map, List.getElem_range]
  show (⟨bif decide (0 + i < k) then (ixp L (0 + (0 + i))).a else 1, bif decide (0 + i < k) then (ixp L (0 + (0 + i))).m else big⟩ : P) = _
  rw [Nat.zero_add, Nat.zero_add]
  by_cases h : i < k
  · rw [decide_eq_true h, cond_true, cond_true, List.getElem_append_left (by simp; omega), List.getElem_take]
    simp [ixp, List.getD_eq_getElem?_getD, List.getElem?_eq_getElem (show i < L.length by omega)]
  · have e : i = k := by omega
    subst e
    rw [decide_eq_false h, cond_false, cond_false, List.getElem_append_right (by simp; omega)]
    simp
theorem and2_trueV {x : Bool} {p : Prop} {_ : Decidable p} (h : (bif x then decide p else false) = true) : x = true ∧ p := by
  cases x <;> by_cases hp : p <;> simp_all
theorem rem_boundsV (y : Int) {n : Int} (h : 0 < n) : 0 ≤ (IntKind.u64.wrap y).tmod n ∧ (IntKind.u64.wrap y).tmod n < n := by
  have h0 : 0 ≤ IntKind.u64.wrap y := by
    unfold IntKind.wrap
    simp only [IntKind.bits, IntKind.signed]
    simp
    omega
  rw [Int.tmod_eq_emod_of_nonneg h0]
  exact ⟨Int.emod_nonneg _ (by omega), Int.emod_lt_of_pos _ h⟩
theorem tmod_low (x : Int) : -1000000000000 ≤ x.tmod 1000000000000 ∧ x.tmod 1000000000000 ≤ 1000000000000 := by
  rcases Int.le_total 0 x with h | h
  · rw [Int.tmod_eq_emod_of_nonneg h]
    omega
  · have e : x.tmod 1000000000000 = - ((-x).tmod 1000000000000) := by rw [Int.neg_tmod]; omega
    rw [e, Int.tmod_eq_emod_of_nonneg (by omega)]
    omega
theorem sums9 (xs : List P) (ct : Int) (up : Bool) (hlx : xs.length ≤ 9223372036854775807) : SCall Try.prog 9 [postsAV xs, .int .i64 ct, .bool up] [] (Told (.bool true)) := by
  refine scall_ofU (cfg_ok envP3_ok 0) Try.func9 (by kernel_rfl) rfl ?_
  generalize hK : Told _ = K
  have hne : (1000000000000 : Int) ≠ 0 := by decide
  conv => whnf
  refine ⟨[(7, 2)], [0, 1, 2, 7, 8], 1, fun q s => ∃ (i : Nat) (L : List P), q = 40 - i ∧ i ≤ 40 ∧ L.length = i ∧ lowP L ∧ s = ⟨postsAV xs :: .int .i64 ct :: .bool up :: .top :: .top :: .top :: .top :: .sl 0 2 0 L.length none :: .int .i64 i :: List.replicate 107 .top, [.rows 2 L.length (postCells L)]⟩, Nat.zero_le _, ⟨_, _, ?_, 0, [], rfl, Nat.zero_le _, rfl, (fun p hp => by simp at hp), rfl⟩, ?_⟩
  · exact ⟨rfl, rfl, fun o ho => match o, ho with | 0, _ => ⟨rfl, rfl, fun j hj => absurd hj (Nat.not_lt_zero _)⟩⟩
  · rintro q s ⟨i, L, rfl, hi, hLi, hlow, rfl⟩
    conv => whnf
    refine ⟨fun h3 => ?_, fun h3 => ?_⟩
    · obtain ⟨h3a, h3b⟩ := and2_trueV h3
      have hlt : i < xs.length := by have := of_decide_eq_true h3a; omega
      have hi9 : i < 40 := by omega
      clear h3 h3a h3b
      have wi : IntKind.i64.wrap ((i : Int) + 1) = ((i + 1 : Nat) : Int) := by rw [w64 (by omega) (by omega)]; rfl
      have ei : ((i : Int)).toNat = i := Int.toNat_natCast i
      have hI : 0 ≤ (i : Int) ∧ (i : Int) < xs.length := by omega
      have hm := tmod_low (ixp xs i).m
      conv => whnf
      refine ⟨14, by kernel_rfl, ?_⟩
      conv => whnf
      rw [ei]
      refine ⟨⟨hI, hI, hne⟩, ?_⟩
      conv => whnf
      refine ⟨⟨rfl, show (L.length + 1) * 16 ≤ _ by omega, fun i hi => ⟨rfl, rfl⟩⟩, ?_⟩
      conv => whnf
      refine ⟨40 - (i + 1), _, by omega, ?_, i + 1, L ++ [⟨(ixp xs i).a, (ixp xs i).m.tmod 1000000000000⟩], rfl, by omega, by simp; omega, fun p hp => ?_, rfl⟩
      · rw [← wi, List.length_append]
        exact ⟨rfl, rfl, fun o ho => match o, ho with | 0, _ => ⟨rfl, rfl, fun i' hi' => post_app L ⟨(ixp xs i).a, (ixp xs i).m.tmod 1000000000000⟩ hi'⟩⟩
      · rcases List.mem_append.mp hp with h | h
        · exact hlow p h
        · simp only [List.mem_singleton] at h
          subst h
          exact hm
    · clear h3
      have hL40 : L.length ≤ 40 := by omega
      have wl : IntKind.i64.wrap ((L.length : Int) + 1) = (L.length : Int) + 1 := w64 (by omega) (by omega)
      have wu : IntKind.u64.wrap ((L.length : Int) + 1) = (L.length : Int) + 1 := by
        unfold IntKind.wrap
        simp only [IntKind.bits, IntKind.signed]
        simp
        omega
      have hz := rem_boundsV ct (n := (L.length : Int) + 1) (by omega)
      conv => whnf
      rw [wl, wu]
      refine ⟨show (L.length : Int) + 1 ≠ 0 by omega, ?_⟩
      generalize (IntKind.u64.wrap ct).tmod ((L.length : Int) + 1) = z at hz
      obtain ⟨k, rfl⟩ : ∃ k : Nat, z = k := ⟨z.toNat, by omega⟩
      have hkL : k ≤ L.length := by omega
      rw [show IntKind.i64.wrap (k : Int) = k from w64 (by omega) (by omega)]
      have ek : ((k : Int)).toNat = k := Int.toNat_natCast k
      have hf0 := frozen_part (L := L) (o := 0) (n := L.length) (by omega) (by omega)
      have hf1 := frozen_part (L := L) (o := 0) (n := k) (by omega) (by omega)
      have hf2 := frozen_part (L := L) (o := 0 + k) (n := L.length - k) (by omega) (by omega)
      have s0 := low_sum hlow hL40
      have s1 := low_sum (L := L.take k) (fun p hp => hlow p (List.mem_of_mem_take hp)) (by simp; omega)
      have s2 := low_sum (L := L.drop k) (fun p hp => hlow p (List.mem_of_mem_drop hp)) (by simp; omega)
      have htot : totP L = totP (L.take k) + totP (L.drop k) := by rw [← totP_app, List.take_append_drop]
      have p0 : postsOf L.length (fun i => List.map AV.rv (postCells L (0 + i))) = L := by rw [show postsOf L.length (fun i => List.map AV.rv (postCells L (0 + i))) = _ from hf0.2]; simp
      have p1 : postsOf k (fun i => List.map AV.rv (postCells L (0 + i))) = L.take k := by rw [show postsOf k (fun i => List.map AV.rv (postCells L (0 + i))) = _ from hf1.2]; simp
      have p2 : postsOf (L.length - k) (fun i => List.map AV.rv (postCells L (0 + k + i))) = L.drop k := by
        rw [show postsOf (L.length - k) (fun i => List.map AV.rv (postCells L (0 + k + i))) = _ from hf2.2, Nat.zero_add]
        exact List.take_of_length_le (by simp)
      conv => whnf
      refine ⟨⟨show 0 + L.length ≤ L.length by omega, hf0.1⟩, ?_⟩
      rw [p0, s0.1]
      conv => whnf
      rw [ek]
      refine ⟨⟨⟨by omega, show (k : Int) ≤ (L.length : Int) by omega⟩, trivial, show 0 + k ≤ L.length by omega, hf1.1⟩, ?_⟩
      rw [show postsOf (natLess none k) (fun i => List.map AV.rv (postCells L (natFrom none 0 + i))) = L.take k from p1, s1.1]
      conv => whnf
      refine ⟨⟨trivial, ⟨by omega, show (k : Int) ≤ (L.length : Int) by omega⟩, show 0 + k + (L.length - k) ≤ L.length by omega, hf2.1⟩, ?_⟩
      rw [show postsOf (natLess (some (k : Int)) L.length) (fun i => List.map AV.rv (postCells L (natFrom (some (k : Int)) 0 + i))) = L.drop k from p2, s2.1]
      conv => whnf
      refine ⟨fun hu => ?_, fun hu => ?_⟩
      · conv => whnf
        rw [ek, show IntKind.i64.wrap (0 - 2000000000000001) = -2000000000000001 from by decide]
        refine ⟨⟨⟨by omega, show (k : Int) ≤ (L.length : Int) by omega⟩, trivial, show 0 + k ≤ L.length by omega, show k * 16 ≤ _ by omega, rfl, show (k + 1) * 16 ≤ _ by omega, fun i hi => ⟨rfl, rfl⟩⟩, ?_⟩
        have hbp := bad_posts (L := L) (k := k) (big := -2000000000000001) hkL (by omega)
        have hbs : sumP (L.take k ++ [⟨1, -2000000000000001⟩]) = none := big_sum (by decide)
        conv => whnf
        refine ⟨⟨show 0 + (k + 1) ≤ k + 1 by omega, hbp.1⟩, ?_⟩
        have hq : ∀ F, F = badRow L k (-2000000000000001) → sumP (postsOf (natLess none k + 1) F) = none := by
          intro F hF
          subst hF
          exact (congrArg sumP (show postsOf (natLess none k + 1) (badRow L k (-2000000000000001)) = L.take k ++ [⟨1, -2000000000000001⟩] from hbp.2)).trans hbs
        rw [hq]
        rotate_left
        · rfl
        conv => whnf
        subst hK
        refine told_bool ?_
        have hw : IntKind.i64.wrap (totP (L.take k) + totP (L.drop k)) = totP L := by rw [← htot]; exact w64 (by omega) (by omega)
        simp [hw]
      · conv => whnf
        rw [ek]
        refine ⟨⟨⟨by omega, show (k : Int) ≤ (L.length : Int) by omega⟩, trivial, show 0 + k ≤ L.length by omega, show k * 16 ≤ _ by omega, rfl, show (k + 1) * 16 ≤ _ by omega, fun i hi => ⟨rfl, rfl⟩⟩, ?_⟩
        have hbp := bad_posts (L := L) (k := k) (big := 2000000000000001) hkL (by omega)
        have hbs : sumP (L.take k ++ [⟨1, 2000000000000001⟩]) = none := big_sum (by decide)
        conv => whnf
        refine ⟨⟨show 0 + (k + 1) ≤ k + 1 by omega, hbp.1⟩, ?_⟩
        have hq : ∀ F, F = badRow L k (2000000000000001) → sumP (postsOf (natLess none k + 1) F) = none := by
          intro F hF
          subst hF
          exact (congrArg sumP (show postsOf (natLess none k + 1) (badRow L k (2000000000000001)) = L.take k ++ [⟨1, 2000000000000001⟩] from hbp.2)).trans hbs
        rw [hq]
        rotate_left
        · rfl
        conv => whnf
        subst hK
        refine told_bool ?_
        have hw : IntKind.i64.wrap (totP (L.take k) + totP (L.drop k)) = totP L := by rw [← htot]; exact w64 (by omega) (by omega)
        simp [hw]
end Go.Proofs.Ytepbibbeifbokaa.Sh
