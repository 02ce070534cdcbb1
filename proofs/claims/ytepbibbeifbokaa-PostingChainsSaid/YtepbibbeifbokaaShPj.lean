/- The shadow machine over this program: the law PostingChains. -/
import Derived.Test.YtepbibbeifbokaaShPi
import Derived.Test.YtepbibbeifbokaaShN
namespace Go.Proofs.Ytepbibbeifbokaa.Sh
open Go Go.RowKit
set_option linter.unusedVariables false
set_option linter.unusedSimpArgs false
set_option maxRecDepth 1000000
set_option maxHeartbeats 4000000
def mCells (xs : List M) (i : Nat) : List AV := [.int .i64 (ixM xs i).pri, .int .i64 (ixM xs i).acc, .ro 4 (ixM xs i).dues.length none (dueRow (ixM xs i).dues), .int .i64 (ixM xs i).pen, .int .i64 (ixM xs i).fee, .int .i64 (ixM xs i).una, .int .i64 (ixM xs i).cash, .int .i64 (ixM xs i).ear, .int .i64 (ixM xs i).fin, .int .i64 (ixM xs i).cha]
theorem ixM_app (L : List M) (x : M) {i : Nat} (hi : i < L.length + 1) : ixM (L ++ [x]) i = if i < L.length then ixM L i else x := by
  unfold ixM
  by_cases h : i < L.length
  · simp [h, List.getD_eq_getElem?_getD, List.getElem?_append]
  · have : i = L.length := by omega
    subst this
    simp [List.getD_eq_getElem?_getD]
theorem m_app (L : List M) (x : M) {i : Nat} (hi : i < L.length + 1) : ([.int .i64 (bif decide (i < L.length) then (ixM L i).pri else x.pri), .int .i64 (bif decide (i < L.length) then (ixM L i).acc else x.acc), .ro 4 (bif decide (i < L.length) then (ixM L i).dues.length else x.dues.length) none (fun j => bif decide (i < L.length) then dueRow (ixM L i).dues j else dueRow x.dues j), .int .i64 (bif decide (i < L.length) then (ixM L i).pen else x.pen), .int .i64 (bif decide (i < L.length) then (ixM L i).fee else x.fee), .int .i64 (bif decide (i < L.length) then (ixM L i).una else x.una), .int .i64 (bif decide (i < L.length) then (ixM L i).cash else x.cash), .int .i64 (bif decide (i < L.length) then (ixM L i).ear else x.ear), .int .i64 (bif decide (i < L.length) then (ixM L i).fin else x.fin), .int .i64 (bif decide (i < L.length) then (ixM L i).cha else x.cha)] : List AV) = mCells (L ++ [x]) i := by
  unfold mCells
  rw [ixM_app L x hi]
  by_cases h : i < L.length
  · simp only [h, decide_true, cond_true, if_true]
  · simp only [h, decide_false, cond_false, if_false]
def bCells (xs : List B) (i : Nat) : List AV := [.int .i64 (ixb xs i).seq, .int .i64 (ixb xs i).day, .ro 2 (ixb xs i).ps.length none (postRow (ixb xs i).ps)]
theorem ixb_app (L : List B) (x : B) {i : Nat} (hi : i < L.length + 1) : ixb (L ++ [x]) i = if i < L.length then ixb L i else x := by
  unfold ixb
  by_cases h : i < L.length
  · simp [h, List.getD_eq_getElem?_getD, List.getElem?_append]
  · have : i = L.length := by omega
    subst this
    simp [List.getD_eq_getElem?_getD]
theorem b_app (L : List B) (x : B) {i : Nat} (hi : i < L.length + 1) : ([.int .i64 (bif decide (i < L.length) then (ixb L i).seq else x.seq), .int .i64 (bif decide (i < L.length) then (ixb L i).day else x.day), .ro 2 (bif decide (i < L.length) then (ixb L i).ps.length else x.ps.length) none (fun j => bif decide (i < L.length) then postRow (ixb L i).ps j else postRow x.ps j)] : List AV) = bCells (L ++ [x]) i := by
  unfold bCells
  rw [ixb_app L x hi]
  by_cases h : i < L.length
  · simp only [h, decide_true, cond_true, if_true]
  · simp only [h, decide_false, cond_false, if_false]
theorem batches_frozen {bs : List B} : Wk (.ro 3 bs.length none fun i => (bCells bs (0 + i)).map AV.rv) (batchesAV (batchesOf bs.length fun i => (bCells bs (0 + i)).map AV.rv)) ∧ batchesOf bs.length (fun i => (bCells bs (0 + i)).map AV.rv) = bs := by
  have e : (fun i => (bCells bs (0 + i)).map AV.rv) = batchRow bs := funext fun i => by
    show batchRow bs (0 + i) = _
    rw [Nat.zero_add]
  rw [e, batchesOf_self]
  exact ⟨Wk.refl _, rfl⟩
theorem and2_true {x : Bool} {p : Prop} {_ : Decidable p} (h : (bif x then decide p else false) = true) : x = true ∧ p := by
  cases x <;> by_cases hp : p <;> simp_all
theorem chains12 (xs : List M) (hxs : ∀ m ∈ xs, m.dues.length ≤ 9223372036854775807) (hlx : xs.length ≤ 9223372036854775807) : SCall Try.prog 12 [moneysAV xs] [] (Told (.bool true)) := by
  refine scall_of (cfg_ok envP4_ok 0) Try.func12 (by kernel_rfl) rfl ?_
  generalize hK : Told _ = K
  conv => whnf
  refine ⟨[(3, 10)], [0, 3, 4], 1, fun q s => ∃ (i : Nat) (L : List M), q = 10 - i ∧ i ≤ 10 ∧ L.length ≤ i ∧ (∀ j, j < L.length → (readM (ixM L j)).2 = true ∧ (ixM L j).dues.length ≤ 30) ∧ s = ⟨moneysAV xs :: .top :: .top :: .sl 0 10 0 L.length none :: .int .i64 i :: List.replicate 100 .top, [.rows 10 L.length (mCells L)]⟩, Nat.zero_le _, ⟨_, _, ?_, 0, [], rfl, Nat.zero_le _, Nat.zero_le _, (fun j hj => absurd hj (Nat.not_lt_zero _)), rfl⟩, ?_⟩
  · exact ⟨rfl, rfl, fun o ho => match o, ho with | 0, _ => ⟨rfl, rfl, fun j hj => absurd hj (Nat.not_lt_zero _)⟩⟩
  · rintro q s ⟨i, L, rfl, hi, hLi, hL, rfl⟩
    conv => whnf
    refine ⟨fun h3 => ?_, fun h3 => ?_⟩
    · obtain ⟨h3a, h3b⟩ := and2_true h3
      have hlt : i < xs.length := by have := of_decide_eq_true h3a; omega
      have hi9 : i < 10 := by omega
      clear h3 h3a h3b
      have wi : IntKind.i64.wrap ((i : Int) + 1) = ((i + 1 : Nat) : Int) := by rw [w64 (by omega) (by omega)]; rfl
      have ei : ((i : Int)).toNat = i := Int.toNat_natCast i
      have hI : 0 ≤ (i : Int) ∧ (i : Int) < xs.length := by omega
      have hmd : (ixm xs i).dues.length ≤ 9223372036854775807 := hxs _ (by
        unfold ixm
        rw [List.getD_eq_getElem?_getD, List.getElem?_eq_getElem hlt]
        exact List.getElem_mem hlt)
      conv => whnf
      rw [ei]
      generalize hm : ixm xs i = m at hmd
      refine ⟨⟨hI, isDues_m hmd, fun _ => hI⟩, ?_⟩
      rw [m_self]
      conv => whnf
      refine ⟨fun h4 => ?_, fun h4 => ?_⟩
      · obtain ⟨hr, h30⟩ := and2_true (x := (readM m).2) h4
        have hd30 : m.dues.length ≤ 30 := by omega
        conv => whnf
        rw [ei, hm]
        refine ⟨⟨hI, rfl, show (L.length + 1) * 96 ≤ _ by omega, fun i hi => ⟨rfl, rfl⟩⟩, ?_⟩
        conv => whnf
        refine ⟨10 - (i + 1), _, by omega, ?_, i + 1, L ++ [m], rfl, by omega, by simp; omega, fun j hj => ?_, rfl⟩
        · rw [← wi, List.length_append]
          exact ⟨rfl, rfl, fun o ho => match o, ho with | 0, _ => ⟨rfl, rfl, fun i hi => m_app L m hi⟩⟩
        · rw [List.length_append, List.length_singleton] at hj
          rw [ixM_app L m hj]
          by_cases hjl : j < L.length
          · rw [if_pos hjl]; exact hL j hjl
          · rw [if_neg hjl]; exact ⟨hr, hd30⟩
      · conv => whnf
        refine ⟨10 - (i + 1), _, by omega, ?_, i + 1, L, rfl, by omega, by omega, hL, rfl⟩
        rw [← wi]
        exact ⟨rfl, rfl, fun o ho => match o, ho with | 0, _ => ⟨rfl, rfl, fun j hj => rfl⟩⟩
    · clear h3
      have hL10 : L.length ≤ 10 := by omega
      have hLd : ∀ j, j < L.length → isDues 4 (ixM L j).dues.length (dueRow (ixM L j).dues) := fun j hj => isDues_m (by have := (hL j hj).2; omega)
      conv => whnf
      refine ⟨[(5, 3)], [3, 5, 6], 2, fun q s => ∃ (n : Nat) (bs : List B), q = 11 - n ∧ n ≤ 10 ∧ (n = 0 ∨ n < L.length) ∧ bs = chB L n ∧ s = ⟨.top :: .top :: .top :: .sl 0 10 0 L.length none :: .top :: .sl 1 3 0 bs.length none :: .int .i64 ((n + 1 : Nat) : Int) :: List.replicate 98 .top, [.rows 10 L.length (mCells L), .rows 3 bs.length (bCells bs)]⟩, Nat.zero_le _, ⟨_, _, ?_, 0, [], rfl, Nat.zero_le _, .inl rfl, rfl, rfl⟩, ?_⟩
      · exact ⟨rfl, rfl, fun o ho => match o, ho with | 0, _ => ⟨rfl, rfl, fun j hj => rfl⟩ | 1, _ => ⟨rfl, rfl, fun j hj => absurd hj (Nat.not_lt_zero _)⟩⟩
      · rintro q s ⟨n, bs, rfl, hn, hnL, hbs, rfl⟩
        have hbl : bs.length = n := by rw [hbs, chB_len]
        conv => whnf
        refine ⟨fun h3 => ?_, fun h3 => ?_⟩
        · have hlt : n + 1 < L.length := by have := of_decide_eq_true h3; omega
          have wi : IntKind.i64.wrap (((n + 1 : Nat) : Int) + 1) = ((n + 1 + 1 : Nat) : Int) := by rw [w64 (by omega) (by omega)]; rfl
          have wm : IntKind.i64.wrap (((n + 1 : Nat) : Int) - 1) = (n : Int) := by rw [w64 (by omega) (by omega)]; omega
          have ei : (((n + 1 : Nat) : Int)).toNat = n + 1 := Int.toNat_natCast _
          have en : ((n : Int)).toNat = n := Int.toNat_natCast _
          have hb : both (ixM L n) (ixM L (n + 1)) = true := by unfold both; rw [(hL n (by omega)).1, (hL (n + 1) hlt).1]; rfl
          conv => whnf
          refine ⟨[], by kernel_rfl, ?_⟩
          conv => whnf
          rw [wm, en, ei, Nat.zero_add, Nat.zero_add]
          refine ⟨⟨⟨by omega, by omega⟩, by omega, ⟨by omega, by omega⟩, hlt, hLd n (by omega), hLd (n + 1) hlt⟩, ?_⟩
          rw [m_self, m_self, hb]
          conv => whnf
          refine ⟨fun h4 => ?_, fun h4 => ?_⟩
          · exact absurd h4 (by decide)
          · conv => whnf
            refine ⟨⟨rfl, show (bs.length + 1) * 40 ≤ _ by omega, fun i hi => ⟨rfl, rfl⟩⟩, ?_⟩
            conv => whnf
            refine ⟨11 - (n + 1), _, by omega, ?_, n + 1, bs ++ [⟨((n + 1 : Nat) : Int), 0, bet (ixM L n) (ixM L (n + 1))⟩], rfl, by omega, .inr hlt, by rw [hbs]; rfl, rfl⟩
            rw [← wi, List.length_append]
            exact ⟨rfl, rfl, fun o ho => match o, ho with | 0, _ => ⟨rfl, rfl, fun j hj => rfl⟩ | 1, _ => ⟨rfl, rfl, fun i hi => b_app bs ⟨((n + 1 : Nat) : Int), 0, bet (ixM L n) (ixM L (n + 1))⟩ hi⟩⟩
        · have hge : L.length ≤ n + 1 := by have := of_decide_eq_false h3; omega
          clear h3
          conv => whnf
          refine ⟨fun h4 => ?_, fun h4 => ?_⟩
          · conv => whnf
            subst hK
            exact told_bool rfl
          · have h2L : 2 ≤ L.length := by have := of_decide_eq_false h4; omega
            have hnl : n + 1 = L.length := by omega
            clear h4
            conv => whnf
            refine ⟨[], [3, 5, 9], 2, fun q s => ∃ k : Nat, q = 12 - k ∧ 1 ≤ k ∧ k ≤ 12 ∧ s = ⟨.top :: .top :: .top :: .sl 0 10 0 L.length none :: .top :: .sl 1 3 0 bs.length none :: .top :: .top :: .top :: .int .i64 k :: List.replicate 95 .top, [.rows 10 L.length (mCells L), .rows 3 bs.length (bCells bs)]⟩, Nat.zero_le _, ⟨_, _, ?_, 1, rfl, Nat.le_refl _, by omega, rfl⟩, ?_⟩
            · exact ⟨rfl, rfl, fun o ho => match o, ho with | 0, _ => ⟨rfl, rfl, fun j hj => rfl⟩ | 1, _ => ⟨rfl, rfl, fun j hj => rfl⟩⟩
            · rintro q s ⟨k, rfl, hk1, hk12, rfl⟩
              conv => whnf
              refine ⟨fun h5 => ?_, fun h5 => ?_⟩
              · have hk11 : k ≤ 11 := by have := of_decide_eq_true h5; omega
                have wi : IntKind.i64.wrap ((k : Int) + 1) = ((k + 1 : Nat) : Int) := by rw [w64 (by omega) (by omega)]; rfl
                have hfr := batches_frozen (bs := bs)
                have hsm : smallB bs := by rw [hbs]; exact chB_small L (by omega)
                have hsum : sumP (ofL bs (k : Int)) = some (balM (ixM L n) k - balM (ixM L 0) k) := by
                  rw [hbs]
                  exact chain_sum (fun j hj => (hL j hj).1) (by omega) n (by omega)
                conv => whnf
                refine ⟨⟨show 0 + bs.length ≤ bs.length by omega, hfr.1, by rw [show batchesOf bs.length _ = bs from hfr.2]; exact hsm⟩, ?_⟩
                rw [show batchesOf bs.length (fun i => List.map AV.rv (bCells bs (0 + i))) = bs from hfr.2, hsum]
                conv => whnf
                have wl : IntKind.i64.wrap ((L.length : Int) - 1) = (n : Int) := by rw [w64 (by omega) (by omega)]; omega
                have en : ((n : Int)).toNat = n := Int.toNat_natCast _
                refine ⟨[], by kernel_rfl, ?_⟩
                conv => whnf
                rw [wl]
                refine ⟨⟨fun _ => ⟨by omega, by omega⟩, fun _ => (show 0 + (n : Int).toNat < L.length from (by rw [en]; omega)), fun _ => (by rw [en, Nat.zero_add]; exact hLd n (by omega)), fun _ => ⟨by omega, by omega⟩, fun _ => show 0 + (0 : Int).toNat < L.length by show 0 + 0 < L.length; omega, fun _ => hLd 0 (by omega)⟩, ?_⟩
                rw [en, show 0 + n = n from Nat.zero_add n, show 0 + Int.toNat 0 = 0 from rfl, m_self, m_self, dif_wrap]
                conv => whnf
                refine ⟨fun h6 => ?_, fun h6 => ?_⟩
                · exfalso
                  unfold dif at h6
                  simp at h6
                · conv => whnf
                  refine ⟨12 - (k + 1), _, by omega, ?_, k + 1, rfl, by omega, by omega, rfl⟩
                  rw [← wi]
                  exact ⟨rfl, rfl, fun o ho => match o, ho with | 0, _ => ⟨rfl, rfl, fun j hj => rfl⟩ | 1, _ => ⟨rfl, rfl, fun j hj => rfl⟩⟩
              · conv => whnf
                subst hK
                exact told_bool rfl
end Go.Proofs.Ytepbibbeifbokaa.Sh
