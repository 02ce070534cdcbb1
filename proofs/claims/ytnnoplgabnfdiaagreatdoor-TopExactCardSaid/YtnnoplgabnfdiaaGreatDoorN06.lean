/- Part 6 of a proof over the shadow machine. -/
import Derived.Test.YtnnoplgabnfdiaaGreatDoorN05
/- The shadow machine: append in place, append that may move, clear. -/
namespace Go.Proofs.YtnnoplgabnfdiaaGreatDoor.Sh
open Go Go.RowKit
set_option linter.unusedVariables false
set_option linter.unusedSimpArgs false
section
variable {D : List Deferred} {P : Program} {T : Tab} {B0 : Nat} {w0 w w' : World} {Fz : Nat → Prop} {g g' : Gh} {h : List AO} {a : Act} {o : Oper} {ob : List Prop} {val : AV} {upd : List (Nat × AO)}

theorem HR.reput {k : Nat} {ob : AO} (H : HR B0 w0 w Fz g h) (hk : k < h.length) (hob : OR w Fz g k ob) (hh : ∀ b, Has g k ob b → Has g k (nth .free h k) b) : HR B0 w0 w Fz g (put1 k ob h) :=
  H.change H.below (Nat.le_refl _) (Nat.le_of_lt hk) (fun _ _ _ => rfl) (fun _ _ => rfl) (fun _ x => x) hob (fun b hb => by
    have hb' := hh b hb
    obtain ⟨a1, a2, a3⟩ := H.own k b hk hb'
    exact ⟨a1, a2, a3, fun o' e hl hh' => e (H.sep o' k b hl hk hh' hb')⟩)
theorem lt_of_gh {k : Nat} {x : Nat × Nat} (H : HR B0 w0 w Fz g h) (hg : g k = some x) : k < h.length := by
  rcases Nat.lt_or_ge k h.length with e | e
  · exact e
  · rw [H.free k e] at hg; cases hg
theorem ones_vr {r : Nat → List AV} {m s : Nat} {f : Nat → Value} (hs : 0 < s) (h1 : ∀ i, i < m → (r i).length = s ∧ (r i).all oneCell? = true) (hr : ∀ i, i < m → ∀ j, j < s → VR w Fz g (nth .top (r i) j) (f (i * s + j))) : ∀ u ∈ newsOf f (m * s), u.oneCell' = true := by
  intro u hu
  simp only [newsOf, List.mem_map, List.mem_range] at hu
  obtain ⟨q, hq, rfl⟩ := hu
  have hi : q / s < m := (Nat.div_lt_iff_lt_mul hs).mpr hq
  have hj : q % s < s := Nat.mod_lt _ hs
  obtain ⟨h2, h3⟩ := h1 _ hi
  have := hr _ hi _ hj
  rw [show q / s * s + q % s = q by rw [Nat.mul_comm]; exact Nat.div_add_mod q s] at this
  have hone : oneCell? (nth .top (r (q / s)) (q % s)) = true := by
    rw [nth_get, List.getD_eq_getElem?_getD, List.getElem?_eq_getElem (by omega)]
    exact List.all_eq_true.mp h3 _ (List.getElem_mem _)
  exact (oneCell_vr this hone).1
theorem in_row {i len m s j : Nat} (hj : j < s) : (len * s ≤ i * s + j ∧ i * s + j < len * s + m * s) ↔ (len ≤ i ∧ i < len + m) := by
  rw [← Nat.add_mul]
  constructor
  · intro ⟨h1, h2⟩
    refine ⟨?_, ?_⟩
    · rcases Nat.lt_or_ge i len with e | e
      · have : (i + 1) * s ≤ len * s := Nat.mul_le_mul_right _ e
        rw [Nat.add_mul, Nat.one_mul] at this; omega
      · exact e
    · rcases Nat.lt_or_ge i (len + m) with e | e
      · exact e
      · have : (len + m) * s ≤ i * s := Nat.mul_le_mul_right _ e
        omega
  · intro ⟨h1, h2⟩
    have a1 : len * s ≤ i * s := Nat.mul_le_mul_right _ h1
    have a2 : (i + 1) * s ≤ (len + m) * s := Nat.mul_le_mul_right _ h2
    rw [Nat.add_mul i 1, Nat.one_mul] at a2
    omega
/-- An append into room that is there. -/
theorem append_inplace {k : Nat} (hT : TabOK P T) (H : HR B0 w0 w Fz g h) {t e sz by_ : Nat} {z : AV} {ei : TI} (e0 : T.get t = some ⟨.slice e, sz, by_, z⟩) (e1 : T.get e = some ei) (hz : 0 < ei.size)
    {y : AV} {c1 c2 : Value} {pr : List Prop} {m len c n : Nat} {r row : Nat → List AV} (hs : srcRows (fun o => nth .free h o) ei.size y = some (pr, m, r)) (hpr : conj pr) (hv : VR w Fz g y c2)
    (hx : VR w Fz g (.sl k ei.size 0 len (some c)) c1) (hk : nth .free h k = .rows ei.size n row) (hc : len + m ≤ c) (hn : c ≤ n) (hone : ∀ i, i < m → (r i).length = ei.size ∧ (r i).all oneCell? = true) (ty : TypeId) :
    ∃ v w', (Builtin.append_ #[t, t] ty #[c1, c2]).run P w = .ok v w' ∧ VR w' Fz g (.sl k ei.size 0 (len + m) (some c)) v ∧ HR B0 w0 w' Fz g (put1 k (.rows ei.size n fun i => merges (decide (len ≤ i) && decide (i < len + m)) (r (i - len)) (row i)) h) ∧ Same Fz w w' ∧ w.heap.size ≤ w'.heap.size := by
  obtain ⟨A2, cc, f, rfl, hsrc, hrows⟩ := src_vr H hz hs hpr hv
  obtain ⟨i, zz, i1, i2, i3, i4, i5, i6, i7⟩ := (hT e ei e1).info
  obtain ⟨d, hd, hkd⟩ := (hT t _ e0).und
  simp only [kOK] at hkd; subst hkd
  obtain ⟨b, κ, hg, hl, hcap, hX⟩ := inv_sl hx
  have hκ : κ = c := by have := hcap c rfl; omega
  subst hκ
  have hkl := lt_of_gh H hg
  have hO := H.objs k hkl
  rw [hk] at hO
  obtain ⟨b', κ', f1, f2, f3⟩ := hO
  rw [hg] at f1
  obtain ⟨rfl, rfl⟩ : b = b' ∧ κ = κ' := by simpa using f1
  have hnκ : n = κ := by omega
  subst hnκ
  by_cases hm : m = 0
  · subst hm
    have hrun : ∀ A, c1 = .slice A len n → (Builtin.append_ #[t, t] ty #[c1, .slice A2 0 cc]).run P w = .ok c1 w := fun A hA => by rw [hA]; exact append_none t ty e i hd i1 A A2 len n cc (by omega)
    refine ⟨c1, w, ?_, hx, ?_, Same.refl _ _, Nat.le_refl _⟩
    · rcases hX with hX | ⟨h0, h1, A, hX⟩
      · exact hrun (some ⟨b, 0, none⟩) (by rw [hX]; simp)
      · exact hrun A (by rw [hX, h0, h1])
    · refine H.reput hkl ⟨b, n, hg, Nat.le_refl _, ?_⟩ (fun b' hb' => by rw [hk]; exact hb')
      rcases f3 with f3 | ⟨cur, tt, f3, f4, f5⟩
      · exact .inl f3
      · exact .inr ⟨cur, tt, f3, f4, fun q hq j hj => merges_vr (fun e => by simp at e; omega) (fun _ => f5 q hq j hj)⟩
  · rcases hsrc with h0 | ⟨ad, rfl, hcell⟩
    · exact absurd h0 hm
    · rcases hX with hX | ⟨h0, h1, A, hX⟩
      · rcases f3 with f3 | ⟨cur, tt, f3, f4, f5⟩
        · omega
        · have hX' : c1 = .slice (some ⟨b, 0, none⟩) len n := by rw [hX]; simp
          have hfit : len * ei.size + (newsOf f (m * ei.size)).length ≤ cur.size := by rw [newsOf_length, f4, ← Nat.add_mul]; exact Nat.mul_le_mul_right _ (by omega)
          have hrun := append_room (P := P) (w := w) t ty e i hd i1 b len n cur tt f3 ad m cc (newsOf f (m * ei.size)) (by rw [newsOf_length, i2]) (fun j u hj => by
            obtain ⟨h1, rfl⟩ := newsOf_get _ _ _ _ hj; exact hcell j h1) (ones_vr hz hone hrows) (by omega) (by rw [i2]; exact hfit)
          rw [i2] at hrun
          generalize hcs : (cur.toList.take (len * ei.size) ++ newsOf f (m * ei.size) ++ cur.toList.drop (len * ei.size + (newsOf f (m * ei.size)).length)).toArray = cur' at hrun
          have hsize : cur'.size = n * ei.size := by rw [← hcs, splice_size _ _ _ hfit]; exact f4
          have hget : ∀ q, cur'.getD q undef = if len * ei.size ≤ q ∧ q < len * ei.size + m * ei.size then (newsOf f (m * ei.size)).getD (q - len * ei.size) undef else cur.getD q undef := fun q => by
            rw [← hcs, splice_get _ _ _ _ hfit, newsOf_length]
          obtain ⟨g1, g2⟩ := H.setRow hkl (b := b) (by rw [hk]; exact ⟨n, hg, by omega⟩) cur' (.rows ei.size n fun i => merges (decide (len ≤ i) && decide (i < len + m)) (r (i - len)) (row i)) (fun b' hb' => by obtain ⟨κ', e, _⟩ := hb'; rw [hg] at e; simp at e; exact e.1.symm) (fun hS => by
              refine ⟨b, n, hg, Nat.le_refl _, .inr ⟨_, tt, setRow_at w f3, hsize, fun q hq j hj => ?_⟩⟩
              rw [hget]
              refine merges_vr (fun e => ?_) (fun e => ?_)
              · have e' : len ≤ q ∧ q < len + m := by simpa using e
                rw [if_pos ((in_row hj).mpr e')]
                have : q * ei.size + j - len * ei.size = (q - len) * ei.size + j := by
                  have : len * ei.size ≤ q * ei.size := Nat.mul_le_mul_right _ e'.1
                  rw [Nat.sub_mul]; omega
                rw [this, newsOf_getD _ _ _ (by
                  have h1 : (q - len + 1) * ei.size ≤ m * ei.size := Nat.mul_le_mul_right _ (by omega)
                  rw [Nat.add_mul, Nat.one_mul] at h1; omega)]
                exact (hrows (q - len) (by omega) j hj).mono hS (fun _ x => x) (fun _ _ x => x)
              · have e' : ¬ (len ≤ q ∧ q < len + m) := by simpa using e
                rw [if_neg (fun hc => e' ((in_row hj).mp hc))]
                exact (f5 q hq j hj).mono hS (fun _ x => x) (fun _ _ x => x))
          refine ⟨_, _, by rw [hX']; exact hrun, ?_, g1, g2, by simp [World.setRow]⟩
          have := VR.sl (w := w.setRow b cur') (Fz := Fz) (g := g) k ei.size 0 (len + m) (some n) b n hg (by omega) (fun q hq => by simpa using hq)
          simpa using this
      · omega
/-- An append to a row that may grow: what led to the row is forgotten. -/
theorem append_grow {k : Nat} (hT : TabOK P T) (H : HR B0 w0 w Fz g h) {t e sz by_ : Nat} {z : AV} {ei : TI} (e0 : T.get t = some ⟨.slice e, sz, by_, z⟩) (e1 : T.get e = some ei) (hz : 0 < ei.size) (hb : 0 < ei.bytes)
    {y : AV} {c1 c2 : Value} {pr : List Prop} {m len : Nat} {r row : Nat → List AV} (hs : srcRows (fun o => nth .free h o) ei.size y = some (pr, m, r)) (hpr : conj pr) (hv : VR w Fz g y c2)
    (hx : VR w Fz g (.sl k ei.size 0 len none) c1) (hk : nth .free h k = .rows ei.size len row) (hbig : (len + m) * ei.bytes ≤ 140737488355328) (hone : ∀ i, i < m → (r i).length = ei.size ∧ (r i).all oneCell? = true) (ty : TypeId) :
    ∃ v w' b' κ', (Builtin.append_ #[t, t] ty #[c1, c2]).run P w = .ok v w' ∧ VR w' Fz (ext g k (b', κ')) (.sl k ei.size 0 (len + m) none) v ∧
      HR B0 w0 w' Fz (ext g k (b', κ')) (put1 k (.rows ei.size (len + m) fun i => merges (decide (i < len)) ((row i).map (kill0 k)) ((r (i - len)).map (kill0 k))) (h.map (killO k))) ∧ Same Fz w w' ∧ w.heap.size ≤ w'.heap.size ∧ (g k = some (b', κ') ∨ w.heap.size ≤ b') := by
  obtain ⟨A2, cc, f, rfl, hsrc, hrows⟩ := src_vr H hz hs hpr hv
  obtain ⟨i, zz, i1, i2, i3, i4, i5, i6, i7⟩ := (hT e ei e1).info
  obtain ⟨d, hd, hkd⟩ := (hT t _ e0).und
  simp only [kOK] at hkd; subst hkd
  obtain ⟨b, κ, hg, hl, hcap, hX⟩ := inv_sl hx
  have hkl := lt_of_gh H hg
  have hO := H.objs k hkl
  rw [hk] at hO
  obtain ⟨b', κ', f1, f2, f3⟩ := hO
  rw [hg] at f1
  obtain ⟨rfl, rfl⟩ : b = b' ∧ κ = κ' := by simpa using f1
  have hgg : ∀ x o' y, o' ≠ k → g o' = some y → ext g k x o' = some y := fun x o' y e hy => by simp [ext, e, hy]
  -- a row out of cells
  have rows : ∀ (w' : World) (x : Nat × Nat) (cur' : Array Value), Same Fz w w' → (∀ q, q < len → ∀ j, j < ei.size → VR w Fz g (nth .top (row q) j) (cur'.getD (q * ei.size + j) undef)) → (∀ q, q < m → ∀ j, j < ei.size → cur'.getD ((len + q) * ei.size + j) undef = f (q * ei.size + j)) →
      ∀ q, q < len + m → ∀ j, j < ei.size → VR w' Fz (ext g k x) (nth .top (merges (decide (q < len)) ((row q).map (kill0 k)) ((r (q - len)).map (kill0 k))) j) (cur'.getD (q * ei.size + j) undef) := fun w' x cur' hS h1 h2 q hq j hj =>
    merges_vr (fun e => by
      have e' : q < len := by simpa using e
      rw [map_top rfl]
      exact kill0_vr (hgg x) ((h1 q e' j hj).mono hS (fun _ x => x) (fun _ _ x => x)))
    (fun e => by
      have e' : ¬ q < len := by simpa using e
      rw [map_top rfl]
      obtain ⟨p, rfl⟩ : ∃ p, q = len + p := ⟨q - len, by omega⟩
      rw [h2 p (by omega) j hj, show len + p - len = p by omega]
      exact kill0_vr (hgg x) ((hrows p (by omega) j hj).mono hS (fun _ x => x) (fun _ _ x => x)))
  have hown0 : ∀ b'', Has g k (nth .free h k) b'' → B0 ≤ b'' ∧ b'' < w.heap.size ∧ ¬ Fz b'' ∧ ∀ o', o' ≠ k → o' < h.length → ¬ Has g o' (nth .free h o') b'' := fun b'' hb'' => by
    obtain ⟨a1, a2, a3⟩ := H.own k b'' hkl hb''
    exact ⟨a1, a2, a3, fun o' e hl hh' => e (H.sep o' k b'' hl hkl hh' hb'')⟩
  by_cases hm : m = 0
  · subst hm
    refine ⟨c1, w, b, κ, ?_, ?_, ?_, Same.refl _ _, Nat.le_refl _, .inl hg⟩
    · rcases hX with hX | ⟨h0, h1, A, hX⟩
      · rw [hX]; exact append_none t ty e i hd i1 _ A2 len _ cc (by omega)
      · rw [hX]; exact append_none t ty e i hd i1 _ A2 0 _ cc (Nat.le_refl _)
    · rcases hX with hX | ⟨h0, h1, A, hX⟩
      · rw [hX]; exact .sl _ _ _ _ _ _ _ (by simp [ext]) hl (fun n hn => by cases hn)
      · subst h0; subst h1; rw [hX]; exact .sle _ _ _ _ _ b (by simp [ext]) (fun n hn => by cases hn)
    · refine H.renew H.below (Nat.le_refl _) hkl (fun _ _ _ => rfl) ⟨b, κ, by simp [ext], f2, ?_⟩ (fun b'' hb'' => ?_)
      · rcases f3 with f3 | ⟨cur, tt, f3, f4, f5⟩
        · exact .inl f3
        · exact .inr ⟨cur, tt, f3, f4, rows w _ cur (Same.refl _ _) f5 (fun q hq => absurd hq (by omega))⟩
      · obtain ⟨κ'', e, hκ⟩ := hb''
        simp [ext] at e
        obtain ⟨rfl, rfl⟩ := e
        exact hown0 _ (by rw [hk]; exact ⟨κ, hg, hκ⟩)
  · rcases hsrc with h0 | ⟨ad, rfl, hcell⟩
    · exact absurd h0 hm
    · have hzs : zz.cells.size = i.size := by
        have := cells_vr (i5 w Fz g) i6
        omega
      by_cases hroom : len + m ≤ κ
      · rcases hX with hX | ⟨h0, h1, A, hX⟩
        · rcases f3 with f3 | ⟨cur, tt, f3, f4, f5⟩
          · omega
          · have hX' : c1 = .slice (some ⟨b, 0, none⟩) len κ := by rw [hX]; simp
            have hfit : len * ei.size + (newsOf f (m * ei.size)).length ≤ cur.size := by rw [newsOf_length, f4, ← Nat.add_mul]; exact Nat.mul_le_mul_right _ (by omega)
            have hrun := append_room (P := P) (w := w) t ty e i hd i1 b len κ cur tt f3 ad m cc (newsOf f (m * ei.size)) (by rw [newsOf_length, i2]) (fun j u hj => by
              obtain ⟨h1, rfl⟩ := newsOf_get _ _ _ _ hj; exact hcell j h1) (ones_vr hz hone hrows) (by omega) (by rw [i2]; exact hfit)
            rw [i2] at hrun
            obtain ⟨a1, a2, a3, a4⟩ := hown0 b (by rw [hk]; exact ⟨κ, hg, by omega⟩)
            generalize hcs : (cur.toList.take (len * ei.size) ++ newsOf f (m * ei.size) ++ cur.toList.drop (len * ei.size + (newsOf f (m * ei.size)).length)).toArray = cur' at hrun
            have hS : Same Fz w (w.setRow b cur') := fun q hq => Sh.setRow_other _ _ _ _ (fun e => a3 (e ▸ hq))
            have hsize : cur'.size = κ * ei.size := by rw [← hcs, splice_size _ _ _ hfit]; exact f4
            have hget : ∀ q, cur'.getD q undef = if len * ei.size ≤ q ∧ q < len * ei.size + m * ei.size then (newsOf f (m * ei.size)).getD (q - len * ei.size) undef else cur.getD q undef := fun q => by
              rw [← hcs, splice_get _ _ _ _ hfit, newsOf_length]
            refine ⟨_, _, b, κ, by rw [hX']; exact hrun, ?_, H.renew (below_setRow H.below a1 cur') (by simp [World.setRow]) hkl (fun q hq hc => ?_) ⟨b, κ, by simp [ext], hroom, .inr ⟨cur', tt, setRow_at w f3, hsize, rows _ _ cur' hS (fun q hq j hj => ?_) (fun q hq j hj => ?_)⟩⟩ (fun b'' hb'' => ?_), hS, by simp [World.setRow], .inl hg⟩
            · have := VR.sl (w := w.setRow b cur') (Fz := Fz) (g := ext g k (b, κ)) k ei.size 0 (len + m) none b κ (by simp [ext]) (by omega) (fun q hq => by cases hq)
              simpa using this
            · rcases hc with hc | ⟨o', e, hl', hh'⟩
              · exact hS q hc
              · exact Sh.setRow_other _ _ _ _ (fun eq => a4 o' e hl' (eq ▸ hh'))
            · rw [hget, if_neg (fun hc => by have := (in_row hj).mp hc; omega)]
              exact f5 q hq j hj
            · rw [hget, if_pos ((in_row hj).mpr ⟨by omega, by omega⟩)]
              have : (len + q) * ei.size + j - len * ei.size = q * ei.size + j := by rw [Nat.add_mul]; omega
              rw [this, newsOf_getD _ _ _ (by
                have h1 : (q + 1) * ei.size ≤ m * ei.size := Nat.mul_le_mul_right _ (by omega)
                rw [Nat.add_mul, Nat.one_mul] at h1; omega)]
            · obtain ⟨κ'', e, hκ⟩ := hb''
              simp [ext] at e
              obtain ⟨rfl, rfl⟩ := e
              exact ⟨a1, by simp [World.setRow]; exact a2, a3, a4⟩
        · omega
      · have hgen : ∃ A, c1 = .slice A len κ ∧ (len = 0 ∨ ∃ ad', A = some ad' ∧ ∃ cur tt, w.heap[b]? = some (.cells cur tt (0, 0)) ∧ cur.size = κ * ei.size ∧ (∀ q, q < len * ei.size → w.cell? (ad'.add q) = some (cur.getD q undef)) ∧ (∀ i, i < len → ∀ j, j < ei.size → VR w Fz g (nth .top (row i) j) (cur.getD (i * ei.size + j) undef))) ∧ (A = none → κ = 0 ∧ len = 0) := by
          rcases hX with hX | ⟨h0, h1, A, hX⟩
          · refine ⟨some ⟨b, 0, none⟩, by rw [hX]; simp, ?_, fun h => by cases h⟩
            rcases f3 with f3 | ⟨cur, tt, f3, f4, f5⟩
            · exact .inl (by omega)
            · refine .inr ⟨_, rfl, cur, tt, f3, f4, fun q hq => ?_, f5⟩
              rw [add_mk, Nat.zero_add]
              have : len * ei.size ≤ κ * ei.size := Nat.mul_le_mul_right _ (by omega)
              exact cell_of f3 (by omega)
          · exact ⟨A, by rw [hX, h0, h1], .inl h0, fun _ => ⟨h1, h0⟩⟩
        obtain ⟨A, hc1, hold, hAn⟩ := hgen
        obtain ⟨oldf, hof, hov⟩ : ∃ oldf : Nat → Value, (len = 0 ∨ ∃ ad', A = some ad' ∧ ∀ q, q < len * i.size → w.cell? (ad'.add q) = some (oldf q)) ∧ (∀ q, q < len → ∀ j, j < ei.size → VR w Fz g (nth .top (row q) j) (oldf (q * ei.size + j))) := by
          rcases hold with h0 | ⟨ad', hA, cur, tt, q1, q2, q3, q4⟩
          · exact ⟨fun _ => undef, .inl h0, fun q hq => absurd hq (by omega)⟩
          · exact ⟨fun q => cur.getD q undef, .inr ⟨ad', hA, by rw [i2]; exact q3⟩, q4⟩
        obtain ⟨κ', cells, hκ, hrun, hcs, hold', hnew⟩ := append_new (P := P) (w := w) t ty e i zz hd i1 i4 hzs A len κ oldf hof hAn ad m cc f (fun q hq => hcell q (by rw [← i2]; exact hq)) (by omega) (by rw [i3]; exact hbig) (by omega)
        rw [i2] at hcs hold' hnew
        have hS : Same Fz w (w.drew.alloc (.cells cells e)) := fun q hq => Below.heap_alloc w.drew _ _ (H.fz q hq)
        refine ⟨_, _, w.heap.size, κ', by rw [hc1]; exact hrun, ?_, H.renew ((H.below.drew).alloc H.base _) (alloc_size w.drew _) hkl (fun q hq _ => Below.heap_alloc w.drew _ _ hq) ⟨w.heap.size, κ', by simp [ext], hκ, .inr ⟨cells, e, by show (w.heap.push _)[w.heap.size]? = _; simp, hcs, rows _ _ cells hS (fun q hq j hj => ?_) (fun q hq j hj => ?_)⟩⟩ (fun b'' hb'' => ?_), hS, alloc_size w.drew _, .inr (Nat.le_refl _)⟩
        · have := VR.sl (w := w.drew.alloc (.cells cells e)) (Fz := Fz) (g := ext g k (w.heap.size, κ')) k ei.size 0 (len + m) none w.heap.size κ' (by simp [ext]) (by omega) (fun q hq => by cases hq)
          simpa using this
        · have hlt : q * ei.size + j < len * ei.size := by
            have h1 : (q + 1) * ei.size ≤ len * ei.size := Nat.mul_le_mul_right _ (by omega)
            rw [Nat.add_mul, Nat.one_mul] at h1; omega
          rw [hold' _ hlt]
          exact hov q hq j hj
        · have hlt : q * ei.size + j < m * ei.size := by
            have h1 : (q + 1) * ei.size ≤ m * ei.size := Nat.mul_le_mul_right _ (by omega)
            rw [Nat.add_mul, Nat.one_mul] at h1; omega
          rw [Nat.add_mul, Nat.add_assoc, hnew _ hlt]
        · obtain ⟨κ'', e', hκ'⟩ := hb''
          simp [ext] at e'
          obtain ⟨rfl, rfl⟩ := e'
          exact ⟨H.base, by show w.heap.size < (w.heap.push _).size; simp, fun hf => Nat.lt_irrefl _ (H.fz _ hf), fun o' e hl hh => Nat.lt_irrefl _ (H.own o' _ hl hh).2.1⟩

theorem zeroCells_get (zc : Array Value) (n q : Nat) (hq : q < n * zc.size) : (Builtin.zeroCells zc n).toList.getD q undef = zc.getD (q % zc.size) undef := by
  have hm : q % zc.size < zc.size := Nat.mod_lt _ (by
    rcases Nat.eq_zero_or_pos zc.size with e | e
    · rw [e] at hq; omega
    · exact e)
  simp only [Builtin.zeroCells, Array.toList_map, List.getD_eq_getElem?_getD, List.getElem?_map, Array.getElem?_toList, Array.getElem?_range, hq, if_true, Option.map_some, Option.getD_some]
  rw [getElem!_pos zc _ hm]
  simp [Array.getD, hm]
theorem go_clear {ch : List (Nat × Bool)} {s : AState} {c : Call} {X : Operand} {t : TypeId} {r : List TypeId} {out : Out} (F : FR D w Fz g s.tmps a) (H : HR B0 w0 w Fz g s.heap) (hch : Chained ch a) (hT : TabOK P T) (hop : o.op = .call c) (hcal : c.callee = .builtin .clear) (hargs : c.args = #[X]) (hty : c.argTypes.toList = t :: r)
    (hc : clearOp T (fun o => nth .free s.heap o) t (ev ch s X) = some out) (hob : conj out.ob) : Goes P B0 w0 w Fz g a o out.val (apply out.upd s.heap) ∧ out.kill = none := by
  have hx := ev_vr F hch X
  have hty0 : c.argTypes[0]? = some t := by rw [← Array.toArray_toList (xs := c.argTypes), hty]; simp
  unfold clearOp at hc
  split at hc
  · rename_i e sz by_ z oo st off len cap e0 e2
    split at hc
    · rename_i ei s' n row e1 hoo
      replace hoo : nth .free s.heap oo = .rows s' n row := hoo
      cases hb : (st == s' && (st == ei.size && (Nat.blt 0 ei.size && ei.zero.cells.all oneCell?))) with
      | false => rw [hb] at hc; simp at hc
      | true =>
        rw [hb] at hc
        simp only [cond_true, Option.some.injEq] at hc; subst hc
        simp only [Bool.and_eq_true] at hb
        obtain ⟨hb1, hb2, hb3, hb4⟩ := hb
        have hs1 : st = s' := by simpa using hb1
        have hs2 : st = ei.size := by simpa using hb2
        have hz0 := blt_lt hb3
        subst hs1; subst hs2
        have hle : off + len ≤ n := hob
        rw [e2] at hx
        obtain ⟨b, κ, hg, hl, hcap, hX⟩ := inv_sl hx
        have hkl := lt_of_gh H hg
        have hO := H.objs oo hkl
        rw [hoo] at hO
        obtain ⟨b', κ', f1, f2, f3⟩ := hO
        rw [hg] at f1
        obtain ⟨rfl, rfl⟩ : b = b' ∧ κ = κ' := by simpa using f1
        obtain ⟨d, hd, hk⟩ := hT.und (w := w) e0
        simp only [kOK] at hk; subst hk
        obtain ⟨zz, hzr, hzv, hzs, hzl⟩ := hT.zero (w := w) e1
        obtain ⟨hzl2, hzv2⟩ := cells_vr (hzv w Fz g) hzs
        by_cases h0 : len = 0
        · subst h0
          have hA : ∃ A cc, a.eval X = .slice A 0 cc := by
            rcases hX with hX | ⟨_, _, A, hX⟩
            · exact ⟨_, _, hX⟩
            · exact ⟨_, _, hX⟩
          obtain ⟨A, cc, hA⟩ := hA
          refine ⟨goes_to (c := .tuple #[]) (w' := w) (g' := g) (call_builtin hop hcal fun consts => ?_) (.tup _ _ rfl (fun i hi => absurd hi (by simp))) ?_ (On.refl _ _ _), rfl⟩
          · rw [hargs]
            simp only [builtin, Builtin.clear_, hty0, List.map_toArray, List.map_cons, List.map_nil, List.getElem?_toArray, List.getElem?_cons_zero, hA]
            cases A <;> simp [hd]
          · show HR B0 w0 w Fz g (put1 oo _ s.heap)
            refine H.reput hkl ⟨b, κ, hg, f2, ?_⟩ (fun b' hb' => by rw [hoo]; exact hb')
            rcases f3 with f3 | ⟨cur, tt, f3, f4, f5⟩
            · exact .inl f3
            · exact .inr ⟨cur, tt, f3, f4, fun q hq j hj => merges_vr (fun e => by simp at e; omega) (fun _ => f5 q hq j hj)⟩
        · rcases hX with hX | ⟨h1, _⟩
          · rcases f3 with f3 | ⟨cur, tt, f3, f4, f5⟩
            · omega
            · have hzlen : (Builtin.zeroCells zz.cells len).toList.length = len * ei.size := by rw [Array.length_toList, size_zeroCells, ← hzl2, hzl]
              have hfit : off * ei.size + (Builtin.zeroCells zz.cells len).toList.length ≤ cur.size := by rw [hzlen, f4, ← Nat.add_mul]; exact Nat.mul_le_mul_right _ (by omega)
              have hone : ∀ v ∈ (Builtin.zeroCells zz.cells len).toList, v.oneCell' = true := fun v hv => by
                simp only [Builtin.zeroCells, Array.toList_map, List.mem_map, Array.mem_toList_iff] at hv
                obtain ⟨q, _, rfl⟩ := hv
                have hm : q % zz.cells.size < zz.cells.size := Nat.mod_lt _ (by omega)
                rw [getElem!_pos zz.cells _ hm]
                exact mem_oneCell hb4 hzl2 hzv2 _ (by simp)
              have hst := run_storeCells_at P b (off * ei.size) tt _ 0 cur w f3 (by simpa using hfit) hone
              simp only [Nat.add_zero] at hst
              generalize hcs : (cur.toList.take (off * ei.size) ++ (Builtin.zeroCells zz.cells len).toList ++ cur.toList.drop (off * ei.size + (Builtin.zeroCells zz.cells len).toList.length)).toArray = cur' at hst
              have hsize : cur'.size = κ * ei.size := by rw [← hcs, splice_size _ _ _ hfit]; exact f4
              have hget : ∀ q, cur'.getD q undef = if off * ei.size ≤ q ∧ q < off * ei.size + len * ei.size then (Builtin.zeroCells zz.cells len).toList.getD (q - off * ei.size) undef else cur.getD q undef := fun q => by
                rw [← hcs, splice_get _ _ _ _ hfit, hzlen]
              obtain ⟨g1, g2⟩ := H.setRow hkl (b := b) (by rw [hoo]; exact ⟨κ, hg, by omega⟩) cur' (.rows ei.size n fun i => merges (decide (off ≤ i) && decide (i < off + len)) ei.zero.cells (row i)) (fun b' hb' => by obtain ⟨κ', e, _⟩ := hb'; rw [hg] at e; simp at e; exact e.1.symm) (fun hS => by
                refine ⟨b, κ, hg, f2, .inr ⟨_, tt, setRow_at w f3, hsize, fun q hq j hj => ?_⟩⟩
                rw [hget]
                refine merges_vr (fun e => ?_) (fun e => ?_)
                · have e' : off ≤ q ∧ q < off + len := by simpa using e
                  rw [if_pos ((in_row hj).mpr e')]
                  have : q * ei.size + j - off * ei.size = (q - off) * ei.size + j := by
                    have : off * ei.size ≤ q * ei.size := Nat.mul_le_mul_right _ e'.1
                    rw [Nat.sub_mul]; omega
                  have hzc : zz.cells.size = ei.size := by omega
                  rw [this, zeroCells_get _ _ _ (by
                    have h1 : (q - off + 1) * ei.size ≤ len * ei.size := Nat.mul_le_mul_right _ (by omega)
                    rw [Nat.add_mul, Nat.one_mul] at h1; rw [hzc]; omega), hzc, Nat.add_comm, Nat.add_mul_mod_self_right, Nat.mod_eq_of_lt hj]
                  exact (hzv2 j (by omega)).mono hS (fun _ x => x) (fun _ _ x => x)
                · have e' : ¬ (off ≤ q ∧ q < off + len) := by simpa using e
                  rw [if_neg (fun hc => e' ((in_row hj).mp hc))]
                  exact (f5 q hq j hj).mono hS (fun _ x => x) (fun _ _ x => x))
              refine ⟨goes_to (c := .tuple #[]) (w' := w.setRow b cur') (g' := g) (call_builtin hop hcal fun consts => ?_) (.tup _ _ rfl (fun i hi => absurd hi (by simp))) g1 ⟨g2, fun _ x => x, fun _ _ x => x, fun _ x => .inl x, by simp [World.setRow], fun _ _ _ x => .inl x⟩, rfl⟩
              rw [hargs]
              obtain ⟨len', rfl⟩ : ∃ l, len = l + 1 := ⟨len - 1, by omega⟩
              simp only [builtin, Builtin.clear_, hty0, List.map_toArray, List.map_cons, List.map_nil, List.getElem?_toArray, List.getElem?_cons_zero, hX]
              simp [hd, hzr, hst]
          · omega
    · simp at hc
  · simp at hc
end
end Go.Proofs.YtnnoplgabnfdiaaGreatDoor.Sh
/- The shadow machine: calls of functions that only read. -/
namespace Go.Proofs.YtnnoplgabnfdiaaGreatDoor.Sh
open Go Go.RowKit
set_option linter.unusedVariables false
set_option linter.unusedSimpArgs false
/-- A function that has a text. -/
def Ent (P : Program) (f : FuncId) : Prop := ∃ fn, P.funcs[f]? = some fn ∧ (fn.name == "runtime.NumGoroutine") = false ∧ fn.body.isSome = true
def AR.val : AR → AV
  | .ret v => v
  | .pan v => v
/-- The end that such a result tells of. -/
def AR.end_ : AR → Value → Ending
  | .ret _, c => .returned c
  | .pan _, c => .panicked [{ v := c, recovered := false }]
/-- A call, of a function with a text or of one that the machine knows by itself. -/
def Reach (P : Program) (f : FuncId) (args : Array Value) (w : World) (R : Ending → World → Prop) : Prop :=
  (Ent P f ∧ Calls P f args w R) ∨ ∃ v w', (callFunc f args).run P w = .ok (.value v) w' ∧ R (.returned v) w'
theorem Reach.mono {P : Program} {f : FuncId} {args : Array Value} {w : World} {R R' : Ending → World → Prop} (H : Reach P f args w R) (hk : ∀ e w', R e w' → R' e w') : Reach P f args w R' :=
  H.elim (fun h => .inl ⟨h.1, h.2.mono hk⟩) fun ⟨v, w', h1, h2⟩ => .inr ⟨v, w', h1, hk _ _ h2⟩
theorem HR.gl_up {B0 : Nat} {w0 w : World} {Fz : Nat → Prop} {g : Gh} {h : List AO} (H : HR B0 w0 w Fz g h) : Gl w.heap.size w := by
  obtain ⟨h1, m, h2⟩ := H.gl
  refine ⟨Nat.lt_of_lt_of_le h1 H.base, m, ?_⟩
  rw [← h2]
  unfold World.cell?
  rw [H.below.block 0 h1]
/-- What an abstract call is, of the machine: with whatever memory and values that are such, it returns, with such. -/
def SCall (P : Program) : CallP := fun f vs h K => ∀ (B0 : Nat) (w0 w : World) (Fz : Nat → Prop) (g : Gh) (args : Array Value), HR B0 w0 w Fz g h → vs.length = args.size → (∀ i, i < vs.length → VR w Fz g (nth .top vs i) (args.getD i undef)) →
  Reach P f args w fun e w' => ∃ r c h' Fz' g', e = r.end_ c ∧ K r h' ∧ VR w' Fz' g' r.val c ∧ HR B0 w0 w' Fz' g' h' ∧ On w w' Fz Fz' g g'
/-- The one value tells less than the other. -/
def Wk (v v' : AV) : Prop := ∀ (w : World) (Fz : Nat → Prop) (g : Gh) (c : Value), VR w Fz g v c → VR w Fz g v' c
/-- A quiet function's result. -/
def Told (r : AV) (r' : AR) (h' : List AO) : Prop := match r' with
  | .ret r' => conj (frObR (fun o => nth .free h' o) r') ∧ Wk (freezeR (fun o => nth .free h' o) r') r
  | .pan _ => False
def EnvOK (P : Program) (G : Env) : Prop := ∀ f q, G.get f = some q → ∀ vs ob r, q vs = some (ob, r) → conj ob → SCall P f vs [] (Told r)
theorem SCall.mono {P : Program} {f : FuncId} {vs : List AV} {h : List AO} {K K' : AR → List AO → Prop} (H : SCall P f vs h K) (hk : ∀ r h', K r h' → K' r h') : SCall P f vs h K' :=
  fun B0 w0 w Fz g args hH hl hv => (H B0 w0 w Fz g args hH hl hv).mono fun e w' ⟨r, c, h', Fz', g', h1, h2, h3⟩ => ⟨r, c, h', Fz', g', h1, hk _ _ h2, h3⟩
section
variable {P : Program} {T : Tab} {B0 : Nat} {w0 w w' : World} {Fz F2 : Nat → Prop} {g g' : Gh} {h : List AO} {a : Act} {o : Oper} {ob : List Prop} {val : AV} {upd : List (Nat × AO)}

theorem conj_flatMap {α : Type} {f : α → List Prop} : ∀ {l : List α}, conj (l.flatMap f) → ∀ x ∈ l, conj (f x)
  | [], h, x, hx => by simp at hx
  | y :: l, h, x, hx => by
    rw [List.flatMap_cons, conj_append] at h
    rcases List.mem_cons.mp hx with e | e
    · subst e; exact h.1
    · exact conj_flatMap h.2 x e
theorem freeze1_vr {look : Nat → AO} (hlk : ∀ o, look o = nth .free h o ∨ look o = .free) {v : AV} {c : Value} (H : HR B0 w0 w Fz g h) (hF : ∀ b, Fz b → F2 b) (hO : ∀ o b, o < h.length → look o = nth .free h o → Has g o (nth .free h o) b → F2 b) (hob : conj (frOb1 look v)) (hv : VR w Fz g v c) : VR w F2 g' (freeze1 look v) c := by
  cases v with
  | top => exact .top _
  | cint k n => rw [inv_cint hv]; exact .int _ _
  | int k n => rw [inv_int hv]; exact .int _ _
  | bool b => rw [inv_bool hv]; exact .bool _
  | str s => cases hv; exact .str _
  | nilp => cases hv; exact .nilp
  | nilfn => cases hv; exact .nilfn
  | nilif => cases hv; exact .nilif
  | ptr o N s i j => exact .top _
  | rp s row i j =>
    generalize hc : AV.rp s row i j = q at hv
    cases hv <;> cases hc
    rename_i ad hm
    exact .rp _ _ _ _ _ fun m hm' => let ⟨h1, c, h2, h3⟩ := hm m hm'; ⟨hF _ h1, c, h2, h3.mono (fun _ _ => rfl) hF⟩
  | nilsl => cases hv; exact .ro _ _ _ _ _ (.ro _ _ _ _ _ _ (fun _ _ => undef) (Nat.le_refl _) (fun n hn => by simpa using hn) (fun i hi => absurd hi (by simp)) (fun i hi => absurd hi (by simp)))
  | ro s len cap row =>
    cases hv with | ro _ _ _ _ _ hr => exact .ro _ _ _ _ _ (hr.mono (fun _ _ => rfl) hF)
  | fn f xs ys =>
    obtain ⟨us, vs, rfl, ha, hb, _⟩ := inv_fn hv
    cases xs <;> cases ys <;> first
      | exact .fn f [] [] us vs ha hb (fun i hi => absurd hi (by simp)) (fun i hi => absurd hi (by simp))
      | exact .top _
  | iface t v => exact .top _
  | agg cs => exact .top _
  | mp o => exact .top _
  | nilmp => exact .top _
  | tup vs => exact .top _
  | when d b v => exact .top _
  | sl o s off len cap =>
    obtain ⟨b, κ, hg, hl, hcap, hX⟩ := inv_sl hv
    have hkl := lt_of_gh H hg
    have hob' := H.objs o hkl
    have hrdl : ∀ i, i < cap.getD len → off + i < κ := fun i hi => by
      cases hcp : cap with
      | none => rw [hcp] at hi; simp at hi; omega
      | some n => rw [hcp] at hi; have := hcap n hcp; simp at hi; omega
    rcases hlk o with elk | elk
    case inr => simp only [freeze1, elk]; exact .top _
    simp only [freeze1]
    rw [elk]
    cases hoo : nth .free h o with
    | free => exact .top _
    | dead => exact .top _
    | emap => exact .top _
    | xmap => exact .top _
    | rows s' n row =>
      simp only
      cases hb : (s == s') with
      | false => exact .top _
      | true =>
        have hss : s = s' := by simpa using hb
        subst hss
        simp only [cond_true]
        rw [hoo] at hob'
        have hown := hO o b hkl elk
        rw [hoo] at hown
        obtain ⟨b', κ', f1, f2, f3⟩ := hob'
        rw [hg] at f1
        obtain ⟨rfl, rfl⟩ : b = b' ∧ κ = κ' := by simpa using f1
        have hn : ∀ i, i < cap.getD len → off + i < n := fun i hi => by
          simp only [frOb1, elk, hoo] at hob
          cases hcp : cap with
          | none => rw [hcp] at hi hob; simp [conj] at hi hob; omega
          | some m => rw [hcp] at hi hob; simp [conj] at hi hob; omega
        have fin : ∀ A cc, c = .slice A len cc → len ≤ cc → (∀ n, cap = some n → cc = n) → (∀ i, i < cap.getD len → A = some ⟨b, off * s, none⟩) → VR w F2 g' (.ro s len cap fun i => (row (off + i)).map AV.rv) c := fun A cc hc h1 h2 h3 => by
          subst hc
          refine .ro _ _ _ _ _ (.ro _ _ _ _ _ _ (fun i j => match w.cell? ⟨b, (off + i) * s + j, none⟩ with | some v => v | none => undef) h1 h2 (fun i hi j hj => ?_) (fun i hi j hj => ?_))
          all_goals
            rcases f3 with f3 | ⟨cur, tt, f3, f4, f5⟩
            · have := hn i hi; omega
            · have hlt : (off + i) * s + j < cur.size := by
                have h1 : (off + i + 1) * s ≤ κ * s := Nat.mul_le_mul_right _ (by have := hrdl i hi; omega)
                rw [Nat.add_mul, Nat.one_mul] at h1; omega
              have hcell := cell_of f3 hlt
              rw [hcell]
              first
                | (refine ⟨_, h3 i hi, hown ⟨κ, hg, by have := hn i hi; omega⟩, ?_⟩
                   rw [add_mk, show off * s + (i * s + j) = (off + i) * s + j by rw [Nat.add_mul]; omega]
                   exact hcell)
                | (rw [nth_map_rv]
                   exact (VR.rv (f5 (off + i) (hn i hi) j hj)).mono (fun _ _ => rfl) hF)
        rcases hX with hX | ⟨h0, h1, A, hX⟩
        · exact fin _ _ hX (by omega) hcap (fun _ _ => rfl)
        · refine fin A 0 (by rw [hX, h0]) (by omega) (fun n hn => by have := hcap n hn; omega) (fun i hi => ?_)
          have := hrdl i hi; omega
    | lit u cells =>
      simp only
      cases hb : (s == u) with
      | false => exact .top _
      | true =>
        have hss : s = u := by simpa using hb
        subst hss
        simp only [cond_true]
        rw [hoo] at hob'
        have hown := hO o b hkl elk
        rw [hoo] at hown
        obtain ⟨b', κ', cur, tt, f1, f2, f3, f4, f5⟩ := hob'
        rw [hg] at f1
        obtain ⟨rfl, rfl⟩ : b = b' ∧ κ = κ' := by simpa using f1
        have fin : ∀ A cc, c = .slice A len cc → len ≤ cc → (∀ n, cap = some n → cc = n) → (∀ i, i < cap.getD len → A = some ⟨b, off * s, none⟩) → VR w F2 g' (.ro s len cap fun i => (readLit cells (cells.length / s) s (off + i) 0 s).map AV.rv) c := fun A cc hc h1 h2 h3 => by
          subst hc
          refine .ro _ _ _ _ _ (.ro _ _ _ _ _ _ (fun i j => cur.getD ((off + i) * s + j) undef) h1 h2 (fun i hi j hj => ?_) (fun i hi j hj => ?_))
          all_goals
            have hlt : (off + i) * s + j < cells.length := by
              have h1 : (off + i + 1) * s ≤ κ * s := Nat.mul_le_mul_right _ (by have := hrdl i hi; omega)
              rw [Nat.add_mul, Nat.one_mul] at h1; omega
          · refine ⟨_, h3 i hi, hown ⟨κ, hg⟩, ?_⟩
            rw [add_mk, show off * s + (i * s + j) = (off + i) * s + j by rw [Nat.add_mul]; omega]
            exact cell_of f3 (by omega)
          · rw [nth_map_rv, nth_readLit _ _ _ _ _ _ _ hj, Nat.zero_add]
            have hκ : cells.length / s = κ := by rw [← f2, Nat.mul_div_cancel _ (by omega)]
            rw [hκ]
            exact (VR.rv (placeLit_vr (f := fun p => cur.getD p undef) (.inr (hrdl i hi)) (f5 _ hlt))).mono (fun _ _ => rfl) hF
        rcases hX with hX | ⟨h0, h1, A, hX⟩
        · exact fin _ _ hX (by omega) hcap (fun _ _ => rfl)
        · refine fin A 0 (by rw [hX, h0]) (by omega) (fun n hn => by have := hcap n hn; omega) (fun i hi => ?_)
          have := hrdl i hi; omega
theorem freeze_vr {look : Nat → AO} (hlk : ∀ o, look o = nth .free h o ∨ look o = .free) {v : AV} {c : Value} (H : HR B0 w0 w Fz g h) (hF : ∀ b, Fz b → F2 b) (hO : ∀ o b, o < h.length → look o = nth .free h o → Has g o (nth .free h o) b → F2 b) (hob : conj (frOb look v)) (hv : VR w Fz g v c) : VR w F2 g' (freeze look v) c := by
  by_cases hag : ∃ cs, v = .agg cs
  · obtain ⟨cs, rfl⟩ := hag
    obtain ⟨vs, rfl, hl, hh⟩ := inv_agg hv
    refine .agg _ _ (by simpa using hl) fun i hi => ?_
    have hi' : i < cs.length := by simpa using hi
    rw [map_top rfl]
    exact freeze1_vr hlk H hF hO (conj_flatMap hob _ (by rw [nth_get, List.getD_eq_getElem?_getD, List.getElem?_eq_getElem hi']; exact List.getElem_mem _)) (hh i hi')
  · have e1 : freeze look v = freeze1 look v := by cases v <;> first | rfl | exact absurd ⟨_, rfl⟩ hag
    have e2 : frOb look v = frOb1 look v := by cases v <;> first | rfl | exact absurd ⟨_, rfl⟩ hag
    rw [e1]; rw [e2] at hob
    exact freeze1_vr hlk H hF hO hob hv
theorem freezeR_vr {look : Nat → AO} (hlk : ∀ o, look o = nth .free h o ∨ look o = .free) {v : AV} {c : Value} (H : HR B0 w0 w Fz g h) (hF : ∀ b, Fz b → F2 b) (hO : ∀ o b, o < h.length → look o = nth .free h o → Has g o (nth .free h o) b → F2 b) (hob : conj (frObR look v)) (hv : VR w Fz g v c) : VR w F2 g' (freezeR look v) c := by
  by_cases hag : ∃ cs, v = .tup cs
  · obtain ⟨cs, rfl⟩ := hag
    obtain ⟨vs, rfl, hl, hh⟩ := inv_tup hv
    refine .tup _ _ (by simpa using hl) fun i hi => ?_
    have hi' : i < cs.length := by simpa using hi
    rw [map_top rfl]
    exact freeze_vr hlk H hF hO (conj_flatMap hob _ (by rw [nth_get, List.getD_eq_getElem?_getD, List.getElem?_eq_getElem hi']; exact List.getElem_mem _)) (hh i hi')
  · have e1 : freezeR look v = freeze look v := by cases v <;> first | rfl | exact absurd ⟨_, rfl⟩ hag
    have e2 : frObR look v = frOb look v := by cases v <;> first | rfl | exact absurd ⟨_, rfl⟩ hag
    rw [e1]; rw [e2] at hob
    exact freeze_vr hlk H hF hO hob hv
/-- Without a slice of the call's own nothing needs to stay that didn't. -/
theorem freeze1_vr' (hG : Gl w.heap.size w) {v : AV} {c : Value} {look : Nat → AO} (hf : froze1 v = false) (hv : VR w Fz g v c) : VR w Fz g' (freeze1 look v) c := by
  have H : HR w.heap.size w w (fun _ => False) (fun _ => none) [] := ⟨Below.refl _ _, Nat.le_refl _, fun _ h => h.elim, fun _ _ => rfl, fun o ho => absurd ho (by simp), fun o b ho => absurd ho (by simp), fun o _ b ho => absurd ho (by simp), hG⟩
  cases v with
  | sl o s off len cap => simp [froze1] at hf
  | cint k n => rw [inv_cint hv]; exact .int _ _
  | int k n => rw [inv_int hv]; exact .int _ _
  | bool b => rw [inv_bool hv]; exact .bool _
  | str s => cases hv; exact .str _
  | nilp => cases hv; exact .nilp
  | nilfn => cases hv; exact .nilfn
  | nilif => cases hv; exact .nilif
  | rp s row i j =>
    generalize hc : AV.rp s row i j = q at hv
    cases hv <;> cases hc
    rename_i ad hm
    exact .rp _ _ _ _ _ hm
  | nilsl => cases hv; exact .ro _ _ _ _ _ (.ro _ _ _ _ _ _ (fun _ _ => undef) (Nat.le_refl _) (fun n hn => by simpa using hn) (fun i hi => absurd hi (by simp)) (fun i hi => absurd hi (by simp)))
  | ro s len cap row => cases hv with | ro _ _ _ _ _ hr => exact .ro _ _ _ _ _ hr
  | fn f xs ys =>
    obtain ⟨us, vs, rfl, ha, hb, _⟩ := inv_fn hv
    cases xs <;> cases ys <;> first
      | exact .fn f [] [] us vs ha hb (fun i hi => absurd hi (by simp)) (fun i hi => absurd hi (by simp))
      | exact .top _
  | _ => exact .top _
theorem freeze_vr' (hG : Gl w.heap.size w) {v : AV} {c : Value} {look : Nat → AO} (hf : froze v = false) (hv : VR w Fz g v c) : VR w Fz g' (freeze look v) c := by
  by_cases hag : ∃ cs, v = .agg cs
  · obtain ⟨cs, rfl⟩ := hag
    obtain ⟨vs, rfl, hl, hh⟩ := inv_agg hv
    refine .agg _ _ (by simpa using hl) fun i hi => ?_
    have hi' : i < cs.length := by simpa using hi
    rw [map_top rfl]
    refine freeze1_vr' hG ?_ (hh i hi')
    have := List.any_eq_false.mp hf (nth .top cs i) (by rw [nth_get, List.getD_eq_getElem?_getD, List.getElem?_eq_getElem hi']; exact List.getElem_mem _)
    simpa using this
  · have e1 : freeze look v = freeze1 look v := by cases v <;> first | rfl | exact absurd ⟨_, rfl⟩ hag
    have e2 : froze v = froze1 v := by cases v <;> first | rfl | exact absurd ⟨_, rfl⟩ hag
    rw [e1]; rw [e2] at hf
    exact freeze1_vr' hG hf hv
theorem isPlain_vr {v : AV} {c : Value} (hp : isPlain v = true) (hv : VR w Fz g v c) : VR w' F2 g' v c := by
  cases v <;> simp [isPlain] at hp <;> (cases hv; constructor)
theorem plain_vr {v : AV} {c : Value} (hp : plain v = true) (hv : VR w Fz g v c) : VR w' F2 g' v c := by
  have hcs : ∀ (cs : List AV) (vs : Array Value), cs.all isPlain = true → (∀ i, i < cs.length → VR w Fz g (nth .top cs i) (vs.getD i undef)) → ∀ i, i < cs.length → VR w' F2 g' (nth .top cs i) (vs.getD i undef) := fun cs vs h1 h2 i hi =>
    isPlain_vr (List.all_eq_true.mp h1 _ (by rw [nth_get, List.getD_eq_getElem?_getD, List.getElem?_eq_getElem hi]; exact List.getElem_mem _)) (h2 i hi)
  cases v with
  | agg cs =>
    obtain ⟨vs, rfl, hl, hh⟩ := inv_agg hv
    exact .agg _ _ hl (hcs cs vs hp hh)
  | tup cs =>
    obtain ⟨vs, rfl, hl, hh⟩ := inv_tup hv
    refine .tup _ _ hl fun i hi => ?_
    have h1 := List.all_eq_true.mp hp (nth .top cs i) (by rw [nth_get, List.getD_eq_getElem?_getD, List.getElem?_eq_getElem hi]; exact List.getElem_mem _)
    have h2 := hh i hi
    generalize nth .top cs i = q at h1 h2
    cases q with
    | agg ds =>
      obtain ⟨us, h3, hl', hh'⟩ := inv_agg h2
      rw [h3]
      exact .agg _ _ hl' (hcs ds us h1 hh')
    | _ => exact isPlain_vr h1 h2
  | _ => exact isPlain_vr hp hv
/-- Nothing that counts has turned; more stays from now on. -/
theorem HR.stillF (H : HR B0 w0 w Fz g h) (hB : Below B0 w0 w') (hs : w.heap.size ≤ w'.heap.size) (hsame : ∀ b, b < w.heap.size → w'.heap[b]? = w.heap[b]?) (hF : ∀ b, Fz b → F2 b) (hnew : ∀ b, F2 b → Fz b ∨ w.heap.size ≤ b) (hlt : ∀ b, F2 b → b < w'.heap.size) : HR B0 w0 w' F2 g h := by
  have H' := H.still hB hs hsame
  refine ⟨H'.below, H'.base, hlt, H'.free, fun o ho => ?_, fun o b ho hh => ?_, H'.sep, H'.gl⟩
  · have hO := H'.objs o ho
    cases hoo : nth .free h o with
    | free => rw [hoo] at hO; exact hO
    | dead => trivial
    | emap => rw [hoo] at hO; exact hO
    | xmap => rw [hoo] at hO; exact hO
    | lit s cells =>
      rw [hoo] at hO
      obtain ⟨b, κ, cs, t, h1, h2, h3, h4, h5⟩ := hO
      exact ⟨b, κ, cs, t, h1, h2, h3, h4, fun i hi => (h5 i hi).mono (fun _ _ => rfl) hF (fun _ _ x => x)⟩
    | rows s n row =>
      rw [hoo] at hO
      obtain ⟨b, κ, h1, h2, h3⟩ := hO
      exact ⟨b, κ, h1, h2, h3.imp id fun ⟨cs, t, q1, q2, q3⟩ => ⟨cs, t, q1, q2, fun i hi j hj => (q3 i hi j hj).mono (fun _ _ => rfl) hF (fun _ _ x => x)⟩⟩
  · obtain ⟨a1, a2, a3⟩ := H.own o b ho hh
    refine ⟨a1, Nat.lt_of_lt_of_le a2 hs, fun hf => ?_⟩
    rcases hnew b hf with x | x
    · exact a3 x
    · omega
/-- A call of a function that the environment tells. -/
theorem quiet_calls {G : Env} (hG : EnvOK P G) (H : HR B0 w0 w Fz g h) {f : FuncId} {vs : List AV} {args : Array Value} {ob : List Prop} {val : AV} {upd : List (Nat × AO)} {kl : Option Nat} (hq : quiet G (fun o => nth .free h o) f vs = some ⟨ob, val, upd, kl⟩) (hob : conj ob)
    (hl : vs.length = args.size) (hv : ∀ i, i < vs.length → VR w Fz g (nth .top vs i) (args.getD i undef)) :
    upd = [] ∧ kl = none ∧ Reach P f args w fun e w' => ∃ c F2, e = .returned c ∧ VR w' F2 g val c ∧ HR B0 w0 w' F2 g h ∧ On w w' Fz F2 g g := by
  unfold quiet at hq
  split at hq
  · rename_i q hGf
    split at hq
    · rename_i ob' r hqv
      cases hb : (vs.any froze && !plain r) with
      | true => rw [hb] at hq; simp at hq
      | false =>
        rw [hb] at hq
        simp only [cond_false, Option.some.injEq, Out.mk.injEq] at hq
        obtain ⟨rfl, rfl, rfl, rfl⟩ := hq
        rw [conj_append] at hob
        obtain ⟨hob1, hob2⟩ := hob
        have hS := hG f q hGf _ _ _ hqv hob2
        refine ⟨rfl, rfl, ?_⟩
        by_cases hfr : vs.any froze = true
        · have hpl : plain r = true := by rw [hfr] at hb; simpa using hb
          have H0 : HR w.heap.size w w (fun b => b < w.heap.size) (fun _ => none) [] := ⟨Below.refl _ _, Nat.le_refl _, fun _ h => h, fun _ _ => rfl, fun o ho => absurd ho (by simp), fun o b ho => absurd ho (by simp), fun o _ b ho => absurd ho (by simp), H.gl_up⟩
          refine (hS _ _ _ _ _ args H0 (by simpa using hl) (fun i hi => ?_)).mono fun e w' ⟨r', c, h', Fz', g', h1, h2, h3, h4, h5⟩ => ?_
          · have hi' : i < vs.length := by simpa using hi
            rw [map_top rfl]
            exact freeze_vr (fun _ => .inl rfl) H H.fz (fun o b ho _ hh => (H.own o b ho hh).2.1) (conj_flatMap hob1 _ (by rw [nth_get, List.getD_eq_getElem?_getD, List.getElem?_eq_getElem hi']; exact List.getElem_mem _)) (hv i hi')
          · obtain ⟨r', rfl⟩ : ∃ q, r' = .ret q := by
              cases r' with
              | ret q => exact ⟨q, rfl⟩
              | pan q => exact h2.elim
            have hr := h2.2 _ _ _ _ (freezeR_vr (g' := g') (F2 := fun _ => True) (fun _ => .inl rfl) h4 (fun _ _ => trivial) (fun _ _ _ _ _ => trivial) h2.1 h3)
            have hsame : ∀ b, b < w.heap.size → w'.heap[b]? = w.heap[b]? := fun b hb => h4.below.block b hb
            have hbl : Below B0 w0 w' := H.below.trans (h4.below.mono H.base)
            exact ⟨c, Fz, h1, plain_vr hpl hr, H.still hbl h4.below.size hsame, ⟨fun b hb => hsame b (H.fz b hb), fun _ x => x, fun _ _ x => x, fun _ x => .inl x, h4.below.size, fun _ _ _ x => .inl x⟩⟩
        · have hfr' : vs.any froze = false := by simpa using hfr
          have H0 : HR w.heap.size w w Fz (fun _ => none) [] := ⟨Below.refl _ _, Nat.le_refl _, H.fz, fun _ _ => rfl, fun o ho => absurd ho (by simp), fun o b ho => absurd ho (by simp), fun o _ b ho => absurd ho (by simp), H.gl_up⟩
          refine (hS _ _ _ _ _ args H0 (by simpa using hl) (fun i hi => ?_)).mono fun e w' ⟨r', c, h', Fz', g', h1, h2, h3, h4, h5⟩ => ?_
          · have hi' : i < vs.length := by simpa using hi
            rw [map_top rfl]
            refine freeze_vr' H.gl_up ?_ (hv i hi')
            have := List.any_eq_false.mp hfr' (nth .top vs i) (by rw [nth_get, List.getD_eq_getElem?_getD, List.getElem?_eq_getElem hi']; exact List.getElem_mem _)
            simpa using this
          · obtain ⟨r', rfl⟩ : ∃ q, r' = .ret q := by
              cases r' with
              | ret q => exact ⟨q, rfl⟩
              | pan q => exact h2.elim
            have hr := h2.2 _ _ _ _ (freezeR_vr (g' := g) (F2 := fun b => Fz' b ∨ (w.heap.size ≤ b ∧ b < w'.heap.size)) (fun _ => .inl rfl) h4 (fun _ x => .inl x) (fun o b ho _ hh => let ⟨a1, a2, _⟩ := h4.own o b ho hh; .inr ⟨a1, a2⟩) h2.1 h3)
            have hsame : ∀ b, b < w.heap.size → w'.heap[b]? = w.heap[b]? := fun b hb => h4.below.block b hb
            have hbl : Below B0 w0 w' := H.below.trans (h4.below.mono H.base)
            have hn : ∀ b, (Fz' b ∨ (w.heap.size ≤ b ∧ b < w'.heap.size)) → Fz b ∨ w.heap.size ≤ b := fun b hb => by
              rcases hb with x | x
              · exact h5.new b x
              · exact .inr x.1
            exact ⟨c, _, h1, hr, H.stillF hbl h4.below.size hsame (fun b x => .inl (h5.fz b x)) hn (fun b hb => hb.elim (h4.fz b) (·.2)), ⟨fun b hb => hsame b (H.fz b hb), fun b x => .inl (h5.fz b x), fun _ _ x => x, hn, h4.below.size, fun _ _ _ x => .inl x⟩⟩
    · simp at hq
  · simp at hq
end
end Go.Proofs.YtnnoplgabnfdiaaGreatDoor.Sh
