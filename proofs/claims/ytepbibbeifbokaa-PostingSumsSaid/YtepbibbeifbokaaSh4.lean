/- The shadow machine: reading, merging, packing. -/
import Derived.Test.YtepbibbeifbokaaSh3
namespace Go.Proofs.Ytepbibbeifbokaa.Sh
open Go Go.RowKit
set_option linter.unusedVariables false
set_option linter.unusedSimpArgs false
section
variable {P : Program} {B0 : Nat} {w0 w : World} {Fz : Nat → Prop} {g : Gh} {h : List AO}

theorem add_add (a : Addr) (x y : Nat) : (a.add x).add y = a.add (x + y) := by
  unfold Addr.add
  by_cases hx : x = 0
  · subst hx; simp
  · by_cases hy : y = 0
    · subst hy; simp [hx]
    · have : x + y ≠ 0 := by omega
      simp [hx, hy, this]; omega
theorem add_mk (b o n : Nat) : (⟨b, o, none⟩ : Addr).add n = ⟨b, o + n, none⟩ := by unfold Addr.add; split <;> simp_all
theorem add_zero' (a : Addr) : a.add 0 = a := by simp [Addr.add]

theorem conj_cons {p : Prop} {r : List Prop} : conj (p :: r) ↔ p ∧ conj r := by
  cases r <;> simp [conj]
theorem conj_append {l r : List Prop} : conj (l ++ r) ↔ conj l ∧ conj r := by
  induction l with
  | nil => simp [conj]
  | cons p l ih => rw [List.cons_append, conj_cons, conj_cons, ih, and_assoc]
theorem need_iff {l : List Prop} {q : Prop} : need l q ↔ conj l ∧ q := by
  cases l <;> simp [need, conj]

theorem ro_some {s len : Nat} {cap : Option Nat} {row : Nat → List RV} {c : Value} (h : VR w Fz g (.ro s len cap row) c) : VR w Fz g (.ro s len none row) c := by
  cases h with
  | ro _ _ _ _ _ hr =>
    cases hr with
    | ro _ _ _ _ A cc cs hlen hcap hc hr =>
      have hle : len ≤ cap.getD len := by cases hcp : cap with
        | none => simp
        | some n => have := hcap n hcp; simp; omega
      exact .ro _ _ _ _ _ (.ro _ _ _ _ _ _ cs hlen (fun n hn => by cases hn) (fun i hi j hj => hc i (by simp at hi; omega) j hj) (fun i hi j hj => hr i (by simp at hi; omega) j hj))
theorem merge_vr {b : Bool} {x y : AV} {c : Value} (hx : b = true → VR w Fz g x c) (hy : b = false → VR w Fz g y c) : VR w Fz g (merge b x y) c := by
  unfold merge
  split
  all_goals first
    | exact .top _
    | skip
  all_goals
    first
    | (rename_i s len cap row s' len' cap' row'
       cases e : Nat.beq s s' with
       | false => exact .top _
       | true =>
         have e' := Nat.eq_of_beq_eq_true e
         subst e'
         cases b with
         | true => exact ro_some (hx rfl)
         | false => exact ro_some (hy rfl))
    | (rename_i k u k' v
       cases e : (k == k') with
       | false => exact .top _
       | true =>
         have e' : k = k' := by simpa using e
         subst e'
         cases b with
         | true => have h := hx rfl; cases h; exact .int _ _
         | false => have h := hy rfl; cases h; exact .int _ _)
    | (cases b with
       | true => have h := hx rfl; cases h; constructor
       | false => have h := hy rfl; cases h; constructor)
theorem nth_merges (b : Bool) : ∀ (xs ys : List AV) (i : Nat), i < xs.length → i < ys.length → nth .top (merges b xs ys) i = merge b (nth .top xs i) (nth .top ys i)
  | [], ys, i, h1, h2 => by simp at h1
  | x :: xs, [], i, h1, h2 => by simp at h2
  | x :: xs, y :: ys, 0, h1, h2 => rfl
  | x :: xs, y :: ys, i + 1, h1, h2 => by simp only [merges, nth]; exact nth_merges b xs ys i (by simpa using h1) (by simpa using h2)
theorem nth_merges_ge (b : Bool) : ∀ (xs ys : List AV) (i : Nat), ¬ (i < xs.length ∧ i < ys.length) → nth .top (merges b xs ys) i = .top
  | [], ys, i, h => by cases i <;> simp [merges, nth]
  | x :: xs, [], i, h => by cases i <;> simp [merges, nth]
  | x :: xs, y :: ys, 0, h => by simp at h
  | x :: xs, y :: ys, i + 1, h => by simp only [merges, nth]; exact nth_merges_ge b xs ys i (by simpa using h)
theorem merges_vr {b : Bool} {xs ys : List AV} {i : Nat} {c : Value} (hx : b = true → VR w Fz g (nth .top xs i) c) (hy : b = false → VR w Fz g (nth .top ys i) c) : VR w Fz g (nth .top (merges b xs ys) i) c := by
  by_cases hi : i < xs.length ∧ i < ys.length
  · rw [nth_merges b xs ys i hi.1 hi.2]; exact merge_vr hx hy
  · rw [nth_merges_ge b xs ys i hi]; exact .top _
theorem nth_cands (cells : List AV) (s : Nat) : ∀ (n p i : Nat), i < n → nth .top (cands cells s p n) i = nth .top cells (p + i * s)
  | 0, p, i, h => by omega
  | n + 1, p, 0, h => by simp [cands, nth]
  | n + 1, p, i + 1, h => by simp only [cands, nth]; rw [nth_cands cells s n (p + s) i (by omega)]; congr 1; rw [Nat.add_mul]; omega
theorem cands_length (cells : List AV) (s : Nat) : ∀ (n p : Nat), (cands cells s p n).length = n
  | 0, p => rfl
  | n + 1, p => by simp [cands, cands_length cells s n]
theorem sel_vr {c : Value} : ∀ (l : List AV) (i : Nat), i < l.length → VR w Fz g (nth .top l i) c → VR w Fz g (sel i l) c
  | [], i, h, hv => by simp at h
  | [x], i, h, hv => by
    have : i = 0 := by simp at h; omega
    subst this; exact hv
  | x :: y :: l, 0, h, hv => merge_vr (fun _ => hv) (fun e => by simp at e)
  | x :: y :: l, i + 1, h, hv => merge_vr (fun e => by simp at e) (fun _ => sel_vr (y :: l) i (by simpa using h) hv)
theorem readLit_length (cells : List AV) (N s i : Nat) : ∀ (m j : Nat), (readLit cells N s i j m).length = m
  | 0, j => rfl
  | m + 1, j => by simp [readLit, readLit_length cells N s i m]
/-- One place of what is read. -/
def placeLit (cells : List AV) (N s i p : Nat) : AV := match N with | 0 | 1 => nth .top cells p | _ => sel i (cands cells s p N)
theorem nth_readLit (cells : List AV) (N s i : Nat) : ∀ (m j q : Nat), q < m → nth .top (readLit cells N s i j m) q = placeLit cells N s i (j + q)
  | 0, j, q, h => by omega
  | m + 1, j, 0, h => rfl
  | m + 1, j, q + 1, h => by simp only [readLit, nth]; rw [nth_readLit cells N s i m (j + 1) q (by omega)]; congr 1; omega
theorem placeLit_vr {cells : List AV} {N s i p : Nat} {f : Nat → Value} (hi : (N ≤ 1 ∧ i = 0) ∨ i < N) (hv : VR w Fz g (nth .top cells (i * s + p)) (f (i * s + p))) : VR w Fz g (placeLit cells N s i p) (f (i * s + p)) := by
  unfold placeLit
  split
  · have : i = 0 := by omega
    subst this; simpa using hv
  · have : i = 0 := by omega
    subst this; simpa using hv
  · rename_i h0 h1
    have hlt : i < N := by
      rcases hi with hi | hi
      · exfalso; have : N = 0 ∨ N = 1 := by omega
        rcases this with e | e
        · exact h0 e
        · exact h1 e
      · exact hi
    refine sel_vr _ i (by rw [cands_length]; exact hlt) ?_
    rw [nth_cands _ _ _ _ _ hlt, Nat.add_comm]; exact hv
theorem nth_map_av : ∀ (l : List RV) (i : Nat), nth .top (l.map RV.av) i = (nth .top l i).av
  | [], i => by cases i <;> rfl
  | x :: xs, 0 => rfl
  | x :: xs, i + 1 => by simp only [List.map_cons, nth, nth_map_av xs i]
theorem nth_map_rv : ∀ (l : List AV) (i : Nat), nth .top (l.map AV.rv) i = (nth .top l i).rv
  | [], i => by cases i <;> rfl
  | x :: xs, 0 => rfl
  | x :: xs, i + 1 => by simp only [List.map_cons, nth, nth_map_rv xs i]

theorem ble_le {a b : Nat} (h : Nat.ble a b = true) : a ≤ b := Nat.le_of_ble_eq_true h
theorem blt_lt {a b : Nat} (h : Nat.blt a b = true) : a < b := by have := Nat.blt_eq (x := a) (y := b); rw [this] at h; exact h
theorem beq_eq {a b : Nat} (h : Nat.beq a b = true) : a = b := Nat.eq_of_beq_eq_true h
theorem cell_of {w : World} {b : Nat} {cs : Array Value} {t : TypeId} (h : w.heap[b]? = some (.cells cs t (0, 0))) {p : Nat} (hp : p < cs.size) : w.cell? ⟨b, p, none⟩ = some (cs.getD p undef) := by
  simp [World.cell?, h, Array.getD, hp]

/-- What is read lies there. -/
theorem rd_vr {v : AV} {m : Nat} {obs : List Prop} {cs : List AV} {c : Value} (H : HR B0 w0 w Fz g h) (hr : rd (fun o => nth .free h o) v m = some (obs, cs)) (hob : conj obs) (hv : VR w Fz g v c) :
    ∃ (ad : Addr) (f : Nat → Value), c = .pointer (some ad) ∧ cs.length = m ∧ (∀ q, q < m → w.cell? (ad.add q) = some (f q)) ∧ ∀ q, q < m → VR w Fz g (nth .top cs q) (f q) := by
  cases hv <;> simp only [rd] at hr <;> try (simp at hr; done)
  case ptr o N s i j b κ hg =>
    have hol : o < h.length := by
      rcases Nat.lt_or_ge o h.length with e | e
      · exact e
      · rw [H.free o e] at hg; cases hg
    have hO := H.objs o hol
    cases hoo : nth .free h o with
    | free => rw [hoo] at hr; simp at hr
    | dead => rw [hoo] at hr; simp at hr
    | lit u cells =>
      rw [hoo] at hr hO
      obtain ⟨b', κ', ar, t, e1, e2, e3, e4, e5⟩ := hO
      rw [hg] at e1
      obtain ⟨rfl, rfl⟩ : b = b' ∧ κ = κ' := by simpa using e1
      have key : ((N ≤ 1 ∧ i = 0) ∨ i < N) ∧ i * s + j + m ≤ cells.length ∧ cs = readLit cells N s i j m := by
        simp only at hr
        split at hr
        · cases e : (Nat.beq i 0 && Nat.ble (j + m) cells.length) with
          | false => rw [e] at hr; simp at hr
          | true =>
            rw [e] at hr
            simp only [cond_true, Option.some.injEq, Prod.mk.injEq] at hr
            rw [Bool.and_eq_true] at e
            have hi := beq_eq e.1; have hb := ble_le e.2
            subst hi
            exact ⟨.inl ⟨by omega, rfl⟩, by simpa using hb, hr.2.symm⟩
        · cases e : (Nat.beq i 0 && Nat.ble (j + m) cells.length) with
          | false => rw [e] at hr; simp at hr
          | true =>
            rw [e] at hr
            simp only [cond_true, Option.some.injEq, Prod.mk.injEq] at hr
            rw [Bool.and_eq_true] at e
            have hi := beq_eq e.1; have hb := ble_le e.2
            subst hi
            exact ⟨.inl ⟨by omega, rfl⟩, by simpa using hb, hr.2.symm⟩
        · cases e : (Nat.ble ((N - 1) * s + j + m) cells.length) with
          | false => rw [e] at hr; simp at hr
          | true =>
            rw [e] at hr
            simp only [cond_true, Option.some.injEq, Prod.mk.injEq] at hr
            obtain ⟨hr1, hr2⟩ := hr
            subst hr1
            have hlt : i < N := hob
            have hb := ble_le e
            have : i * s ≤ (N - 1) * s := Nat.mul_le_mul_right _ (by omega)
            exact ⟨.inr hlt, by omega, hr2.symm⟩
      obtain ⟨hi, hlen, rfl⟩ := key
      refine ⟨_, fun q => ar.getD (i * s + j + q) undef, rfl, readLit_length _ _ _ _ _ _, fun q hq => ?_, fun q hq => ?_⟩
      · rw [add_mk]; exact cell_of e3 (by omega)
      · rw [nth_readLit _ _ _ _ _ _ _ hq]
        have := placeLit_vr (w := w) (Fz := Fz) (g := g) (cells := cells) (N := N) (s := s) (i := i) (p := j + q) (f := fun p => ar.getD p undef) hi (e5 _ (by omega))
        rw [show i * s + (j + q) = i * s + j + q by omega] at this
        exact this
    | rows s' n row =>
      rw [hoo] at hr hO
      obtain ⟨b', κ', e1, e2, e3⟩ := hO
      rw [hg] at e1
      obtain ⟨rfl, rfl⟩ : b = b' ∧ κ = κ' := by simpa using e1
      simp only at hr
      cases e : (s == s' && Nat.ble (j + m) s) with
      | false => rw [e] at hr; simp at hr
      | true =>
        rw [e] at hr
        simp only [cond_true, Option.some.injEq, Prod.mk.injEq] at hr
        obtain ⟨hr1, hr2⟩ := hr
        subst hr1; subst hr2
        rw [Bool.and_eq_true] at e
        have hs : s = s' := by simpa using e.1
        have hb := ble_le e.2
        subst hs
        have hlt : i < n := hob
        rcases e3 with e3 | ⟨ar, t, e3, e4, e5⟩
        · omega
        · have hbig : i * s + s ≤ κ * s := by
            have : (i + 1) * s ≤ κ * s := Nat.mul_le_mul_right _ (by omega)
            rwa [Nat.add_mul, Nat.one_mul] at this
          refine ⟨_, fun q => ar.getD (i * s + j + q) undef, rfl, cut_length _ _ _ _, fun q hq => ?_, fun q hq => ?_⟩
          · rw [add_mk]; exact cell_of e3 (by omega)
          · rw [nth_cut _ _ _ _ _ hq]
            have := e5 i hlt (j + q) (by omega)
            rwa [show i * s + (j + q) = i * s + j + q by omega] at this
  case rp s row i j a hm =>
    cases e : Nat.ble (j + m) s with
    | false => rw [e] at hr; simp at hr
    | true =>
      rw [e] at hr
      simp only [cond_true, Option.some.injEq, Prod.mk.injEq] at hr
      obtain ⟨hr1, hr2⟩ := hr
      subst hr2
      have hb := ble_le e
      have hex : ∀ q, ∃ c, q < m → w.cell? (a.add q) = some c ∧ RR w Fz (nth .top (row i) (j + q)) c := fun q => by
        by_cases hq : q < m
        · obtain ⟨_, c, h1, h2⟩ := hm q (by omega)
          exact ⟨c, fun _ => ⟨h1, h2⟩⟩
        · exact ⟨undef, fun h => absurd h hq⟩
      refine ⟨a, fun q => (hex q).choose, rfl, by rw [List.length_map, cut_length], fun q hq => ((hex q).choose_spec hq).1, fun q hq => ?_⟩
      rw [nth_map_av, nth_cut _ _ _ _ _ hq]
      exact ((hex q).choose_spec hq).2.av

theorem pack_vr {cs : List AV} {f : Nat → Value} {b : Bool} (hc : ∀ q, q < cs.length → VR w Fz g (nth .top cs q) (f q)) (hb : b = false → 0 < cs.length) :
    VR w Fz g (pack b cs) (if b then .agg ((List.range cs.length).map f).toArray else f 0) := by
  cases b with
  | true =>
    refine .agg _ _ (by simp) fun i hi => ?_
    simp only [Array.getD_eq_getD_getElem?, List.getElem?_toArray, List.getElem?_map, List.getElem?_range hi, Option.map_some, Option.getD_some]
    exact hc i hi
  | false => exact hc 0 (hb rfl)
end
end Go.Proofs.Ytepbibbeifbokaa.Sh
