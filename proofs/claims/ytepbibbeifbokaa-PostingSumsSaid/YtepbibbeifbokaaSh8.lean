/- The shadow machine: slices. -/
import Derived.Test.YtepbibbeifbokaaSh7
import Derived.Room.AppendUpon
import Derived.Laws.MakeOwn
namespace Go.Proofs.Ytepbibbeifbokaa.Sh
open Go Go.RowKit
set_option linter.unusedVariables false
set_option linter.unusedSimpArgs false
section
variable {P : Program} {T : Tab} {B0 : Nat} {w0 w : World} {Fz : Nat → Prop} {g : Gh} {h : List AO} {a : Act} {o : Oper} {ob : List Prop} {val : AV} {upd : List (Nat × AO)}

theorem i64_wrap_of {n : Int} (h1 : -9223372036854775808 ≤ n) (h2 : n ≤ 9223372036854775807) : IntKind.i64.wrap n = n := by
  unfold IntKind.wrap
  simp [IntKind.signed, IntKind.bits, IntKind.max]
  omega
theorem bmod_any : True := trivial
/-- What the bounds come to. -/
theorem bound_run {v : Option AV} {c : Option Value} {d : Nat} {b : Option Int} {h y : Nat} {code : BoundsCode} (hb : boundOf v d = some (b, h)) (hv : ∀ x, v = some x → ∃ u, c = some u ∧ VR w Fz g x u) (hn : v = none → c = none) (hok : loOk b y) :
    (match c with | some u => Instr.sliceBound u y code | none => pure d).run P w = .ok h w ∧ (b = none → h = d) ∧ (∀ n, b = some n → h = n.toNat ∧ h ≤ y) := by
  cases v with
  | none =>
    simp only [boundOf, Option.some.injEq, Prod.mk.injEq] at hb
    obtain ⟨rfl, rfl⟩ := hb
    rw [hn rfl]
    exact ⟨rfl, fun _ => rfl, fun n hn => by cases hn⟩
  | some x =>
    simp only [boundOf] at hb
    split at hb
    · rename_i k n e
      simp only [Option.some.injEq, Prod.mk.injEq] at hb
      obtain ⟨rfl, rfl⟩ := hb
      obtain ⟨u, rfl, hu⟩ := hv x rfl
      have hU := intOf_vr e hu
      subst hU
      have hok' : 0 ≤ n ∧ n ≤ (y : Int) := hok
      exact ⟨by simp [Instr.sliceBound, asIntOf, hok'], (fun h => by cases h), (fun m hm => by cases hm; exact ⟨rfl, by omega⟩)⟩
    · simp at hb
theorem slice_run (hT : TabOK P T) {t e sz by_ : Nat} {z : AV} {ei : TI} (e0 : T.get t = some ⟨.slice e, sz, by_, z⟩) (e1 : T.get e = some ei) {A : Option Addr} {len c l h : Nat} {lo hi : Option Value}
    (hh : (match hi with | some u => Instr.sliceBound u c .sliceAcap | none => pure len : Sem Nat).run P w = .ok h w) (hl : (match lo with | some u => Instr.sliceBound u h .sliceB | none => pure 0 : Sem Nat).run P w = .ok l w) :
    (Instr.sliceAt t (.slice A len c) lo hi none).run P w = .ok (.slice (if c = l then A else A.map (·.add (l * ei.size))) (h - l) (c - l)) w := by
  obtain ⟨d, hd, hk⟩ := hT.und (w := w) e0
  simp only [kOK] at hk; subst hk
  have hsz := hT.size (w := w) e1
  have hsb : (Instr.sliceBounds true len c lo hi none).run P w = .ok (l, h, c) w := by
    cases hi <;> cases lo <;> simp only at hh hl <;> simp [Instr.sliceBounds, hh, hl]
    all_goals first
      | (simp at hh hl; omega)
      | (simp at hh; subst hh; simp [hl])
      | (simp at hl; exact hl)
      | skip
  simp only [Instr.sliceAt, Sem.run_bind, hd, Result.andThen_ok, Instr.slice, hsb, hsz, Sem.run_pure]
theorem inv_ro2 {s len : Nat} {cap : Option Nat} {row : Nat → List RV} {c : Value} (hv : VR w Fz g (.ro s len cap row) c) : ∃ (A : Option Addr) (cc : Nat) (cs : Nat → Nat → Value), c = .slice A len cc ∧ len ≤ cc ∧ (∀ n, cap = some n → cc = n) ∧
    (∀ i, i < cap.getD len → ∀ j, j < s → ∃ a, A = some a ∧ Fz a.block ∧ w.cell? (a.add (i * s + j)) = some (cs i j)) ∧ ∀ i, i < cap.getD len → ∀ j, j < s → RR w Fz (nth .top (row i) j) (cs i j) := by
  cases hv with | ro _ _ _ _ _ h =>
  cases h with | ro _ _ _ _ A cc cs hl hcap hc hr => exact ⟨A, cc, cs, rfl, hl, hcap, hc, hr⟩
/-- A part of what stays. -/
theorem ro_cut {s len cc : Nat} {cap : Option Nat} {row : Nat → List RV} {A : Option Addr} {cs : Nat → Nat → Value} {lb : Option Int} {l h : Nat} (hl : len ≤ cc) (hcap : ∀ n, cap = some n → cc = n)
    (hc : ∀ i, i < cap.getD len → ∀ j, j < s → ∃ a, A = some a ∧ Fz a.block ∧ w.cell? (a.add (i * s + j)) = some (cs i j)) (hr : ∀ i, i < cap.getD len → ∀ j, j < s → RR w Fz (nth .top (row i) j) (cs i j))
    (hh : h ≤ cap.getD len) (hlh : l ≤ h) (hl0 : lb = none → l = 0) (hln : ∀ n, lb = some n → l = n.toNat) :
    RR w Fz (.ro s (natLess lb h) (capLess lb cap) (rowsFrom lb row)) (.slice (if cc = l then A else A.map (·.add (l * s))) (h - l) (cc - l)) := by
  have hcc : cap.getD len ≤ cc := by cases hcp : cap with | none => simpa using hl | some m => have := hcap m hcp; simp; omega
  cases lb with
  | none =>
    have := hl0 rfl
    subst this
    simp only [natLess, capLess, rowsFrom, Nat.zero_mul, Nat.sub_zero]
    have hA : (if cc = 0 then A else A.map (·.add 0)) = A := by split <;> first | rfl | (cases A <;> simp [add_zero'])
    rw [hA]
    refine .ro _ _ _ _ _ _ cs (by omega) hcap (fun i hi => hc i ?_) (fun i hi => hr i ?_)
    all_goals (cases hcp : cap <;> simp [hcp] at hi hh ⊢ <;> omega)
  | some n =>
    have := hln n rfl
    subst this
    simp only [natLess, capLess, rowsFrom]
    have hcs : ∀ i, i < (capSub cap n.toNat).getD (h - n.toNat) → n.toNat + i < cap.getD len ∧ cc ≠ n.toNat := fun i hi => by
      cases hcp : cap with
      | none => simp [hcp, capSub] at hi hh ⊢; omega
      | some m => have := hcap m hcp; simp [hcp, capSub] at hi hh ⊢; omega
    refine .ro _ _ _ _ _ _ (fun i j => cs (n.toNat + i) j) (by omega) (fun m hm => ?_) (fun i hi j hj => ?_) (fun i hi j hj => hr _ (hcs i hi).1 j hj)
    · cases hcp : cap with
      | none => rw [hcp] at hm; cases hm
      | some q => rw [hcp] at hm; simp [capSub] at hm; have := hcap q hcp; omega
    · obtain ⟨h1, h2⟩ := hcs i hi
      obtain ⟨ad, hA, hF, hcell⟩ := hc _ h1 j hj
      rw [if_neg h2]
      refine ⟨ad.add (n.toNat * s), by rw [hA]; rfl, by rw [add_block]; exact hF, ?_⟩
      rw [add_add, show n.toNat * s + (i * s + j) = (n.toNat + i) * s + j by rw [Nat.add_mul]; omega]
      exact hcell
theorem getD_cases {cap : Option Nat} {len c : Nat} (hcap : ∀ n, cap = some n → c = n) (hl : len ≤ c) : len ≤ cap.getD len ∧ cap.getD len ≤ c ∧ (cap = none → cap.getD len = len) ∧ (∀ n, cap = some n → cap.getD len = c) := by
  cases cap with
  | none => exact ⟨Nat.le_refl _, hl, fun _ => rfl, (fun n h => by cases h)⟩
  | some n => have := hcap n rfl; subst this; exact ⟨hl, Nat.le_refl _, (fun h => by cases h), fun m h => rfl⟩
section ops
variable {G : Env} {eqs : List Nat} {base nid : Nat} {ch : List (Nat × Bool)} {s : AState} {kl : Option Nat}
variable (F : FR w Fz g s.tmps a) (H : HR B0 w0 w Fz g s.heap) (hch : Chained ch a)
include F H hch
theorem go_makeSlice {t : TypeId} {x y : Operand} (hob : conj ob) (hT : TabOK P T) (hn : nid ≤ s.heap.length) (hfree : nth .free s.heap nid = .free) (hop : o.op = .makeSlice t x y) (hc : core G T eqs base (.makeSlice t x y) ch s nid = some ⟨ob, val, upd, kl⟩) : Goes P B0 w0 w Fz g a o val (apply upd s.heap) ∧ kl = none := by
  have hx := ev_vr F hch x
  have hy := ev_vr F hch y
  simp only [core] at hc
  split at hc
  · rename_i e sz by_ z0 e0
    split at hc
    · rename_i ei k1 n k2 m e1 e2 e3
      cases hb : (Nat.blt 0 ei.bytes && Nat.blt 0 ei.size) with
      | false => rw [hb] at hc; simp at hc
      | true =>
        rw [hb] at hc
        simp only [cond_true, Option.some.injEq, Out.mk.injEq] at hc; obtain ⟨rfl, rfl, rfl, rfl⟩ := hc
        rw [Bool.and_eq_true] at hb
        have hby := blt_lt hb.1; have hsp := blt_lt hb.2
        have hX := intOf_vr e2 hx
        have hY := intOf_vr e3 hy
        obtain ⟨h0, h1, h2⟩ : 0 ≤ n ∧ n ≤ m ∧ m * (ei.bytes : Int) ≤ 281474976710656 := hob
        have hm : m ≤ 281474976710656 := by
          have : m * 1 ≤ m * (ei.bytes : Int) := Int.mul_le_mul_of_nonneg_left (by omega) (by omega)
          omega
        obtain ⟨d, hd, hk⟩ := hT.und (w := w) e0
        simp only [kOK] at hk; subst hk
        obtain ⟨z, hz, hzv, hzs, hzl⟩ := hT.zero (w := w) e1
        have hsz := hT.size (w := w) e1
        obtain ⟨i, z', i1, i2, i3, i4, _⟩ := (hT e ei e1).info
        have hcell : ∀ w', Same Fz w w' → ∀ r, r < m.toNat → ∀ j, j < ei.size → VR w' Fz (ext g nid (w.heap.size, m.toNat)) (nth .top ei.zero.cells j) (((Array.range (m.toNat * ei.size)).map (z.cells[· % z.cells.size]!)).getD (r * ei.size + j) undef) := fun w' hs r hr j hj => by
          obtain ⟨hzl2, hzv2⟩ := cells_vr (hzv w' Fz (ext g nid (w.heap.size, m.toNat))) hzs
          have hi : r * ei.size + j < m.toNat * ei.size := by
            have : (r + 1) * ei.size ≤ m.toNat * ei.size := Nat.mul_le_mul_right _ (by omega)
            rw [Nat.add_mul, Nat.one_mul] at this; omega
          have hzc : z.cells.size = ei.size := by omega
          have hmod : (r * ei.size + j) % z.cells.size = j := by rw [hzc, Nat.add_comm, Nat.add_mul_mod_self_right, Nat.mod_eq_of_lt hj]
          have hj2 : j < z.cells.size := by omega
          simp only [Array.getD_eq_getD_getElem?, Array.getElem?_map, Array.getElem?_range, hi, if_true, Option.map_some, Option.getD_some, hmod]
          rw [getElem!_pos z.cells _ hj2]
          have := hzv2 j (by omega)
          simpa [Array.getD, hj2] using this
        obtain ⟨g1, g2, g3⟩ := H.alloc hn hfree ((Array.range (m.toNat * ei.size)).map (z.cells[· % z.cells.size]!)) e m.toNat (.rows ei.size m.toNat fun _ => ei.zero.cells) (fun w' hs hbb => ⟨w.heap.size, m.toNat, by simp [ext], Nat.le_refl _, .inr ⟨_, e, hbb, by simp, fun r hr j hj => hcell w' hs r hr j hj⟩⟩)
        refine ⟨goes_semTo (e := Instr.makeSlice t (a.eval x) (a.eval y)) (c := .slice (some ⟨w.heap.size, 0, none⟩) n.toNat m.toNat) (by simp only [execOp, hop]) ?_ ?_ g1 ⟨g2, fun _ x => x, g3, fun _ x => .inl x, alloc_size _ _⟩, rfl⟩
        · obtain ⟨d, hd, hk⟩ := (hT t _ e0).und
          simp only [kOK] at hk; subst hk
          have hr := run_make (P := P) w t e i z' hd i1 i4 k1 k2 n m h0 h1 (by rw [i3, Int.mul_comm]; exact h2) (by omega)
          have hzz : z = z' := by
            have h1 := hz
            simp [zeroValue, typeInfo, i1, i4] at h1
            exact h1.symm
          rw [hX, hY, hr, i2, ← hzz]
          rfl
        · have := VR.sl (w := w.alloc (.cells ((Array.range (m.toNat * ei.size)).map (z.cells[· % z.cells.size]!)) e)) (Fz := Fz) (g := ext g nid (w.heap.size, m.toNat)) nid ei.size 0 n.toNat (some m.toNat) w.heap.size m.toNat (by simp [ext]) (by omega) (fun n hn => by simpa using hn)
          simpa using this
    · simp at hc
  · simp at hc
theorem go_slice {t : TypeId} {x : Operand} {lo hi : Option Operand} (hob : conj ob) (hT : TabOK P T) (hop : o.op = .slice t x lo hi none) (hc : core G T eqs base (.slice t x lo hi none) ch s nid = some ⟨ob, val, upd, kl⟩) : Goes P B0 w0 w Fz g a o val (apply upd s.heap) ∧ kl = none := by
  have hx := ev_vr F hch x
  have hbv : ∀ (q : Option Operand) y, q.map (ev ch s) = some y → ∃ u, q.map a.eval = some u ∧ VR w Fz g y u := fun q y hy => by
    cases q with
    | none => cases hy
    | some q => simp only [Option.map_some, Option.some.injEq] at hy; subst hy; exact ⟨_, rfl, ev_vr F hch q⟩
  have hbn : ∀ (q : Option Operand), q.map (ev ch s) = none → q.map a.eval = none := fun q hq => by cases q <;> simp_all
  have hexec : execOp a.eval o = (do pure (Next.value (← Instr.sliceAt t (a.eval x) (lo.map a.eval) (hi.map a.eval) none))) := by simp only [execOp, hop, Option.map_none]
  simp only [core, sliceOp] at hc
  split at hc
  · rename_i e sz by_ z e0 e2
    split at hc
    · rename_i ei hb h lb l e1 e3 e4
      simp only [Option.some.injEq, Out.mk.injEq] at hc; obtain ⟨rfl, rfl, rfl, rfl⟩ := hc
      obtain ⟨hob1, hob2⟩ : loOk hb 0 ∧ loOk lb 0 := hob
      rw [e2] at hx
      have hX : a.eval x = .slice none 0 0 := by generalize a.eval x = c at hx; cases hx; rfl
      obtain ⟨r1, r2, r3⟩ := bound_run (P := P) (w := w) (code := .sliceAcap) e3 (hbv hi) (hbn hi) hob1
      have h0 : h = 0 := by cases hb with | none => exact r2 rfl | some n => have := (r3 n rfl).2; omega
      subst h0
      obtain ⟨s1, s2, s3⟩ := bound_run (P := P) (w := w) (code := .sliceB) e4 (hbv lo) (hbn lo) hob2
      have l0 : l = 0 := by cases lb with | none => exact s2 rfl | some n => have := (s3 n rfl).2; omega
      subst l0
      exact ⟨goes_sem hexec (by rw [hX]; exact slice_run hT e0 e1 r1 s1) .nilsl H, rfl⟩
    · simp at hc
  · rename_i e sz by_ z st len cap row e0 e2
    split at hc
    · rename_i ei hb h lb l e1 e3 e4
      cases hsz : (ei.size == st) with
      | false => rw [hsz] at hc; simp at hc
      | true =>
        rw [hsz] at hc
        simp only [cond_true, Option.some.injEq, Out.mk.injEq] at hc; obtain ⟨rfl, rfl, rfl, rfl⟩ := hc
        have hst : ei.size = st := by simpa using hsz
        rw [e2] at hx
        obtain ⟨A, cc, cs, hX, hl, hcap, hcc, hrr⟩ := inv_ro2 hx
        obtain ⟨q1, q2, q3, q4⟩ := getD_cases hcap hl
        obtain ⟨hob1, hob2⟩ : loOk hb (cap.getD len) ∧ loOk lb h := hob
        have hob1' : loOk hb cc := by cases hb with | none => trivial | some n => exact ⟨hob1.1, by have := hob1.2; omega⟩
        obtain ⟨r1, r2, r3⟩ := bound_run (P := P) (w := w) (code := .sliceAcap) e3 (hbv hi) (hbn hi) hob1'
        obtain ⟨s1, s2, s3⟩ := bound_run (P := P) (w := w) (code := .sliceB) e4 (hbv lo) (hbn lo) hob2
        have hhlen : h ≤ cap.getD len := by
          cases hb with
          | none => rw [r2 rfl]; exact q1
          | some n => have := hob1.2; have := (r3 n rfl).1; have := hob1.1; omega
        have hlh : l ≤ h := by
          cases lb with
          | none => rw [s2 rfl]; omega
          | some n => exact (s3 n rfl).2
        refine ⟨goes_sem hexec (by rw [hX]; exact slice_run hT e0 e1 r1 s1) (.ro _ _ _ _ _ ?_) H, rfl⟩
        rw [hst]
        exact ro_cut hl hcap hcc hrr hhlen hlh s2 (fun n hn => (s3 n hn).1)
    · simp at hc
  · rename_i e sz by_ z oo st off len cap e0 e2
    split at hc
    · rename_i ei hb h lb l e1 e3 e4
      cases hsz : (ei.size == st) with
      | false => rw [hsz] at hc; simp at hc
      | true =>
        rw [hsz] at hc
        simp only [cond_true, Option.some.injEq, Out.mk.injEq] at hc; obtain ⟨rfl, rfl, rfl, rfl⟩ := hc
        have hst : ei.size = st := by simpa using hsz
        rw [e2] at hx
        obtain ⟨b, κ, hg, h1, h2, h3⟩ := inv_sl hx
        obtain ⟨q1, q2, q3, q4⟩ := getD_cases (len := len) h2 (by omega)
        obtain ⟨hob1, hob2⟩ : loOk hb (cap.getD len) ∧ loOk lb h := hob
        have hob1' : loOk hb (κ - off) := by cases hb with | none => trivial | some n => exact ⟨hob1.1, by have := hob1.2; omega⟩
        obtain ⟨r1, r2, r3⟩ := bound_run (P := P) (w := w) (code := .sliceAcap) e3 (hbv hi) (hbn hi) hob1'
        obtain ⟨s1, s2, s3⟩ := bound_run (P := P) (w := w) (code := .sliceB) e4 (hbv lo) (hbn lo) hob2
        have hhlen : h ≤ cap.getD len := by
          cases hb with
          | none => rw [r2 rfl]; exact q1
          | some n => have := hob1.2; have := (r3 n rfl).1; have := hob1.1; omega
        have hlh : l ≤ h := by
          cases lb with
          | none => rw [s2 rfl]; omega
          | some n => exact (s3 n rfl).2
        have hnf : natFrom lb off = off + l := by cases lb with | none => rw [s2 rfl]; rfl | some n => rw [(s3 n rfl).1]; rfl
        have hnl : natLess lb h = h - l := by cases lb with | none => rw [s2 rfl]; rfl | some n => rw [(s3 n rfl).1]; rfl
        have hcl : ∀ n, capLess lb cap = some n → κ - (off + l) = n := fun n hn => by
          cases lb with
          | none => have := h2 n hn; rw [s2 rfl]; exact this
          | some m =>
            rw [(s3 m rfl).1]
            cases hcp : cap with
            | none => rw [hcp] at hn; cases hn
            | some q => rw [hcp] at hn; simp [capLess, capSub] at hn; have := h2 q hcp; omega
        have hX : a.eval x = .slice (some ⟨b, off * st, none⟩) len (κ - off) ∨ (κ = off ∧ ∃ A, a.eval x = .slice A len (κ - off)) := by
          rcases h3 with h3 | ⟨h4, h5, A, h3⟩
          · exact .inl h3
          · exact .inr ⟨h5, A, by rw [h3, h4, h5]; simp⟩
        rcases hX with hX | ⟨h5, A, hX⟩
        · refine ⟨goes_sem hexec (by rw [hX]; exact slice_run hT e0 e1 r1 s1) ?_ H, rfl⟩
          rw [hnf, hnl]
          by_cases hk : κ - off = l
          · rw [if_pos hk]
            have e1 : h - l = 0 := by omega
            have e2 : κ - off - l = 0 := by omega
            rw [e1, e2]
            exact .sle _ _ _ _ _ b (by rw [hg]; congr 2; omega) (fun n hn => by have := hcl n hn; omega)
          · rw [if_neg hk, Option.map_some, add_mk, hst, ← Nat.add_mul, show κ - off - l = κ - (off + l) by omega]
            exact .sl _ _ _ _ _ b κ hg (by omega) hcl
        · refine ⟨goes_sem hexec (by rw [hX]; exact slice_run hT e0 e1 r1 s1) ?_ H, rfl⟩
          rw [hnf, hnl]
          have e0 : l = 0 := by omega
          have e1 : h - l = 0 := by omega
          have e2 : κ - off - l = 0 := by omega
          rw [e1, e2]
          exact .sle _ _ _ _ _ b (by rw [hg]; congr 2; omega) (fun n hn => by have := hcl n hn; omega)
    · simp at hc
  · rename_i n e sz by_ z oo e0 e2
    split at hc
    · rename_i ei cells e1 e3 e4 e5
      cases hb : (ei.size == 1 && (cells.length == n && Nat.blt 0 n)) with
      | false => rw [hb] at hc; simp at hc
      | true =>
        rw [hb] at hc
        simp only [cond_true, Option.some.injEq, Out.mk.injEq] at hc; obtain ⟨rfl, rfl, rfl, rfl⟩ := hc
        rw [Bool.and_eq_true, Bool.and_eq_true] at hb
        have hs1 : ei.size = 1 := by simpa using hb.1
        have hcn : cells.length = n := by simpa using hb.2.1
        have hn0 := blt_lt hb.2.2
        rw [e2] at hx
        obtain ⟨b, κ, hg, hX⟩ := inv_ptr hx
        have hol : oo < s.heap.length := by
          rcases Nat.lt_or_ge oo s.heap.length with e | e
          · exact e
          · rw [H.free oo e] at hg; cases hg
        have hO := H.objs oo hol
        rw [e5] at hO
        obtain ⟨b', κ', cs, tt, f1, f2, _⟩ := hO
        rw [hg] at f1
        obtain ⟨rfl, rfl⟩ : b = b' ∧ κ = κ' := by simpa using f1
        have hlo : lo = none := by cases lo with | none => rfl | some _ => simp at e1
        have hhi : hi = none := by cases hi with | none => rfl | some _ => simp at e3
        subst hlo; subst hhi
        obtain ⟨d, hd, hk⟩ := hT.und (w := w) e0
        simp only [kOK] at hk; subst hk
        have hsz := hT.size (w := w) e4
        refine ⟨goes_sem hexec (c := .slice (some ⟨b, 0 * 1, none⟩) n (n - 0)) ?_ ?_ H, rfl⟩
        · rw [hX]
          have hne : ¬ (n = 0) := by omega
          simp [Instr.sliceAt, hd, Instr.sureAddr, Instr.sliceBounds, hsz, hne, add_zero']
        · have hκ : κ = n := by omega
          have := VR.sl (w := w) (Fz := Fz) (g := g) oo 1 0 n (some n) b κ hg (by omega) (fun m hm => by simp at hm; omega)
          rw [hκ] at this
          exact this
    · simp at hc
  · simp at hc
theorem go_sliceMax {t : TypeId} {x : Operand} {lo hi : Option Operand} {mx : Operand} (hob : conj ob) (hT : TabOK P T) (hop : o.op = .slice t x lo hi (some mx)) (hc : core G T eqs base (.slice t x lo hi (some mx)) ch s nid = some ⟨ob, val, upd, kl⟩) : Goes P B0 w0 w Fz g a o val (apply upd s.heap) ∧ kl = none := by
  have hx := ev_vr F hch x
  have hexec : execOp a.eval o = (do pure (Next.value (← Instr.sliceAt t (a.eval x) (lo.map a.eval) (hi.map a.eval) (some (a.eval mx))))) := by simp only [execOp, hop, Option.map_some]
  simp only [core, sliceMax, Option.map_some] at hc
  split at hc
  · rename_i e sz by_ z k1 k2 e0 e1 e2 e3
    split at hc
    · rename_i ei e4
      have fin : ∀ A len c, a.eval x = .slice A len c → Goes P B0 w0 w Fz g a o (.ro 0 0 (some 0) fun _ => []) s.heap := fun A len c hX => by
        obtain ⟨d, hd, hk⟩ := hT.und (w := w) e0
        simp only [kOK] at hk; subst hk
        have hsz := hT.size (w := w) e4
        have hlo : lo = none := by cases lo with | none => rfl | some _ => simp at e1
        have hhi : ∃ q, hi = some q ∧ a.eval q = .int k1 0 := by
          cases hi with
          | none => simp at e2
          | some q => simp only [Option.map_some, Option.some.injEq] at e2; have := ev_vr F hch q; rw [e2] at this; exact ⟨q, rfl, inv_cint this⟩
        obtain ⟨q, rfl, hq⟩ := hhi
        have hm : a.eval mx = .int k2 0 := by have := ev_vr F hch mx; simp only [Option.some.injEq] at e3; rw [e3] at this; exact inv_cint this
        subst hlo
        refine goes_sem hexec (c := .slice A 0 0) ?_ (.ro _ _ _ _ _ (.ro _ _ _ _ _ _ (fun _ _ => undef) (Nat.le_refl _) (fun n hn => by simpa using hn) (fun i hi => absurd hi (by simp)) (fun i hi => absurd hi (by simp)))) H
        rw [hX, hm]
        simp [Instr.sliceAt, hd, Instr.slice, Instr.sliceBounds, Instr.sliceBound, asIntOf, hq, hsz]
      split at hc
      · rename_i st len cap row e5
        simp only [Option.some.injEq, Out.mk.injEq] at hc; obtain ⟨rfl, rfl, rfl, rfl⟩ := hc
        rw [e5] at hx
        obtain ⟨A, cc, hX, _⟩ := inv_ro hx
        exact ⟨fin _ _ _ hX, rfl⟩
      · rename_i oo st off len cap e5
        simp only [Option.some.injEq, Out.mk.injEq] at hc; obtain ⟨rfl, rfl, rfl, rfl⟩ := hc
        rw [e5] at hx
        obtain ⟨b, κ, _, _, _, h3⟩ := inv_sl hx
        rcases h3 with h3 | ⟨_, _, A, h3⟩
        · exact ⟨fin _ _ _ h3, rfl⟩
        · exact ⟨fin _ _ _ h3, rfl⟩
      · rename_i e5
        simp only [Option.some.injEq, Out.mk.injEq] at hc; obtain ⟨rfl, rfl, rfl, rfl⟩ := hc
        rw [e5] at hx
        have hX : a.eval x = .slice none 0 0 := by generalize a.eval x = c at hx; cases hx; rfl
        exact ⟨fin _ _ _ hX, rfl⟩
      · simp at hc
    · simp at hc
  · simp at hc
end ops
end
end Go.Proofs.Ytepbibbeifbokaa.Sh
