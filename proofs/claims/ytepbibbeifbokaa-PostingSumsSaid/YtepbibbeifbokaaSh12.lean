/- The shadow machine: calls of functions that only read. -/
import Derived.Test.YtepbibbeifbokaaSh11
namespace Go.Proofs.Ytepbibbeifbokaa.Sh
open Go Go.RowKit
set_option linter.unusedVariables false
set_option linter.unusedSimpArgs false
/-- A function that has a text. -/
def Ent (P : Program) (f : FuncId) : Prop := ∃ fn, P.funcs[f]? = some fn ∧ (fn.name == "runtime.NumGoroutine") = false ∧ fn.body.isSome = true
/-- What an abstract call is, of the machine: with whatever memory and values that are such, it returns, with such. -/
def SCall (P : Program) : CallP := fun f vs h K => Ent P f ∧ ∀ (B0 : Nat) (w0 w : World) (Fz : Nat → Prop) (g : Gh) (args : Array Value), HR B0 w0 w Fz g h → vs.length = args.size → (∀ i, i < vs.length → VR w Fz g (nth .top vs i) (args.getD i undef)) →
  Calls P f args w fun e w' => ∃ r c h' Fz' g', e = .returned c ∧ K r h' ∧ VR w' Fz' g' r c ∧ HR B0 w0 w' Fz' g' h' ∧ On w w' Fz Fz' g g'
/-- The one value tells less than the other. -/
def Wk (v v' : AV) : Prop := ∀ (w : World) (Fz : Nat → Prop) (g : Gh) (c : Value), VR w Fz g v c → VR w Fz g v' c
/-- A quiet function's result. -/
def Told (r : AV) (r' : AV) (h' : List AO) : Prop := conj (frObR (fun o => nth .free h' o) r') ∧ Wk (freezeR (fun o => nth .free h' o) r') r
def EnvOK (P : Program) (G : Env) : Prop := ∀ f q, G.get f = some q → ∀ vs ob r, q vs = some (ob, r) → conj ob → SCall P f vs [] (Told r)
theorem SCall.mono {P : Program} {f : FuncId} {vs : List AV} {h : List AO} {K K' : AV → List AO → Prop} (H : SCall P f vs h K) (hk : ∀ r h', K r h' → K' r h') : SCall P f vs h K' :=
  ⟨H.1, fun B0 w0 w Fz g args hH hl hv => (H.2 B0 w0 w Fz g args hH hl hv).mono fun e w' ⟨r, c, h', Fz', g', h1, h2, h3⟩ => ⟨r, c, h', Fz', g', h1, hk _ _ h2, h3⟩⟩
section
variable {P : Program} {T : Tab} {B0 : Nat} {w0 w w' : World} {Fz F2 : Nat → Prop} {g g' : Gh} {h : List AO} {a : Act} {o : Oper} {ob : List Prop} {val : AV} {upd : List (Nat × AO)}

theorem conj_flatMap {α : Type} {f : α → List Prop} : ∀ {l : List α}, conj (l.flatMap f) → ∀ x ∈ l, conj (f x)
  | [], h, x, hx => by simp at hx
  | y :: l, h, x, hx => by
    rw [List.flatMap_cons, conj_append] at h
    rcases List.mem_cons.mp hx with e | e
    · subst e; exact h.1
    · exact conj_flatMap h.2 x e
theorem freeze1_vr {v : AV} {c : Value} (H : HR B0 w0 w Fz g h) (hF : ∀ b, Fz b → F2 b) (hO : ∀ o b, o < h.length → Has g o (nth .free h o) b → F2 b) (hob : conj (frOb1 (fun o => nth .free h o) v)) (hv : VR w Fz g v c) : VR w F2 g' (freeze1 (fun o => nth .free h o) v) c := by
  cases v with
  | top => exact .top _
  | cint k n => rw [inv_cint hv]; exact .int _ _
  | int k n => rw [inv_int hv]; exact .int _ _
  | bool b => rw [inv_bool hv]; exact .bool _
  | str s => cases hv; exact .str _
  | nilp => cases hv; exact .nilp
  | nilfn => cases hv; exact .nilfn
  | nilif => cases hv; exact .nilif
  | ptr o N s i j => exact .top _
  | rp s row i j =>
    generalize hc : AV.rp s row i j = q at hv
    cases hv <;> cases hc
    rename_i ad hm
    exact .rp _ _ _ _ _ fun m hm' => let ⟨h1, c, h2, h3⟩ := hm m hm'; ⟨hF _ h1, c, h2, h3.mono (fun _ _ => rfl) hF⟩
  | nilsl => cases hv; exact .ro _ _ _ _ _ (.ro _ _ _ _ _ _ (fun _ _ => undef) (Nat.le_refl _) (fun n hn => by simpa using hn) (fun i hi => absurd hi (by simp)) (fun i hi => absurd hi (by simp)))
  | ro s len cap row =>
    cases hv with | ro _ _ _ _ _ hr => exact .ro _ _ _ _ _ (hr.mono (fun _ _ => rfl) hF)
  | fn f xs ys =>
    obtain ⟨us, vs, rfl, ha, hb, _⟩ := inv_fn hv
    cases xs <;> cases ys <;> first
      | exact .fn f [] [] us vs ha hb (fun i hi => absurd hi (by simp)) (fun i hi => absurd hi (by simp))
      | exact .top _
  | iface t v => exact .top _
  | agg cs => exact .top _
  | tup vs => exact .top _
  | when d b v => exact .top _
  | sl o s off len cap =>
    obtain ⟨b, κ, hg, hl, hcap, hX⟩ := inv_sl hv
    have hkl := lt_of_gh H hg
    have hob' := H.objs o hkl
    have hrdl : ∀ i, i < cap.getD len → off + i < κ := fun i hi => by
      cases hcp : cap with
      | none => rw [hcp] at hi; simp at hi; omega
      | some n => rw [hcp] at hi; have := hcap n hcp; simp at hi; omega
    simp only [freeze1]
    cases hoo : nth .free h o with
    | free => exact .top _
    | dead => exact .top _
    | rows s' n row =>
      simp only
      cases hb : (s == s') with
      | false => exact .top _
      | true =>
        have hss : s = s' := by simpa using hb
        subst hss
        simp only [cond_true]
        rw [hoo] at hob'
        have hown := hO o b hkl
        rw [hoo] at hown
        obtain ⟨b', κ', f1, f2, f3⟩ := hob'
        rw [hg] at f1
        obtain ⟨rfl, rfl⟩ : b = b' ∧ κ = κ' := by simpa using f1
        have hn : ∀ i, i < cap.getD len → off + i < n := fun i hi => by
          simp only [frOb1, hoo] at hob
          cases hcp : cap with
          | none => rw [hcp] at hi hob; simp [conj] at hi hob; omega
          | some m => rw [hcp] at hi hob; simp [conj] at hi hob; omega
        have fin : ∀ A cc, c = .slice A len cc → len ≤ cc → (∀ n, cap = some n → cc = n) → (∀ i, i < cap.getD len → A = some ⟨b, off * s, none⟩) → VR w F2 g' (.ro s len cap fun i => (row (off + i)).map AV.rv) c := fun A cc hc h1 h2 h3 => by
          subst hc
          refine .ro _ _ _ _ _ (.ro _ _ _ _ _ _ (fun i j => match w.cell? ⟨b, (off + i) * s + j, none⟩ with | some v => v | none => undef) h1 h2 (fun i hi j hj => ?_) (fun i hi j hj => ?_))
          all_goals
            rcases f3 with f3 | ⟨cur, tt, f3, f4, f5⟩
            · have := hn i hi; omega
            · have hlt : (off + i) * s + j < cur.size := by
                have h1 : (off + i + 1) * s ≤ κ * s := Nat.mul_le_mul_right _ (by have := hrdl i hi; omega)
                rw [Nat.add_mul, Nat.one_mul] at h1; omega
              have hcell := cell_of f3 hlt
              rw [hcell]
              first
                | (refine ⟨_, h3 i hi, hown ⟨κ, hg, by have := hn i hi; omega⟩, ?_⟩
                   rw [add_mk, show off * s + (i * s + j) = (off + i) * s + j by rw [Nat.add_mul]; omega]
                   exact hcell)
                | (rw [nth_map_rv]
                   exact (VR.rv (f5 (off + i) (hn i hi) j hj)).mono (fun _ _ => rfl) hF)
        rcases hX with hX | ⟨h0, h1, A, hX⟩
        · exact fin _ _ hX (by omega) hcap (fun _ _ => rfl)
        · refine fin A 0 (by rw [hX, h0]) (by omega) (fun n hn => by have := hcap n hn; omega) (fun i hi => ?_)
          have := hrdl i hi; omega
    | lit u cells =>
      simp only
      cases hb : (s == u) with
      | false => exact .top _
      | true =>
        have hss : s = u := by simpa using hb
        subst hss
        simp only [cond_true]
        rw [hoo] at hob'
        have hown := hO o b hkl
        rw [hoo] at hown
        obtain ⟨b', κ', cur, tt, f1, f2, f3, f4, f5⟩ := hob'
        rw [hg] at f1
        obtain ⟨rfl, rfl⟩ : b = b' ∧ κ = κ' := by simpa using f1
        have fin : ∀ A cc, c = .slice A len cc → len ≤ cc → (∀ n, cap = some n → cc = n) → (∀ i, i < cap.getD len → A = some ⟨b, off * s, none⟩) → VR w F2 g' (.ro s len cap fun i => (readLit cells (cells.length / s) s (off + i) 0 s).map AV.rv) c := fun A cc hc h1 h2 h3 => by
          subst hc
          refine .ro _ _ _ _ _ (.ro _ _ _ _ _ _ (fun i j => cur.getD ((off + i) * s + j) undef) h1 h2 (fun i hi j hj => ?_) (fun i hi j hj => ?_))
          all_goals
            have hlt : (off + i) * s + j < cells.length := by
              have h1 : (off + i + 1) * s ≤ κ * s := Nat.mul_le_mul_right _ (by have := hrdl i hi; omega)
              rw [Nat.add_mul, Nat.one_mul] at h1; omega
          · refine ⟨_, h3 i hi, hown ⟨κ, hg⟩, ?_⟩
            rw [add_mk, show off * s + (i * s + j) = (off + i) * s + j by rw [Nat.add_mul]; omega]
            exact cell_of f3 (by omega)
          · rw [nth_map_rv, nth_readLit _ _ _ _ _ _ _ hj, Nat.zero_add]
            have hκ : cells.length / s = κ := by rw [← f2, Nat.mul_div_cancel _ (by omega)]
            rw [hκ]
            exact (VR.rv (placeLit_vr (f := fun p => cur.getD p undef) (.inr (hrdl i hi)) (f5 _ hlt))).mono (fun _ _ => rfl) hF
        rcases hX with hX | ⟨h0, h1, A, hX⟩
        · exact fin _ _ hX (by omega) hcap (fun _ _ => rfl)
        · refine fin A 0 (by rw [hX, h0]) (by omega) (fun n hn => by have := hcap n hn; omega) (fun i hi => ?_)
          have := hrdl i hi; omega
theorem freeze_vr {v : AV} {c : Value} (H : HR B0 w0 w Fz g h) (hF : ∀ b, Fz b → F2 b) (hO : ∀ o b, o < h.length → Has g o (nth .free h o) b → F2 b) (hob : conj (frOb (fun o => nth .free h o) v)) (hv : VR w Fz g v c) : VR w F2 g' (freeze (fun o => nth .free h o) v) c := by
  by_cases hag : ∃ cs, v = .agg cs
  · obtain ⟨cs, rfl⟩ := hag
    obtain ⟨vs, rfl, hl, hh⟩ := inv_agg hv
    refine .agg _ _ (by simpa using hl) fun i hi => ?_
    have hi' : i < cs.length := by simpa using hi
    rw [map_top rfl]
    exact freeze1_vr H hF hO (conj_flatMap hob _ (by rw [nth_get, List.getD_eq_getElem?_getD, List.getElem?_eq_getElem hi']; exact List.getElem_mem _)) (hh i hi')
  · have e1 : freeze (fun o => nth .free h o) v = freeze1 (fun o => nth .free h o) v := by cases v <;> first | rfl | exact absurd ⟨_, rfl⟩ hag
    have e2 : frOb (fun o => nth .free h o) v = frOb1 (fun o => nth .free h o) v := by cases v <;> first | rfl | exact absurd ⟨_, rfl⟩ hag
    rw [e1]; rw [e2] at hob
    exact freeze1_vr H hF hO hob hv
theorem freezeR_vr {v : AV} {c : Value} (H : HR B0 w0 w Fz g h) (hF : ∀ b, Fz b → F2 b) (hO : ∀ o b, o < h.length → Has g o (nth .free h o) b → F2 b) (hob : conj (frObR (fun o => nth .free h o) v)) (hv : VR w Fz g v c) : VR w F2 g' (freezeR (fun o => nth .free h o) v) c := by
  by_cases hag : ∃ cs, v = .tup cs
  · obtain ⟨cs, rfl⟩ := hag
    obtain ⟨vs, rfl, hl, hh⟩ := inv_tup hv
    refine .tup _ _ (by simpa using hl) fun i hi => ?_
    have hi' : i < cs.length := by simpa using hi
    rw [map_top rfl]
    exact freeze_vr H hF hO (conj_flatMap hob _ (by rw [nth_get, List.getD_eq_getElem?_getD, List.getElem?_eq_getElem hi']; exact List.getElem_mem _)) (hh i hi')
  · have e1 : freezeR (fun o => nth .free h o) v = freeze (fun o => nth .free h o) v := by cases v <;> first | rfl | exact absurd ⟨_, rfl⟩ hag
    have e2 : frObR (fun o => nth .free h o) v = frOb (fun o => nth .free h o) v := by cases v <;> first | rfl | exact absurd ⟨_, rfl⟩ hag
    rw [e1]; rw [e2] at hob
    exact freeze_vr H hF hO hob hv
/-- Without a slice of the call's own nothing needs to stay that didn't. -/
theorem freeze1_vr' {v : AV} {c : Value} {look : Nat → AO} (hf : froze1 v = false) (hv : VR w Fz g v c) : VR w Fz g' (freeze1 look v) c := by
  have H : HR 0 w w (fun _ => False) (fun _ => none) [] := ⟨Below.refl _ _, Nat.zero_le _, fun _ h => h.elim, fun _ _ => rfl, fun o ho => absurd ho (by simp), fun o b ho => absurd ho (by simp), fun o _ b ho => absurd ho (by simp)⟩
  cases v with
  | sl o s off len cap => simp [froze1] at hf
  | cint k n => rw [inv_cint hv]; exact .int _ _
  | int k n => rw [inv_int hv]; exact .int _ _
  | bool b => rw [inv_bool hv]; exact .bool _
  | str s => cases hv; exact .str _
  | nilp => cases hv; exact .nilp
  | nilfn => cases hv; exact .nilfn
  | nilif => cases hv; exact .nilif
  | rp s row i j =>
    generalize hc : AV.rp s row i j = q at hv
    cases hv <;> cases hc
    rename_i ad hm
    exact .rp _ _ _ _ _ hm
  | nilsl => cases hv; exact .ro _ _ _ _ _ (.ro _ _ _ _ _ _ (fun _ _ => undef) (Nat.le_refl _) (fun n hn => by simpa using hn) (fun i hi => absurd hi (by simp)) (fun i hi => absurd hi (by simp)))
  | ro s len cap row => cases hv with | ro _ _ _ _ _ hr => exact .ro _ _ _ _ _ hr
  | fn f xs ys =>
    obtain ⟨us, vs, rfl, ha, hb, _⟩ := inv_fn hv
    cases xs <;> cases ys <;> first
      | exact .fn f [] [] us vs ha hb (fun i hi => absurd hi (by simp)) (fun i hi => absurd hi (by simp))
      | exact .top _
  | _ => exact .top _
theorem freeze_vr' {v : AV} {c : Value} {look : Nat → AO} (hf : froze v = false) (hv : VR w Fz g v c) : VR w Fz g' (freeze look v) c := by
  by_cases hag : ∃ cs, v = .agg cs
  · obtain ⟨cs, rfl⟩ := hag
    obtain ⟨vs, rfl, hl, hh⟩ := inv_agg hv
    refine .agg _ _ (by simpa using hl) fun i hi => ?_
    have hi' : i < cs.length := by simpa using hi
    rw [map_top rfl]
    refine freeze1_vr' ?_ (hh i hi')
    have := List.any_eq_false.mp hf (nth .top cs i) (by rw [nth_get, List.getD_eq_getElem?_getD, List.getElem?_eq_getElem hi']; exact List.getElem_mem _)
    simpa using this
  · have e1 : freeze look v = freeze1 look v := by cases v <;> first | rfl | exact absurd ⟨_, rfl⟩ hag
    have e2 : froze v = froze1 v := by cases v <;> first | rfl | exact absurd ⟨_, rfl⟩ hag
    rw [e1]; rw [e2] at hf
    exact freeze1_vr' hf hv
theorem isPlain_vr {v : AV} {c : Value} (hp : isPlain v = true) (hv : VR w Fz g v c) : VR w' F2 g' v c := by
  cases v <;> simp [isPlain] at hp <;> (cases hv; constructor)
theorem plain_vr {v : AV} {c : Value} (hp : plain v = true) (hv : VR w Fz g v c) : VR w' F2 g' v c := by
  have hcs : ∀ (cs : List AV) (vs : Array Value), cs.all isPlain = true → (∀ i, i < cs.length → VR w Fz g (nth .top cs i) (vs.getD i undef)) → ∀ i, i < cs.length → VR w' F2 g' (nth .top cs i) (vs.getD i undef) := fun cs vs h1 h2 i hi =>
    isPlain_vr (List.all_eq_true.mp h1 _ (by rw [nth_get, List.getD_eq_getElem?_getD, List.getElem?_eq_getElem hi]; exact List.getElem_mem _)) (h2 i hi)
  cases v with
  | agg cs =>
    obtain ⟨vs, rfl, hl, hh⟩ := inv_agg hv
    exact .agg _ _ hl (hcs cs vs hp hh)
  | tup cs =>
    obtain ⟨vs, rfl, hl, hh⟩ := inv_tup hv
    refine .tup _ _ hl fun i hi => ?_
    have h1 := List.all_eq_true.mp hp (nth .top cs i) (by rw [nth_get, List.getD_eq_getElem?_getD, List.getElem?_eq_getElem hi]; exact List.getElem_mem _)
    have h2 := hh i hi
    generalize nth .top cs i = q at h1 h2
    cases q with
    | agg ds =>
      obtain ⟨us, h3, hl', hh'⟩ := inv_agg h2
      rw [h3]
      exact .agg _ _ hl' (hcs ds us h1 hh')
    | _ => exact isPlain_vr h1 h2
  | _ => exact isPlain_vr hp hv
/-- Nothing that counts has turned; more stays from now on. -/
theorem HR.stillF (H : HR B0 w0 w Fz g h) (hB : Below B0 w0 w') (hs : w.heap.size ≤ w'.heap.size) (hsame : ∀ b, b < w.heap.size → w'.heap[b]? = w.heap[b]?) (hF : ∀ b, Fz b → F2 b) (hnew : ∀ b, F2 b → Fz b ∨ w.heap.size ≤ b) (hlt : ∀ b, F2 b → b < w'.heap.size) : HR B0 w0 w' F2 g h := by
  have H' := H.still hB hs hsame
  refine ⟨H'.below, H'.base, hlt, H'.free, fun o ho => ?_, fun o b ho hh => ?_, H'.sep⟩
  · have hO := H'.objs o ho
    cases hoo : nth .free h o with
    | free => rw [hoo] at hO; exact hO
    | dead => trivial
    | lit s cells =>
      rw [hoo] at hO
      obtain ⟨b, κ, cs, t, h1, h2, h3, h4, h5⟩ := hO
      exact ⟨b, κ, cs, t, h1, h2, h3, h4, fun i hi => (h5 i hi).mono (fun _ _ => rfl) hF (fun _ _ x => x)⟩
    | rows s n row =>
      rw [hoo] at hO
      obtain ⟨b, κ, h1, h2, h3⟩ := hO
      exact ⟨b, κ, h1, h2, h3.imp id fun ⟨cs, t, q1, q2, q3⟩ => ⟨cs, t, q1, q2, fun i hi j hj => (q3 i hi j hj).mono (fun _ _ => rfl) hF (fun _ _ x => x)⟩⟩
  · obtain ⟨a1, a2, a3⟩ := H.own o b ho hh
    refine ⟨a1, Nat.lt_of_lt_of_le a2 hs, fun hf => ?_⟩
    rcases hnew b hf with x | x
    · exact a3 x
    · omega
/-- A call of a function that the environment tells. -/
theorem quiet_calls {G : Env} (hG : EnvOK P G) (H : HR B0 w0 w Fz g h) {f : FuncId} {vs : List AV} {args : Array Value} {ob : List Prop} {val : AV} {upd : List (Nat × AO)} {kl : Option Nat} (hq : quiet G (fun o => nth .free h o) f vs = some ⟨ob, val, upd, kl⟩) (hob : conj ob)
    (hl : vs.length = args.size) (hv : ∀ i, i < vs.length → VR w Fz g (nth .top vs i) (args.getD i undef)) :
    upd = [] ∧ kl = none ∧ Ent P f ∧ Calls P f args w fun e w' => ∃ c F2, e = .returned c ∧ VR w' F2 g val c ∧ HR B0 w0 w' F2 g h ∧ On w w' Fz F2 g g := by
  unfold quiet at hq
  split at hq
  · rename_i q hGf
    split at hq
    · rename_i ob' r hqv
      cases hb : (vs.any froze && !plain r) with
      | true => rw [hb] at hq; simp at hq
      | false =>
        rw [hb] at hq
        simp only [cond_false, Option.some.injEq, Out.mk.injEq] at hq
        obtain ⟨rfl, rfl, rfl, rfl⟩ := hq
        rw [conj_append] at hob
        obtain ⟨hob1, hob2⟩ := hob
        obtain ⟨hEnt, hS⟩ := hG f q hGf _ _ _ hqv hob2
        refine ⟨rfl, rfl, hEnt, ?_⟩
        by_cases hfr : vs.any froze = true
        · have hpl : plain r = true := by rw [hfr] at hb; simpa using hb
          have H0 : HR w.heap.size w w (fun b => b < w.heap.size) (fun _ => none) [] := ⟨Below.refl _ _, Nat.le_refl _, fun _ h => h, fun _ _ => rfl, fun o ho => absurd ho (by simp), fun o b ho => absurd ho (by simp), fun o _ b ho => absurd ho (by simp)⟩
          refine (hS _ _ _ _ _ args H0 (by simpa using hl) (fun i hi => ?_)).mono fun e w' ⟨r', c, h', Fz', g', h1, h2, h3, h4, h5⟩ => ?_
          · have hi' : i < vs.length := by simpa using hi
            rw [map_top rfl]
            exact freeze_vr H H.fz (fun o b ho hh => (H.own o b ho hh).2.1) (conj_flatMap hob1 _ (by rw [nth_get, List.getD_eq_getElem?_getD, List.getElem?_eq_getElem hi']; exact List.getElem_mem _)) (hv i hi')
          · have hr := h2.2 _ _ _ _ (freezeR_vr (g' := g') (F2 := fun _ => True) h4 (fun _ _ => trivial) (fun _ _ _ _ => trivial) h2.1 h3)
            have hsame : ∀ b, b < w.heap.size → w'.heap[b]? = w.heap[b]? := fun b hb => h4.below.block b hb
            have hbl : Below B0 w0 w' := H.below.trans (h4.below.mono H.base)
            exact ⟨c, Fz, h1, plain_vr hpl hr, H.still hbl h4.below.size hsame, ⟨fun b hb => hsame b (H.fz b hb), fun _ x => x, fun _ _ x => x, fun _ x => .inl x, h4.below.size⟩⟩
        · have hfr' : vs.any froze = false := by simpa using hfr
          have H0 : HR w.heap.size w w Fz (fun _ => none) [] := ⟨Below.refl _ _, Nat.le_refl _, H.fz, fun _ _ => rfl, fun o ho => absurd ho (by simp), fun o b ho => absurd ho (by simp), fun o _ b ho => absurd ho (by simp)⟩
          refine (hS _ _ _ _ _ args H0 (by simpa using hl) (fun i hi => ?_)).mono fun e w' ⟨r', c, h', Fz', g', h1, h2, h3, h4, h5⟩ => ?_
          · have hi' : i < vs.length := by simpa using hi
            rw [map_top rfl]
            refine freeze_vr' ?_ (hv i hi')
            have := List.any_eq_false.mp hfr' (nth .top vs i) (by rw [nth_get, List.getD_eq_getElem?_getD, List.getElem?_eq_getElem hi']; exact List.getElem_mem _)
            simpa using this
          · have hr := h2.2 _ _ _ _ (freezeR_vr (g' := g) (F2 := fun b => Fz' b ∨ (w.heap.size ≤ b ∧ b < w'.heap.size)) h4 (fun _ x => .inl x) (fun o b ho hh => let ⟨a1, a2, _⟩ := h4.own o b ho hh; .inr ⟨a1, a2⟩) h2.1 h3)
            have hsame : ∀ b, b < w.heap.size → w'.heap[b]? = w.heap[b]? := fun b hb => h4.below.block b hb
            have hbl : Below B0 w0 w' := H.below.trans (h4.below.mono H.base)
            have hn : ∀ b, (Fz' b ∨ (w.heap.size ≤ b ∧ b < w'.heap.size)) → Fz b ∨ w.heap.size ≤ b := fun b hb => by
              rcases hb with x | x
              · exact h5.new b x
              · exact .inr x.1
            exact ⟨c, _, h1, hr, H.stillF hbl h4.below.size hsame (fun b x => .inl (h5.fz b x)) hn (fun b hb => hb.elim (h4.fz b) (·.2)), ⟨fun b hb => hsame b (H.fz b hb), fun b x => .inl (h5.fz b x), fun _ _ x => x, hn, h4.below.size⟩⟩
    · simp at hq
  · simp at hq
end
end Go.Proofs.Ytepbibbeifbokaa.Sh
