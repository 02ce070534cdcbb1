/- The shadow machine over this program: its types. -/
import Derived.Test.YtepbibbeifbokaaSh22
import Derived.KernelRfl
import Derived.Laws.StructEq
import Derived.ChangeKeysEq
namespace Go.Proofs.Ytepbibbeifbokaa.Sh
open Go Go.RowKit
set_option linter.unusedVariables false
def Tt : Tab := [(2, ⟨(.int .i64), 1, 8, (.int .i64 0)⟩),
  (3, ⟨(.int .i64), 1, 8, (.int .i64 0)⟩),
  (4, ⟨.bool, 1, 1, (.bool false)⟩),
  (12, ⟨(.int .u64), 1, 8, (.int .u64 0)⟩),
  (22, ⟨(.slice 39), 1, 24, .nilsl⟩),
  (24, ⟨(.struct [(0, 2), (1, 2), (2, 22), (3, 2), (4, 2), (5, 2), (6, 2), (7, 2), (8, 2), (9, 2)]), 10, 96, (.agg [(.int .i64 0), (.int .i64 0), .nilsl, (.int .i64 0), (.int .i64 0), (.int .i64 0), (.int .i64 0), (.int .i64 0), (.int .i64 0), (.int .i64 0)])⟩),
  (25, ⟨(.arr 4 3), 4, 32, (.agg [(.int .i64 0), (.int .i64 0), (.int .i64 0), (.int .i64 0)])⟩),
  (29, ⟨(.int .u64), 1, 8, (.int .u64 0)⟩),
  (30, ⟨(.arr 4 2), 4, 32, (.agg [(.int .i64 0), (.int .i64 0), (.int .i64 0), (.int .i64 0)])⟩),
  (31, ⟨(.int .i64), 1, 8, (.int .i64 0)⟩),
  (37, ⟨(.int .u64), 1, 8, (.int .u64 0)⟩),
  (39, ⟨(.struct [(0, 3), (1, 3), (2, 2), (3, 2)]), 4, 32, (.agg [(.int .i64 0), (.int .i64 0), (.int .i64 0), (.int .i64 0)])⟩),
  (43, ⟨(.slice 49), 1, 24, .nilsl⟩),
  (49, ⟨(.struct [(0, 3), (1, 2)]), 2, 16, (.agg [(.int .i64 0), (.int .i64 0)])⟩),
  (55, ⟨(.slice 64), 1, 24, .nilsl⟩),
  (62, ⟨(.slice 24), 1, 24, .nilsl⟩),
  (64, ⟨(.struct [(0, 3), (1, 3), (2, 43)]), 3, 40, (.agg [(.int .i64 0), (.int .i64 0), .nilsl])⟩),
  (72, ⟨(.slice 2), 1, 24, .nilsl⟩),
  (75, ⟨(.slice 3), 1, 24, .nilsl⟩),
  (78, ⟨(.struct [(0, 24), (10, 30), (14, 2)]), 15, 136, (.agg [(.int .i64 0), (.int .i64 0), .nilsl, (.int .i64 0), (.int .i64 0), (.int .i64 0), (.int .i64 0), (.int .i64 0), (.int .i64 0), (.int .i64 0), (.int .i64 0), (.int .i64 0), (.int .i64 0), (.int .i64 0), (.int .i64 0)])⟩),
  (81, ⟨(.struct [(0, 2), (1, 2)]), 2, 16, (.agg [(.int .i64 0), (.int .i64 0)])⟩),
  (86, ⟨(.struct [(0, 24), (10, 81)]), 12, 112, (.agg [(.int .i64 0), (.int .i64 0), .nilsl, (.int .i64 0), (.int .i64 0), (.int .i64 0), (.int .i64 0), (.int .i64 0), (.int .i64 0), (.int .i64 0), (.int .i64 0), (.int .i64 0)])⟩),
  (88, ⟨(.struct [(0, 24)]), 10, 96, (.agg [(.int .i64 0), (.int .i64 0), .nilsl, (.int .i64 0), (.int .i64 0), (.int .i64 0), (.int .i64 0), (.int .i64 0), (.int .i64 0), (.int .i64 0)])⟩),
  (95, ⟨(.arr 5 4), 5, 5, (.agg [(.bool false), (.bool false), (.bool false), (.bool false), (.bool false)])⟩)]
/-- The value that an abstract value is, if it's one alone. -/
def zv1 : AV → Option Value
  | .int k n => some (.int k n)
  | .bool b => some (.bool b)
  | .nilsl => some (.slice none 0 0)
  | _ => none
def zvs : List AV → Option (List Value)
  | [] => some []
  | x :: r => match zv1 x, zvs r with
    | some v, some vs => some (v :: vs)
    | _, _ => none
def zv : AV → Option Value
  | .agg cs => match zvs cs with
    | some vs => some (.agg vs.toArray)
    | none => none
  | v => zv1 v
def kd : TypeDesc → TK
  | .int k => .int k
  | .bool => .bool
  | .slice e => .slice e
  | .array n e => .arr n e
  | .struct F => .struct (F.toList.map fun f => (f.offset, f.type))
  | _ => .other
theorem zv1_vr {v : AV} {z : Value} (h : zv1 v = some z) (w : World) (Fz : Nat → Prop) (g : Gh) : VR w Fz g v z := by
  cases v <;> simp [zv1] at h <;> subst h <;> constructor
theorem zvs_vr : ∀ {cs : List AV} {vs : List Value}, zvs cs = some vs → cs.length = vs.length ∧ ∀ (w : World) (Fz : Nat → Prop) (g : Gh) i, i < cs.length → VR w Fz g (nth .top cs i) (vs.getD i undef)
  | [], vs, h => by simp only [zvs, Option.some.injEq] at h; subst h; exact ⟨rfl, fun _ _ _ i hi => absurd hi (by simp)⟩
  | x :: r, vs, h => by
    simp only [zvs] at h
    split at h
    · rename_i v us hv hu
      simp only [Option.some.injEq] at h; subst h
      obtain ⟨h1, h2⟩ := zvs_vr hu
      refine ⟨by simp [h1], fun w Fz g i hi => ?_⟩
      cases i with
      | zero => exact zv1_vr hv w Fz g
      | succ i => exact h2 w Fz g i (by simpa using hi)
    · simp at h
theorem zv_vr {v : AV} {z : Value} (h : zv v = some z) (w : World) (Fz : Nat → Prop) (g : Gh) : VR w Fz g v z := by
  unfold zv at h
  split at h
  · split at h
    · rename_i cs vs hvs
      simp only [Option.some.injEq] at h; subst h
      obtain ⟨h1, h2⟩ := zvs_vr hvs
      exact .agg _ _ (by simpa using h1) fun i hi => by simpa [Array.getD_eq_getD_getElem?, List.getD_eq_getElem?_getD] using h2 w Fz g i hi
    · simp at h
  · exact zv1_vr h w Fz g
theorem kd_ok {d : TypeDesc} {k : TK} (h : kd d = k) (hk : k ≠ .other) : kOK d k := by
  subst h
  cases d <;> simp [kd, kOK] at hk ⊢
def okTI (t : TI) : Bool := cellsOk t.zero && Nat.beq t.zero.cells.length t.size && (match t.k with | .other => false | _ => true) && (zv t.zero).isSome
theorem tabOK_of {P : Program} {T : Tab} (h1 : T.map (fun p => ((P.info? p.1).map fun i => (i.size, i.bytes, i.zero), (P.underlying p.1).map kd)) = T.map fun p => (some (p.2.size, p.2.bytes, zv p.2.zero), some p.2.k)) (h2 : T.all (fun p => okTI p.2) = true) : TabOK P T := by
  intro t ti h
  have hm : (t, ti) ∈ T := by
    clear h1 h2
    induction T with
    | nil => simp [Tab.get] at h
    | cons p r ih =>
      obtain ⟨n, i⟩ := p
      simp only [Tab.get] at h
      cases hn : (n == t) with
      | true =>
        rw [hn] at h
        simp only [cond_true, Option.some.injEq] at h
        have : n = t := by simpa using hn
        subst this; subst h; exact List.mem_cons_self
      | false => rw [hn] at h; exact List.mem_cons_of_mem _ (ih h)
  have e := List.map_inj_left.mp h1 _ hm
  have k := List.all_eq_true.mp h2 _ hm
  simp only [Prod.mk.injEq, Option.map_eq_some_iff] at e
  obtain ⟨⟨i, e1, e2, e3, e4⟩, d, e5, e6⟩ := e
  simp only [okTI, Bool.and_eq_true] at k
  obtain ⟨⟨⟨k1, k2⟩, k3⟩, k4⟩ := k
  obtain ⟨z, hz⟩ := Option.isSome_iff_exists.mp k4
  refine ⟨⟨i, z, e1, e2, e3, by rw [e4, hz], fun w Fz g => zv_vr hz w Fz g, k1, by simpa using k2⟩, d, e5, kd_ok e6 fun h => ?_⟩
  rw [h] at k3; simp at k3
theorem tt_ok : TabOK Try.prog Tt := tabOK_of (by kernel_rfl) (by kernel_rfl)
theorem mixed_ok : Try.prog.follows .mixedOrders = true := by kernel_rfl
theorem eqCells_cons {x y : AV} {xs ys : List AV} {r : Bool} (h : eqCells (x :: xs) (y :: ys) = some r) : ∃ k a b, (∀ {w : World} {Fz : Nat → Prop} {g : Gh} {c : Value}, VR w Fz g x c → c = .int k a) ∧ (∀ {w : World} {Fz : Nat → Prop} {g : Gh} {c : Value}, VR w Fz g y c → c = .int k b) ∧ ((xs = [] ∧ r = (a == b)) ∨ ∃ q, eqCells xs ys = some q ∧ r = ((a == b) && q)) := by
  simp only [eqCells] at h
  split at h
  · rename_i k a k' b hx hy
    cases hk : (k == k') with
    | false => rw [hk] at h; simp at h
    | true =>
      have hk' : k = k' := by simpa using hk
      subst hk'
      rw [hk, cond_true] at h
      refine ⟨k, a, b, fun hv => intOf_vr hx hv, fun hv => intOf_vr hy hv, ?_⟩
      split at h
      · simp only [Option.some.injEq] at h; exact .inl ⟨rfl, h.symm⟩
      · simp only [Option.map_eq_some_iff] at h
        obtain ⟨q, hq, rfl⟩ := h
        exact .inr ⟨q, hq, rfl⟩
  · simp at h
theorem size4 {vs : Array Value} (h : 4 = vs.size) : vs = #[vs.getD 0 undef, vs.getD 1 undef, vs.getD 2 undef, vs.getD 3 undef] := by
  obtain ⟨l⟩ := vs
  match l, h with
  | [a, b, c, d], _ => rfl
theorem size2 {vs : Array Value} (h : 2 = vs.size) : vs = #[vs.getD 0 undef, vs.getD 1 undef] := by
  obtain ⟨l⟩ := vs
  match l, h with
  | [a, b], _ => rfl
theorem len4_of {cs : List AV} {a b c d : AV} (h : sameLen cs [a, b, c, d] = true) : ∃ x0 x1 x2 x3, cs = [x0, x1, x2, x3] := by
  match cs, h with
  | [x0, x1, x2, x3], _ => exact ⟨x0, x1, x2, x3, rfl⟩
  | [], h => simp [sameLen] at h
  | [_], h => simp [sameLen] at h
  | [_, _], h => simp [sameLen] at h
  | [_, _, _], h => simp [sameLen] at h
  | _ :: _ :: _ :: _ :: _ :: _, h => simp [sameLen] at h
theorem len2_of {cs : List AV} {a b : AV} (h : sameLen cs [a, b] = true) : ∃ x0 x1, cs = [x0, x1] := by
  match cs, h with
  | [x0, x1], _ => exact ⟨x0, x1, rfl⟩
  | [], h => simp [sameLen] at h
  | [_], h => simp [sameLen] at h
  | _ :: _ :: _ :: _, h => simp [sameLen] at h
theorem int_part {w : World} {e : TypeId} {k : IntKind} (he : Try.prog.underlying e = some (.int k)) {xs : Array Value} {off : Nat} {v : Value} (hx : xs[off]? = some v) : (part e xs off).run Try.prog w = .ok v w := by
  simp [part, isAgg, run_underlying he, hx]
theorem eqF_step {w : World} {d : Nat} {f : Field} {fs : List Field} {xs ys : Array Value} {kk k : IntKind} {a b : Int} {q : Bool} (hn : f.name ≠ "_") (hu : Try.prog.underlying f.type = some (.int kk)) (hx : xs[f.offset]? = some (.int k a)) (hy : ys[f.offset]? = some (.int k b)) (hr : (Op.eqFields (d + 1) xs ys fs).run Try.prog w = .ok q w) :
    (Op.eqFields (d + 1) xs ys (f :: fs)).run Try.prog w = .ok ((a == b) && q) w := by
  simp only [Op.eqFields, if_pos hn, Sem.run_bind, int_part hu hx, int_part hu hy, Result.andThen_ok, run_equalIn_int w d f.type k kk a b hu]
  cases h : (a == b) <;> simp [hr]
theorem eqI_step {w : World} {d : Nat} {e z j : Nat} {js : List Nat} {xs ys : Array Value} {kk k : IntKind} {a b : Int} {q : Bool} (hu : Try.prog.underlying e = some (.int kk)) (hx : xs[j * z]? = some (.int k a)) (hy : ys[j * z]? = some (.int k b)) (hr : (Op.eqItems (d + 1) e z xs ys js).run Try.prog w = .ok q w) :
    (Op.eqItems (d + 1) e z xs ys (j :: js)).run Try.prog w = .ok ((a == b) && q) w := by
  simp only [Op.eqItems, Sem.run_bind, int_part hu hx, int_part hu hy, Result.andThen_ok, run_equalIn_int w d e k kk a b hu]
  cases h : (a == b) <;> simp [hr]
theorem eqIn39 (w : World) (k0 k1 k2 k3 : IntKind) (a0 a1 a2 a3 b0 b1 b2 b3 : Int) : (Op.equalIn 10000 39 (.agg #[.int k0 a0, .int k1 a1, .int k2 a2, .int k3 a3]) (.agg #[.int k0 b0, .int k1 b1, .int k2 b2, .int k3 b3])).run Try.prog w = .ok ((a0 == b0) && ((a1 == b1) && ((a2 == b2) && ((a3 == b3) && true)))) w := by
  rw [run_equalIn_struct w 9999 39 _ _ (by kernel_rfl) (by kernel_rfl)]
  unfold Program.fieldsOf
  rw [Try.underlying39]
  exact eqF_step (d := 9998) (by decide) Try.underlying3 rfl rfl (eqF_step (by decide) Try.underlying3 rfl rfl (eqF_step (by decide) Try.underlying2 rfl rfl (eqF_step (by decide) Try.underlying2 rfl rfl (by simp [Op.eqFields]))))
theorem eqIn49 (w : World) (k0 k1 : IntKind) (a0 a1 b0 b1 : Int) : (Op.equalIn 10000 49 (.agg #[.int k0 a0, .int k1 a1]) (.agg #[.int k0 b0, .int k1 b1])).run Try.prog w = .ok ((a0 == b0) && ((a1 == b1) && true)) w := by
  rw [run_equalIn_struct w 9999 49 _ _ (by kernel_rfl) (by kernel_rfl)]
  unfold Program.fieldsOf
  rw [Try.underlying49]
  exact eqF_step (d := 9998) (by decide) Try.underlying3 rfl rfl (eqF_step (by decide) Try.underlying2 rfl rfl (by simp [Op.eqFields]))
theorem eqIn30 (w : World) (k0 k1 k2 k3 : IntKind) (a0 a1 a2 a3 b0 b1 b2 b3 : Int) : (Op.equalIn 10000 30 (.agg #[.int k0 a0, .int k1 a1, .int k2 a2, .int k3 a3]) (.agg #[.int k0 b0, .int k1 b1, .int k2 b2, .int k3 b3])).run Try.prog w = .ok ((a0 == b0) && ((a1 == b1) && ((a2 == b2) && ((a3 == b3) && true)))) w := by
  obtain ⟨i, hi⟩ : ∃ i, Try.prog.info? 2 = some i := Option.isSome_iff_exists.mp (by kernel_rfl)
  rw [run_equalIn_array w 9999 _ _ Try.underlying30 hi]
  rw [show Try.prog.cellsOf 2 = 1 by kernel_rfl]
  exact eqI_step (d := 9998) Try.underlying2 rfl rfl (eqI_step Try.underlying2 rfl rfl (eqI_step Try.underlying2 rfl rfl (eqI_step Try.underlying2 rfl rfl (by simp [Op.eqItems]))))
theorem eq_fin {t : TypeId} {xs ys : Array Value} {r : Bool} {w : World} (hg : Try.prog.eqGuardType Try.prog.depth t = false) (h : (Op.equalIn 10000 t (.agg xs) (.agg ys)).run Try.prog w = .ok r w) (x y : Operand) :
    (do eqGuard .eql t x y (.agg xs) (.agg ys); binOp .eql t (.agg xs) (.agg ys) : Sem Value).run Try.prog w = .ok (.bool r) w ∧ (do eqGuard .neq t x y (.agg xs) (.agg ys); binOp .neq t (.agg xs) (.agg ys) : Sem Value).run Try.prog w = .ok (.bool (!r)) w := by
  constructor <;> simp only [Sem.run_bind, run_eqGuard_agg w _ t x y xs ys hg, Result.andThen_ok, run_eql_struct, run_neq_struct, h]
theorem eqs_ok : EqOK Try.prog Tt [39, 49, 30] := by
  have four : ∀ {t : Nat}, (t = 39 ∨ t = 30) → ∀ (x y : Operand) (cs ds : List AV) (vs us : Array Value) (r : Bool) (w : World) (Fz : Nat → Prop) (g : Gh), lenAs Tt t cs = true → lenAs Tt t ds = true → eqCells cs ds = some r → VR w Fz g (.agg cs) (.agg vs) → VR w Fz g (.agg ds) (.agg us) → (Op.equalIn 10000 t (.agg vs) (.agg us)).run Try.prog w = .ok r w := by
    intro t ht x y cs ds vs us r w Fz g hc hd h hv hu
    obtain ⟨c0, c1, c2, c3, rfl⟩ : ∃ x0 x1 x2 x3, cs = [x0, x1, x2, x3] := by rcases ht with rfl | rfl <;> exact len4_of hc
    obtain ⟨d0, d1, d2, d3, rfl⟩ : ∃ x0 x1 x2 x3, ds = [x0, x1, x2, x3] := by rcases ht with rfl | rfl <;> exact len4_of hd
    obtain ⟨_, e, hl1, h1⟩ := inv_agg hv
    cases e
    obtain ⟨_, e, hl2, h2⟩ := inv_agg hu
    cases e
    obtain ⟨k0, a0, b0, f0, g0, e0⟩ := eqCells_cons h
    rcases e0 with ⟨e0, _⟩ | ⟨q0, e0, rfl⟩
    · simp at e0
    obtain ⟨k1, a1, b1, f1, g1, e1⟩ := eqCells_cons e0
    rcases e1 with ⟨e1, _⟩ | ⟨q1, e1, rfl⟩
    · simp at e1
    obtain ⟨k2, a2, b2, f2, g2, e2⟩ := eqCells_cons e1
    rcases e2 with ⟨e2, _⟩ | ⟨q2, e2, rfl⟩
    · simp at e2
    obtain ⟨k3, a3, b3, f3, g3, e3⟩ := eqCells_cons e2
    have e3' : q2 = (a3 == b3) := by
      rcases e3 with ⟨_, e3⟩ | ⟨q3, e3, rfl⟩
      · exact e3
      · simp only [eqCells, Option.some.injEq] at e3; subst e3; simp
    subst e3'
    rw [size4 hl1, size4 hl2, f0 (h1 0 (by simp)), f1 (h1 1 (by simp)), f2 (h1 2 (by simp)), f3 (h1 3 (by simp)), g0 (h2 0 (by simp)), g1 (h2 1 (by simp)), g2 (h2 2 (by simp)), g3 (h2 3 (by simp))]
    rcases ht with rfl | rfl
    · rw [eqIn39, Bool.and_true]
    · rw [eqIn30, Bool.and_true]
  intro t ht x y cs ds vs us r w Fz g hc hd h hv hu
  have hm : t = 39 ∨ t = 49 ∨ t = 30 := by simpa using ht
  rcases hm with rfl | rfl | rfl
  · exact eq_fin (by kernel_rfl) (four (.inl rfl) x y cs ds vs us r w Fz g hc hd h hv hu) x y
  · refine eq_fin (by kernel_rfl) ?_ x y
    obtain ⟨c0, c1, rfl⟩ := len2_of hc
    obtain ⟨d0, d1, rfl⟩ := len2_of hd
    obtain ⟨_, e, hl1, h1⟩ := inv_agg hv
    cases e
    obtain ⟨_, e, hl2, h2⟩ := inv_agg hu
    cases e
    obtain ⟨k0, a0, b0, f0, g0, e0⟩ := eqCells_cons h
    rcases e0 with ⟨e0, _⟩ | ⟨q0, e0, rfl⟩
    · simp at e0
    obtain ⟨k1, a1, b1, f1, g1, e1⟩ := eqCells_cons e0
    have e1' : q0 = (a1 == b1) := by
      rcases e1 with ⟨_, e1⟩ | ⟨q1, e1, rfl⟩
      · exact e1
      · simp only [eqCells, Option.some.injEq] at e1; subst e1; simp
    subst e1'
    rw [size2 hl1, size2 hl2, f0 (h1 0 (by simp)), f1 (h1 1 (by simp)), g0 (h2 0 (by simp)), g1 (h2 1 (by simp)), eqIn49, Bool.and_true]
  · exact eq_fin (by kernel_rfl) (four (.inr rfl) x y cs ds vs us r w Fz g hc hd h hv hu) x y
def cfg (G : Env) (base : Nat) : Cfg := ⟨G, Tt, [39, 49, 30], SCall Try.prog, base⟩
theorem cfg_ok {G : Env} (hG : EnvOK Try.prog G) (base : Nat) : CfgOK Try.prog (cfg G base) := ⟨tt_ok, eqs_ok, hG, fun _ _ _ _ h => h, mixed_ok⟩
theorem env_nil : EnvOK Try.prog [] := fun f q h => by simp [Env.get] at h
theorem env_cons {f : FuncId} {q : QSpec} {G : Env} (h : ∀ vs ob r, q vs = some (ob, r) → conj ob → SCall Try.prog f vs [] (Told r)) (hG : EnvOK Try.prog G) : EnvOK Try.prog ((f, q) :: G) := fun f' q' hq vs ob r h1 h2 => by
  simp only [Env.get] at hq
  cases hf : (f == f') with
  | true =>
    rw [hf] at hq
    simp only [cond_true, Option.some.injEq] at hq
    have : f = f' := by simpa using hf
    subst this; subst hq; exact h vs ob r h1 h2
  | false => rw [hf] at hq; exact hG f' q' hq vs ob r h1 h2
end Go.Proofs.Ytepbibbeifbokaa.Sh
