/- The shadow machine over this program: its types. -/
import Derived.Test.YtepbibbeifbokaaSh22
import Derived.KernelRfl
namespace Go.Proofs.Ytepbibbeifbokaa.Sh
open Go Go.RowKit
set_option linter.unusedVariables false
def Tt : Tab := [(2, ⟨(.int .i64), 1, 8, (.int .i64 0)⟩),
  (3, ⟨(.int .i64), 1, 8, (.int .i64 0)⟩),
  (4, ⟨.bool, 1, 1, (.bool false)⟩),
  (12, ⟨(.int .u64), 1, 8, (.int .u64 0)⟩),
  (22, ⟨(.slice 39), 1, 24, .nilsl⟩),
  (24, ⟨(.struct [(0, 2), (1, 2), (2, 22), (3, 2), (4, 2), (5, 2), (6, 2), (7, 2), (8, 2), (9, 2)]), 10, 96, (.agg [(.int .i64 0), (.int .i64 0), .nilsl, (.int .i64 0), (.int .i64 0), (.int .i64 0), (.int .i64 0), (.int .i64 0), (.int .i64 0), (.int .i64 0)])⟩),
  (25, ⟨(.arr 4 3), 4, 32, (.agg [(.int .i64 0), (.int .i64 0), (.int .i64 0), (.int .i64 0)])⟩),
  (29, ⟨(.int .u64), 1, 8, (.int .u64 0)⟩),
  (30, ⟨(.arr 4 2), 4, 32, (.agg [(.int .i64 0), (.int .i64 0), (.int .i64 0), (.int .i64 0)])⟩),
  (31, ⟨(.int .i64), 1, 8, (.int .i64 0)⟩),
  (37, ⟨(.int .u64), 1, 8, (.int .u64 0)⟩),
  (39, ⟨(.struct [(0, 3), (1, 3), (2, 2), (3, 2)]), 4, 32, (.agg [(.int .i64 0), (.int .i64 0), (.int .i64 0), (.int .i64 0)])⟩),
  (43, ⟨(.slice 49), 1, 24, .nilsl⟩),
  (49, ⟨(.struct [(0, 3), (1, 2)]), 2, 16, (.agg [(.int .i64 0), (.int .i64 0)])⟩),
  (55, ⟨(.slice 64), 1, 24, .nilsl⟩),
  (62, ⟨(.slice 24), 1, 24, .nilsl⟩),
  (64, ⟨(.struct [(0, 3), (1, 3), (2, 43)]), 3, 40, (.agg [(.int .i64 0), (.int .i64 0), .nilsl])⟩),
  (72, ⟨(.slice 2), 1, 24, .nilsl⟩),
  (75, ⟨(.slice 3), 1, 24, .nilsl⟩),
  (78, ⟨(.struct [(0, 24), (10, 30), (14, 2)]), 15, 136, (.agg [(.int .i64 0), (.int .i64 0), .nilsl, (.int .i64 0), (.int .i64 0), (.int .i64 0), (.int .i64 0), (.int .i64 0), (.int .i64 0), (.int .i64 0), (.int .i64 0), (.int .i64 0), (.int .i64 0), (.int .i64 0), (.int .i64 0)])⟩),
  (81, ⟨(.struct [(0, 2), (1, 2)]), 2, 16, (.agg [(.int .i64 0), (.int .i64 0)])⟩),
  (86, ⟨(.struct [(0, 24), (10, 81)]), 12, 112, (.agg [(.int .i64 0), (.int .i64 0), .nilsl, (.int .i64 0), (.int .i64 0), (.int .i64 0), (.int .i64 0), (.int .i64 0), (.int .i64 0), (.int .i64 0), (.int .i64 0), (.int .i64 0)])⟩),
  (88, ⟨(.struct [(0, 24)]), 10, 96, (.agg [(.int .i64 0), (.int .i64 0), .nilsl, (.int .i64 0), (.int .i64 0), (.int .i64 0), (.int .i64 0), (.int .i64 0), (.int .i64 0), (.int .i64 0)])⟩)]
/-- The value that an abstract value is, if it's one alone. -/
def zv1 : AV → Option Value
  | .int k n => some (.int k n)
  | .bool b => some (.bool b)
  | .nilsl => some (.slice none 0 0)
  | _ => none
def zvs : List AV → Option (List Value)
  | [] => some []
  | x :: r => match zv1 x, zvs r with
    | some v, some vs => some (v :: vs)
    | _, _ => none
def zv : AV → Option Value
  | .agg cs => match zvs cs with
    | some vs => some (.agg vs.toArray)
    | none => none
  | v => zv1 v
def kd : TypeDesc → TK
  | .int k => .int k
  | .bool => .bool
  | .slice e => .slice e
  | .array n e => .arr n e
  | .struct F => .struct (F.toList.map fun f => (f.offset, f.type))
  | _ => .other
theorem zv1_vr {v : AV} {z : Value} (h : zv1 v = some z) (w : World) (Fz : Nat → Prop) (g : Gh) : VR w Fz g v z := by
  cases v <;> simp [zv1] at h <;> subst h <;> constructor
theorem zvs_vr : ∀ {cs : List AV} {vs : List Value}, zvs cs = some vs → cs.length = vs.length ∧ ∀ (w : World) (Fz : Nat → Prop) (g : Gh) i, i < cs.length → VR w Fz g (nth .top cs i) (vs.getD i undef)
  | [], vs, h => by simp only [zvs, Option.some.injEq] at h; subst h; exact ⟨rfl, fun _ _ _ i hi => absurd hi (by simp)⟩
  | x :: r, vs, h => by
    simp only [zvs] at h
    split at h
    · rename_i v us hv hu
      simp only [Option.some.injEq] at h; subst h
      obtain ⟨h1, h2⟩ := zvs_vr hu
      refine ⟨by simp [h1], fun w Fz g i hi => ?_⟩
      cases i with
      | zero => exact zv1_vr hv w Fz g
      | succ i => exact h2 w Fz g i (by simpa using hi)
    · simp at h
theorem zv_vr {v : AV} {z : Value} (h : zv v = some z) (w : World) (Fz : Nat → Prop) (g : Gh) : VR w Fz g v z := by
  unfold zv at h
  split at h
  · split at h
    · rename_i cs vs hvs
      simp only [Option.some.injEq] at h; subst h
      obtain ⟨h1, h2⟩ := zvs_vr hvs
      exact .agg _ _ (by simpa using h1) fun i hi => by simpa [Array.getD_eq_getD_getElem?, List.getD_eq_getElem?_getD] using h2 w Fz g i hi
    · simp at h
  · exact zv1_vr h w Fz g
theorem kd_ok {d : TypeDesc} {k : TK} (h : kd d = k) (hk : k ≠ .other) : kOK d k := by
  subst h
  cases d <;> simp [kd, kOK] at hk ⊢
def okTI (t : TI) : Bool := cellsOk t.zero && Nat.beq t.zero.cells.length t.size && (match t.k with | .other => false | _ => true) && (zv t.zero).isSome
theorem tabOK_of {P : Program} {T : Tab} (h1 : T.map (fun p => ((P.info? p.1).map fun i => (i.size, i.bytes, i.zero), (P.underlying p.1).map kd)) = T.map fun p => (some (p.2.size, p.2.bytes, zv p.2.zero), some p.2.k)) (h2 : T.all (fun p => okTI p.2) = true) : TabOK P T := by
  intro t ti h
  have hm : (t, ti) ∈ T := by
    clear h1 h2
    induction T with
    | nil => simp [Tab.get] at h
    | cons p r ih =>
      obtain ⟨n, i⟩ := p
      simp only [Tab.get] at h
      cases hn : (n == t) with
      | true =>
        rw [hn] at h
        simp only [cond_true, Option.some.injEq] at h
        have : n = t := by simpa using hn
        subst this; subst h; exact List.mem_cons_self
      | false => rw [hn] at h; exact List.mem_cons_of_mem _ (ih h)
  have e := List.map_inj_left.mp h1 _ hm
  have k := List.all_eq_true.mp h2 _ hm
  simp only [Prod.mk.injEq, Option.map_eq_some_iff] at e
  obtain ⟨⟨i, e1, e2, e3, e4⟩, d, e5, e6⟩ := e
  simp only [okTI, Bool.and_eq_true] at k
  obtain ⟨⟨⟨k1, k2⟩, k3⟩, k4⟩ := k
  obtain ⟨z, hz⟩ := Option.isSome_iff_exists.mp k4
  refine ⟨⟨i, z, e1, e2, e3, by rw [e4, hz], fun w Fz g => zv_vr hz w Fz g, k1, by simpa using k2⟩, d, e5, kd_ok e6 fun h => ?_⟩
  rw [h] at k3; simp at k3
theorem tt_ok : TabOK Try.prog Tt := tabOK_of (by kernel_rfl) (by kernel_rfl)
theorem mixed_ok : Try.prog.follows .mixedOrders = true := by kernel_rfl
def cfg (G : Env) (base : Nat) : Cfg := ⟨G, Tt, [], SCall Try.prog, base⟩
theorem cfg_ok {G : Env} (hG : EnvOK Try.prog G) (base : Nat) : CfgOK Try.prog (cfg G base) := ⟨tt_ok, fun t ht => by simp [cfg] at ht, hG, fun _ _ _ _ h => h, mixed_ok⟩
theorem env_nil : EnvOK Try.prog [] := fun f q h => by simp [Env.get] at h
theorem env_cons {f : FuncId} {q : QSpec} {G : Env} (h : ∀ vs ob r, q vs = some (ob, r) → conj ob → SCall Try.prog f vs [] (Told r)) (hG : EnvOK Try.prog G) : EnvOK Try.prog ((f, q) :: G) := fun f' q' hq vs ob r h1 h2 => by
  simp only [Env.get] at hq
  cases hf : (f == f') with
  | true =>
    rw [hf] at hq
    simp only [cond_true, Option.some.injEq] at hq
    have : f = f' := by simpa using hf
    subst this; subst hq; exact h vs ob r h1 h2
  | false => rw [hf] at hq; exact hG f' q' hq vs ob r h1 h2
end Go.Proofs.Ytepbibbeifbokaa.Sh
