/- Part 22 of a proof over the shadow machine. -/
import Derived.Test.YtnnoplgabnfdiaaGreatDoorN21
/- The shadow machine over this program: a book of events: small contracts. -/
namespace Go.Proofs.YtnnoplgabnfdiaaGreatDoor.Sh
open Go Go.RowKit
set_option linter.unusedVariables false
set_option linter.unusedSimpArgs false
set_option maxRecDepth 100000
set_option maxHeartbeats 4000000
theorem scall_args {f : FuncId} {vs vs' : List AV} {h : List AO} {K : AR → List AO → Prop} (hl : vs.length = vs'.length) (hw : ∀ i, i < vs.length → Wk (nth .top vs i) (nth .top vs' i)) (H : SCall Tryz.prog f vs' h K) : SCall Tryz.prog f vs h K :=
  fun B0 w0 w Fz g args hH hlen hv => H B0 w0 w Fz g args hH (by omega) fun i hi => hw i (by omega) _ _ _ _ (hv i (by omega))
/-- What is not called. -/
def neverQ (r : AV) : QSpec := fun _ => some ([False], r)
theorem never_ok {f : FuncId} {r : AV} : ∀ vs ob q, neverQ r vs = some (ob, q) → conj ob → SCall Tryz.prog f vs [] (Told q) := fun vs ob q h hob => by
  unfold neverQ at h
  simp only [Option.some.injEq, Prod.mk.injEq] at h
  obtain ⟨rfl, rfl⟩ := h
  exact False.elim hob
def envZd1 : Env := [(78, eventQ)]
theorem envZd1_ok : EnvOK Tryz.prog envZd1 := env_cons event78 env_nil
def envZd2 : Env := [(88, neverQ (.int .i64 0))]
theorem envZd2_ok : EnvOK Tryz.prog envZd2 := env_cons never_ok env_nil
theorem search87 (a : Int) : SCall Tryz.prog 87 [.ro 0 0 (some 0) (fun _ => []), .agg (evA a), .fn 88 [] []] [] (Told (.tup [.int .i64 0, .bool false])) := by
  refine scall_args (vs' := [.ro 5 0 none (evR a), .agg (evA a), .fn 88 [] []]) rfl (fun i hi => ?_) ?_
  · match i, hi with
    | 0, _ => exact ro_zero
    | 1, _ => exact Wk.refl _
    | 2, _ => exact Wk.refl _
  refine scall_of (cfg_ok envZd2_ok 0) Tryz.func87 (by kernel_rfl) rfl ?_
  generalize hK : Told _ = K
  conv => whnf
  refine .inl ⟨[()], unroll_step fun k hk => ?_⟩
  conv => whnf
  subst hk
  conv => whnf
  refine ⟨[], by kernel_rfl, ?_⟩
  conv => whnf
  refine ⟨⟨fun h => absurd h (by decide), fun h => absurd h (by decide)⟩, ?_⟩
  conv => whnf
  subst hK
  exact told_of trivial rfl
/-- A call that is known at these arguments alone, where one object is this, and where others are such. -/
def sxl (VS : List AV) (X : AO) (M : List AO → Prop) (r : AV) (X' : AO) (vs : List AV) (x : AO) (l : List AO) : Option (List Prop × AV × AO) := some ([vs = VS, x = X, M l], r, X')
theorem sxl_ok {f : FuncId} {N o : Nat} {w : Bool} {VS : List AV} {X X' : AO} {M : List AO → Prop} {r : AV} {S : SEnv} (hN : N ≠ 0) (H : ∀ h : List AO, h.length = N → nth .free h o = X → M ((exR f).map fun q => nth .free h q) → SCall Tryz.prog f VS h fun r' h' => r' = .ret r ∧ h' = bif w then setNth h o X' else h) (hS : SOK Tryz.prog S) : SOK Tryz.prog ((f, ⟨N, o, w, sxl VS X M r X'⟩) :: S) := ⟨mk_ok, fun f' N' o' w' run' hg vs h ob r' x hl ho hr hob => by
  unfold SEnv.get at hg
  cases hf : (f == f') with
  | false => rw [hf] at hg; exact hS.2.1 f' N' o' w' run' hg vs h ob r' x hl ho hr hob
  | true =>
    rw [hf] at hg
    simp only [cond_true, Option.some.injEq, SS.mk.injEq] at hg
    obtain ⟨rfl, rfl, rfl, rfl⟩ := hg
    have e : f = f' := by simpa using hf
    subst e
    unfold sxl at hr
    simp only [Option.some.injEq, Prod.mk.injEq] at hr
    obtain ⟨rfl, rfl, rfl⟩ := hr
    obtain ⟨rfl, h2, h3⟩ := hob
    exact H h hl h2 h3, fun f' o' w' run' hg => by
  unfold SEnv.get at hg
  cases hf : (f == f') with
  | false => rw [hf] at hg; exact hS.2.2 f' o' w' run' hg
  | true =>
    rw [hf] at hg
    simp only [cond_true, Option.some.injEq, SS.mk.injEq] at hg
    exact absurd hg.1 hN⟩
theorem clone84_nil (h : List AO) : SCall Tryz.prog 84 [.nilsl] h fun r h' => r = .ret .nilsl ∧ h' = h := by
  refine scall_of (cfg_ok env_nil h.length) Tryz.func84 (by kernel_rfl) rfl ?_
  generalize hK : (fun (r : AR) (h' : List AO) => r = .ret .nilsl ∧ h' = h) = K
  conv => whnf
  subst hK
  exact ⟨rfl, rfl⟩

end Go.Proofs.YtnnoplgabnfdiaaGreatDoor.Sh
/- The shadow machine over this program: a book of events: what may be put in, and is put in. -/
namespace Go.Proofs.YtnnoplgabnfdiaaGreatDoor.Sh
open Go Go.RowKit
set_option linter.unusedVariables false
set_option linter.unusedSimpArgs false
set_option maxRecDepth 100000
set_option maxHeartbeats 4000000

theorem may27_0_2 (a : Int) (ha : 1 ≤ a ∧ a ≤ 10000) (x3 x4 : AO) : SCall Tryz.prog 27 [.ptr 2 1 1 0 0, .agg (evA a)] [.emap, .emap, .lit 1 [.nilsl, .mp 0, .mp 1, .int .i64 0], x3, x4] fun r h' => r = .ret (.tup [.bool true, .cint .i64 0]) ∧ h' = [.emap, .emap, .lit 1 [.nilsl, .mp 0, .mp 1, .int .i64 0], x3, x4] := by
  refine kept_of2 rfl (.inl rfl) (fun o ho => .inl rfl) ?_
  refine scall_of (cfg_ok envZd1_ok 5) Tryz.func27 (by kernel_rfl) rfl ?_
  generalize hK : Kept2 _ _ _ = K
  conv => whnf
  refine ⟨⟨⟨rfl, rfl, rfl, rfl⟩, ha⟩, ?_⟩
  conv => whnf
  refine ⟨[(3, 10), (5, 10), (6, 10)], by kernel_rfl, ?_⟩
  conv => whnf
  refine ⟨by kernel_rfl, ?_⟩
  conv => whnf
  refine .inl ⟨[(), (), (), (), ()], ?_⟩

  refine unroll_step fun k hk => ?_
  conv => whnf
  refine ⟨⟨by decide, by decide⟩, ?_⟩
  conv => whnf
  refine scall_of (cfg_ok env_nil 8) Tryz.func79 (by kernel_rfl) rfl ?_
  conv => whnf
  subst hk
  refine unroll_step fun k hk => ?_
  conv => whnf
  refine ⟨⟨⟨by decide, by decide⟩, show _ + _ < 4 from by decide⟩, ?_⟩
  conv => whnf
  refine scall_of (cfg_ok env_nil 9) Tryz.func80 (by kernel_rfl) rfl ?_
  conv => whnf
  refine ⟨[], by kernel_rfl, ?_⟩
  conv => whnf
  subst hk
  refine unroll_step fun k hk => ?_
  conv => whnf
  refine ⟨⟨⟨by decide, by decide⟩, show _ + _ < 4 from by decide⟩, ?_⟩
  conv => whnf
  refine scall_of (cfg_ok env_nil 10) Tryz.func81 (by kernel_rfl) rfl ?_
  conv => whnf
  refine ⟨[], by kernel_rfl, ?_⟩
  conv => whnf
  subst hk
  refine unroll_step fun k hk => ?_
  conv => whnf
  refine ⟨⟨⟨by decide, by decide⟩, show _ + _ < 4 from by decide⟩, ?_⟩
  conv => whnf
  refine scall_of (cfg_ok envZd2_ok 11) Tryz.func82 (by kernel_rfl) rfl ?_
  conv => whnf
  refine ⟨[], by kernel_rfl, ?_⟩
  conv => whnf
  refine ⟨fun h => absurd h (by decide), ?_⟩
  conv => whnf
  subst hk
  refine unroll_step fun k hk => ?_
  conv => whnf
  subst hk
  conv => whnf
  subst hK
  exact ⟨rfl, _, rfl⟩

theorem insert89_6 (a : Int) (h : List AO) (hl : h.length = 6) (hh : nth .free h 5 = .lit 5 (evA a)) : SCall Tryz.prog 89 [.nilsl, .int .i64 0, .sl 5 5 0 1 (some 1)] h fun r h' => r = .ret (.ro 5 1 none (evR a)) ∧ h' = h := by
  refine kept_of3 rfl (fun o ho => .inl rfl) ?_
  match h, hl with
  | [x0, x1, x2, x3, x4, x5], _ =>
    have hh : x5 = .lit 5 (evA a) := hh
    subst hh
    refine scall_of (cfg_ok env_nil 6) Tryz.func89 (by kernel_rfl) rfl ?_
    generalize hK : Kept3 _ _ _ = K
    conv => whnf
    refine ⟨⟨trivial, show (0 : Int) ≤ 0 ∧ (0 : Int) ≤ 0 by omega⟩, ?_⟩
    conv => whnf
    refine ⟨show 1 * 40 ≤ 140737488355328 by decide, ?_⟩
    conv => whnf
    subst hK
    refine ⟨⟨_, rfl⟩, show 0 + 1 ≤ 1 by decide, ro_congr fun i hi => ?_⟩
    match i, hi with
    | 0, _ => rfl

def envP_0_1 (a : Int) : Env := [(87, exQ [.ro 0 0 (some 0) (fun _ => []), .agg (evA a), .fn 88 [] []] (.tup [.int .i64 0, .bool false]))]
theorem envP_0_1_ok (a : Int) : EnvOK Tryz.prog (envP_0_1 a) := env_cons (exQ_of (search87 a)) env_nil
def SP_0_1 (a : Int) : SEnv := [(89, ⟨6, 5, false, sx [.nilsl, .int .i64 0, .sl 5 5 0 1 (some 1)] (.lit 5 (evA a)) (.ro 5 1 none (evR a)) (.lit 5 (evA a))⟩)]
theorem SP_0_1_ok (a : Int) : SOK Tryz.prog (SP_0_1 a) := sx_ok (by decide) (fun h hl hh => insert89_6 a h hl hh) st_nil
theorem put32_0_1 (a : Int) (ha : 1 ≤ a ∧ a ≤ 10000) (x3 : AO) : SCall Tryz.prog 32 [.ptr 2 1 1 0 0, .agg (evA a)] [.emap, .emap, .lit 1 [.nilsl, .mp 0, .mp 1, .int .i64 0], x3] fun r h' => r = .ret (.tup [.bool true, .cint .i64 0]) ∧ h' = [.xmap, .emap, .lit 1 [.ro 5 1 none (evR a), .mp 0, .mp 1, .int .i64 1], x3] := by
  refine kept_of2 rfl (.inl rfl) (fun o ho => ?_) ?_
  · match o, ho with
    | 1, _ | 3, _ => exact .inl rfl
    | 0, _ | 2, _ => exact .inr rfl
  refine scall_of (cfgS_ok (envP_0_1_ok a) (SP_0_1_ok a) 4) Tryz.func32 (by kernel_rfl) rfl ?_
  generalize hK : Kept2 _ _ _ = K
  conv => whnf
  refine (may27_0_2 a ha x3 _).mono fun r h' ⟨e1, e2⟩ => ?_
  subst e1 e2
  conv => whnf
  refine ⟨[], by kernel_rfl, ?_⟩
  conv => whnf
  refine ⟨rfl, ?_⟩
  conv => whnf
  refine ⟨[(4, 7)], by kernel_rfl, ?_⟩
  conv => whnf
  refine ⟨⟨rfl, rfl⟩, by kernel_rfl, ?_⟩
  conv => whnf
  refine ⟨[], by kernel_rfl, ?_⟩
  conv => whnf
  subst hK
  exact ⟨rfl, _, rfl⟩

theorem may27_1_4 (a : Int) (ha : 1 ≤ a ∧ a ≤ 10000) (x0 x4 x5 x6 x7 : AO) : SCall Tryz.prog 27 [.ptr 3 1 1 0 0, .agg (evA a)] [x0, .emap, .emap, .lit 1 [.nilsl, .mp 1, .mp 2, .int .i64 0], x4, x5, x6, x7] fun r h' => r = .ret (.tup [.bool true, .cint .i64 0]) ∧ h' = [x0, .emap, .emap, .lit 1 [.nilsl, .mp 1, .mp 2, .int .i64 0], x4, x5, x6, x7] := by
  refine kept_of2 rfl (.inl rfl) (fun o ho => .inl rfl) ?_
  refine scall_of (cfg_ok envZd1_ok 8) Tryz.func27 (by kernel_rfl) rfl ?_
  generalize hK : Kept2 _ _ _ = K
  conv => whnf
  refine ⟨⟨⟨rfl, rfl, rfl, rfl⟩, ha⟩, ?_⟩
  conv => whnf
  refine ⟨[(3, 10), (5, 10), (6, 10)], by kernel_rfl, ?_⟩
  conv => whnf
  refine ⟨by kernel_rfl, ?_⟩
  conv => whnf
  refine .inl ⟨[(), (), (), (), ()], ?_⟩

  refine unroll_step fun k hk => ?_
  conv => whnf
  refine ⟨⟨by decide, by decide⟩, ?_⟩
  conv => whnf
  refine scall_of (cfg_ok env_nil 11) Tryz.func79 (by kernel_rfl) rfl ?_
  conv => whnf
  subst hk
  refine unroll_step fun k hk => ?_
  conv => whnf
  refine ⟨⟨⟨by decide, by decide⟩, show _ + _ < 4 from by decide⟩, ?_⟩
  conv => whnf
  refine scall_of (cfg_ok env_nil 12) Tryz.func80 (by kernel_rfl) rfl ?_
  conv => whnf
  refine ⟨[], by kernel_rfl, ?_⟩
  conv => whnf
  subst hk
  refine unroll_step fun k hk => ?_
  conv => whnf
  refine ⟨⟨⟨by decide, by decide⟩, show _ + _ < 4 from by decide⟩, ?_⟩
  conv => whnf
  refine scall_of (cfg_ok env_nil 13) Tryz.func81 (by kernel_rfl) rfl ?_
  conv => whnf
  refine ⟨[], by kernel_rfl, ?_⟩
  conv => whnf
  subst hk
  refine unroll_step fun k hk => ?_
  conv => whnf
  refine ⟨⟨⟨by decide, by decide⟩, show _ + _ < 4 from by decide⟩, ?_⟩
  conv => whnf
  refine scall_of (cfg_ok envZd2_ok 14) Tryz.func82 (by kernel_rfl) rfl ?_
  conv => whnf
  refine ⟨[], by kernel_rfl, ?_⟩
  conv => whnf
  refine ⟨fun h => absurd h (by decide), ?_⟩
  conv => whnf
  subst hk
  refine unroll_step fun k hk => ?_
  conv => whnf
  subst hk
  conv => whnf
  subst hK
  exact ⟨rfl, _, rfl⟩

theorem may27_8_1 (a : Int) (ha : 1 ≤ a ∧ a ≤ 10000) (x0 x1 x2 x3 x4 x5 x6 x7 x11 : AO) : SCall Tryz.prog 27 [.ptr 10 1 1 0 0, .agg (evA a)] [x0, x1, x2, x3, x4, x5, x6, x7, .emap, .emap, .lit 1 [.nilsl, .mp 8, .mp 9, .int .i64 0], x11] fun r h' => r = .ret (.tup [.bool true, .cint .i64 0]) ∧ h' = [x0, x1, x2, x3, x4, x5, x6, x7, .emap, .emap, .lit 1 [.nilsl, .mp 8, .mp 9, .int .i64 0], x11] := by
  refine kept_of2 rfl (.inl rfl) (fun o ho => .inl rfl) ?_
  refine scall_of (cfg_ok envZd1_ok 12) Tryz.func27 (by kernel_rfl) rfl ?_
  generalize hK : Kept2 _ _ _ = K
  conv => whnf
  refine ⟨⟨⟨rfl, rfl, rfl, rfl⟩, ha⟩, ?_⟩
  conv => whnf
  refine ⟨[(3, 10), (5, 10), (6, 10)], by kernel_rfl, ?_⟩
  conv => whnf
  refine ⟨by kernel_rfl, ?_⟩
  conv => whnf
  refine .inl ⟨[(), (), (), (), ()], ?_⟩

  refine unroll_step fun k hk => ?_
  conv => whnf
  refine ⟨⟨by decide, by decide⟩, ?_⟩
  conv => whnf
  refine scall_of (cfg_ok env_nil 15) Tryz.func79 (by kernel_rfl) rfl ?_
  conv => whnf
  subst hk
  refine unroll_step fun k hk => ?_
  conv => whnf
  refine ⟨⟨⟨by decide, by decide⟩, show _ + _ < 4 from by decide⟩, ?_⟩
  conv => whnf
  refine scall_of (cfg_ok env_nil 16) Tryz.func80 (by kernel_rfl) rfl ?_
  conv => whnf
  refine ⟨[], by kernel_rfl, ?_⟩
  conv => whnf
  subst hk
  refine unroll_step fun k hk => ?_
  conv => whnf
  refine ⟨⟨⟨by decide, by decide⟩, show _ + _ < 4 from by decide⟩, ?_⟩
  conv => whnf
  refine scall_of (cfg_ok env_nil 17) Tryz.func81 (by kernel_rfl) rfl ?_
  conv => whnf
  refine ⟨[], by kernel_rfl, ?_⟩
  conv => whnf
  subst hk
  refine unroll_step fun k hk => ?_
  conv => whnf
  refine ⟨⟨⟨by decide, by decide⟩, show _ + _ < 4 from by decide⟩, ?_⟩
  conv => whnf
  refine scall_of (cfg_ok envZd2_ok 18) Tryz.func82 (by kernel_rfl) rfl ?_
  conv => whnf
  refine ⟨[], by kernel_rfl, ?_⟩
  conv => whnf
  refine ⟨fun h => absurd h (by decide), ?_⟩
  conv => whnf
  subst hk
  refine unroll_step fun k hk => ?_
  conv => whnf
  subst hk
  conv => whnf
  subst hK
  exact ⟨rfl, _, rfl⟩

theorem insert89_13 (a : Int) (h : List AO) (hl : h.length = 13) (hh : nth .free h 12 = .lit 5 (evA a)) : SCall Tryz.prog 89 [.nilsl, .int .i64 0, .sl 12 5 0 1 (some 1)] h fun r h' => r = .ret (.ro 5 1 none (evR a)) ∧ h' = h := by
  refine kept_of3 rfl (fun o ho => .inl rfl) ?_
  match h, hl with
  | [x0, x1, x2, x3, x4, x5, x6, x7, x8, x9, x10, x11, x12], _ =>
    have hh : x12 = .lit 5 (evA a) := hh
    subst hh
    refine scall_of (cfg_ok env_nil 13) Tryz.func89 (by kernel_rfl) rfl ?_
    generalize hK : Kept3 _ _ _ = K
    conv => whnf
    refine ⟨⟨trivial, show (0 : Int) ≤ 0 ∧ (0 : Int) ≤ 0 by omega⟩, ?_⟩
    conv => whnf
    refine ⟨show 1 * 40 ≤ 140737488355328 by decide, ?_⟩
    conv => whnf
    subst hK
    refine ⟨⟨_, rfl⟩, show 0 + 1 ≤ 1 by decide, ro_congr fun i hi => ?_⟩
    match i, hi with
    | 0, _ => rfl

def envP_8_0 (a : Int) : Env := [(87, exQ [.ro 0 0 (some 0) (fun _ => []), .agg (evA a), .fn 88 [] []] (.tup [.int .i64 0, .bool false]))]
theorem envP_8_0_ok (a : Int) : EnvOK Tryz.prog (envP_8_0 a) := env_cons (exQ_of (search87 a)) env_nil
def SP_8_0 (a : Int) : SEnv := [(89, ⟨13, 12, false, sx [.nilsl, .int .i64 0, .sl 12 5 0 1 (some 1)] (.lit 5 (evA a)) (.ro 5 1 none (evR a)) (.lit 5 (evA a))⟩)]
theorem SP_8_0_ok (a : Int) : SOK Tryz.prog (SP_8_0 a) := sx_ok (by decide) (fun h hl hh => insert89_13 a h hl hh) st_nil
theorem put32_8_0 (a : Int) (ha : 1 ≤ a ∧ a ≤ 10000) (x0 x1 x2 x3 x4 x5 x6 x7 : AO) : SCall Tryz.prog 32 [.ptr 10 1 1 0 0, .agg (evA a)] [x0, x1, x2, x3, x4, x5, x6, x7, .emap, .emap, .lit 1 [.nilsl, .mp 8, .mp 9, .int .i64 0]] fun r h' => r = .ret (.tup [.bool true, .cint .i64 0]) ∧ h' = [x0, x1, x2, x3, x4, x5, x6, x7, .xmap, .emap, .lit 1 [.ro 5 1 none (evR a), .mp 8, .mp 9, .int .i64 1]] := by
  refine kept_of2 rfl (.inl rfl) (fun o ho => ?_) ?_
  · match o, ho with
    | 0, _ | 1, _ | 2, _ | 3, _ | 4, _ | 5, _ | 6, _ | 7, _ | 9, _ => exact .inl rfl
    | 8, _ | 10, _ => exact .inr rfl
  refine scall_of (cfgS_ok (envP_8_0_ok a) (SP_8_0_ok a) 11) Tryz.func32 (by kernel_rfl) rfl ?_
  generalize hK : Kept2 _ _ _ = K
  conv => whnf
  refine (may27_8_1 a ha x0 x1 x2 x3 x4 x5 x6 x7 _).mono fun r h' ⟨e1, e2⟩ => ?_
  subst e1 e2
  conv => whnf
  refine ⟨[], by kernel_rfl, ?_⟩
  conv => whnf
  refine ⟨rfl, ?_⟩
  conv => whnf
  refine ⟨[(4, 7)], by kernel_rfl, ?_⟩
  conv => whnf
  refine ⟨⟨rfl, rfl⟩, by kernel_rfl, ?_⟩
  conv => whnf
  refine ⟨[], by kernel_rfl, ?_⟩
  conv => whnf
  subst hK
  exact ⟨rfl, _, rfl⟩

theorem may27_2_4 (a : Int) (ha : 1 ≤ a ∧ a ≤ 10000) (x0 x1 x5 x6 x7 x8 : AO) : SCall Tryz.prog 27 [.ptr 4 1 1 0 0, .agg (evA a)] [x0, x1, .emap, .emap, .lit 1 [.nilsl, .mp 2, .mp 3, .int .i64 0], x5, x6, x7, x8] fun r h' => r = .ret (.tup [.bool true, .cint .i64 0]) ∧ h' = [x0, x1, .emap, .emap, .lit 1 [.nilsl, .mp 2, .mp 3, .int .i64 0], x5, x6, x7, x8] := by
  refine kept_of2 rfl (.inl rfl) (fun o ho => .inl rfl) ?_
  refine scall_of (cfg_ok envZd1_ok 9) Tryz.func27 (by kernel_rfl) rfl ?_
  generalize hK : Kept2 _ _ _ = K
  conv => whnf
  refine ⟨⟨⟨rfl, rfl, rfl, rfl⟩, ha⟩, ?_⟩
  conv => whnf
  refine ⟨[(3, 10), (5, 10), (6, 10)], by kernel_rfl, ?_⟩
  conv => whnf
  refine ⟨by kernel_rfl, ?_⟩
  conv => whnf
  refine .inl ⟨[(), (), (), (), ()], ?_⟩

  refine unroll_step fun k hk => ?_
  conv => whnf
  refine ⟨⟨by decide, by decide⟩, ?_⟩
  conv => whnf
  refine scall_of (cfg_ok env_nil 12) Tryz.func79 (by kernel_rfl) rfl ?_
  conv => whnf
  subst hk
  refine unroll_step fun k hk => ?_
  conv => whnf
  refine ⟨⟨⟨by decide, by decide⟩, show _ + _ < 4 from by decide⟩, ?_⟩
  conv => whnf
  refine scall_of (cfg_ok env_nil 13) Tryz.func80 (by kernel_rfl) rfl ?_
  conv => whnf
  refine ⟨[], by kernel_rfl, ?_⟩
  conv => whnf
  subst hk
  refine unroll_step fun k hk => ?_
  conv => whnf
  refine ⟨⟨⟨by decide, by decide⟩, show _ + _ < 4 from by decide⟩, ?_⟩
  conv => whnf
  refine scall_of (cfg_ok env_nil 14) Tryz.func81 (by kernel_rfl) rfl ?_
  conv => whnf
  refine ⟨[], by kernel_rfl, ?_⟩
  conv => whnf
  subst hk
  refine unroll_step fun k hk => ?_
  conv => whnf
  refine ⟨⟨⟨by decide, by decide⟩, show _ + _ < 4 from by decide⟩, ?_⟩
  conv => whnf
  refine scall_of (cfg_ok envZd2_ok 15) Tryz.func82 (by kernel_rfl) rfl ?_
  conv => whnf
  refine ⟨[], by kernel_rfl, ?_⟩
  conv => whnf
  refine ⟨fun h => absurd h (by decide), ?_⟩
  conv => whnf
  subst hk
  refine unroll_step fun k hk => ?_
  conv => whnf
  subst hk
  conv => whnf
  subst hK
  exact ⟨rfl, _, rfl⟩

theorem may27_9_1 (a : Int) (ha : 1 ≤ a ∧ a ≤ 10000) (x0 x1 x2 x3 x4 x5 x6 x7 x8 x12 : AO) : SCall Tryz.prog 27 [.ptr 11 1 1 0 0, .agg (evA a)] [x0, x1, x2, x3, x4, x5, x6, x7, x8, .emap, .emap, .lit 1 [.nilsl, .mp 9, .mp 10, .int .i64 0], x12] fun r h' => r = .ret (.tup [.bool true, .cint .i64 0]) ∧ h' = [x0, x1, x2, x3, x4, x5, x6, x7, x8, .emap, .emap, .lit 1 [.nilsl, .mp 9, .mp 10, .int .i64 0], x12] := by
  refine kept_of2 rfl (.inl rfl) (fun o ho => .inl rfl) ?_
  refine scall_of (cfg_ok envZd1_ok 13) Tryz.func27 (by kernel_rfl) rfl ?_
  generalize hK : Kept2 _ _ _ = K
  conv => whnf
  refine ⟨⟨⟨rfl, rfl, rfl, rfl⟩, ha⟩, ?_⟩
  conv => whnf
  refine ⟨[(3, 10), (5, 10), (6, 10)], by kernel_rfl, ?_⟩
  conv => whnf
  refine ⟨by kernel_rfl, ?_⟩
  conv => whnf
  refine .inl ⟨[(), (), (), (), ()], ?_⟩

  refine unroll_step fun k hk => ?_
  conv => whnf
  refine ⟨⟨by decide, by decide⟩, ?_⟩
  conv => whnf
  refine scall_of (cfg_ok env_nil 16) Tryz.func79 (by kernel_rfl) rfl ?_
  conv => whnf
  subst hk
  refine unroll_step fun k hk => ?_
  conv => whnf
  refine ⟨⟨⟨by decide, by decide⟩, show _ + _ < 4 from by decide⟩, ?_⟩
  conv => whnf
  refine scall_of (cfg_ok env_nil 17) Tryz.func80 (by kernel_rfl) rfl ?_
  conv => whnf
  refine ⟨[], by kernel_rfl, ?_⟩
  conv => whnf
  subst hk
  refine unroll_step fun k hk => ?_
  conv => whnf
  refine ⟨⟨⟨by decide, by decide⟩, show _ + _ < 4 from by decide⟩, ?_⟩
  conv => whnf
  refine scall_of (cfg_ok env_nil 18) Tryz.func81 (by kernel_rfl) rfl ?_
  conv => whnf
  refine ⟨[], by kernel_rfl, ?_⟩
  conv => whnf
  subst hk
  refine unroll_step fun k hk => ?_
  conv => whnf
  refine ⟨⟨⟨by decide, by decide⟩, show _ + _ < 4 from by decide⟩, ?_⟩
  conv => whnf
  refine scall_of (cfg_ok envZd2_ok 19) Tryz.func82 (by kernel_rfl) rfl ?_
  conv => whnf
  refine ⟨[], by kernel_rfl, ?_⟩
  conv => whnf
  refine ⟨fun h => absurd h (by decide), ?_⟩
  conv => whnf
  subst hk
  refine unroll_step fun k hk => ?_
  conv => whnf
  subst hk
  conv => whnf
  subst hK
  exact ⟨rfl, _, rfl⟩

theorem insert89_14 (a : Int) (h : List AO) (hl : h.length = 14) (hh : nth .free h 13 = .lit 5 (evA a)) : SCall Tryz.prog 89 [.nilsl, .int .i64 0, .sl 13 5 0 1 (some 1)] h fun r h' => r = .ret (.ro 5 1 none (evR a)) ∧ h' = h := by
  refine kept_of3 rfl (fun o ho => .inl rfl) ?_
  match h, hl with
  | [x0, x1, x2, x3, x4, x5, x6, x7, x8, x9, x10, x11, x12, x13], _ =>
    have hh : x13 = .lit 5 (evA a) := hh
    subst hh
    refine scall_of (cfg_ok env_nil 14) Tryz.func89 (by kernel_rfl) rfl ?_
    generalize hK : Kept3 _ _ _ = K
    conv => whnf
    refine ⟨⟨trivial, show (0 : Int) ≤ 0 ∧ (0 : Int) ≤ 0 by omega⟩, ?_⟩
    conv => whnf
    refine ⟨show 1 * 40 ≤ 140737488355328 by decide, ?_⟩
    conv => whnf
    subst hK
    refine ⟨⟨_, rfl⟩, show 0 + 1 ≤ 1 by decide, ro_congr fun i hi => ?_⟩
    match i, hi with
    | 0, _ => rfl

def envP_9_0 (a : Int) : Env := [(87, exQ [.ro 0 0 (some 0) (fun _ => []), .agg (evA a), .fn 88 [] []] (.tup [.int .i64 0, .bool false]))]
theorem envP_9_0_ok (a : Int) : EnvOK Tryz.prog (envP_9_0 a) := env_cons (exQ_of (search87 a)) env_nil
def SP_9_0 (a : Int) : SEnv := [(89, ⟨14, 13, false, sx [.nilsl, .int .i64 0, .sl 13 5 0 1 (some 1)] (.lit 5 (evA a)) (.ro 5 1 none (evR a)) (.lit 5 (evA a))⟩)]
theorem SP_9_0_ok (a : Int) : SOK Tryz.prog (SP_9_0 a) := sx_ok (by decide) (fun h hl hh => insert89_14 a h hl hh) st_nil
theorem put32_9_0 (a : Int) (ha : 1 ≤ a ∧ a ≤ 10000) (x0 x1 x2 x3 x4 x5 x6 x7 x8 : AO) : SCall Tryz.prog 32 [.ptr 11 1 1 0 0, .agg (evA a)] [x0, x1, x2, x3, x4, x5, x6, x7, x8, .emap, .emap, .lit 1 [.nilsl, .mp 9, .mp 10, .int .i64 0]] fun r h' => r = .ret (.tup [.bool true, .cint .i64 0]) ∧ h' = [x0, x1, x2, x3, x4, x5, x6, x7, x8, .xmap, .emap, .lit 1 [.ro 5 1 none (evR a), .mp 9, .mp 10, .int .i64 1]] := by
  refine kept_of2 rfl (.inl rfl) (fun o ho => ?_) ?_
  · match o, ho with
    | 0, _ | 1, _ | 2, _ | 3, _ | 4, _ | 5, _ | 6, _ | 7, _ | 8, _ | 10, _ => exact .inl rfl
    | 9, _ | 11, _ => exact .inr rfl
  refine scall_of (cfgS_ok (envP_9_0_ok a) (SP_9_0_ok a) 12) Tryz.func32 (by kernel_rfl) rfl ?_
  generalize hK : Kept2 _ _ _ = K
  conv => whnf
  refine (may27_9_1 a ha x0 x1 x2 x3 x4 x5 x6 x7 x8 _).mono fun r h' ⟨e1, e2⟩ => ?_
  subst e1 e2
  conv => whnf
  refine ⟨[], by kernel_rfl, ?_⟩
  conv => whnf
  refine ⟨rfl, ?_⟩
  conv => whnf
  refine ⟨[(4, 7)], by kernel_rfl, ?_⟩
  conv => whnf
  refine ⟨⟨rfl, rfl⟩, by kernel_rfl, ?_⟩
  conv => whnf
  refine ⟨[], by kernel_rfl, ?_⟩
  conv => whnf
  subst hK
  exact ⟨rfl, _, rfl⟩

def mapsAt0 (l : List AO) : Prop := nth .free l 1 = .emap ∧ nth .free l 2 = .emap
def SD0 (a : Int) : SEnv := [(27, ⟨8, 3, false, sxl [.ptr 3 1 1 0 0, .agg (evA a)] (.lit 1 [.nilsl, .mp 1, .mp 2, .int .i64 0]) mapsAt0 (.tup [.bool true, .cint .i64 0]) .free⟩)]
theorem SD0_ok (a : Int) (ha : 1 ≤ a ∧ a ≤ 10000) : SOK Tryz.prog (SD0 a) := sxl_ok (by decide) (fun h hl hh hm => by
  match h, hl with
  | [x0, x1, x2, x3, x4, x5, x6, x7], _ =>
    have hh : x3 = .lit 1 [.nilsl, .mp 1, .mp 2, .int .i64 0] := hh
    have h1 : x1 = .emap := hm.1
    have h2 : x2 = .emap := hm.2
    subst hh; subst h1; subst h2
    exact may27_1_4 a ha x0 x4 x5 x6 x7) st_nil

def mapsAt1 (l : List AO) : Prop := nth .free l 2 = .emap ∧ nth .free l 3 = .emap
def SD1 (a : Int) : SEnv := [(27, ⟨9, 4, false, sxl [.ptr 4 1 1 0 0, .agg (evA a)] (.lit 1 [.nilsl, .mp 2, .mp 3, .int .i64 0]) mapsAt1 (.tup [.bool true, .cint .i64 0]) .free⟩)]
theorem SD1_ok (a : Int) (ha : 1 ≤ a ∧ a ≤ 10000) : SOK Tryz.prog (SD1 a) := sxl_ok (by decide) (fun h hl hh hm => by
  match h, hl with
  | [x0, x1, x2, x3, x4, x5, x6, x7, x8], _ =>
    have hh : x4 = .lit 1 [.nilsl, .mp 2, .mp 3, .int .i64 0] := hh
    have h1 : x2 = .emap := hm.1
    have h2 : x3 = .emap := hm.2
    subst hh; subst h1; subst h2
    exact may27_2_4 a ha x0 x1 x5 x6 x7 x8) st_nil

end Go.Proofs.YtnnoplgabnfdiaaGreatDoor.Sh
/- The shadow machine over this program: nights of a run. -/
namespace Go.Proofs.YtnnoplgabnfdiaaGreatDoor.Sh
open Go Go.RowKit
set_option linter.unusedVariables false
set_option linter.unusedSimpArgs false
set_option maxRecDepth 100000
set_option maxHeartbeats 4000000
theorem dueN (p : PR) (s : ST) (hp : SHP p) (ho : s.op = true) (hs : s.start = 19723) (hn : s.nx = 1) (hpn : 1 ≤ s.pn) (x0 x1 x2 x3 x5 x6 x7 x8 : AO) : SCall Tryz.prog 108 [.ptr 4 1 1 0 0, s.av, .int .i64 s.nx] [x0, x1, x2, x3, runL p false 0 .nilsl, x5, x6, x7, x8] fun r h' => r = .ret (.tup [.int .i64 (dueF p.ev), .bool true]) ∧ h' = [x0, x1, x2, x3, runL p true 19723 (.ro 1 p.tm.toNat none (dueRV p)), x5, x6, x7, x8] := by
  have hE := hp.sh
  refine kept_of2 rfl (.inl rfl) (fun o ho => ?_) ?_
  · match o, ho with
    | 0, _ | 1, _ | 2, _ | 3, _ | 5, _ | 6, _ | 7, _ | 8, _ => exact .inl rfl
    | 4, _ => exact .inr rfl
  refine scall_of (cfg_ok envR2_ok 9) Tryz.func108 (by kernel_rfl) rfl ?_
  generalize hK : Kept2 _ _ _ = K
  conv => whnf
  refine bf (by rw [ho]; rfl) ?_
  conv => whnf
  refine ⟨[], by kernel_rfl, ?_⟩
  conv => whnf
  refine ⟨[(3, 6)], by kernel_rfl, ?_⟩
  conv => whnf
  refine ⟨rfl, ?_⟩
  conv => whnf
  refine ⟨[], by kernel_rfl, ?_⟩
  conv => whnf
  refine ⟨⟨⟨rfl, rfl, rfl⟩, hp, hs⟩, ?_⟩
  conv => whnf
  refine bf (by rw [hn]; simp; omega) ?_
  conv => whnf
  rw [show IntKind.i64.wrap (s.nx - 1) = 0 from by rw [hn]; rfl]
  refine ⟨⟨by omega, show (0 : Int) < (p.tm.toNat : Int) from by omega⟩, ?_⟩
  conv => whnf
  subst hK
  refine ⟨?_, [.lit 1 s.cells], ?_⟩
  · show AR.ret (.tup [.int .i64 (dueF (p.ev * ((((0 : Int).toNat : Nat) : Int) + 1))), .bool true]) = _
    rw [show p.ev * ((((0 : Int).toNat : Nat) : Int) + 1) = p.ev from by simp]
  show [x0, x1, x2, x3, runL p true s.start (.ro 1 p.tm.toNat none (dueRV p)), x5, x6, x7, x8, .lit 1 s.cells] = _
  rw [hs]; rfl
theorem next185 (p : PR) (s : ST) (n : Int) (hp : SHP p) (ho : s.op = true) (hs : s.start = 19723) (hn : s.nx = 1) (hpn : 1 ≤ s.pn) (hd : dueF p.ev > s.day) (hu : n ≤ dueF p.ev) (h : List AO) (hl : h.length = 8) (hh : nth .free h 4 = runL p false 0 .nilsl) : SCall Tryz.prog 185 [.ptr 4 1 1 0 0, s.av, .int .i64 n] h fun r h' => r = .ret (.int .i64 n) ∧ h' = setNth h 4 (runL p true 19723 (.ro 1 p.tm.toNat none (dueRV p))) := by
  match h, hl with
  | [x0, x1, x2, x3, x4, x5, x6, x7], _ =>
    have hh : x4 = runL p false 0 .nilsl := hh
    subst hh
    refine kept_of2 (h1 := [x0, x1, x2, x3, runL p true 19723 (.ro 1 p.tm.toNat none (dueRV p)), x5, x6, x7]) rfl (.inl rfl) (fun o ho => ?_) ?_
    · match o, ho with
      | 0, _ | 1, _ | 2, _ | 3, _ | 5, _ | 6, _ | 7, _ => exact .inl rfl
      | 4, _ => exact .inr rfl
    refine scall_of (cfg_ok env_nil 8) Tryz.func185 (by kernel_rfl) rfl ?_
    generalize hK : Kept2 _ _ _ = K
    conv => whnf
    refine (dueN p s hp ho hs hn hpn x0 x1 x2 x3 x5 x6 x7 _).mono fun r h' ⟨e1, e2⟩ => ?_
    subst e1 e2
    conv => whnf
    refine bt (decide_eq_true hd) ?_
    conv => whnf
    refine .inl ⟨[()], unroll_step fun k hk => ?_⟩
    conv => whnf
    subst hk
    conv => whnf
    subst hK
    rw [if_neg (by omega)]
    exact ⟨rfl, _, rfl⟩
/-- A run. -/
def runO (p : PR) (k : Nat) (s : ST) (l : Nat) (rw : Nat → List RV) : AO := .lit 1 [.str p.nm, .int .i64 p.ct, .int .i64 p.rd, .int .i64 p.kd, .int .i64 p.ev, .int .i64 p.tm, .int .i64 p.gr, .int .i64 p.rt, .ro 0 0 (some 0) fun _ => [], .int .i64 p.pn, .int .i64 p.o0, .int .i64 p.o1, .int .i64 p.o2, .int .i64 p.o3, .int .i64 p.ov, .ro 2 p.ln none fun i => [.int .i64 (p.ld i), .int .i64 (p.lf i)], .int .i64 p.cp, .int .i64 p.rl, .ro 0 0 (some 0) fun _ => [], .ptr k 1 1 0 0, .int .i64 s.day, .bool s.op, .int .i64 s.start, .ro 1 s.pn none s.pr, .int .i64 s.nx, .int .i64 s.rt, .int .i64 s.P, .int .i64 s.A, .ro 4 0 none s.dr, .int .i64 0, .int .i64 0, .int .i64 0, .int .i64 (0 - s.P), .int .i64 s.A, .int .i64 0, .int .i64 0, .int .i64 0, .int .i64 s.re, .int .i64 s.fi, .ro 5 l none rw]
def SZ1 (p : PR) (s : ST) (n : Int) : SEnv := [(185, ⟨8, 4, true, sx [.ptr 4 1 1 0 0, s.av, .int .i64 n] (runL p false 0 .nilsl) (.int .i64 n) (runL p true 19723 (.ro 1 p.tm.toNat none (dueRV p)))⟩)]
theorem SZ1_ok (p : PR) (s : ST) (n : Int) (hp : SHP p) (ho : s.op = true) (hs : s.start = 19723) (hn : s.nx = 1) (hpn : 1 ≤ s.pn) (hd : dueF p.ev > s.day) (hu : n ≤ dueF p.ev) : SOK Tryz.prog (SZ1 p s n) := sx_ok (by decide) (fun h hl hh => next185 p s n hp ho hs hn hpn hd hu h hl hh) st_nil
def envZ1 : Env := [(184, passQ)]
theorem envZ1_ok : EnvOK Tryz.prog envZ1 := env_cons pass184 env_nil
theorem nights167 (p : PR) (s : ST) (n : Int) (hp : SHP p) (ho : s.op = true) (hs : s.start = 19723) (hn : s.nx = 1) (hpn : 1 ≤ s.pn) (hd : dueF p.ev > s.day) (hu : n ≤ dueF p.ev) (hN : NOK p s (n - s.day)) (rw0 : Nat → List RV) (x0 x1 x2 x3 x6 : AO) : SCall Tryz.prog 167 [.ptr 5 1 1 0 0, .int .i64 n] [x0, x1, x2, x3, runL p false 0 .nilsl, runO p 4 s 0 rw0, x6] fun r h' => r = .ret (.int .i64 0) ∧ h' = [x0, x1, x2, x3, runL p true 19723 (.ro 1 p.tm.toNat none (dueRV p)), runO p 4 (nightS p s (n - s.day)) 0 rw0, x6] := by
  have h1 := hN.d1
  have h2 := hN.n0
  have h3 := hN.d2
  refine kept_of2 rfl (.inl rfl) (fun o ho => ?_) ?_
  · match o, ho with
    | 0, _ | 1, _ | 2, _ | 3, _ | 6, _ => exact .inl rfl
    | 4, _ | 5, _ => exact .inr rfl
  refine scall_of (cfgS_ok envZ1_ok (SZ1_ok p s n hp ho hs hn hpn hd hu) 7) Tryz.func167 (by kernel_rfl) rfl ?_
  generalize hK : Kept2 _ _ _ = K
  conv => whnf
  refine ⟨[(3, 17), (7, 17), (17, 22), (17, 28), (3, 28), (7, 28), (11, 28), (15, 28), (22, 28), (24, 28)], by kernel_rfl, ?_⟩
  conv => whnf
  have hw : IntKind.i64.wrap (n - s.day) = n - s.day := w64 (by omega) (by omega)
  refine ⟨⟨rfl, rfl, ⟨rfl, rfl, rfl⟩, ⟨rfl, rfl, rfl, rfl, rfl, rfl, rfl, rfl⟩, by rw [hw]; exact hN⟩, ?_⟩
  refine ⟨by kernel_rfl, ?_⟩
  conv => whnf
  rw [hw]
  subst hK
  exact ⟨rfl, _, rfl⟩
end Go.Proofs.YtnnoplgabnfdiaaGreatDoor.Sh
/- The shadow machine over this program: a day of a run, and all its days. -/
namespace Go.Proofs.YtnnoplgabnfdiaaGreatDoor.Sh
open Go Go.RowKit
set_option linter.unusedVariables false
set_option linter.unusedSimpArgs false
set_option maxRecDepth 100000
set_option maxHeartbeats 4000000
def SZ3 (p : PR) (a : Int) (PP : Nat → Int) : SEnv := [(183, ⟨8, 3, false, sx [.ptr 3 1 1 0 0, (s0 p).av, .ro 5 1 none (evR a)] (runL p false 0 .nilsl) (.tup [(s1 p a PP).av, .int .i64 0]) (runL p false 0 .nilsl)⟩)]
theorem SZ3_ok (p : PR) (a : Int) (PP V L : Nat → Int) (hp : SHP p) (ha : 1 ≤ a ∧ a ≤ 10000) (H : Plan p a PP V L) : SOK Tryz.prog (SZ3 p a PP) := sx_ok (by decide) (fun h hl hh => by
  match h, hl with
  | [x0, x1, x2, x3, x4, x5, x6, x7], _ =>
    have hh : x3 = runL p false 0 .nilsl := hh
    subst hh
    rcases hp.sh with ⟨_, h⟩ | ⟨_, h⟩
    · exact day183_3_12 p a PP V L hp (by rw [h]; rfl) ha H x0 x1 x2 x4 x5 x6 x7
    · exact day183_3_1 p a PP V L hp (by rw [h]; rfl) ha H x0 x1 x2 x4 x5 x6 x7) st_nil
def SZ4 (p : PR) (s : ST) (a : Int) : SEnv := [(183, ⟨8, 4, false, sx [.ptr 4 1 1 0 0, s.av, .ro 5 0 none (evR a)] (runL p true 19723 (.ro 1 p.tm.toNat none (dueRV p))) (.tup [s.av, .int .i64 0]) (runL p true 19723 (.ro 1 p.tm.toNat none (dueRV p)))⟩)]
structure DOK (p : PR) (s : ST) : Prop where
  hp : SHP p
  ho : s.op = true
  hs : s.start = 19723
  hn : s.nx = 1
  hpn : 1 ≤ s.pn
  pn : s.pn ≤ 1000
  P : 0 ≤ s.P ∧ s.P ≤ 100000000000000
  A : 0 ≤ s.A ∧ s.A ≤ 100000000000000
theorem SZ4_ok (p : PR) (s : ST) (a : Int) (D : DOK p s) (hd : dueF p.ev ≠ s.day) : SOK Tryz.prog (SZ4 p s a) := sx_ok (by decide) (fun h hl hh => by
  match h, hl with
  | [x0, x1, x2, x3, x4, x5, x6, x7], _ =>
    have hh : x4 = runL p true 19723 (.ro 1 p.tm.toNat none (dueRV p)) := hh
    subst hh
    exact day183_4 p s D.hp D.ho D.hs D.hn D.hpn hd (evR a) D.P D.A x0 x1 x2 x3 x5 x6 x7) st_nil
theorem day166_4 (p : PR) (s : ST) (D : DOK p s) (hd : dueF p.ev ≠ s.day) (a : Int) (x0 x1 x2 x3 x6 : AO) : SCall Tryz.prog 166 [.ptr 5 1 1 0 0] [x0, x1, x2, x3, runL p true 19723 (.ro 1 p.tm.toNat none (dueRV p)), runO p 4 s 0 (evR a), x6] fun r h' => r = .ret (.int .i64 0) ∧ h' = [x0, x1, x2, x3, runL p true 19723 (.ro 1 p.tm.toNat none (dueRV p)), runO p 4 s 0 (evR a), x6] := by
  refine kept_of2 rfl (.inl rfl) (fun o ho => ?_) ?_
  · match o, ho with
    | 0, _ | 1, _ | 2, _ | 3, _ | 4, _ | 6, _ => exact .inl rfl
    | 5, _ => exact .inr rfl
  refine scall_of (cfgS_ok env_nil (SZ4_ok p s a D hd) 7) Tryz.func166 (by kernel_rfl) rfl ?_
  generalize hK : Kept2 _ _ _ = K
  conv => whnf
  refine .inl ⟨[()], unroll_step fun k hk => ?_⟩
  conv => whnf
  refine ⟨[], by kernel_rfl, ?_⟩
  conv => whnf
  refine ⟨fun h => absurd h (by decide), ?_⟩
  conv => whnf
  subst hk
  conv => whnf
  refine ⟨[(3, 18), (7, 18), (11, 18), (13, 18), (14, 18)], by kernel_rfl, ?_⟩
  conv => whnf
  refine ⟨⟨show (0 : Int) ≤ 0 ∧ (0 : Int) ≤ 0 by omega, trivial, rfl, rfl⟩, by kernel_rfl, ?_⟩
  conv => whnf
  refine ⟨[(8, 11)], by kernel_rfl, ?_⟩
  conv => whnf
  refine ⟨⟨trivial, show (0 : Int) ≤ 0 ∧ (0 : Int) ≤ 0 by omega⟩, by kernel_rfl, ?_⟩
  conv => whnf
  subst hK
  exact ⟨rfl, _, rfl⟩
theorem day166_3 (p : PR) (a : Int) (PP V L : Nat → Int) (hp : SHP p) (ha : 1 ≤ a ∧ a ≤ 10000) (H : Plan p a PP V L) (x0 x1 x2 x4 x6 : AO) : SCall Tryz.prog 166 [.ptr 5 1 1 0 0] [x0, x1, x2, runL p false 0 .nilsl, x4, runO p 3 (s0 p) 1 (evR a), x6] fun r h' => r = .ret (.int .i64 0) ∧ h' = [x0, x1, x2, runL p false 0 .nilsl, x4, runO p 3 (s1 p a PP) 0 (evR a), x6] := by
  refine kept_of2 rfl (.inl rfl) (fun o ho => ?_) ?_
  · match o, ho with
    | 0, _ | 1, _ | 2, _ | 3, _ | 4, _ | 6, _ => exact .inl rfl
    | 5, _ => exact .inr rfl
  refine scall_of (cfgS_ok env_nil (SZ3_ok p a PP V L hp ha H) 7) Tryz.func166 (by kernel_rfl) rfl ?_
  generalize hK : Kept2 _ _ _ = K
  conv => whnf
  refine .inl ⟨[(), ()], ?_⟩
  refine unroll_step fun k hk => ?_
  conv => whnf
  refine ⟨[], by kernel_rfl, ?_⟩
  conv => whnf
  refine ⟨fun h => ⟨by decide, by decide⟩, ?_⟩
  conv => whnf
  subst hk
  refine unroll_step fun k hk => ?_
  conv => whnf
  refine ⟨[], by kernel_rfl, ?_⟩
  conv => whnf
  refine ⟨fun h => absurd h (by decide), ?_⟩
  conv => whnf
  subst hk
  conv => whnf
  refine ⟨[(3, 18), (7, 18), (11, 18), (13, 18), (14, 18)], by kernel_rfl, ?_⟩
  conv => whnf
  refine ⟨⟨show (0 : Int) ≤ 1 ∧ (1 : Int) ≤ 1 by omega, trivial, rfl, rfl⟩, by kernel_rfl, ?_⟩
  conv => whnf
  refine ⟨[(8, 11)], by kernel_rfl, ?_⟩
  conv => whnf
  refine ⟨⟨trivial, show (0 : Int) ≤ 1 ∧ (1 : Int) ≤ 1 by omega⟩, by kernel_rfl, ?_⟩
  conv => whnf
  subst hK
  exact ⟨rfl, _, rfl⟩
end Go.Proofs.YtnnoplgabnfdiaaGreatDoor.Sh
/- The shadow machine over this program: a run goes on, from an end of a day, or from a beginning. -/
namespace Go.Proofs.YtnnoplgabnfdiaaGreatDoor.Sh
open Go Go.RowKit
set_option linter.unusedVariables false
set_option linter.unusedSimpArgs false
set_option maxRecDepth 100000
set_option maxHeartbeats 4000000
def envZb : Env := [(40, ownQ)]
theorem envZb_ok : EnvOK Tryz.prog envZb := env_cons own40 env_nil
/-- Until the same day. -/
theorem on140_z (p : PR) (s : ST) (D : DOK p s) (a : Int) (x0 x1 x2 x3 : AO) : SCall Tryz.prog 140 [.ptr 5 1 1 0 0, .int .i64 s.day, .bool true] [x0, x1, x2, x3, runL p false 0 .nilsl, runO p 4 s 0 (evR a)] fun r h' => r = .ret (.tup [s.av, .int .i64 0]) ∧ h' = [x0, x1, x2, x3, runL p false 0 .nilsl, runO p 4 s 0 (evR a)] := by
  refine kept_of3 rfl (fun o ho => .inl rfl) ?_
  refine scall_of (cfg_ok envZb_ok 6) Tryz.func140 (by kernel_rfl) rfl ?_
  generalize hK : Kept3 _ _ _ = K
  conv => whnf
  refine .inl ⟨[()], unroll_step fun k hk => ?_⟩
  conv => whnf
  refine bt (decide_eq_true (Int.le_refl _)) ?_
  conv => whnf
  refine ⟨⟨⟨rfl, rfl, rfl, rfl, rfl, rfl, rfl, rfl⟩, D.pn⟩, ?_⟩
  conv => whnf
  subst hk
  conv => whnf
  subst hK
  exact ⟨⟨_, rfl⟩, trivial, Wk.refl _⟩
theorem on140_n (p : PR) (s : ST) (D : DOK p s) (a n : Int) (hd : dueF p.ev > s.day) (h1 : s.day < n) (hu : n < dueF p.ev) (hN : NOK p s (n - s.day)) (x0 x1 x2 x3 : AO) : SCall Tryz.prog 140 [.ptr 5 1 1 0 0, .int .i64 n, .bool true] [x0, x1, x2, x3, runL p false 0 .nilsl, runO p 4 s 0 (evR a)] fun r h' => r = .ret (.tup [(nightS p s (n - s.day)).av, .int .i64 0]) ∧ h' = [x0, x1, x2, x3, runL p true 19723 (.ro 1 p.tm.toNat none (dueRV p)), runO p 4 (nightS p s (n - s.day)) 0 (evR a)] := by
  have D2 : DOK p (nightS p s (n - s.day)) := ⟨D.hp, D.ho, D.hs, D.hn, D.hpn, D.pn, D.P, hN.A2⟩
  have hday : (nightS p s (n - s.day)).day = n := by show s.day + (n - s.day) = n; omega
  refine kept_of3 rfl (fun o ho => ?_) ?_
  · match o, ho with
    | 0, _ | 1, _ | 2, _ | 3, _ => exact .inl rfl
    | 4, _ | 5, _ => exact .inr rfl
  refine scall_of (cfg_ok envZb_ok 6) Tryz.func140 (by kernel_rfl) rfl ?_
  generalize hK : Kept3 _ _ _ = K
  conv => whnf
  refine .inl ⟨[(), ()], ?_⟩
  refine unroll_step fun k hk => ?_
  conv => whnf
  refine bf (decide_eq_false (by omega)) ?_
  conv => whnf
  refine (nights167 p s n D.hp D.ho D.hs D.hn D.hpn hd (by omega) hN (evR a) x0 x1 x2 x3 _).mono fun r h' ⟨e1, e2⟩ => ?_
  subst e1 e2
  conv => whnf
  subst hk
  refine unroll_step fun k hk => ?_
  conv => whnf
  refine (day166_4 p _ D2 (by omega) a x0 x1 x2 x3 _).mono fun r h' ⟨e1, e2⟩ => ?_
  subst e1 e2
  conv => whnf
  refine bt (decide_eq_true (by omega)) ?_
  conv => whnf
  refine ⟨⟨⟨rfl, rfl, rfl, rfl, rfl, rfl, rfl, rfl⟩, D2.pn⟩, ?_⟩
  conv => whnf
  subst hk
  conv => whnf
  subst hK
  exact ⟨⟨_, rfl⟩, trivial, Wk.refl _⟩
theorem on140_3 (p : PR) (a : Int) (PP V L : Nat → Int) (hp : SHP p) (ha : 1 ≤ a ∧ a ≤ 10000) (H : Plan p a PP V L) (x0 x1 x2 x4 : AO) : SCall Tryz.prog 140 [.ptr 5 1 1 0 0, .int .i64 19723, .bool false] [x0, x1, x2, runL p false 0 .nilsl, x4, runO p 3 (s0 p) 1 (evR a)] fun r h' => r = .ret (.tup [(s1 p a PP).av, .int .i64 0]) ∧ h' = [x0, x1, x2, runL p false 0 .nilsl, x4, runO p 3 (s1 p a PP) 0 (evR a)] := by
  have hE := hp.sh
  refine kept_of3 rfl (fun o ho => ?_) ?_
  · match o, ho with
    | 0, _ | 1, _ | 2, _ | 3, _ | 4, _ => exact .inl rfl
    | 5, _ => exact .inr rfl
  refine scall_of (cfg_ok envZb_ok 6) Tryz.func140 (by kernel_rfl) rfl ?_
  generalize hK : Kept3 _ _ _ = K
  conv => whnf
  refine .inl ⟨[()], unroll_step fun k hk => ?_⟩
  conv => whnf
  refine (day166_3 p a PP V L hp ha H x0 x1 x2 x4 _).mono fun r h' ⟨e1, e2⟩ => ?_
  subst e1 e2
  conv => whnf
  refine ⟨⟨⟨rfl, rfl, rfl, rfl, rfl, rfl, rfl, rfl⟩, show p.tm.toNat ≤ 1000 by rcases hE with e | e <;> omega⟩, ?_⟩
  conv => whnf
  subst hk
  conv => whnf
  subst hK
  exact ⟨⟨_, rfl⟩, trivial, Wk.refl _⟩
end Go.Proofs.YtnnoplgabnfdiaaGreatDoor.Sh
/- The shadow machine over this program: from the end of a day on. -/
namespace Go.Proofs.YtnnoplgabnfdiaaGreatDoor.Sh
open Go Go.RowKit
set_option linter.unusedVariables false
set_option linter.unusedSimpArgs false
set_option maxRecDepth 100000
set_option maxHeartbeats 4000000
theorem s1_ok (p : PR) (a : Int) (PP : Nat → Int) (hp : SHP p) (ha : 1 ≤ a ∧ a ≤ 10000) : DOK p (s1 p a PP) := by
  have hE := hp.sh
  exact ⟨hp, rfl, rfl, rfl, show 1 ≤ p.tm.toNat by rcases hE with e | e <;> omega, show p.tm.toNat ≤ 1000 by rcases hE with e | e <;> omega, show 0 ≤ a ∧ a ≤ _ by omega, show (0 : Int) ≤ 0 ∧ (0 : Int) ≤ _ by omega⟩
theorem from104_z (p : PR) (a : Int) (PP : Nat → Int) (hp : SHP p) (ha : 1 ≤ a ∧ a ≤ 10000) : SCall Tryz.prog 104 [p.av, (s1 p a PP).av, .ro 5 1 none (evR a), .int .i64 19723] [] (Told (.tup [(s1 p a PP).av, .int .i64 0])) := by
  have D := s1_ok p a PP hp ha
  refine scall_of (cfg_ok env_nil 0) Tryz.func104 (by kernel_rfl) rfl ?_
  generalize hK : Told _ = K
  conv => whnf
  refine (new106_3 _ _ _ p hp.ok).mono fun r h' ⟨e1, e2⟩ => ?_
  subst e1 e2
  conv => whnf
  refine .inl ⟨[(), ()], ?_⟩
  refine unroll_step fun k hk => ?_
  conv => whnf
  refine ⟨[], by kernel_rfl, ?_⟩
  conv => whnf
  refine ⟨fun h => ⟨by decide, by decide⟩, ?_⟩
  conv => whnf
  refine ⟨⟨trivial, show (0 : Int) ≤ 1 ∧ (1 : Int) ≤ 1 by omega⟩, ?_⟩
  conv => whnf
  subst hk
  refine unroll_step fun k hk => ?_
  conv => whnf
  refine ⟨[], by kernel_rfl, ?_⟩
  conv => whnf
  refine ⟨fun h => absurd h (by decide), ?_⟩
  conv => whnf
  subst hk
  conv => whnf
  refine ⟨fun h => absurd h (by decide), ?_⟩
  conv => whnf
  refine (on140_z p (s1 p a PP) D a _ _ _ _).mono fun r h' ⟨e1, e2⟩ => ?_
  subst e1 e2
  conv => whnf
  subst hK
  exact told_of trivial rfl
theorem from104_n (p : PR) (a n : Int) (PP : Nat → Int) (hp : SHP p) (ha : 1 ≤ a ∧ a ≤ 10000) (h1 : 19723 < n) (h2 : n ≤ 84370) (hd : dueF p.ev > 19723) (hu : n < dueF p.ev) (hN : NOK p (s1 p a PP) (n - 19723)) : SCall Tryz.prog 104 [p.av, (s1 p a PP).av, .ro 5 1 none (evR a), .int .i64 n] [] (Told (.tup [(nightS p (s1 p a PP) (n - 19723)).av, .int .i64 0])) := by
  have D := s1_ok p a PP hp ha
  refine scall_of (cfg_ok env_nil 0) Tryz.func104 (by kernel_rfl) rfl ?_
  generalize hK : Told _ = K
  conv => whnf
  refine (new106_3 _ _ _ p hp.ok).mono fun r h' ⟨e1, e2⟩ => ?_
  subst e1 e2
  conv => whnf
  refine bf (show (bif decide (n < 19723) then true else decide (n > 84370)) = false by rw [decide_eq_false (by omega), decide_eq_false (by omega)]; rfl) ?_
  conv => whnf
  refine .inl ⟨[(), ()], ?_⟩
  refine unroll_step fun k hk => ?_
  conv => whnf
  refine ⟨[], by kernel_rfl, ?_⟩
  conv => whnf
  refine ⟨fun h => ⟨by decide, by decide⟩, ?_⟩
  conv => whnf
  refine ⟨⟨trivial, show (0 : Int) ≤ 1 ∧ (1 : Int) ≤ 1 by omega⟩, ?_⟩
  conv => whnf
  subst hk
  refine unroll_step fun k hk => ?_
  conv => whnf
  refine ⟨[], by kernel_rfl, ?_⟩
  conv => whnf
  refine ⟨fun h => absurd h (by decide), ?_⟩
  conv => whnf
  subst hk
  conv => whnf
  refine ⟨fun h => absurd h (by decide), ?_⟩
  conv => whnf
  refine (on140_n p (s1 p a PP) D a n hd h1 hu hN _ _ _ _).mono fun r h' ⟨e1, e2⟩ => ?_
  subst e1 e2
  conv => whnf
  subst hK
  exact told_of trivial rfl
end Go.Proofs.YtnnoplgabnfdiaaGreatDoor.Sh
/- The shadow machine over this program: a run from a beginning. -/
namespace Go.Proofs.YtnnoplgabnfdiaaGreatDoor.Sh
open Go Go.RowKit
set_option linter.unusedVariables false
set_option linter.unusedSimpArgs false
set_option maxRecDepth 100000
set_option maxHeartbeats 4000000
theorem stand141 (a : Int) (ha : 1 ≤ a ∧ a ≤ 10000) : SCall Tryz.prog 141 [.ro 5 1 none (evR a)] [] (Told (.bool true)) := by
  refine scall_of (cfg_ok env_nil 0) Tryz.func141 (by kernel_rfl) rfl ?_
  generalize hK : Told _ = K
  conv => whnf
  refine scall_of (cfg_ok env_nil 0) Tryz.func24 (by kernel_rfl) rfl ?_
  conv => whnf
  refine .inl ⟨[(), ()], ?_⟩
  refine unroll_step fun k hk => ?_
  conv => whnf
  refine ⟨⟨by decide, by decide⟩, ?_⟩
  conv => whnf
  refine (put32_0_1 a ha _).mono fun r h' ⟨e1, e2⟩ => ?_
  subst e1 e2
  conv => whnf
  refine ⟨[], by kernel_rfl, ?_⟩
  conv => whnf
  refine ⟨⟨fun _ h => absurd h (by decide), fun _ h => absurd h (by decide), fun _ h => absurd h (by decide)⟩, ?_⟩
  conv => whnf
  subst hk
  refine unroll_step fun k hk => ?_
  conv => whnf
  subst hk
  conv => whnf
  subst hK
  exact told_of trivial rfl
def beginQ : QSpec := prQ1 (fun p n => OKP p ∧ n = 19723) (fun p n => .tup [(s0 p).av, .int .i64 0])
def envZf (a : Int) : Env := [(141, exQ [.ro 5 1 none (evR a)] (.bool true)), (142, beginQ)]
theorem envZf_ok (a : Int) (ha : 1 ≤ a ∧ a ≤ 10000) : EnvOK Tryz.prog (envZf a) := env_cons (exQ_of (stand141 a ha)) (env_cons begin142 env_nil)
theorem run105 (p : PR) (a : Int) (PP V L : Nat → Int) (hp : SHP p) (ha : 1 ≤ a ∧ a ≤ 10000) (H : Plan p a PP V L) : SCall Tryz.prog 105 [p.av, .ro 5 1 none (evR a), .int .i64 19723] [] (Told (.tup [(s1 p a PP).av, .int .i64 0])) := by
  refine scall_of (cfg_ok (envZf_ok a ha) 0) Tryz.func105 (by kernel_rfl) rfl ?_
  generalize hK : Told _ = K
  conv => whnf
  refine (new106_2 _ _ p hp.ok).mono fun r h' ⟨e1, e2⟩ => ?_
  subst e1 e2
  conv => whnf
  refine ⟨rfl, ?_⟩
  conv => whnf
  refine ⟨⟨by decide, by decide⟩, ?_⟩
  conv => whnf
  refine ⟨fun _ _ => ⟨by decide, by decide⟩, ?_⟩
  conv => whnf
  refine ⟨⟨⟨rfl, rfl, rfl⟩, hp.ok, rfl⟩, ?_⟩
  conv => whnf
  refine (on140_3 p a PP V L hp ha H _ _ _ _).mono fun r h' ⟨e1, e2⟩ => ?_
  subst e1 e2
  conv => whnf
  subst hK
  exact told_of trivial rfl
end Go.Proofs.YtnnoplgabnfdiaaGreatDoor.Sh
