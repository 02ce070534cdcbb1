/- Part 23 of a proof over the shadow machine. -/
import Derived.Test.YtnnoplgabnfdiaaGreatDoorN22
/- The shadow machine over this program: an engine is made. -/
namespace Go.Proofs.YtnnoplgabnfdiaaGreatDoor.Sh
open Go Go.RowKit
set_option linter.unusedVariables false
set_option linter.unusedSimpArgs false
set_option maxRecDepth 100000
set_option maxHeartbeats 4000000
/-- A product as an engine has it. -/
def pN (p : PR) : List AV := [.str p.nm, .int .i64 p.ct, .int .i64 p.rd, .int .i64 p.kd, .int .i64 p.ev, .int .i64 p.tm, .int .i64 p.gr, .int .i64 p.rt, .nilsl, .int .i64 p.pn, .int .i64 p.o0, .int .i64 p.o1, .int .i64 p.o2, .int .i64 p.o3, .int .i64 p.ov, .ro 2 p.ln none fun i => [.int .i64 (p.ld i), .int .i64 (p.lf i)], .int .i64 p.cp, .int .i64 p.rl, .nilsl]
/-- An engine. -/
def engO (p : PR) (bk : AV) (hz : Int) (ms jr : AV) : AO := .lit 1 [.str p.nm, .int .i64 p.ct, .int .i64 p.rd, .int .i64 p.kd, .int .i64 p.ev, .int .i64 p.tm, .int .i64 p.gr, .int .i64 p.rt, .nilsl, .int .i64 p.pn, .int .i64 p.o0, .int .i64 p.o1, .int .i64 p.o2, .int .i64 p.o3, .int .i64 p.ov, .ro 2 p.ln none fun i => [.int .i64 (p.ld i), .int .i64 (p.lf i)], .int .i64 p.cp, .int .i64 p.rl, .nilsl, bk, .int .i64 hz, ms, jr]
theorem clone68_nil (h : List AO) : SCall Tryz.prog 68 [.nilsl] h fun r h' => r = .ret .nilsl ∧ h' = h := by
  refine scall_of (cfg_ok env_nil h.length) Tryz.func68 (by kernel_rfl) rfl ?_
  generalize hK : (fun (r : AR) (h' : List AO) => r = .ret .nilsl ∧ h' = h) = K
  conv => whnf
  subst hK
  exact ⟨rfl, rfl⟩
theorem clone70_nil (h : List AO) : SCall Tryz.prog 70 [.nilsl] h fun r h' => r = .ret .nilsl ∧ h' = h := by
  refine scall_of (cfg_ok env_nil h.length) Tryz.func70 (by kernel_rfl) rfl ?_
  generalize hK : (fun (r : AR) (h' : List AO) => r = .ret .nilsl ∧ h' = h) = K
  conv => whnf
  subst hK
  exact ⟨rfl, rfl⟩
def SZh1 : SEnv := [(68, ⟨0, 0, false, sx [.nilsl] .free .nilsl .free⟩), (70, ⟨0, 0, false, sx [.nilsl] .free .nilsl .free⟩)]
theorem SZh1_ok : SOK Tryz.prog SZh1 := nx_ok clone68_nil (nx_ok clone70_nil st_nil)
def envZh1 : Env := [(69, cloneQ 2 16)]
theorem envZh1_ok : EnvOK Tryz.prog envZh1 := env_cons clone69 env_nil
theorem owned23_1 (p : PR) (hp : OKP p) (x0 : AO) : SCall Tryz.prog 23 [.agg (pN p)] [x0] fun r h' => r = .ret (.agg (pN p)) ∧ h' = [x0] := by
  have hln := hp.ln
  refine kept_of2 rfl (.inr (.inl rfl)) (fun o ho => .inl rfl) ?_
  refine scall_of (cfgS_ok envZh1_ok SZh1_ok 1) Tryz.func23 (by kernel_rfl) rfl ?_
  generalize hK : Kept2 _ _ _ = K
  conv => whnf
  refine ⟨[], by kernel_rfl, ?_⟩
  conv => whnf
  refine ⟨⟨rfl, rfl, ⟨rfl, by omega⟩, rfl, rfl⟩, ?_⟩
  conv => whnf
  subst hK
  exact ⟨rfl, _, rfl⟩
theorem new8_0 (p : PR) (hp : OKP p) : SCall Tryz.prog 8 [.agg (pN p)] [] fun r h' => r = .ret (.tup [.ptr 4 1 1 0 0, .cint .i64 0]) ∧ h' = [.lit 1 (pN p), .emap, .emap, .lit 1 [.nilsl, .mp 1, .mp 2, .int .i64 0], engO p (.ptr 3 1 1 0 0) 0 .nilsl .nilsl] := by
  refine scall_of (cfg_ok envX2_ok 0) Tryz.func8 (by kernel_rfl) rfl ?_
  generalize hK : (fun (r : AR) (h' : List AO) => r = .ret (.tup [.ptr 4 1 1 0 0, .cint .i64 0]) ∧ h' = _) = K
  conv => whnf
  refine ⟨⟨⟨rfl, rfl, rfl⟩, hp⟩, ?_⟩
  conv => whnf
  refine (owned23_1 p hp  _).mono fun r h' ⟨e1, e2⟩ => ?_
  subst e1 e2
  conv => whnf
  refine scall_of (cfg_ok env_nil 1) Tryz.func24 (by kernel_rfl) rfl ?_
  conv => whnf
  subst hK
  exact ⟨rfl, rfl⟩
theorem owned23_2 (p : PR) (hp : OKP p) (x0 x1 : AO) : SCall Tryz.prog 23 [.agg (pN p)] [x0, x1] fun r h' => r = .ret (.agg (pN p)) ∧ h' = [x0, x1] := by
  have hln := hp.ln
  refine kept_of2 rfl (.inr (.inl rfl)) (fun o ho => .inl rfl) ?_
  refine scall_of (cfgS_ok envZh1_ok SZh1_ok 2) Tryz.func23 (by kernel_rfl) rfl ?_
  generalize hK : Kept2 _ _ _ = K
  conv => whnf
  refine ⟨[], by kernel_rfl, ?_⟩
  conv => whnf
  refine ⟨⟨rfl, rfl, ⟨rfl, by omega⟩, rfl, rfl⟩, ?_⟩
  conv => whnf
  subst hK
  exact ⟨rfl, _, rfl⟩
theorem new8_1 (p : PR) (hp : OKP p) (x0 : AO) : SCall Tryz.prog 8 [.agg (pN p)] [x0] fun r h' => r = .ret (.tup [.ptr 5 1 1 0 0, .cint .i64 0]) ∧ h' = [x0, .lit 1 (pN p), .emap, .emap, .lit 1 [.nilsl, .mp 2, .mp 3, .int .i64 0], engO p (.ptr 4 1 1 0 0) 0 .nilsl .nilsl] := by
  refine scall_of (cfg_ok envX2_ok 1) Tryz.func8 (by kernel_rfl) rfl ?_
  generalize hK : (fun (r : AR) (h' : List AO) => r = .ret (.tup [.ptr 5 1 1 0 0, .cint .i64 0]) ∧ h' = _) = K
  conv => whnf
  refine ⟨⟨⟨rfl, rfl, rfl⟩, hp⟩, ?_⟩
  conv => whnf
  refine (owned23_2 p hp x0 _).mono fun r h' ⟨e1, e2⟩ => ?_
  subst e1 e2
  conv => whnf
  refine scall_of (cfg_ok env_nil 2) Tryz.func24 (by kernel_rfl) rfl ?_
  conv => whnf
  subst hK
  exact ⟨rfl, rfl⟩
end Go.Proofs.YtnnoplgabnfdiaaGreatDoor.Sh
/- The shadow machine over this program: the state at the end of a day, by events. -/
namespace Go.Proofs.YtnnoplgabnfdiaaGreatDoor.Sh
open Go Go.RowKit
set_option linter.unusedVariables false
set_option linter.unusedSimpArgs false
set_option maxRecDepth 100000
set_option maxHeartbeats 4000000

def envZi (p : PR) (a : Int) (PP : Nat → Int) : Env := [(105, exQ [p.av, .ro 5 1 none (evR a), .int .i64 19723] (.tup [(s1 p a PP).av, .int .i64 0]))]
theorem envZi_ok (p : PR) (a : Int) (PP V L : Nat → Int) (hp : SHP p) (ha : 1 ≤ a ∧ a ≤ 10000) (H : Plan p a PP V L) : EnvOK Tryz.prog (envZi p a PP) := env_cons (exQ_of (run105 p a PP V L hp ha H)) env_nil
/-- The marks of an engine, as a row. -/
def mkA (s : ST) : Nat → List AV := fun _ => s.cells
def mkR (s : ST) : Nat → List RV := fun _ => s.cells.map AV.rv

theorem state51_i0 (p : PR) (a : Int) (PP V L : Nat → Int) (hp : SHP p) (ha : 1 ≤ a ∧ a ≤ 10000) (H : Plan p a PP V L) (h : List AO) (hl : h.length = 14) (hh : nth .free h 11 = engO p .nilp 0 .nilsl .nilsl) : SCall Tryz.prog 51 [.ptr 11 1 1 0 0, .ro 5 1 none (evR a), .int .i64 19723, .int .i64 19723] h fun r h' => r = .ret (.tup [(s1 p a PP).av, .int .i64 0]) ∧ h' = h := by
  refine kept_of3 rfl (fun o ho => .inl rfl) ?_
  match h, hl with
  | [x0, x1, x2, x3, x4, x5, x6, x7, x8, x9, x10, x11, x12, x13], _ =>
    have hh : x11 = engO p .nilp 0 .nilsl .nilsl := hh
    subst hh
    refine scall_of (cfg_ok (envZi_ok p a PP V L hp ha H) 14) Tryz.func51 (by kernel_rfl) rfl ?_
    generalize hK : Kept3 _ _ _ = K
    conv => whnf
    refine scall_of (cfg_ok env_nil 15) Tryz.func103 (by kernel_rfl) rfl ?_
    conv => whnf
    refine .inl ⟨[()], unroll_step fun k hk => ?_⟩
    conv => whnf
    subst hk
    conv => whnf
    refine ⟨rfl, ?_⟩
    conv => whnf
    subst hK
    exact ⟨⟨_, rfl⟩, trivial, Wk.refl _⟩

theorem state51_j0 (p : PR) (a : Int) (PP V L : Nat → Int) (hp : SHP p) (ha : 1 ≤ a ∧ a ≤ 10000) (H : Plan p a PP V L) (x0 x1 x2 x3 x4 x5 x6 x7 x8 x9 x10 x12 x13 x14 : AO) : SCall Tryz.prog 51 [.ptr 11 1 1 0 0, .ro 5 1 none (evR a), .int .i64 19723, .int .i64 19723] [x0, x1, x2, x3, x4, x5, x6, x7, x8, x9, x10, engO p .nilp 0 (.sl 15 19 0 1 none) .nilsl, x12, x13, x14, .rows 19 1 (mkA (s1 p a PP))] fun r h' => r = .ret (.tup [(s1 p a PP).av, .int .i64 0]) ∧ h' = [x0, x1, x2, x3, x4, x5, x6, x7, x8, x9, x10, engO p .nilp 0 (.sl 15 19 0 1 none) .nilsl, x12, x13, x14, .rows 19 1 (mkA (s1 p a PP))] := by
  refine kept_of3 rfl (fun o ho => .inl rfl) ?_
  refine scall_of (cfg_ok (envZi_ok p a PP V L hp ha H) 16) Tryz.func51 (by kernel_rfl) rfl ?_
  generalize hK : Kept3 _ _ _ = K
  conv => whnf
  refine scall_of (cfg_ok env_nil 17) Tryz.func103 (by kernel_rfl) rfl ?_
  conv => whnf
  refine .inl ⟨[(), ()], ?_⟩
  refine unroll_step fun k hk => ?_
  conv => whnf
  refine ⟨⟨⟨by decide, by decide⟩, show 0 + Int.toNat 0 < 1 by decide⟩, ?_⟩
  conv => whnf
  subst hk
  refine unroll_step fun k hk => ?_
  conv => whnf
  subst hk
  conv => whnf
  refine ⟨rfl, ?_⟩
  conv => whnf
  subst hK
  exact ⟨⟨_, rfl⟩, trivial, Wk.refl _⟩

theorem state51_i1 (p : PR) (a : Int) (PP V L : Nat → Int) (hp : SHP p) (ha : 1 ≤ a ∧ a ≤ 10000) (H : Plan p a PP V L) (h : List AO) (hl : h.length = 15) (hh : nth .free h 12 = engO p .nilp 0 .nilsl .nilsl) : SCall Tryz.prog 51 [.ptr 12 1 1 0 0, .ro 5 1 none (evR a), .int .i64 19723, .int .i64 19723] h fun r h' => r = .ret (.tup [(s1 p a PP).av, .int .i64 0]) ∧ h' = h := by
  refine kept_of3 rfl (fun o ho => .inl rfl) ?_
  match h, hl with
  | [x0, x1, x2, x3, x4, x5, x6, x7, x8, x9, x10, x11, x12, x13, x14], _ =>
    have hh : x12 = engO p .nilp 0 .nilsl .nilsl := hh
    subst hh
    refine scall_of (cfg_ok (envZi_ok p a PP V L hp ha H) 15) Tryz.func51 (by kernel_rfl) rfl ?_
    generalize hK : Kept3 _ _ _ = K
    conv => whnf
    refine scall_of (cfg_ok env_nil 16) Tryz.func103 (by kernel_rfl) rfl ?_
    conv => whnf
    refine .inl ⟨[()], unroll_step fun k hk => ?_⟩
    conv => whnf
    subst hk
    conv => whnf
    refine ⟨rfl, ?_⟩
    conv => whnf
    subst hK
    exact ⟨⟨_, rfl⟩, trivial, Wk.refl _⟩

theorem state51_j1 (p : PR) (a : Int) (PP V L : Nat → Int) (hp : SHP p) (ha : 1 ≤ a ∧ a ≤ 10000) (H : Plan p a PP V L) (x0 x1 x2 x3 x4 x5 x6 x7 x8 x9 x10 x11 x13 x14 x15 : AO) : SCall Tryz.prog 51 [.ptr 12 1 1 0 0, .ro 5 1 none (evR a), .int .i64 19723, .int .i64 19723] [x0, x1, x2, x3, x4, x5, x6, x7, x8, x9, x10, x11, engO p .nilp 0 (.sl 16 19 0 1 none) .nilsl, x13, x14, x15, .rows 19 1 (mkA (s1 p a PP))] fun r h' => r = .ret (.tup [(s1 p a PP).av, .int .i64 0]) ∧ h' = [x0, x1, x2, x3, x4, x5, x6, x7, x8, x9, x10, x11, engO p .nilp 0 (.sl 16 19 0 1 none) .nilsl, x13, x14, x15, .rows 19 1 (mkA (s1 p a PP))] := by
  refine kept_of3 rfl (fun o ho => .inl rfl) ?_
  refine scall_of (cfg_ok (envZi_ok p a PP V L hp ha H) 17) Tryz.func51 (by kernel_rfl) rfl ?_
  generalize hK : Kept3 _ _ _ = K
  conv => whnf
  refine scall_of (cfg_ok env_nil 18) Tryz.func103 (by kernel_rfl) rfl ?_
  conv => whnf
  refine .inl ⟨[(), ()], ?_⟩
  refine unroll_step fun k hk => ?_
  conv => whnf
  refine ⟨⟨⟨by decide, by decide⟩, show 0 + Int.toNat 0 < 1 by decide⟩, ?_⟩
  conv => whnf
  subst hk
  refine unroll_step fun k hk => ?_
  conv => whnf
  subst hk
  conv => whnf
  refine ⟨rfl, ?_⟩
  conv => whnf
  subst hK
  exact ⟨⟨_, rfl⟩, trivial, Wk.refl _⟩

end Go.Proofs.YtnnoplgabnfdiaaGreatDoor.Sh
/- The shadow machine over this program: the marks of an engine. -/
namespace Go.Proofs.YtnnoplgabnfdiaaGreatDoor.Sh
open Go Go.RowKit
set_option linter.unusedVariables false
set_option linter.unusedSimpArgs false
set_option maxRecDepth 100000
set_option maxHeartbeats 4000000

def envZj : Env := [(28, mustIQ)]
theorem envZj_ok : EnvOK Tryz.prog envZj := env_cons must28 env_nil

def SZj0 (p : PR) (a : Int) (PP : Nat → Int) : SEnv := [(51, ⟨14, 11, false, sx [.ptr 11 1 1 0 0, .ro 5 1 none (evR a), .int .i64 19723, .int .i64 19723] (engO p .nilp 0 .nilsl .nilsl) (.tup [(s1 p a PP).av, .int .i64 0]) .free⟩)]
theorem SZj0_ok (p : PR) (a : Int) (PP V L : Nat → Int) (hp : SHP p) (ha : 1 ≤ a ∧ a ≤ 10000) (H : Plan p a PP V L) : SOK Tryz.prog (SZj0 p a PP) := sx_ok (by decide) (fun h hl hh => state51_i0 p a PP V L hp ha H h hl hh) st_nil
theorem marks34_0 (p : PR) (a : Int) (PP V L : Nat → Int) (hp : SHP p) (ha : 1 ≤ a ∧ a ≤ 10000) (H : Plan p a PP V L) (x0 x1 x2 x3 x5 x6 x7 x8 x9 x10 : AO) : SCall Tryz.prog 34 [.ptr 4 1 1 0 0, .ro 5 1 none (evR a), .int .i64 19723, .int .i64 19723] [x0, x1, x2, x3, engO p (.ptr 3 1 1 0 0) 0 .nilsl .nilsl, x5, x6, x7, x8, x9, x10] fun r h' => r = .ret (.ro 19 1 none (mkR (s1 p a PP))) ∧ h' = [x0, x1, x2, x3, engO p (.ptr 3 1 1 0 0) 0 .nilsl .nilsl, x5, x6, x7, x8, x9, x10] := by
  refine kept_of3 rfl (fun o ho => .inl rfl) ?_
  refine scall_of (cfgS_ok envZj_ok (SZj0_ok p a PP V L hp ha H) 11) Tryz.func34 (by kernel_rfl) rfl ?_
  generalize hK : Kept3 _ _ _ = K
  conv => whnf
  refine .inl ⟨[()], unroll_step fun k hk => ?_⟩
  conv => whnf
  subst hk
  conv => whnf
  refine .inl ⟨[(), ()], ?_⟩
  refine unroll_step fun k hk => ?_
  conv => whnf
  refine ⟨⟨by decide, by decide⟩, ?_⟩
  conv => whnf
  refine ⟨[], by kernel_rfl, ?_⟩
  conv => whnf
  refine ⟨fun _ h => absurd h (by decide), ?_⟩
  conv => whnf
  refine ⟨[(4, 13), (6, 13), (8, 13), (9, 13)], by kernel_rfl, ?_⟩
  conv => whnf
  refine ⟨⟨show (0 : Int) ≤ 1 ∧ (1 : Int) ≤ 1 by omega, trivial, rfl, rfl⟩, by kernel_rfl, ?_⟩
  conv => whnf
  refine ⟨rfl, ?_⟩
  conv => whnf
  refine ⟨[(4, 6)], by kernel_rfl, ?_⟩
  conv => whnf
  refine ⟨show 1 * 184 ≤ 140737488355328 by decide, by kernel_rfl, ?_⟩
  conv => whnf
  subst hk
  refine unroll_step fun k hk => ?_
  conv => whnf
  subst hk
  conv => whnf
  refine (state51_j0 p a PP V L hp ha H x0 x1 x2 x3 _ x5 x6 x7 x8 x9 x10 _ _ _).mono fun r h' ⟨e1, e2⟩ => ?_
  subst e1 e2
  conv => whnf
  refine ⟨rfl, ?_⟩
  conv => whnf
  refine ⟨⟨fun _ => ⟨by decide, by decide⟩, fun _ => show 0 + (IntKind.i64.wrap (((1 : Nat) : Int) - 1)).toNat < 1 by decide⟩, ?_⟩
  conv => whnf
  subst hK
  refine ⟨⟨_, rfl⟩, show 0 + 1 ≤ 1 by decide, ro_congr fun i hi => ?_⟩
  match i, hi with
  | 0, _ => rfl

def SZj1 (p : PR) (a : Int) (PP : Nat → Int) : SEnv := [(51, ⟨15, 12, false, sx [.ptr 12 1 1 0 0, .ro 5 1 none (evR a), .int .i64 19723, .int .i64 19723] (engO p .nilp 0 .nilsl .nilsl) (.tup [(s1 p a PP).av, .int .i64 0]) .free⟩)]
theorem SZj1_ok (p : PR) (a : Int) (PP V L : Nat → Int) (hp : SHP p) (ha : 1 ≤ a ∧ a ≤ 10000) (H : Plan p a PP V L) : SOK Tryz.prog (SZj1 p a PP) := sx_ok (by decide) (fun h hl hh => state51_i1 p a PP V L hp ha H h hl hh) st_nil
theorem marks34_1 (p : PR) (a : Int) (PP V L : Nat → Int) (hp : SHP p) (ha : 1 ≤ a ∧ a ≤ 10000) (H : Plan p a PP V L) (x0 x1 x2 x3 x4 x6 x7 x8 x9 x10 x11 : AO) : SCall Tryz.prog 34 [.ptr 5 1 1 0 0, .ro 5 1 none (evR a), .int .i64 19723, .int .i64 19723] [x0, x1, x2, x3, x4, engO p (.ptr 4 1 1 0 0) 0 .nilsl .nilsl, x6, x7, x8, x9, x10, x11] fun r h' => r = .ret (.ro 19 1 none (mkR (s1 p a PP))) ∧ h' = [x0, x1, x2, x3, x4, engO p (.ptr 4 1 1 0 0) 0 .nilsl .nilsl, x6, x7, x8, x9, x10, x11] := by
  refine kept_of3 rfl (fun o ho => .inl rfl) ?_
  refine scall_of (cfgS_ok envZj_ok (SZj1_ok p a PP V L hp ha H) 12) Tryz.func34 (by kernel_rfl) rfl ?_
  generalize hK : Kept3 _ _ _ = K
  conv => whnf
  refine .inl ⟨[()], unroll_step fun k hk => ?_⟩
  conv => whnf
  subst hk
  conv => whnf
  refine .inl ⟨[(), ()], ?_⟩
  refine unroll_step fun k hk => ?_
  conv => whnf
  refine ⟨⟨by decide, by decide⟩, ?_⟩
  conv => whnf
  refine ⟨[], by kernel_rfl, ?_⟩
  conv => whnf
  refine ⟨fun _ h => absurd h (by decide), ?_⟩
  conv => whnf
  refine ⟨[(4, 13), (6, 13), (8, 13), (9, 13)], by kernel_rfl, ?_⟩
  conv => whnf
  refine ⟨⟨show (0 : Int) ≤ 1 ∧ (1 : Int) ≤ 1 by omega, trivial, rfl, rfl⟩, by kernel_rfl, ?_⟩
  conv => whnf
  refine ⟨rfl, ?_⟩
  conv => whnf
  refine ⟨[(4, 6)], by kernel_rfl, ?_⟩
  conv => whnf
  refine ⟨show 1 * 184 ≤ 140737488355328 by decide, by kernel_rfl, ?_⟩
  conv => whnf
  subst hk
  refine unroll_step fun k hk => ?_
  conv => whnf
  subst hk
  conv => whnf
  refine (state51_j1 p a PP V L hp ha H x0 x1 x2 x3 x4 _ x6 x7 x8 x9 x10 x11 _ _ _).mono fun r h' ⟨e1, e2⟩ => ?_
  subst e1 e2
  conv => whnf
  refine ⟨rfl, ?_⟩
  conv => whnf
  refine ⟨⟨fun _ => ⟨by decide, by decide⟩, fun _ => show 0 + (IntKind.i64.wrap (((1 : Nat) : Int) - 1)).toNat < 1 by decide⟩, ?_⟩
  conv => whnf
  subst hK
  refine ⟨⟨_, rfl⟩, show 0 + 1 ≤ 1 by decide, ro_congr fun i hi => ?_⟩
  match i, hi with
  | 0, _ => rfl

end Go.Proofs.YtnnoplgabnfdiaaGreatDoor.Sh
/- The shadow machine over this program: an event is done: the parts. -/
namespace Go.Proofs.YtnnoplgabnfdiaaGreatDoor.Sh
open Go Go.RowKit
set_option linter.unusedVariables false
set_option linter.unusedSimpArgs false
set_option maxRecDepth 100000
set_option maxHeartbeats 4000000

theorem clip37_nil (h : List AO) : SCall Tryz.prog 37 [.nilsl] h fun r h' => r = .ret (.ro 0 0 (some 0) fun _ => []) ∧ h' = h := by
  refine scall_of (cfg_ok env_nil h.length) Tryz.func37 (by kernel_rfl) rfl ?_
  generalize hK : (fun (r : AR) (h' : List AO) => r = .ret (.ro 0 0 (some 0) fun _ => []) ∧ h' = h) = K
  conv => whnf
  subst hK
  exact ⟨rfl, rfl⟩
def SZk1 : SEnv := [(84, ⟨0, 0, false, sx [.nilsl] .free .nilsl .free⟩)]
theorem SZk1_ok : SOK Tryz.prog SZk1 := nx_ok clone84_nil st_nil
def envZk1 : Env := [(84, cloneQ 5 40)]
theorem envZk1_ok : EnvOK Tryz.prog envZk1 := env_cons clone84 env_nil
/-- No state. -/
def zst : List AV := [.int .i64 0, .bool false, .int .i64 0, .nilsl, .int .i64 0, .int .i64 0, .int .i64 0, .int .i64 0, .nilsl, .int .i64 0, .int .i64 0, .int .i64 0, .int .i64 0, .int .i64 0, .int .i64 0, .int .i64 0, .int .i64 0, .int .i64 0, .int .i64 0]

theorem fork31_0 (x0 x4 x5 x6 x7 : AO) : SCall Tryz.prog 31 [.ptr 3 1 1 0 0] [x0, .emap, .emap, .lit 1 [.nilsl, .mp 1, .mp 2, .int .i64 0], x4, x5, x6, x7] fun r h' => r = .ret (.ptr 10 1 1 0 0) ∧ h' = [x0, .emap, .emap, .lit 1 [.nilsl, .mp 1, .mp 2, .int .i64 0], x4, x5, x6, x7, .emap, .emap, .lit 1 [.nilsl, .mp 8, .mp 9, .int .i64 0]] := by
  refine scall_of (cfgS_ok env_nil SZk1_ok 8) Tryz.func31 (by kernel_rfl) rfl ?_
  generalize hK : (fun (r : AR) (h' : List AO) => r = .ret (.ptr 10 1 1 0 0) ∧ h' = _) = K
  conv => whnf
  refine ⟨[(9, 13), (9, 18), (14, 18), (3, 14), (3, 9)], by kernel_rfl, ?_⟩
  conv => whnf
  refine ⟨⟨rfl, rfl⟩, by kernel_rfl, ?_⟩
  conv => whnf
  subst hK
  exact ⟨rfl, rfl⟩

theorem len33_0 (x0 x4 x5 x6 x7 x8 x9 x10 : AO) : SCall Tryz.prog 33 [.ptr 3 1 1 0 0] [x0, .emap, .emap, .lit 1 [.nilsl, .mp 1, .mp 2, .int .i64 0], x4, x5, x6, x7, x8, x9, x10] fun r h' => r = .ret (.int .i64 0) ∧ h' = [x0, .emap, .emap, .lit 1 [.nilsl, .mp 1, .mp 2, .int .i64 0], x4, x5, x6, x7, x8, x9, x10] := by
  refine scall_of (cfg_ok env_nil 11) Tryz.func33 (by kernel_rfl) rfl ?_
  generalize hK : (fun (r : AR) (h' : List AO) => r = .ret (.int .i64 0) ∧ h' = _) = K
  conv => whnf
  refine scall_of (cfg_ok envZk1_ok 11) Tryz.func50 (by kernel_rfl) rfl ?_
  conv => whnf
  refine ⟨trivial, ?_⟩
  conv => whnf
  subst hK
  exact ⟨rfl, rfl⟩

theorem count35_0 (a : Int) (x0 x1 x2 x3 x4 x5 x6 x7 : AO) : SCall Tryz.prog 35 [.ptr 10 1 1 0 0] [x0, x1, x2, x3, x4, x5, x6, x7, .xmap, .emap, .lit 1 [.ro 5 1 none (evR a), .mp 8, .mp 9, .int .i64 1]] fun r h' => r = .ret (.ro 5 1 none (evR a)) ∧ h' = [x0, x1, x2, x3, x4, x5, x6, x7, .xmap, .emap, .lit 1 [.ro 5 1 none (evR a), .mp 8, .mp 9, .int .i64 1]] := by
  refine kept_of3 rfl (fun o ho => .inl rfl) ?_
  refine scall_of (cfg_ok env_nil 11) Tryz.func35 (by kernel_rfl) rfl ?_
  generalize hK : Kept3 _ _ _ = K
  conv => whnf
  refine scall_of (cfg_ok envZk1_ok 11) Tryz.func50 (by kernel_rfl) rfl ?_
  conv => whnf
  refine ⟨⟨rfl, by decide⟩, ?_⟩
  conv => whnf
  refine .inl ⟨[(), ()], ?_⟩
  refine unroll_step fun k hk => ?_
  conv => whnf
  refine ⟨⟨by decide, by decide⟩, ?_⟩
  conv => whnf
  refine ⟨[], by kernel_rfl, ?_⟩
  conv => whnf
  refine ⟨show 1 * 40 ≤ 140737488355328 by decide, ?_⟩
  conv => whnf
  subst hk
  refine unroll_step fun k hk => ?_
  conv => whnf
  subst hk
  conv => whnf
  subst hK
  refine ⟨⟨_, rfl⟩, show 0 + 1 ≤ 1 by decide, ro_congr fun i hi => ?_⟩
  match i, hi with
  | 0, _ => rfl

theorem now12z_0 (p : PR) (bk : AV) (x0 x1 x2 x3 x5 x6 x7 x8 x9 x10 : AO) : SCall Tryz.prog 12 [.ptr 4 1 1 0 0] [x0, x1, x2, x3, engO p (.ptr 3 1 1 0 0) 0 .nilsl .nilsl, x5, x6, x7, x8, x9, x10] fun r h' => r = .ret (.agg zst) ∧ h' = [x0, x1, x2, x3, engO p (.ptr 3 1 1 0 0) 0 .nilsl .nilsl, x5, x6, x7, x8, x9, x10] := by
  refine kept_of2 rfl (.inr (.inl rfl)) (fun o ho => .inl rfl) ?_
  refine scall_of (cfg_ok env_nil 11) Tryz.func12 (by kernel_rfl) rfl ?_
  generalize hK : Kept2 _ _ _ = K
  conv => whnf
  subst hK
  exact ⟨rfl, _, rfl⟩

theorem now12m_0 (p : PR) (a : Int) (PP : Nat → Int) (hp : SHP p) (h : List AO) (hl : h.length = 12) (hh : nth .free h 4 = engO p (.ptr 10 1 1 0 0) 19723 (.ro 19 1 none (mkR (s1 p a PP))) .nilsl) : SCall Tryz.prog 12 [.ptr 4 1 1 0 0] h fun r h' => r = .ret (s1 p a PP).av ∧ h' = h := by
  have hE := hp.sh
  refine kept_of3 rfl (fun o ho => .inl rfl) ?_
  match h, hl with
  | [x0, x1, x2, x3, x4, x5, x6, x7, x8, x9, x10, x11], _ =>
    have hh : x4 = engO p (.ptr 10 1 1 0 0) 19723 (.ro 19 1 none (mkR (s1 p a PP))) .nilsl := hh
    subst hh
    refine scall_of (cfg_ok envZb_ok 12) Tryz.func12 (by kernel_rfl) rfl ?_
    generalize hK : Kept3 _ _ _ = K
    conv => whnf
    refine ⟨[], by kernel_rfl, ?_⟩
    conv => whnf
    refine ⟨⟨⟨by decide, by decide⟩, ⟨rfl, rfl, rfl, rfl, rfl, rfl, rfl, rfl⟩, show p.tm.toNat ≤ 1000 by rcases hE with e | e <;> omega⟩, ?_⟩
    conv => whnf
    subst hK
    exact ⟨⟨_, rfl⟩, trivial, Wk.refl _⟩

theorem fork31_1 (x0 x1 x5 x6 x7 x8 : AO) : SCall Tryz.prog 31 [.ptr 4 1 1 0 0] [x0, x1, .emap, .emap, .lit 1 [.nilsl, .mp 2, .mp 3, .int .i64 0], x5, x6, x7, x8] fun r h' => r = .ret (.ptr 11 1 1 0 0) ∧ h' = [x0, x1, .emap, .emap, .lit 1 [.nilsl, .mp 2, .mp 3, .int .i64 0], x5, x6, x7, x8, .emap, .emap, .lit 1 [.nilsl, .mp 9, .mp 10, .int .i64 0]] := by
  refine scall_of (cfgS_ok env_nil SZk1_ok 9) Tryz.func31 (by kernel_rfl) rfl ?_
  generalize hK : (fun (r : AR) (h' : List AO) => r = .ret (.ptr 11 1 1 0 0) ∧ h' = _) = K
  conv => whnf
  refine ⟨[(9, 13), (9, 18), (14, 18), (3, 14), (3, 9)], by kernel_rfl, ?_⟩
  conv => whnf
  refine ⟨⟨rfl, rfl⟩, by kernel_rfl, ?_⟩
  conv => whnf
  subst hK
  exact ⟨rfl, rfl⟩

theorem len33_1 (x0 x1 x5 x6 x7 x8 x9 x10 x11 : AO) : SCall Tryz.prog 33 [.ptr 4 1 1 0 0] [x0, x1, .emap, .emap, .lit 1 [.nilsl, .mp 2, .mp 3, .int .i64 0], x5, x6, x7, x8, x9, x10, x11] fun r h' => r = .ret (.int .i64 0) ∧ h' = [x0, x1, .emap, .emap, .lit 1 [.nilsl, .mp 2, .mp 3, .int .i64 0], x5, x6, x7, x8, x9, x10, x11] := by
  refine scall_of (cfg_ok env_nil 12) Tryz.func33 (by kernel_rfl) rfl ?_
  generalize hK : (fun (r : AR) (h' : List AO) => r = .ret (.int .i64 0) ∧ h' = _) = K
  conv => whnf
  refine scall_of (cfg_ok envZk1_ok 12) Tryz.func50 (by kernel_rfl) rfl ?_
  conv => whnf
  refine ⟨trivial, ?_⟩
  conv => whnf
  subst hK
  exact ⟨rfl, rfl⟩

theorem count35_1 (a : Int) (x0 x1 x2 x3 x4 x5 x6 x7 x8 : AO) : SCall Tryz.prog 35 [.ptr 11 1 1 0 0] [x0, x1, x2, x3, x4, x5, x6, x7, x8, .xmap, .emap, .lit 1 [.ro 5 1 none (evR a), .mp 9, .mp 10, .int .i64 1]] fun r h' => r = .ret (.ro 5 1 none (evR a)) ∧ h' = [x0, x1, x2, x3, x4, x5, x6, x7, x8, .xmap, .emap, .lit 1 [.ro 5 1 none (evR a), .mp 9, .mp 10, .int .i64 1]] := by
  refine kept_of3 rfl (fun o ho => .inl rfl) ?_
  refine scall_of (cfg_ok env_nil 12) Tryz.func35 (by kernel_rfl) rfl ?_
  generalize hK : Kept3 _ _ _ = K
  conv => whnf
  refine scall_of (cfg_ok envZk1_ok 12) Tryz.func50 (by kernel_rfl) rfl ?_
  conv => whnf
  refine ⟨⟨rfl, by decide⟩, ?_⟩
  conv => whnf
  refine .inl ⟨[(), ()], ?_⟩
  refine unroll_step fun k hk => ?_
  conv => whnf
  refine ⟨⟨by decide, by decide⟩, ?_⟩
  conv => whnf
  refine ⟨[], by kernel_rfl, ?_⟩
  conv => whnf
  refine ⟨show 1 * 40 ≤ 140737488355328 by decide, ?_⟩
  conv => whnf
  subst hk
  refine unroll_step fun k hk => ?_
  conv => whnf
  subst hk
  conv => whnf
  subst hK
  refine ⟨⟨_, rfl⟩, show 0 + 1 ≤ 1 by decide, ro_congr fun i hi => ?_⟩
  match i, hi with
  | 0, _ => rfl

theorem now12z_1 (p : PR) (bk : AV) (x0 x1 x2 x3 x4 x6 x7 x8 x9 x10 x11 : AO) : SCall Tryz.prog 12 [.ptr 5 1 1 0 0] [x0, x1, x2, x3, x4, engO p (.ptr 4 1 1 0 0) 0 .nilsl .nilsl, x6, x7, x8, x9, x10, x11] fun r h' => r = .ret (.agg zst) ∧ h' = [x0, x1, x2, x3, x4, engO p (.ptr 4 1 1 0 0) 0 .nilsl .nilsl, x6, x7, x8, x9, x10, x11] := by
  refine kept_of2 rfl (.inr (.inl rfl)) (fun o ho => .inl rfl) ?_
  refine scall_of (cfg_ok env_nil 12) Tryz.func12 (by kernel_rfl) rfl ?_
  generalize hK : Kept2 _ _ _ = K
  conv => whnf
  subst hK
  exact ⟨rfl, _, rfl⟩

theorem now12m_1 (p : PR) (a : Int) (PP : Nat → Int) (hp : SHP p) (h : List AO) (hl : h.length = 13) (hh : nth .free h 5 = engO p (.ptr 11 1 1 0 0) 19723 (.ro 19 1 none (mkR (s1 p a PP))) .nilsl) : SCall Tryz.prog 12 [.ptr 5 1 1 0 0] h fun r h' => r = .ret (s1 p a PP).av ∧ h' = h := by
  have hE := hp.sh
  refine kept_of3 rfl (fun o ho => .inl rfl) ?_
  match h, hl with
  | [x0, x1, x2, x3, x4, x5, x6, x7, x8, x9, x10, x11, x12], _ =>
    have hh : x5 = engO p (.ptr 11 1 1 0 0) 19723 (.ro 19 1 none (mkR (s1 p a PP))) .nilsl := hh
    subst hh
    refine scall_of (cfg_ok envZb_ok 13) Tryz.func12 (by kernel_rfl) rfl ?_
    generalize hK : Kept3 _ _ _ = K
    conv => whnf
    refine ⟨[], by kernel_rfl, ?_⟩
    conv => whnf
    refine ⟨⟨⟨by decide, by decide⟩, ⟨rfl, rfl, rfl, rfl, rfl, rfl, rfl, rfl⟩, show p.tm.toNat ≤ 1000 by rcases hE with e | e <;> omega⟩, ?_⟩
    conv => whnf
    subst hK
    exact ⟨⟨_, rfl⟩, trivial, Wk.refl _⟩

end Go.Proofs.YtnnoplgabnfdiaaGreatDoor.Sh
/- The shadow machine over this program: an event is done. -/
namespace Go.Proofs.YtnnoplgabnfdiaaGreatDoor.Sh
open Go Go.RowKit
set_option linter.unusedVariables false
set_option linter.unusedSimpArgs false
set_option maxRecDepth 100000
set_option maxHeartbeats 4000000

def envZl (a : Int) : Env := [(28, mustIQ), (36, exQ [.agg m0.cells, .agg (m1 a).cells] (.tup [.ro 2 2 none (postRV a), .int .i64 0]))]
theorem envZl_ok (a : Int) (ha : 1 ≤ a ∧ a ≤ 10000) : EnvOK Tryz.prog (envZl a) := env_cons must28 (env_cons (exQ_of (between36 a ha)) env_nil)
/-- The batch of a loan that was paid out, in an engine. -/
def batA (a : Int) : Nat → List AV := fun _ => [.int .i64 1, .int .i64 19723, .ro 2 2 none (postRV a)]

def SZl0 (p : PR) (a : Int) (PP : Nat → Int) : SEnv := (12, ⟨12, 4, false, sx [.ptr 4 1 1 0 0] (engO p (.ptr 10 1 1 0 0) 19723 (.ro 19 1 none (mkR (s1 p a PP))) .nilsl) (s1 p a PP).av .free⟩) :: (37, ⟨0, 0, false, sx [.nilsl] .free (.ro 0 0 (some 0) fun _ => []) .free⟩) :: SD0 a
theorem SZl0_ok (p : PR) (a : Int) (PP V L : Nat → Int) (hp : SHP p) (ha : 1 ≤ a ∧ a ≤ 10000) (H : Plan p a PP V L) : SOK Tryz.prog (SZl0 p a PP) := sx_ok (by decide) (fun h hl hh => now12m_0 p a PP hp h hl hh) (nx_ok clip37_nil (SD0_ok a ha))
theorem do10_0 (p : PR) (a : Int) (PP V L : Nat → Int) (hp : SHP p) (ha : 1 ≤ a ∧ a ≤ 10000) (H : Plan p a PP V L) (x0 : AO) : SCall Tryz.prog 10 [.ptr 4 1 1 0 0, .agg (evA a)] [x0, .emap, .emap, .lit 1 [.nilsl, .mp 1, .mp 2, .int .i64 0], engO p (.ptr 3 1 1 0 0) 0 .nilsl .nilsl] fun r h' => r = .ret (.tup [.bool true, .cint .i64 0]) ∧ h' = [x0, .emap, .emap, .lit 1 [.nilsl, .mp 1, .mp 2, .int .i64 0], engO p (.ptr 10 1 1 0 0) 19723 (.ro 19 1 none (mkR (s1 p a PP))) (.sl 13 3 0 1 none), .dead, .dead, .dead, .xmap, .emap, .lit 1 [.ro 5 1 none (evR a), .mp 8, .mp 9, .int .i64 1], .dead, .dead, .rows 3 1 (batA a)] := by
  refine kept_of5 (by simp) rfl (fun o ho => ?_) ?_
  · match o, ho with
    | 0, _ => exact .inl ⟨by simp, rfl⟩
    | 1, _ | 2, _ | 3, _ | 4, _ | 5, _ | 6, _ | 7, _ | 8, _ | 9, _ | 10, _ | 11, _ | 12, _ | 13, _ => exact .inr rfl
    | n + 14, h => exact absurd h (by simp)
  refine scall_ofD (cfgS_ok (envZl_ok a ha) (SZl0_ok p a PP V L hp ha H) 5) Tryz.func10 (by kernel_rfl) rfl ?_
  generalize hK : Kept5 _ _ = K
  conv => whnf
  refine ⟨[], by kernel_rfl, ?_⟩
  conv => whnf
  refine ⟨⟨rfl, rfl, rfl, rfl⟩, ?_⟩
  conv => whnf
  refine ⟨rfl, ?_⟩
  conv => whnf
  refine (fork31_0 _ _ _ _ _).mono fun r h' ⟨e1, e2⟩ => ?_
  subst e1 e2
  conv => whnf
  refine (put32_8_0 a ha _ _ _ _ _ _ _ _).mono fun r h' ⟨e1, e2⟩ => ?_
  subst e1 e2
  conv => whnf
  refine (len33_0 _ _ _ _ _ _ _ _).mono fun r h' ⟨e1, e2⟩ => ?_
  subst e1 e2
  conv => whnf
  refine (count35_0 a _ _ _ _ _ _ _ _).mono fun r h' ⟨e1, e2⟩ => ?_
  subst e1 e2
  conv => whnf
  refine (marks34_0 p a PP V L hp ha H _ _ _ _ _ _ _ _ _ _).mono fun r h' ⟨e1, e2⟩ => ?_
  subst e1 e2
  conv => whnf
  refine (now12z_0 p .nilp _ _ _ _ _ _ _ _ _ _).mono fun r h' ⟨e1, e2⟩ => ?_
  subst e1 e2
  conv => whnf
  refine ⟨[], by kernel_rfl, ?_⟩
  conv => whnf
  refine ⟨⟨rfl, rfl, rfl⟩, ?_⟩
  conv => whnf
  refine ⟨[(4, 15), (5, 15)], by kernel_rfl, ?_⟩
  conv => whnf
  refine ⟨⟨rfl, rfl, show 1 * 40 ≤ 140737488355328 by decide⟩, by kernel_rfl, ?_⟩
  conv => whnf
  refine dcall_of (cfg_ok env_nil 0) Tryz.func26 (by kernel_rfl) ?_
  conv => whnf
  subst hK
  refine ⟨rfl, [_, _, _, _, _, _, _, _, _, _, _, _, _, _], _, rfl, heq_of ⟨.inr (OEq.refl _), .inr rfl, .inr rfl, .inr rfl, .inr rfl, .inl rfl, .inl rfl, .inl rfl, .inr rfl, .inr rfl, .inr rfl, .inl rfl, .inl rfl, .inr ⟨rfl, rfl, fun i hi => ?_⟩, trivial⟩⟩
  match i, hi with
  | 0, _ => rfl

def SZl1 (p : PR) (a : Int) (PP : Nat → Int) : SEnv := (12, ⟨13, 5, false, sx [.ptr 5 1 1 0 0] (engO p (.ptr 11 1 1 0 0) 19723 (.ro 19 1 none (mkR (s1 p a PP))) .nilsl) (s1 p a PP).av .free⟩) :: (37, ⟨0, 0, false, sx [.nilsl] .free (.ro 0 0 (some 0) fun _ => []) .free⟩) :: SD1 a
theorem SZl1_ok (p : PR) (a : Int) (PP V L : Nat → Int) (hp : SHP p) (ha : 1 ≤ a ∧ a ≤ 10000) (H : Plan p a PP V L) : SOK Tryz.prog (SZl1 p a PP) := sx_ok (by decide) (fun h hl hh => now12m_1 p a PP hp h hl hh) (nx_ok clip37_nil (SD1_ok a ha))
theorem do10_1 (p : PR) (a : Int) (PP V L : Nat → Int) (hp : SHP p) (ha : 1 ≤ a ∧ a ≤ 10000) (H : Plan p a PP V L) (x0 x1 : AO) : SCall Tryz.prog 10 [.ptr 5 1 1 0 0, .agg (evA a)] [x0, x1, .emap, .emap, .lit 1 [.nilsl, .mp 2, .mp 3, .int .i64 0], engO p (.ptr 4 1 1 0 0) 0 .nilsl .nilsl] fun r h' => r = .ret (.tup [.bool true, .cint .i64 0]) ∧ h' = [x0, x1, .emap, .emap, .lit 1 [.nilsl, .mp 2, .mp 3, .int .i64 0], engO p (.ptr 11 1 1 0 0) 19723 (.ro 19 1 none (mkR (s1 p a PP))) (.sl 14 3 0 1 none), .dead, .dead, .dead, .xmap, .emap, .lit 1 [.ro 5 1 none (evR a), .mp 9, .mp 10, .int .i64 1], .dead, .dead, .rows 3 1 (batA a)] := by
  refine kept_of5 (by simp) rfl (fun o ho => ?_) ?_
  · match o, ho with
    | 0, _ | 1, _ => exact .inl ⟨by simp, rfl⟩
    | 2, _ | 3, _ | 4, _ | 5, _ | 6, _ | 7, _ | 8, _ | 9, _ | 10, _ | 11, _ | 12, _ | 13, _ | 14, _ => exact .inr rfl
    | n + 15, h => exact absurd h (by simp)
  refine scall_ofD (cfgS_ok (envZl_ok a ha) (SZl1_ok p a PP V L hp ha H) 6) Tryz.func10 (by kernel_rfl) rfl ?_
  generalize hK : Kept5 _ _ = K
  conv => whnf
  refine ⟨[], by kernel_rfl, ?_⟩
  conv => whnf
  refine ⟨⟨rfl, rfl, rfl, rfl⟩, ?_⟩
  conv => whnf
  refine ⟨rfl, ?_⟩
  conv => whnf
  refine (fork31_1 _ _ _ _ _ _).mono fun r h' ⟨e1, e2⟩ => ?_
  subst e1 e2
  conv => whnf
  refine (put32_9_0 a ha _ _ _ _ _ _ _ _ _).mono fun r h' ⟨e1, e2⟩ => ?_
  subst e1 e2
  conv => whnf
  refine (len33_1 _ _ _ _ _ _ _ _ _).mono fun r h' ⟨e1, e2⟩ => ?_
  subst e1 e2
  conv => whnf
  refine (count35_1 a _ _ _ _ _ _ _ _ _).mono fun r h' ⟨e1, e2⟩ => ?_
  subst e1 e2
  conv => whnf
  refine (marks34_1 p a PP V L hp ha H _ _ _ _ _ _ _ _ _ _ _).mono fun r h' ⟨e1, e2⟩ => ?_
  subst e1 e2
  conv => whnf
  refine (now12z_1 p .nilp _ _ _ _ _ _ _ _ _ _ _).mono fun r h' ⟨e1, e2⟩ => ?_
  subst e1 e2
  conv => whnf
  refine ⟨[], by kernel_rfl, ?_⟩
  conv => whnf
  refine ⟨⟨rfl, rfl, rfl⟩, ?_⟩
  conv => whnf
  refine ⟨[(4, 15), (5, 15)], by kernel_rfl, ?_⟩
  conv => whnf
  refine ⟨⟨rfl, rfl, show 1 * 40 ≤ 140737488355328 by decide⟩, by kernel_rfl, ?_⟩
  conv => whnf
  refine dcall_of (cfg_ok env_nil 0) Tryz.func26 (by kernel_rfl) ?_
  conv => whnf
  subst hK
  refine ⟨rfl, [_, _, _, _, _, _, _, _, _, _, _, _, _, _, _], _, rfl, heq_of ⟨.inr (OEq.refl _), .inr (OEq.refl _), .inr rfl, .inr rfl, .inr rfl, .inr rfl, .inl rfl, .inl rfl, .inl rfl, .inr rfl, .inr rfl, .inr rfl, .inl rfl, .inl rfl, .inr ⟨rfl, rfl, fun i hi => ?_⟩, trivial⟩⟩
  match i, hi with
  | 0, _ => rfl

end Go.Proofs.YtnnoplgabnfdiaaGreatDoor.Sh
/- The shadow machine over this program: what there is at the end of a day. -/
namespace Go.Proofs.YtnnoplgabnfdiaaGreatDoor.Sh
open Go Go.RowKit
set_option linter.unusedVariables false
set_option linter.unusedSimpArgs false
set_option maxRecDepth 100000
set_option maxHeartbeats 4000000
theorem all159 : ∀ vs ob r, moQ (fun _ => .int .i64 0) vs = some (ob, r) → conj ob → SCall Tryz.prog 159 vs [] (Told r) := moQ_of fun m hm => by
  obtain ⟨P, A, d⟩ := m
  obtain ⟨hP, hA, hd⟩ := hm
  simp only at hP hA hd
  rcases noDue_or hd with ⟨r, rfl⟩ | ⟨r, rfl⟩
  all_goals
    refine scall_of (cfg_ok envP2_ok 0) Tryz.func159 (by kernel_rfl) rfl ?_
    generalize hK : Told _ = K
    conv => whnf
    refine ⟨⟨⟨rfl, rfl, rfl, rfl, rfl, rfl, rfl⟩, hP, hA, hd⟩, ?_⟩
    conv => whnf
    refine .inl ⟨[(), (), (), (), ()], ?_⟩
    refine unroll_step fun k hk => ?_
    conv => whnf
    refine scall_of (cfg_ok env_nil 2) Tryz.func143 (by kernel_rfl) rfl ?_
    conv => whnf
    subst hk
    refine unroll_step fun k hk => ?_
    conv => whnf
    refine scall_of (cfg_ok env_nil 3) Tryz.func143 (by kernel_rfl) rfl ?_
    conv => whnf
    subst hk
    refine unroll_step fun k hk => ?_
    conv => whnf
    refine scall_of (cfg_ok env_nil 4) Tryz.func143 (by kernel_rfl) rfl ?_
    conv => whnf
    subst hk
    refine unroll_step fun k hk => ?_
    conv => whnf
    refine scall_of (cfg_ok env_nil 5) Tryz.func143 (by kernel_rfl) rfl ?_
    conv => whnf
    subst hk
    refine unroll_step fun k hk => ?_
    conv => whnf
    subst hk
    conv => whnf
    subst hK
    exact told_of trivial rfl
def envM1 : Env := [(90, moQ rightR), (159, moQ (fun _ => .int .i64 0))]
theorem envM1_ok' : EnvOK Tryz.prog envM1 := env_cons right90 (env_cons all159 env_nil)
def emptyQ : QSpec := fun vs => match vs with
  | [v] => match moOf v with
    | some (q, m) => some ([q ∧ OKM m ∧ 1 ≤ m.P], .bool false)
    | none => none
  | _ => none
theorem empty129 : ∀ vs ob r, emptyQ vs = some (ob, r) → conj ob → SCall Tryz.prog 129 vs [] (Told r) := by
  intro vs ob q h hob
  unfold emptyQ at h
  split at h
  · split at h
    · rename_i v x q' m e
      simp only [Option.some.injEq, Prod.mk.injEq] at h
      obtain ⟨rfl, rfl⟩ := h
      obtain ⟨h1, hm, h3⟩ : q' ∧ OKM m ∧ 1 ≤ m.P := hob
      rw [moOf_av e h1]
      clear e h1
      obtain ⟨P, A, d⟩ := m
      obtain ⟨hP, hA, hd⟩ := hm
      simp only at hP hA hd h3
      rcases noDue_or hd with ⟨r, rfl⟩ | ⟨r, rfl⟩
      all_goals
        refine scall_of (cfg_ok envM1_ok' 0) Tryz.func129 (by kernel_rfl) rfl ?_
        generalize hK : Told _ = K
        conv => whnf
        refine ⟨⟨⟨⟨rfl, rfl, rfl, rfl, rfl, rfl, rfl⟩, hP, hA, hd⟩, fun _ => ⟨⟨rfl, rfl, rfl, rfl, rfl, rfl, rfl⟩, hP, hA, hd⟩⟩, ?_⟩
        conv => whnf
        subst hK
        refine told_of trivial ?_
        show AV.bool (bif (bif (bif true then (0 : Int) == 0 else false) then P == 0 else false) then A == 0 else false) = .bool false
        rw [show (P == 0) = false from by simp; omega]
        rfl
    · simp at h
  · simp at h
def envM2' : Env := [(129, emptyQ)]
theorem envM2_ok' : EnvOK Tryz.prog envM2' := env_cons empty129 env_nil
def closedQ : QSpec := sQ (fun s => s.op = true ∧ 1 ≤ s.P ∧ s.P ≤ 100000000000000 ∧ 0 ≤ s.A ∧ s.A ≤ 100000000000000) fun _ => .bool false
theorem closed83 : ∀ vs ob r, closedQ vs = some (ob, r) → conj ob → SCall Tryz.prog 83 vs [] (Told r) := sQ_of fun s hs => by
  obtain ⟨ho, h1, h2, h3, h4⟩ := hs
  refine scall_of (cfg_ok envM2_ok' 0) Tryz.func83 (by kernel_rfl) rfl ?_
  generalize hK : Told _ = K
  conv => whnf
  refine ⟨fun _ => ⟨⟨rfl, rfl, rfl, rfl, rfl, rfl, rfl⟩, ⟨show 0 ≤ s.P ∧ s.P ≤ _ by omega, ⟨h3, h4⟩, rfl⟩, h1⟩, ?_⟩
  conv => whnf
  subst hK
  refine told_of trivial ?_
  show AV.bool (bif s.op then false else false) = .bool false
  rw [ho]; rfl
theorem dueS (p : PR) (s : ST) (hp : SHP p) (ho : s.op = true) (hs : s.start = 19723) (hn : s.nx = 1) (hpn : 1 ≤ s.pn) (x0 x1 x2 x3 x5 x6 : AO) : SCall Tryz.prog 108 [.ptr 4 1 1 0 0, s.av, .int .i64 s.nx] [x0, x1, x2, x3, runL p false 0 .nilsl, x5, x6] fun r h' => r = .ret (.tup [.int .i64 (dueF p.ev), .bool true]) ∧ h' = [x0, x1, x2, x3, runL p true 19723 (.ro 1 p.tm.toNat none (dueRV p)), x5, x6] := by
  have hE := hp.sh
  refine kept_of2 rfl (.inl rfl) (fun o ho => ?_) ?_
  · match o, ho with
    | 0, _ | 1, _ | 2, _ | 3, _ | 5, _ | 6, _ => exact .inl rfl
    | 4, _ => exact .inr rfl
  refine scall_of (cfg_ok envR2_ok 7) Tryz.func108 (by kernel_rfl) rfl ?_
  generalize hK : Kept2 _ _ _ = K
  conv => whnf
  refine bf (by rw [ho]; rfl) ?_
  conv => whnf
  refine ⟨[], by kernel_rfl, ?_⟩
  conv => whnf
  refine ⟨[(3, 6)], by kernel_rfl, ?_⟩
  conv => whnf
  refine ⟨rfl, ?_⟩
  conv => whnf
  refine ⟨[], by kernel_rfl, ?_⟩
  conv => whnf
  refine ⟨⟨⟨rfl, rfl, rfl⟩, hp, hs⟩, ?_⟩
  conv => whnf
  refine bf (by rw [hn]; simp; omega) ?_
  conv => whnf
  rw [show IntKind.i64.wrap (s.nx - 1) = 0 from by rw [hn]; rfl]
  refine ⟨⟨by omega, show (0 : Int) < (p.tm.toNat : Int) from by omega⟩, ?_⟩
  conv => whnf
  subst hK
  refine ⟨?_, [.lit 1 s.cells], ?_⟩
  · show AR.ret (.tup [.int .i64 (dueF (p.ev * ((((0 : Int).toNat : Nat) : Int) + 1))), .bool true]) = _
    rw [show p.ev * ((((0 : Int).toNat : Nat) : Int) + 1) = p.ev from by simp]
  show [x0, x1, x2, x3, runL p true s.start (.ro 1 p.tm.toNat none (dueRV p)), x5, x6, .lit 1 s.cells] = _
  rw [hs]; rfl
/-- What there is. -/
def stmtA (p : PR) (s : ST) : List AV := [.int .i64 s.day, .bool true, .bool false, .int .i64 s.P, .int .i64 s.A, .int .i64 0, .int .i64 0, .int .i64 0, .int .i64 0, .int .i64 0, .ro 4 0 none s.dr, .int .i64 1, .int .i64 (dueF p.ev)]
def envM3' : Env := [(90, moQ rightR), (83, closedQ), (93, cloneQ 4 32), (107, owedQ)]
theorem envM3_ok' : EnvOK Tryz.prog envM3' := env_cons right90 (env_cons closed83 (env_cons clone93 (env_cons owed107 env_nil)))
theorem of53 (p : PR) (s : ST) (hp : SHP p) (ho : s.op = true) (hs : s.start = 19723) (hn : s.nx = 1) (hpn : 1 ≤ s.pn) (hP : 1 ≤ s.P ∧ s.P ≤ 100000000000000) (hA : 0 ≤ s.A ∧ s.A ≤ 100000000000000) : SCall Tryz.prog 53 [p.av, s.av] [] (Told (.tup [.agg (stmtA p s), .int .i64 0])) := by
  have hM : OKM ⟨s.P, s.A, .ro 4 0 none s.dr⟩ := ⟨show 0 ≤ s.P ∧ s.P ≤ _ by omega, hA, rfl⟩
  refine scall_of (cfg_ok envM3_ok' 0) Tryz.func53 (by kernel_rfl) rfl ?_
  generalize hK : Told _ = K
  conv => whnf
  refine (new106_3 _ _ _ p hp.ok).mono fun r h' ⟨e1, e2⟩ => ?_
  subst e1 e2
  conv => whnf
  refine ⟨⟨⟨rfl, rfl, rfl, rfl, rfl, rfl, rfl⟩, hM⟩, ?_⟩
  conv => whnf
  refine ⟨[(1, 20), (3, 20), (4, 20), (5, 20), (7, 20), (9, 20), (11, 20), (13, 20), (15, 20), (17, 20), (18, 20)], by kernel_rfl, ?_⟩
  conv => whnf
  refine ⟨⟨⟨⟨rfl, rfl, rfl, rfl, rfl, rfl, rfl, rfl⟩, ⟨ho, hP.1, hP.2, hA.1, hA.2⟩⟩, rfl, by decide⟩, by kernel_rfl, ?_⟩
  conv => whnf
  refine ⟨[], by kernel_rfl, ?_⟩
  conv => whnf
  refine ⟨⟨⟨⟨rfl, rfl, rfl, rfl, rfl, rfl, rfl⟩, hM, .inl rfl⟩, ⟨⟨rfl, rfl, rfl, rfl, rfl, rfl, rfl⟩, hM, .inr rfl⟩⟩, ?_⟩
  conv => whnf
  refine (dueS p s hp ho hs hn hpn _ _ _ _ _ _).mono fun r h' ⟨e1, e2⟩ => ?_
  subst e1 e2
  conv => whnf
  subst hK
  refine told_of trivial ?_
  show AV.tup [.agg [.int .i64 s.day, .bool s.op, .bool false, .int .i64 s.P, .int .i64 s.A, .int .i64 0, .int .i64 0, .int .i64 0, .int .i64 0, .int .i64 0, .ro 4 0 none s.dr, .int .i64 s.nx, .int .i64 (dueF p.ev)], .int .i64 0] = _
  rw [ho, hn]; rfl
end Go.Proofs.YtnnoplgabnfdiaaGreatDoor.Sh
/- The shadow machine over this program: what there is at the end of a day, by an engine. -/
namespace Go.Proofs.YtnnoplgabnfdiaaGreatDoor.Sh
open Go Go.RowKit
set_option linter.unusedVariables false
set_option linter.unusedSimpArgs false
set_option maxRecDepth 100000
set_option maxHeartbeats 4000000

theorem upto52 (a n : Int) (h : 19723 ≤ n) : SCall Tryz.prog 52 [.ro 5 1 none (evR a), .int .i64 n] [] (Told (.ro 5 1 none (evR a))) := by
  refine scall_of (cfg_ok env_nil 0) Tryz.func52 (by kernel_rfl) rfl ?_
  generalize hK : Told _ = K
  conv => whnf
  refine .inl ⟨[(), ()], ?_⟩
  refine unroll_step fun k hk => ?_
  conv => whnf
  refine ⟨fun _ => ⟨by decide, by decide⟩, ?_⟩
  conv => whnf
  refine bt (show (bif decide ((0 : Int) < ((1 : Nat) : Int)) then decide (19723 ≤ n) else false) = true by rw [decide_eq_true h]; rfl) ?_
  conv => whnf
  subst hk
  refine unroll_step fun k hk => ?_
  conv => whnf
  refine ⟨fun h => absurd h (by decide), ?_⟩
  conv => whnf
  subst hk
  conv => whnf
  refine ⟨⟨show (0 : Int) ≤ 1 ∧ (1 : Int) ≤ 1 by omega, trivial⟩, ?_⟩
  conv => whnf
  subst hK
  exact told_of trivial rfl
theorem all50A (p : PR) (a : Int) (PP : Nat → Int) (x0 x1 x2 x3 x4 x6 x7 x8 x9 x12 x13 x14 x15 : AO) : SCall Tryz.prog 50 [.ptr 11 1 1 0 0] [x0, x1, x2, x3, x4, engO p (.ptr 11 1 1 0 0) 19723 (.ro 19 1 none (mkR (s1 p a PP))) (.sl 14 3 0 1 none), x6, x7, x8, x9, .emap, .lit 1 [.ro 5 1 none (evR a), .mp 9, .mp 10, .int .i64 1], x12, x13, x14, x15] fun r h' => r = .ret (.ro 5 1 none (evR a)) ∧ h' = [x0, x1, x2, x3, x4, engO p (.ptr 11 1 1 0 0) 19723 (.ro 19 1 none (mkR (s1 p a PP))) (.sl 14 3 0 1 none), x6, x7, x8, x9, .emap, .lit 1 [.ro 5 1 none (evR a), .mp 9, .mp 10, .int .i64 1], x12, x13, x14, x15] := by
  refine scall_of (cfg_ok envZk1_ok 16) Tryz.func50 (by kernel_rfl) rfl ?_
  generalize hK : (fun (r : AR) (h' : List AO) => r = .ret (.ro 5 1 none (evR a)) ∧ h' = _) = K
  conv => whnf
  refine ⟨⟨rfl, by decide⟩, ?_⟩
  conv => whnf
  subst hK
  exact ⟨rfl, rfl⟩
theorem count35A (p : PR) (a : Int) (PP : Nat → Int) (x0 x1 x2 x3 x4 x6 x7 x8 x9 x12 x13 x14 x15 : AO) : SCall Tryz.prog 35 [.ptr 11 1 1 0 0] [x0, x1, x2, x3, x4, engO p (.ptr 11 1 1 0 0) 19723 (.ro 19 1 none (mkR (s1 p a PP))) (.sl 14 3 0 1 none), x6, x7, x8, x9, .emap, .lit 1 [.ro 5 1 none (evR a), .mp 9, .mp 10, .int .i64 1], x12, x13, x14, x15] fun r h' => r = .ret (.ro 5 1 none (evR a)) ∧ h' = [x0, x1, x2, x3, x4, engO p (.ptr 11 1 1 0 0) 19723 (.ro 19 1 none (mkR (s1 p a PP))) (.sl 14 3 0 1 none), x6, x7, x8, x9, .emap, .lit 1 [.ro 5 1 none (evR a), .mp 9, .mp 10, .int .i64 1], x12, x13, x14, x15] := by
  refine kept_of3 rfl (fun o ho => .inl rfl) ?_
  refine scall_of (cfg_ok env_nil 16) Tryz.func35 (by kernel_rfl) rfl ?_
  generalize hK : Kept3 _ _ _ = K
  conv => whnf
  refine (all50A p a PP x0 x1 x2 x3 x4 x6 x7 x8 x9 x12 x13 x14 x15).mono fun r h' ⟨e1, e2⟩ => ?_
  subst e1 e2
  conv => whnf
  refine .inl ⟨[(), ()], ?_⟩
  refine unroll_step fun k hk => ?_
  conv => whnf
  refine ⟨⟨by decide, by decide⟩, ?_⟩
  conv => whnf
  refine ⟨[], by kernel_rfl, ?_⟩
  conv => whnf
  refine ⟨show 1 * 40 ≤ 140737488355328 by decide, ?_⟩
  conv => whnf
  subst hk
  refine unroll_step fun k hk => ?_
  conv => whnf
  subst hk
  conv => whnf
  subst hK
  refine ⟨⟨_, rfl⟩, show 0 + 1 ≤ 1 by decide, ro_congr fun i hi => ?_⟩
  match i, hi with
  | 0, _ => rfl
def envZn1 (p : PR) (a n : Int) (PP : Nat → Int) (s : ST) : Env := [(104, exQ [p.av, (s1 p a PP).av, .ro 5 1 none (evR a), .int .i64 n] (.tup [s.av, .int .i64 0]))]
theorem state51A (p : PR) (a n : Int) (PP : Nat → Int) (s : ST) (hn : 19723 ≤ n ∧ n ≤ 84370) (HF : SCall Tryz.prog 104 [p.av, (s1 p a PP).av, .ro 5 1 none (evR a), .int .i64 n] [] (Told (.tup [s.av, .int .i64 0]))) (x0 x1 x2 x3 x4 x6 x7 x8 x9 x12 x13 x14 x15 : AO) : SCall Tryz.prog 51 [.ptr 5 1 1 0 0, .ro 5 1 none (evR a), .int .i64 (n + 1), .int .i64 n] [x0, x1, x2, x3, x4, engO p (.ptr 11 1 1 0 0) 19723 (.ro 19 1 none (mkR (s1 p a PP))) (.sl 14 3 0 1 none), x6, x7, x8, x9, .emap, .lit 1 [.ro 5 1 none (evR a), .mp 9, .mp 10, .int .i64 1], x12, x13, x14, x15] fun r h' => r = .ret (.tup [s.av, .int .i64 0]) ∧ h' = [x0, x1, x2, x3, x4, engO p (.ptr 11 1 1 0 0) 19723 (.ro 19 1 none (mkR (s1 p a PP))) (.sl 14 3 0 1 none), x6, x7, x8, x9, .emap, .lit 1 [.ro 5 1 none (evR a), .mp 9, .mp 10, .int .i64 1], x12, x13, x14, x15] := by
  have hw : IntKind.i64.wrap (n + 1) = n + 1 := w64 (by omega) (by omega)
  refine kept_of3 rfl (fun o ho => .inl rfl) ?_
  refine scall_of (cfg_ok (env_cons (exQ_of HF) env_nil) 16) Tryz.func51 (by kernel_rfl) rfl ?_
  generalize hK : Kept3 _ _ _ = K
  conv => whnf
  rw [hw]
  refine scall_of (cfg_ok env_nil 17) Tryz.func103 (by kernel_rfl) rfl ?_
  conv => whnf
  refine .inl ⟨[(), ()], ?_⟩
  refine unroll_step fun k hk => ?_
  conv => whnf
  refine ⟨⟨by decide, by decide⟩, ?_⟩
  conv => whnf
  refine bt (show decide (19723 < (if n + 1 < n + 1 then n + 1 else n + 1)) = true by rw [if_neg (by omega)]; exact decide_eq_true (by omega)) ?_
  conv => whnf
  subst hk
  refine unroll_step fun k hk => ?_
  conv => whnf
  subst hk
  conv => whnf
  refine ⟨[], by kernel_rfl, ?_⟩
  conv => whnf
  refine ⟨rfl, ?_⟩
  conv => whnf
  subst hK
  exact ⟨⟨_, rfl⟩, trivial, Wk.refl _⟩
def envZn (p : PR) (a n : Int) (s : ST) : Env := [(52, exQ [.ro 5 1 none (evR a), .int .i64 n] (.ro 5 1 none (evR a))), (53, exQ [p.av, s.av] (.tup [.agg (stmtA p s), .int .i64 0]))]
theorem envZn_ok (p : PR) (a n : Int) (s : ST) (hn : 19723 ≤ n) (hp : SHP p) (D : DOK p s) (hP : 1 ≤ s.P) : EnvOK Tryz.prog (envZn p a n s) := env_cons (exQ_of (upto52 a n hn)) (env_cons (exQ_of (of53 p s hp D.ho D.hs D.hn D.hpn ⟨hP, D.P.2⟩ D.A)) env_nil)
theorem at18 (p : PR) (a n : Int) (PP : Nat → Int) (s : ST) (hp : SHP p) (hn : 19723 ≤ n ∧ n ≤ 84370) (HF : SCall Tryz.prog 104 [p.av, (s1 p a PP).av, .ro 5 1 none (evR a), .int .i64 n] [] (Told (.tup [s.av, .int .i64 0]))) (D : DOK p s) (hP : 1 ≤ s.P) (x0 x1 x2 x3 x4 x6 x7 x8 x9 x12 x13 x14 : AO) : SCall Tryz.prog 18 [.ptr 5 1 1 0 0, .int .i64 n] [x0, x1, x2, x3, x4, engO p (.ptr 11 1 1 0 0) 19723 (.ro 19 1 none (mkR (s1 p a PP))) (.sl 14 3 0 1 none), x6, x7, x8, x9, .emap, .lit 1 [.ro 5 1 none (evR a), .mp 9, .mp 10, .int .i64 1], x12, x13, x14] fun r h' => r = .ret (.tup [.agg (stmtA p s), .int .i64 0]) ∧ h' = [x0, x1, x2, x3, x4, engO p (.ptr 11 1 1 0 0) 19723 (.ro 19 1 none (mkR (s1 p a PP))) (.sl 14 3 0 1 none), x6, x7, x8, x9, .emap, .lit 1 [.ro 5 1 none (evR a), .mp 9, .mp 10, .int .i64 1], x12, x13, x14] := by
  have hw : IntKind.i64.wrap (n + 1) = n + 1 := w64 (by omega) (by omega)
  refine kept_of3 rfl (fun o ho => .inl rfl) ?_
  refine scall_of (cfg_ok (envZn_ok p a n s hn.1 hp D hP) 15) Tryz.func18 (by kernel_rfl) rfl ?_
  generalize hK : Kept3 _ _ _ = K
  conv => whnf
  refine (all50A p a PP x0 x1 x2 x3 x4 x6 x7 x8 x9 x12 x13 x14 _).mono fun r h' ⟨e1, e2⟩ => ?_
  subst e1 e2
  conv => whnf
  refine ⟨⟨by decide, by decide⟩, ?_⟩
  conv => whnf
  refine bf (show (bif decide (n < 19723) then true else decide (n > 84370)) = false by rw [decide_eq_false (by omega), decide_eq_false (by omega)]; rfl) ?_
  conv => whnf
  refine (count35A p a PP x0 x1 x2 x3 x4 x6 x7 x8 x9 x12 x13 x14 _).mono fun r h' ⟨e1, e2⟩ => ?_
  subst e1 e2
  conv => whnf
  refine ⟨rfl, ?_⟩
  conv => whnf
  rw [hw]
  refine (state51A p a n PP s hn HF x0 x1 x2 x3 x4 x6 x7 x8 x9 x12 x13 x14 _).mono fun r h' ⟨e1, e2⟩ => ?_
  subst e1 e2
  conv => whnf
  refine ⟨[], by kernel_rfl, ?_⟩
  conv => whnf
  refine ⟨rfl, ?_⟩
  conv => whnf
  subst hK
  exact ⟨⟨_, rfl⟩, trivial, Wk.refl _⟩

end Go.Proofs.YtnnoplgabnfdiaaGreatDoor.Sh
/- The shadow machine over this program: the plan of a loan that is paid back at once. -/
namespace Go.Proofs.YtnnoplgabnfdiaaGreatDoor.Sh
open Go Go.RowKit
set_option linter.unusedVariables false
set_option linter.unusedSimpArgs false
set_option maxRecDepth 100000
set_option maxHeartbeats 4000000
theorem partB {p : PR} (hc : 1 ≤ p.ct ∧ p.ct ≤ 3) (he : p.ev = 12) : 0 ≤ partF p 0 ∧ partF p 0 ≤ 133590 := by
  unfold partF
  rw [he]
  have h : p.ct = 1 ∨ p.ct = 2 ∨ p.ct = 3 := by omega
  rcases h with h | h | h <;> rw [h] <;> decide
def ppB (a : Int) : Nat → Int := fun _ => a
def vB (p : PR) (a : Int) : Nat → Int := fun _ => bornV (wholeB p.ct) (halfB p.ct p.rd) 0 a p.rt (partF p 0)
def lB (a : Int) : Nat → Int := fun i => match i with | 0 => a | _ => 0
theorem planB (p : PR) (hp : SHP p) (hk : p.kd = 3) (he : p.ev = 12) (ht : p.tm = 1) (a : Int) (ha : 1 ≤ a ∧ a ≤ 10000) : Plan p a (ppB a) (vB p a) (lB a) := by
  refine of301_b p a hp hk ha (lB a) (fun i => match i with | 0 => 0 | _ => bornR (wholeB p.ct) (halfB p.ct p.rd) 0 a p.rt (partF p 0)) (ppB a) (vB p a) rfl rfl fun i hi x0 x3 => ?_
  have h0 : i = 0 := by rw [ht] at hi; have : i < 1 := hi; omega
  subst h0
  exact line310B x0 x3 p hp.ok hk ht a _ _ ha (partB hp.ok.ct he)
end Go.Proofs.YtnnoplgabnfdiaaGreatDoor.Sh
