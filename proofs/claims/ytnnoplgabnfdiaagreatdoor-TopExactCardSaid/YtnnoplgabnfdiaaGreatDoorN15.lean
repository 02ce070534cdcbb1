/- Part 15 of a proof over the shadow machine. -/
import Derived.Test.YtnnoplgabnfdiaaGreatDoorN13
/- The shadow machine over this program: months from 1 January 2024 on. -/
namespace Go.Proofs.YtnnoplgabnfdiaaGreatDoor.Sh
open Go Go.RowKit
set_option linter.unusedVariables false
set_option linter.unusedSimpArgs false
set_option maxRecDepth 100000
set_option maxHeartbeats 4000000
def envH1 : Env := (204, monthQ) :: envC2
theorem envH1_ok : EnvOK Tryz.prog envH1 := env_cons month204 envC2_ok
theorem add186_1 : SCall Tryz.prog 186 [.agg [.int .i64 19723], .int .i64 1] [] (Told (.tup [.int .i64 19754, .int .i64 0])) := by
  refine scall_of (cfg_ok envH1_ok 0) Tryz.func186 (by kernel_rfl) rfl ?_
  generalize hK : Told _ = K
  conv => whnf
  refine scall_of (cfg_ok envH1_ok 1) Tryz.func216 (by kernel_rfl) rfl ?_
  conv => whnf
  refine ⟨⟨by decide, by decide⟩, ?_⟩
  conv => whnf
  refine ⟨⟨by decide, show (12 : Int) ≠ 0 from by decide⟩, ?_⟩
  rw [show IntKind.i64.wrap (IntKind.i64.wrap (IntKind.i64.wrap (IntKind.i64.wrap (12 * yF 19723) + mF 19723) - 1) + 1) = 24289 from rfl, show IntKind.i64.wrap ((24289 : Int).tdiv 12) = 2024 from rfl, show IntKind.i64.wrap ((24289 : Int).tmod 12 + 1) = 2 from rfl]
  conv => whnf
  refine ⟨[], by kernel_rfl, ?_⟩
  conv => whnf
  refine ⟨⟨by decide, by decide⟩, ?_⟩
  rw [show (if monthF 2024 2 < dF 19723 then monthF 2024 2 else dF 19723) = 1 from rfl]
  conv => whnf
  refine scall_of (cfg_ok envH1_ok 3) Tryz.func258 (by kernel_rfl) rfl ?_
  conv => whnf
  refine ⟨[], by kernel_rfl, ?_⟩
  conv => whnf
  refine ⟨fun _ => ⟨by decide, by decide⟩, ?_⟩
  conv => whnf
  refine ⟨[], by kernel_rfl, ?_⟩
  conv => whnf
  refine ⟨⟨by decide, by decide⟩, ?_⟩
  rw [show IntKind.i64.wrap (IntKind.i64.wrap (opensF 2024 + 1) - 1) = 19723 from rfl]
  conv => whnf
  refine .inl ⟨[(), ()], ?_⟩
  refine unroll_step fun k hk => ?_
  conv => whnf
  refine ⟨⟨by decide, by decide⟩, ?_⟩
  rw [show IntKind.i64.wrap (19723 + monthF 2024 1) = 19754 from rfl]
  conv => whnf
  rw [show IntKind.i64.wrap (1 + 1) = 2 from rfl]
  subst hk
  refine unroll_step fun k hk => ?_
  conv => whnf
  subst hk
  conv => whnf
  subst hK
  exact told_of trivial rfl
theorem add186_2 : SCall Tryz.prog 186 [.agg [.int .i64 19723], .int .i64 2] [] (Told (.tup [.int .i64 19783, .int .i64 0])) := by
  refine scall_of (cfg_ok envH1_ok 0) Tryz.func186 (by kernel_rfl) rfl ?_
  generalize hK : Told _ = K
  conv => whnf
  refine scall_of (cfg_ok envH1_ok 1) Tryz.func216 (by kernel_rfl) rfl ?_
  conv => whnf
  refine ⟨⟨by decide, by decide⟩, ?_⟩
  conv => whnf
  refine ⟨⟨by decide, show (12 : Int) ≠ 0 from by decide⟩, ?_⟩
  rw [show IntKind.i64.wrap (IntKind.i64.wrap (IntKind.i64.wrap (IntKind.i64.wrap (12 * yF 19723) + mF 19723) - 1) + 2) = 24290 from rfl, show IntKind.i64.wrap ((24290 : Int).tdiv 12) = 2024 from rfl, show IntKind.i64.wrap ((24290 : Int).tmod 12 + 1) = 3 from rfl]
  conv => whnf
  refine ⟨[], by kernel_rfl, ?_⟩
  conv => whnf
  refine ⟨⟨by decide, by decide⟩, ?_⟩
  rw [show (if monthF 2024 3 < dF 19723 then monthF 2024 3 else dF 19723) = 1 from rfl]
  conv => whnf
  refine scall_of (cfg_ok envH1_ok 3) Tryz.func258 (by kernel_rfl) rfl ?_
  conv => whnf
  refine ⟨[], by kernel_rfl, ?_⟩
  conv => whnf
  refine ⟨fun _ => ⟨by decide, by decide⟩, ?_⟩
  conv => whnf
  refine ⟨[], by kernel_rfl, ?_⟩
  conv => whnf
  refine ⟨⟨by decide, by decide⟩, ?_⟩
  rw [show IntKind.i64.wrap (IntKind.i64.wrap (opensF 2024 + 1) - 1) = 19723 from rfl]
  conv => whnf
  refine .inl ⟨[(), (), ()], ?_⟩
  refine unroll_step fun k hk => ?_
  conv => whnf
  refine ⟨⟨by decide, by decide⟩, ?_⟩
  rw [show IntKind.i64.wrap (19723 + monthF 2024 1) = 19754 from rfl]
  conv => whnf
  rw [show IntKind.i64.wrap (1 + 1) = 2 from rfl]
  subst hk
  refine unroll_step fun k hk => ?_
  conv => whnf
  refine ⟨⟨by decide, by decide⟩, ?_⟩
  rw [show IntKind.i64.wrap (19754 + monthF 2024 2) = 19783 from rfl]
  conv => whnf
  rw [show IntKind.i64.wrap (2 + 1) = 3 from rfl]
  subst hk
  refine unroll_step fun k hk => ?_
  conv => whnf
  subst hk
  conv => whnf
  subst hK
  exact told_of trivial rfl
theorem add186_3 : SCall Tryz.prog 186 [.agg [.int .i64 19723], .int .i64 3] [] (Told (.tup [.int .i64 19814, .int .i64 0])) := by
  refine scall_of (cfg_ok envH1_ok 0) Tryz.func186 (by kernel_rfl) rfl ?_
  generalize hK : Told _ = K
  conv => whnf
  refine scall_of (cfg_ok envH1_ok 1) Tryz.func216 (by kernel_rfl) rfl ?_
  conv => whnf
  refine ⟨⟨by decide, by decide⟩, ?_⟩
  conv => whnf
  refine ⟨⟨by decide, show (12 : Int) ≠ 0 from by decide⟩, ?_⟩
  rw [show IntKind.i64.wrap (IntKind.i64.wrap (IntKind.i64.wrap (IntKind.i64.wrap (12 * yF 19723) + mF 19723) - 1) + 3) = 24291 from rfl, show IntKind.i64.wrap ((24291 : Int).tdiv 12) = 2024 from rfl, show IntKind.i64.wrap ((24291 : Int).tmod 12 + 1) = 4 from rfl]
  conv => whnf
  refine ⟨[], by kernel_rfl, ?_⟩
  conv => whnf
  refine ⟨⟨by decide, by decide⟩, ?_⟩
  rw [show (if monthF 2024 4 < dF 19723 then monthF 2024 4 else dF 19723) = 1 from rfl]
  conv => whnf
  refine scall_of (cfg_ok envH1_ok 3) Tryz.func258 (by kernel_rfl) rfl ?_
  conv => whnf
  refine ⟨[], by kernel_rfl, ?_⟩
  conv => whnf
  refine ⟨fun _ => ⟨by decide, by decide⟩, ?_⟩
  conv => whnf
  refine ⟨[], by kernel_rfl, ?_⟩
  conv => whnf
  refine ⟨⟨by decide, by decide⟩, ?_⟩
  rw [show IntKind.i64.wrap (IntKind.i64.wrap (opensF 2024 + 1) - 1) = 19723 from rfl]
  conv => whnf
  refine .inl ⟨[(), (), (), ()], ?_⟩
  refine unroll_step fun k hk => ?_
  conv => whnf
  refine ⟨⟨by decide, by decide⟩, ?_⟩
  rw [show IntKind.i64.wrap (19723 + monthF 2024 1) = 19754 from rfl]
  conv => whnf
  rw [show IntKind.i64.wrap (1 + 1) = 2 from rfl]
  subst hk
  refine unroll_step fun k hk => ?_
  conv => whnf
  refine ⟨⟨by decide, by decide⟩, ?_⟩
  rw [show IntKind.i64.wrap (19754 + monthF 2024 2) = 19783 from rfl]
  conv => whnf
  rw [show IntKind.i64.wrap (2 + 1) = 3 from rfl]
  subst hk
  refine unroll_step fun k hk => ?_
  conv => whnf
  refine ⟨⟨by decide, by decide⟩, ?_⟩
  rw [show IntKind.i64.wrap (19783 + monthF 2024 3) = 19814 from rfl]
  conv => whnf
  rw [show IntKind.i64.wrap (3 + 1) = 4 from rfl]
  subst hk
  refine unroll_step fun k hk => ?_
  conv => whnf
  subst hk
  conv => whnf
  subst hK
  exact told_of trivial rfl
theorem add186_4 : SCall Tryz.prog 186 [.agg [.int .i64 19723], .int .i64 4] [] (Told (.tup [.int .i64 19844, .int .i64 0])) := by
  refine scall_of (cfg_ok envH1_ok 0) Tryz.func186 (by kernel_rfl) rfl ?_
  generalize hK : Told _ = K
  conv => whnf
  refine scall_of (cfg_ok envH1_ok 1) Tryz.func216 (by kernel_rfl) rfl ?_
  conv => whnf
  refine ⟨⟨by decide, by decide⟩, ?_⟩
  conv => whnf
  refine ⟨⟨by decide, show (12 : Int) ≠ 0 from by decide⟩, ?_⟩
  rw [show IntKind.i64.wrap (IntKind.i64.wrap (IntKind.i64.wrap (IntKind.i64.wrap (12 * yF 19723) + mF 19723) - 1) + 4) = 24292 from rfl, show IntKind.i64.wrap ((24292 : Int).tdiv 12) = 2024 from rfl, show IntKind.i64.wrap ((24292 : Int).tmod 12 + 1) = 5 from rfl]
  conv => whnf
  refine ⟨[], by kernel_rfl, ?_⟩
  conv => whnf
  refine ⟨⟨by decide, by decide⟩, ?_⟩
  rw [show (if monthF 2024 5 < dF 19723 then monthF 2024 5 else dF 19723) = 1 from rfl]
  conv => whnf
  refine scall_of (cfg_ok envH1_ok 3) Tryz.func258 (by kernel_rfl) rfl ?_
  conv => whnf
  refine ⟨[], by kernel_rfl, ?_⟩
  conv => whnf
  refine ⟨fun _ => ⟨by decide, by decide⟩, ?_⟩
  conv => whnf
  refine ⟨[], by kernel_rfl, ?_⟩
  conv => whnf
  refine ⟨⟨by decide, by decide⟩, ?_⟩
  rw [show IntKind.i64.wrap (IntKind.i64.wrap (opensF 2024 + 1) - 1) = 19723 from rfl]
  conv => whnf
  refine .inl ⟨[(), (), (), (), ()], ?_⟩
  refine unroll_step fun k hk => ?_
  conv => whnf
  refine ⟨⟨by decide, by decide⟩, ?_⟩
  rw [show IntKind.i64.wrap (19723 + monthF 2024 1) = 19754 from rfl]
  conv => whnf
  rw [show IntKind.i64.wrap (1 + 1) = 2 from rfl]
  subst hk
  refine unroll_step fun k hk => ?_
  conv => whnf
  refine ⟨⟨by decide, by decide⟩, ?_⟩
  rw [show IntKind.i64.wrap (19754 + monthF 2024 2) = 19783 from rfl]
  conv => whnf
  rw [show IntKind.i64.wrap (2 + 1) = 3 from rfl]
  subst hk
  refine unroll_step fun k hk => ?_
  conv => whnf
  refine ⟨⟨by decide, by decide⟩, ?_⟩
  rw [show IntKind.i64.wrap (19783 + monthF 2024 3) = 19814 from rfl]
  conv => whnf
  rw [show IntKind.i64.wrap (3 + 1) = 4 from rfl]
  subst hk
  refine unroll_step fun k hk => ?_
  conv => whnf
  refine ⟨⟨by decide, by decide⟩, ?_⟩
  rw [show IntKind.i64.wrap (19814 + monthF 2024 4) = 19844 from rfl]
  conv => whnf
  rw [show IntKind.i64.wrap (4 + 1) = 5 from rfl]
  subst hk
  refine unroll_step fun k hk => ?_
  conv => whnf
  subst hk
  conv => whnf
  subst hK
  exact told_of trivial rfl
theorem add186_5 : SCall Tryz.prog 186 [.agg [.int .i64 19723], .int .i64 5] [] (Told (.tup [.int .i64 19875, .int .i64 0])) := by
  refine scall_of (cfg_ok envH1_ok 0) Tryz.func186 (by kernel_rfl) rfl ?_
  generalize hK : Told _ = K
  conv => whnf
  refine scall_of (cfg_ok envH1_ok 1) Tryz.func216 (by kernel_rfl) rfl ?_
  conv => whnf
  refine ⟨⟨by decide, by decide⟩, ?_⟩
  conv => whnf
  refine ⟨⟨by decide, show (12 : Int) ≠ 0 from by decide⟩, ?_⟩
  rw [show IntKind.i64.wrap (IntKind.i64.wrap (IntKind.i64.wrap (IntKind.i64.wrap (12 * yF 19723) + mF 19723) - 1) + 5) = 24293 from rfl, show IntKind.i64.wrap ((24293 : Int).tdiv 12) = 2024 from rfl, show IntKind.i64.wrap ((24293 : Int).tmod 12 + 1) = 6 from rfl]
  conv => whnf
  refine ⟨[], by kernel_rfl, ?_⟩
  conv => whnf
  refine ⟨⟨by decide, by decide⟩, ?_⟩
  rw [show (if monthF 2024 6 < dF 19723 then monthF 2024 6 else dF 19723) = 1 from rfl]
  conv => whnf
  refine scall_of (cfg_ok envH1_ok 3) Tryz.func258 (by kernel_rfl) rfl ?_
  conv => whnf
  refine ⟨[], by kernel_rfl, ?_⟩
  conv => whnf
  refine ⟨fun _ => ⟨by decide, by decide⟩, ?_⟩
  conv => whnf
  refine ⟨[], by kernel_rfl, ?_⟩
  conv => whnf
  refine ⟨⟨by decide, by decide⟩, ?_⟩
  rw [show IntKind.i64.wrap (IntKind.i64.wrap (opensF 2024 + 1) - 1) = 19723 from rfl]
  conv => whnf
  refine .inl ⟨[(), (), (), (), (), ()], ?_⟩
  refine unroll_step fun k hk => ?_
  conv => whnf
  refine ⟨⟨by decide, by decide⟩, ?_⟩
  rw [show IntKind.i64.wrap (19723 + monthF 2024 1) = 19754 from rfl]
  conv => whnf
  rw [show IntKind.i64.wrap (1 + 1) = 2 from rfl]
  subst hk
  refine unroll_step fun k hk => ?_
  conv => whnf
  refine ⟨⟨by decide, by decide⟩, ?_⟩
  rw [show IntKind.i64.wrap (19754 + monthF 2024 2) = 19783 from rfl]
  conv => whnf
  rw [show IntKind.i64.wrap (2 + 1) = 3 from rfl]
  subst hk
  refine unroll_step fun k hk => ?_
  conv => whnf
  refine ⟨⟨by decide, by decide⟩, ?_⟩
  rw [show IntKind.i64.wrap (19783 + monthF 2024 3) = 19814 from rfl]
  conv => whnf
  rw [show IntKind.i64.wrap (3 + 1) = 4 from rfl]
  subst hk
  refine unroll_step fun k hk => ?_
  conv => whnf
  refine ⟨⟨by decide, by decide⟩, ?_⟩
  rw [show IntKind.i64.wrap (19814 + monthF 2024 4) = 19844 from rfl]
  conv => whnf
  rw [show IntKind.i64.wrap (4 + 1) = 5 from rfl]
  subst hk
  refine unroll_step fun k hk => ?_
  conv => whnf
  refine ⟨⟨by decide, by decide⟩, ?_⟩
  rw [show IntKind.i64.wrap (19844 + monthF 2024 5) = 19875 from rfl]
  conv => whnf
  rw [show IntKind.i64.wrap (5 + 1) = 6 from rfl]
  subst hk
  refine unroll_step fun k hk => ?_
  conv => whnf
  subst hk
  conv => whnf
  subst hK
  exact told_of trivial rfl
theorem add186_6 : SCall Tryz.prog 186 [.agg [.int .i64 19723], .int .i64 6] [] (Told (.tup [.int .i64 19905, .int .i64 0])) := by
  refine scall_of (cfg_ok envH1_ok 0) Tryz.func186 (by kernel_rfl) rfl ?_
  generalize hK : Told _ = K
  conv => whnf
  refine scall_of (cfg_ok envH1_ok 1) Tryz.func216 (by kernel_rfl) rfl ?_
  conv => whnf
  refine ⟨⟨by decide, by decide⟩, ?_⟩
  conv => whnf
  refine ⟨⟨by decide, show (12 : Int) ≠ 0 from by decide⟩, ?_⟩
  rw [show IntKind.i64.wrap (IntKind.i64.wrap (IntKind.i64.wrap (IntKind.i64.wrap (12 * yF 19723) + mF 19723) - 1) + 6) = 24294 from rfl, show IntKind.i64.wrap ((24294 : Int).tdiv 12) = 2024 from rfl, show IntKind.i64.wrap ((24294 : Int).tmod 12 + 1) = 7 from rfl]
  conv => whnf
  refine ⟨[], by kernel_rfl, ?_⟩
  conv => whnf
  refine ⟨⟨by decide, by decide⟩, ?_⟩
  rw [show (if monthF 2024 7 < dF 19723 then monthF 2024 7 else dF 19723) = 1 from rfl]
  conv => whnf
  refine scall_of (cfg_ok envH1_ok 3) Tryz.func258 (by kernel_rfl) rfl ?_
  conv => whnf
  refine ⟨[], by kernel_rfl, ?_⟩
  conv => whnf
  refine ⟨fun _ => ⟨by decide, by decide⟩, ?_⟩
  conv => whnf
  refine ⟨[], by kernel_rfl, ?_⟩
  conv => whnf
  refine ⟨⟨by decide, by decide⟩, ?_⟩
  rw [show IntKind.i64.wrap (IntKind.i64.wrap (opensF 2024 + 1) - 1) = 19723 from rfl]
  conv => whnf
  refine .inl ⟨[(), (), (), (), (), (), ()], ?_⟩
  refine unroll_step fun k hk => ?_
  conv => whnf
  refine ⟨⟨by decide, by decide⟩, ?_⟩
  rw [show IntKind.i64.wrap (19723 + monthF 2024 1) = 19754 from rfl]
  conv => whnf
  rw [show IntKind.i64.wrap (1 + 1) = 2 from rfl]
  subst hk
  refine unroll_step fun k hk => ?_
  conv => whnf
  refine ⟨⟨by decide, by decide⟩, ?_⟩
  rw [show IntKind.i64.wrap (19754 + monthF 2024 2) = 19783 from rfl]
  conv => whnf
  rw [show IntKind.i64.wrap (2 + 1) = 3 from rfl]
  subst hk
  refine unroll_step fun k hk => ?_
  conv => whnf
  refine ⟨⟨by decide, by decide⟩, ?_⟩
  rw [show IntKind.i64.wrap (19783 + monthF 2024 3) = 19814 from rfl]
  conv => whnf
  rw [show IntKind.i64.wrap (3 + 1) = 4 from rfl]
  subst hk
  refine unroll_step fun k hk => ?_
  conv => whnf
  refine ⟨⟨by decide, by decide⟩, ?_⟩
  rw [show IntKind.i64.wrap (19814 + monthF 2024 4) = 19844 from rfl]
  conv => whnf
  rw [show IntKind.i64.wrap (4 + 1) = 5 from rfl]
  subst hk
  refine unroll_step fun k hk => ?_
  conv => whnf
  refine ⟨⟨by decide, by decide⟩, ?_⟩
  rw [show IntKind.i64.wrap (19844 + monthF 2024 5) = 19875 from rfl]
  conv => whnf
  rw [show IntKind.i64.wrap (5 + 1) = 6 from rfl]
  subst hk
  refine unroll_step fun k hk => ?_
  conv => whnf
  refine ⟨⟨by decide, by decide⟩, ?_⟩
  rw [show IntKind.i64.wrap (19875 + monthF 2024 6) = 19905 from rfl]
  conv => whnf
  rw [show IntKind.i64.wrap (6 + 1) = 7 from rfl]
  subst hk
  refine unroll_step fun k hk => ?_
  conv => whnf
  subst hk
  conv => whnf
  subst hK
  exact told_of trivial rfl
theorem add186_7 : SCall Tryz.prog 186 [.agg [.int .i64 19723], .int .i64 7] [] (Told (.tup [.int .i64 19936, .int .i64 0])) := by
  refine scall_of (cfg_ok envH1_ok 0) Tryz.func186 (by kernel_rfl) rfl ?_
  generalize hK : Told _ = K
  conv => whnf
  refine scall_of (cfg_ok envH1_ok 1) Tryz.func216 (by kernel_rfl) rfl ?_
  conv => whnf
  refine ⟨⟨by decide, by decide⟩, ?_⟩
  conv => whnf
  refine ⟨⟨by decide, show (12 : Int) ≠ 0 from by decide⟩, ?_⟩
  rw [show IntKind.i64.wrap (IntKind.i64.wrap (IntKind.i64.wrap (IntKind.i64.wrap (12 * yF 19723) + mF 19723) - 1) + 7) = 24295 from rfl, show IntKind.i64.wrap ((24295 : Int).tdiv 12) = 2024 from rfl, show IntKind.i64.wrap ((24295 : Int).tmod 12 + 1) = 8 from rfl]
  conv => whnf
  refine ⟨[], by kernel_rfl, ?_⟩
  conv => whnf
  refine ⟨⟨by decide, by decide⟩, ?_⟩
  rw [show (if monthF 2024 8 < dF 19723 then monthF 2024 8 else dF 19723) = 1 from rfl]
  conv => whnf
  refine scall_of (cfg_ok envH1_ok 3) Tryz.func258 (by kernel_rfl) rfl ?_
  conv => whnf
  refine ⟨[], by kernel_rfl, ?_⟩
  conv => whnf
  refine ⟨fun _ => ⟨by decide, by decide⟩, ?_⟩
  conv => whnf
  refine ⟨[], by kernel_rfl, ?_⟩
  conv => whnf
  refine ⟨⟨by decide, by decide⟩, ?_⟩
  rw [show IntKind.i64.wrap (IntKind.i64.wrap (opensF 2024 + 1) - 1) = 19723 from rfl]
  conv => whnf
  refine .inl ⟨[(), (), (), (), (), (), (), ()], ?_⟩
  refine unroll_step fun k hk => ?_
  conv => whnf
  refine ⟨⟨by decide, by decide⟩, ?_⟩
  rw [show IntKind.i64.wrap (19723 + monthF 2024 1) = 19754 from rfl]
  conv => whnf
  rw [show IntKind.i64.wrap (1 + 1) = 2 from rfl]
  subst hk
  refine unroll_step fun k hk => ?_
  conv => whnf
  refine ⟨⟨by decide, by decide⟩, ?_⟩
  rw [show IntKind.i64.wrap (19754 + monthF 2024 2) = 19783 from rfl]
  conv => whnf
  rw [show IntKind.i64.wrap (2 + 1) = 3 from rfl]
  subst hk
  refine unroll_step fun k hk => ?_
  conv => whnf
  refine ⟨⟨by decide, by decide⟩, ?_⟩
  rw [show IntKind.i64.wrap (19783 + monthF 2024 3) = 19814 from rfl]
  conv => whnf
  rw [show IntKind.i64.wrap (3 + 1) = 4 from rfl]
  subst hk
  refine unroll_step fun k hk => ?_
  conv => whnf
  refine ⟨⟨by decide, by decide⟩, ?_⟩
  rw [show IntKind.i64.wrap (19814 + monthF 2024 4) = 19844 from rfl]
  conv => whnf
  rw [show IntKind.i64.wrap (4 + 1) = 5 from rfl]
  subst hk
  refine unroll_step fun k hk => ?_
  conv => whnf
  refine ⟨⟨by decide, by decide⟩, ?_⟩
  rw [show IntKind.i64.wrap (19844 + monthF 2024 5) = 19875 from rfl]
  conv => whnf
  rw [show IntKind.i64.wrap (5 + 1) = 6 from rfl]
  subst hk
  refine unroll_step fun k hk => ?_
  conv => whnf
  refine ⟨⟨by decide, by decide⟩, ?_⟩
  rw [show IntKind.i64.wrap (19875 + monthF 2024 6) = 19905 from rfl]
  conv => whnf
  rw [show IntKind.i64.wrap (6 + 1) = 7 from rfl]
  subst hk
  refine unroll_step fun k hk => ?_
  conv => whnf
  refine ⟨⟨by decide, by decide⟩, ?_⟩
  rw [show IntKind.i64.wrap (19905 + monthF 2024 7) = 19936 from rfl]
  conv => whnf
  rw [show IntKind.i64.wrap (7 + 1) = 8 from rfl]
  subst hk
  refine unroll_step fun k hk => ?_
  conv => whnf
  subst hk
  conv => whnf
  subst hK
  exact told_of trivial rfl
theorem add186_8 : SCall Tryz.prog 186 [.agg [.int .i64 19723], .int .i64 8] [] (Told (.tup [.int .i64 19967, .int .i64 0])) := by
  refine scall_of (cfg_ok envH1_ok 0) Tryz.func186 (by kernel_rfl) rfl ?_
  generalize hK : Told _ = K
  conv => whnf
  refine scall_of (cfg_ok envH1_ok 1) Tryz.func216 (by kernel_rfl) rfl ?_
  conv => whnf
  refine ⟨⟨by decide, by decide⟩, ?_⟩
  conv => whnf
  refine ⟨⟨by decide, show (12 : Int) ≠ 0 from by decide⟩, ?_⟩
  rw [show IntKind.i64.wrap (IntKind.i64.wrap (IntKind.i64.wrap (IntKind.i64.wrap (12 * yF 19723) + mF 19723) - 1) + 8) = 24296 from rfl, show IntKind.i64.wrap ((24296 : Int).tdiv 12) = 2024 from rfl, show IntKind.i64.wrap ((24296 : Int).tmod 12 + 1) = 9 from rfl]
  conv => whnf
  refine ⟨[], by kernel_rfl, ?_⟩
  conv => whnf
  refine ⟨⟨by decide, by decide⟩, ?_⟩
  rw [show (if monthF 2024 9 < dF 19723 then monthF 2024 9 else dF 19723) = 1 from rfl]
  conv => whnf
  refine scall_of (cfg_ok envH1_ok 3) Tryz.func258 (by kernel_rfl) rfl ?_
  conv => whnf
  refine ⟨[], by kernel_rfl, ?_⟩
  conv => whnf
  refine ⟨fun _ => ⟨by decide, by decide⟩, ?_⟩
  conv => whnf
  refine ⟨[], by kernel_rfl, ?_⟩
  conv => whnf
  refine ⟨⟨by decide, by decide⟩, ?_⟩
  rw [show IntKind.i64.wrap (IntKind.i64.wrap (opensF 2024 + 1) - 1) = 19723 from rfl]
  conv => whnf
  refine .inl ⟨[(), (), (), (), (), (), (), (), ()], ?_⟩
  refine unroll_step fun k hk => ?_
  conv => whnf
  refine ⟨⟨by decide, by decide⟩, ?_⟩
  rw [show IntKind.i64.wrap (19723 + monthF 2024 1) = 19754 from rfl]
  conv => whnf
  rw [show IntKind.i64.wrap (1 + 1) = 2 from rfl]
  subst hk
  refine unroll_step fun k hk => ?_
  conv => whnf
  refine ⟨⟨by decide, by decide⟩, ?_⟩
  rw [show IntKind.i64.wrap (19754 + monthF 2024 2) = 19783 from rfl]
  conv => whnf
  rw [show IntKind.i64.wrap (2 + 1) = 3 from rfl]
  subst hk
  refine unroll_step fun k hk => ?_
  conv => whnf
  refine ⟨⟨by decide, by decide⟩, ?_⟩
  rw [show IntKind.i64.wrap (19783 + monthF 2024 3) = 19814 from rfl]
  conv => whnf
  rw [show IntKind.i64.wrap (3 + 1) = 4 from rfl]
  subst hk
  refine unroll_step fun k hk => ?_
  conv => whnf
  refine ⟨⟨by decide, by decide⟩, ?_⟩
  rw [show IntKind.i64.wrap (19814 + monthF 2024 4) = 19844 from rfl]
  conv => whnf
  rw [show IntKind.i64.wrap (4 + 1) = 5 from rfl]
  subst hk
  refine unroll_step fun k hk => ?_
  conv => whnf
  refine ⟨⟨by decide, by decide⟩, ?_⟩
  rw [show IntKind.i64.wrap (19844 + monthF 2024 5) = 19875 from rfl]
  conv => whnf
  rw [show IntKind.i64.wrap (5 + 1) = 6 from rfl]
  subst hk
  refine unroll_step fun k hk => ?_
  conv => whnf
  refine ⟨⟨by decide, by decide⟩, ?_⟩
  rw [show IntKind.i64.wrap (19875 + monthF 2024 6) = 19905 from rfl]
  conv => whnf
  rw [show IntKind.i64.wrap (6 + 1) = 7 from rfl]
  subst hk
  refine unroll_step fun k hk => ?_
  conv => whnf
  refine ⟨⟨by decide, by decide⟩, ?_⟩
  rw [show IntKind.i64.wrap (19905 + monthF 2024 7) = 19936 from rfl]
  conv => whnf
  rw [show IntKind.i64.wrap (7 + 1) = 8 from rfl]
  subst hk
  refine unroll_step fun k hk => ?_
  conv => whnf
  refine ⟨⟨by decide, by decide⟩, ?_⟩
  rw [show IntKind.i64.wrap (19936 + monthF 2024 8) = 19967 from rfl]
  conv => whnf
  rw [show IntKind.i64.wrap (8 + 1) = 9 from rfl]
  subst hk
  refine unroll_step fun k hk => ?_
  conv => whnf
  subst hk
  conv => whnf
  subst hK
  exact told_of trivial rfl
theorem add186_9 : SCall Tryz.prog 186 [.agg [.int .i64 19723], .int .i64 9] [] (Told (.tup [.int .i64 19997, .int .i64 0])) := by
  refine scall_of (cfg_ok envH1_ok 0) Tryz.func186 (by kernel_rfl) rfl ?_
  generalize hK : Told _ = K
  conv => whnf
  refine scall_of (cfg_ok envH1_ok 1) Tryz.func216 (by kernel_rfl) rfl ?_
  conv => whnf
  refine ⟨⟨by decide, by decide⟩, ?_⟩
  conv => whnf
  refine ⟨⟨by decide, show (12 : Int) ≠ 0 from by decide⟩, ?_⟩
  rw [show IntKind.i64.wrap (IntKind.i64.wrap (IntKind.i64.wrap (IntKind.i64.wrap (12 * yF 19723) + mF 19723) - 1) + 9) = 24297 from rfl, show IntKind.i64.wrap ((24297 : Int).tdiv 12) = 2024 from rfl, show IntKind.i64.wrap ((24297 : Int).tmod 12 + 1) = 10 from rfl]
  conv => whnf
  refine ⟨[], by kernel_rfl, ?_⟩
  conv => whnf
  refine ⟨⟨by decide, by decide⟩, ?_⟩
  rw [show (if monthF 2024 10 < dF 19723 then monthF 2024 10 else dF 19723) = 1 from rfl]
  conv => whnf
  refine scall_of (cfg_ok envH1_ok 3) Tryz.func258 (by kernel_rfl) rfl ?_
  conv => whnf
  refine ⟨[], by kernel_rfl, ?_⟩
  conv => whnf
  refine ⟨fun _ => ⟨by decide, by decide⟩, ?_⟩
  conv => whnf
  refine ⟨[], by kernel_rfl, ?_⟩
  conv => whnf
  refine ⟨⟨by decide, by decide⟩, ?_⟩
  rw [show IntKind.i64.wrap (IntKind.i64.wrap (opensF 2024 + 1) - 1) = 19723 from rfl]
  conv => whnf
  refine .inl ⟨[(), (), (), (), (), (), (), (), (), ()], ?_⟩
  refine unroll_step fun k hk => ?_
  conv => whnf
  refine ⟨⟨by decide, by decide⟩, ?_⟩
  rw [show IntKind.i64.wrap (19723 + monthF 2024 1) = 19754 from rfl]
  conv => whnf
  rw [show IntKind.i64.wrap (1 + 1) = 2 from rfl]
  subst hk
  refine unroll_step fun k hk => ?_
  conv => whnf
  refine ⟨⟨by decide, by decide⟩, ?_⟩
  rw [show IntKind.i64.wrap (19754 + monthF 2024 2) = 19783 from rfl]
  conv => whnf
  rw [show IntKind.i64.wrap (2 + 1) = 3 from rfl]
  subst hk
  refine unroll_step fun k hk => ?_
  conv => whnf
  refine ⟨⟨by decide, by decide⟩, ?_⟩
  rw [show IntKind.i64.wrap (19783 + monthF 2024 3) = 19814 from rfl]
  conv => whnf
  rw [show IntKind.i64.wrap (3 + 1) = 4 from rfl]
  subst hk
  refine unroll_step fun k hk => ?_
  conv => whnf
  refine ⟨⟨by decide, by decide⟩, ?_⟩
  rw [show IntKind.i64.wrap (19814 + monthF 2024 4) = 19844 from rfl]
  conv => whnf
  rw [show IntKind.i64.wrap (4 + 1) = 5 from rfl]
  subst hk
  refine unroll_step fun k hk => ?_
  conv => whnf
  refine ⟨⟨by decide, by decide⟩, ?_⟩
  rw [show IntKind.i64.wrap (19844 + monthF 2024 5) = 19875 from rfl]
  conv => whnf
  rw [show IntKind.i64.wrap (5 + 1) = 6 from rfl]
  subst hk
  refine unroll_step fun k hk => ?_
  conv => whnf
  refine ⟨⟨by decide, by decide⟩, ?_⟩
  rw [show IntKind.i64.wrap (19875 + monthF 2024 6) = 19905 from rfl]
  conv => whnf
  rw [show IntKind.i64.wrap (6 + 1) = 7 from rfl]
  subst hk
  refine unroll_step fun k hk => ?_
  conv => whnf
  refine ⟨⟨by decide, by decide⟩, ?_⟩
  rw [show IntKind.i64.wrap (19905 + monthF 2024 7) = 19936 from rfl]
  conv => whnf
  rw [show IntKind.i64.wrap (7 + 1) = 8 from rfl]
  subst hk
  refine unroll_step fun k hk => ?_
  conv => whnf
  refine ⟨⟨by decide, by decide⟩, ?_⟩
  rw [show IntKind.i64.wrap (19936 + monthF 2024 8) = 19967 from rfl]
  conv => whnf
  rw [show IntKind.i64.wrap (8 + 1) = 9 from rfl]
  subst hk
  refine unroll_step fun k hk => ?_
  conv => whnf
  refine ⟨⟨by decide, by decide⟩, ?_⟩
  rw [show IntKind.i64.wrap (19967 + monthF 2024 9) = 19997 from rfl]
  conv => whnf
  rw [show IntKind.i64.wrap (9 + 1) = 10 from rfl]
  subst hk
  refine unroll_step fun k hk => ?_
  conv => whnf
  subst hk
  conv => whnf
  subst hK
  exact told_of trivial rfl
theorem add186_10 : SCall Tryz.prog 186 [.agg [.int .i64 19723], .int .i64 10] [] (Told (.tup [.int .i64 20028, .int .i64 0])) := by
  refine scall_of (cfg_ok envH1_ok 0) Tryz.func186 (by kernel_rfl) rfl ?_
  generalize hK : Told _ = K
  conv => whnf
  refine scall_of (cfg_ok envH1_ok 1) Tryz.func216 (by kernel_rfl) rfl ?_
  conv => whnf
  refine ⟨⟨by decide, by decide⟩, ?_⟩
  conv => whnf
  refine ⟨⟨by decide, show (12 : Int) ≠ 0 from by decide⟩, ?_⟩
  rw [show IntKind.i64.wrap (IntKind.i64.wrap (IntKind.i64.wrap (IntKind.i64.wrap (12 * yF 19723) + mF 19723) - 1) + 10) = 24298 from rfl, show IntKind.i64.wrap ((24298 : Int).tdiv 12) = 2024 from rfl, show IntKind.i64.wrap ((24298 : Int).tmod 12 + 1) = 11 from rfl]
  conv => whnf
  refine ⟨[], by kernel_rfl, ?_⟩
  conv => whnf
  refine ⟨⟨by decide, by decide⟩, ?_⟩
  rw [show (if monthF 2024 11 < dF 19723 then monthF 2024 11 else dF 19723) = 1 from rfl]
  conv => whnf
  refine scall_of (cfg_ok envH1_ok 3) Tryz.func258 (by kernel_rfl) rfl ?_
  conv => whnf
  refine ⟨[], by kernel_rfl, ?_⟩
  conv => whnf
  refine ⟨fun _ => ⟨by decide, by decide⟩, ?_⟩
  conv => whnf
  refine ⟨[], by kernel_rfl, ?_⟩
  conv => whnf
  refine ⟨⟨by decide, by decide⟩, ?_⟩
  rw [show IntKind.i64.wrap (IntKind.i64.wrap (opensF 2024 + 1) - 1) = 19723 from rfl]
  conv => whnf
  refine .inl ⟨[(), (), (), (), (), (), (), (), (), (), ()], ?_⟩
  refine unroll_step fun k hk => ?_
  conv => whnf
  refine ⟨⟨by decide, by decide⟩, ?_⟩
  rw [show IntKind.i64.wrap (19723 + monthF 2024 1) = 19754 from rfl]
  conv => whnf
  rw [show IntKind.i64.wrap (1 + 1) = 2 from rfl]
  subst hk
  refine unroll_step fun k hk => ?_
  conv => whnf
  refine ⟨⟨by decide, by decide⟩, ?_⟩
  rw [show IntKind.i64.wrap (19754 + monthF 2024 2) = 19783 from rfl]
  conv => whnf
  rw [show IntKind.i64.wrap (2 + 1) = 3 from rfl]
  subst hk
  refine unroll_step fun k hk => ?_
  conv => whnf
  refine ⟨⟨by decide, by decide⟩, ?_⟩
  rw [show IntKind.i64.wrap (19783 + monthF 2024 3) = 19814 from rfl]
  conv => whnf
  rw [show IntKind.i64.wrap (3 + 1) = 4 from rfl]
  subst hk
  refine unroll_step fun k hk => ?_
  conv => whnf
  refine ⟨⟨by decide, by decide⟩, ?_⟩
  rw [show IntKind.i64.wrap (19814 + monthF 2024 4) = 19844 from rfl]
  conv => whnf
  rw [show IntKind.i64.wrap (4 + 1) = 5 from rfl]
  subst hk
  refine unroll_step fun k hk => ?_
  conv => whnf
  refine ⟨⟨by decide, by decide⟩, ?_⟩
  rw [show IntKind.i64.wrap (19844 + monthF 2024 5) = 19875 from rfl]
  conv => whnf
  rw [show IntKind.i64.wrap (5 + 1) = 6 from rfl]
  subst hk
  refine unroll_step fun k hk => ?_
  conv => whnf
  refine ⟨⟨by decide, by decide⟩, ?_⟩
  rw [show IntKind.i64.wrap (19875 + monthF 2024 6) = 19905 from rfl]
  conv => whnf
  rw [show IntKind.i64.wrap (6 + 1) = 7 from rfl]
  subst hk
  refine unroll_step fun k hk => ?_
  conv => whnf
  refine ⟨⟨by decide, by decide⟩, ?_⟩
  rw [show IntKind.i64.wrap (19905 + monthF 2024 7) = 19936 from rfl]
  conv => whnf
  rw [show IntKind.i64.wrap (7 + 1) = 8 from rfl]
  subst hk
  refine unroll_step fun k hk => ?_
  conv => whnf
  refine ⟨⟨by decide, by decide⟩, ?_⟩
  rw [show IntKind.i64.wrap (19936 + monthF 2024 8) = 19967 from rfl]
  conv => whnf
  rw [show IntKind.i64.wrap (8 + 1) = 9 from rfl]
  subst hk
  refine unroll_step fun k hk => ?_
  conv => whnf
  refine ⟨⟨by decide, by decide⟩, ?_⟩
  rw [show IntKind.i64.wrap (19967 + monthF 2024 9) = 19997 from rfl]
  conv => whnf
  rw [show IntKind.i64.wrap (9 + 1) = 10 from rfl]
  subst hk
  refine unroll_step fun k hk => ?_
  conv => whnf
  refine ⟨⟨by decide, by decide⟩, ?_⟩
  rw [show IntKind.i64.wrap (19997 + monthF 2024 10) = 20028 from rfl]
  conv => whnf
  rw [show IntKind.i64.wrap (10 + 1) = 11 from rfl]
  subst hk
  refine unroll_step fun k hk => ?_
  conv => whnf
  subst hk
  conv => whnf
  subst hK
  exact told_of trivial rfl
theorem add186_11 : SCall Tryz.prog 186 [.agg [.int .i64 19723], .int .i64 11] [] (Told (.tup [.int .i64 20058, .int .i64 0])) := by
  refine scall_of (cfg_ok envH1_ok 0) Tryz.func186 (by kernel_rfl) rfl ?_
  generalize hK : Told _ = K
  conv => whnf
  refine scall_of (cfg_ok envH1_ok 1) Tryz.func216 (by kernel_rfl) rfl ?_
  conv => whnf
  refine ⟨⟨by decide, by decide⟩, ?_⟩
  conv => whnf
  refine ⟨⟨by decide, show (12 : Int) ≠ 0 from by decide⟩, ?_⟩
  rw [show IntKind.i64.wrap (IntKind.i64.wrap (IntKind.i64.wrap (IntKind.i64.wrap (12 * yF 19723) + mF 19723) - 1) + 11) = 24299 from rfl, show IntKind.i64.wrap ((24299 : Int).tdiv 12) = 2024 from rfl, show IntKind.i64.wrap ((24299 : Int).tmod 12 + 1) = 12 from rfl]
  conv => whnf
  refine ⟨[], by kernel_rfl, ?_⟩
  conv => whnf
  refine ⟨⟨by decide, by decide⟩, ?_⟩
  rw [show (if monthF 2024 12 < dF 19723 then monthF 2024 12 else dF 19723) = 1 from rfl]
  conv => whnf
  refine scall_of (cfg_ok envH1_ok 3) Tryz.func258 (by kernel_rfl) rfl ?_
  conv => whnf
  refine ⟨[], by kernel_rfl, ?_⟩
  conv => whnf
  refine ⟨fun _ => ⟨by decide, by decide⟩, ?_⟩
  conv => whnf
  refine ⟨[], by kernel_rfl, ?_⟩
  conv => whnf
  refine ⟨⟨by decide, by decide⟩, ?_⟩
  rw [show IntKind.i64.wrap (IntKind.i64.wrap (opensF 2024 + 1) - 1) = 19723 from rfl]
  conv => whnf
  refine .inl ⟨[(), (), (), (), (), (), (), (), (), (), (), ()], ?_⟩
  refine unroll_step fun k hk => ?_
  conv => whnf
  refine ⟨⟨by decide, by decide⟩, ?_⟩
  rw [show IntKind.i64.wrap (19723 + monthF 2024 1) = 19754 from rfl]
  conv => whnf
  rw [show IntKind.i64.wrap (1 + 1) = 2 from rfl]
  subst hk
  refine unroll_step fun k hk => ?_
  conv => whnf
  refine ⟨⟨by decide, by decide⟩, ?_⟩
  rw [show IntKind.i64.wrap (19754 + monthF 2024 2) = 19783 from rfl]
  conv => whnf
  rw [show IntKind.i64.wrap (2 + 1) = 3 from rfl]
  subst hk
  refine unroll_step fun k hk => ?_
  conv => whnf
  refine ⟨⟨by decide, by decide⟩, ?_⟩
  rw [show IntKind.i64.wrap (19783 + monthF 2024 3) = 19814 from rfl]
  conv => whnf
  rw [show IntKind.i64.wrap (3 + 1) = 4 from rfl]
  subst hk
  refine unroll_step fun k hk => ?_
  conv => whnf
  refine ⟨⟨by decide, by decide⟩, ?_⟩
  rw [show IntKind.i64.wrap (19814 + monthF 2024 4) = 19844 from rfl]
  conv => whnf
  rw [show IntKind.i64.wrap (4 + 1) = 5 from rfl]
  subst hk
  refine unroll_step fun k hk => ?_
  conv => whnf
  refine ⟨⟨by decide, by decide⟩, ?_⟩
  rw [show IntKind.i64.wrap (19844 + monthF 2024 5) = 19875 from rfl]
  conv => whnf
  rw [show IntKind.i64.wrap (5 + 1) = 6 from rfl]
  subst hk
  refine unroll_step fun k hk => ?_
  conv => whnf
  refine ⟨⟨by decide, by decide⟩, ?_⟩
  rw [show IntKind.i64.wrap (19875 + monthF 2024 6) = 19905 from rfl]
  conv => whnf
  rw [show IntKind.i64.wrap (6 + 1) = 7 from rfl]
  subst hk
  refine unroll_step fun k hk => ?_
  conv => whnf
  refine ⟨⟨by decide, by decide⟩, ?_⟩
  rw [show IntKind.i64.wrap (19905 + monthF 2024 7) = 19936 from rfl]
  conv => whnf
  rw [show IntKind.i64.wrap (7 + 1) = 8 from rfl]
  subst hk
  refine unroll_step fun k hk => ?_
  conv => whnf
  refine ⟨⟨by decide, by decide⟩, ?_⟩
  rw [show IntKind.i64.wrap (19936 + monthF 2024 8) = 19967 from rfl]
  conv => whnf
  rw [show IntKind.i64.wrap (8 + 1) = 9 from rfl]
  subst hk
  refine unroll_step fun k hk => ?_
  conv => whnf
  refine ⟨⟨by decide, by decide⟩, ?_⟩
  rw [show IntKind.i64.wrap (19967 + monthF 2024 9) = 19997 from rfl]
  conv => whnf
  rw [show IntKind.i64.wrap (9 + 1) = 10 from rfl]
  subst hk
  refine unroll_step fun k hk => ?_
  conv => whnf
  refine ⟨⟨by decide, by decide⟩, ?_⟩
  rw [show IntKind.i64.wrap (19997 + monthF 2024 10) = 20028 from rfl]
  conv => whnf
  rw [show IntKind.i64.wrap (10 + 1) = 11 from rfl]
  subst hk
  refine unroll_step fun k hk => ?_
  conv => whnf
  refine ⟨⟨by decide, by decide⟩, ?_⟩
  rw [show IntKind.i64.wrap (20028 + monthF 2024 11) = 20058 from rfl]
  conv => whnf
  rw [show IntKind.i64.wrap (11 + 1) = 12 from rfl]
  subst hk
  refine unroll_step fun k hk => ?_
  conv => whnf
  subst hk
  conv => whnf
  subst hK
  exact told_of trivial rfl
theorem add186_12 : SCall Tryz.prog 186 [.agg [.int .i64 19723], .int .i64 12] [] (Told (.tup [.int .i64 20089, .int .i64 0])) := by
  refine scall_of (cfg_ok envH1_ok 0) Tryz.func186 (by kernel_rfl) rfl ?_
  generalize hK : Told _ = K
  conv => whnf
  refine scall_of (cfg_ok envH1_ok 1) Tryz.func216 (by kernel_rfl) rfl ?_
  conv => whnf
  refine ⟨⟨by decide, by decide⟩, ?_⟩
  conv => whnf
  refine ⟨⟨by decide, show (12 : Int) ≠ 0 from by decide⟩, ?_⟩
  rw [show IntKind.i64.wrap (IntKind.i64.wrap (IntKind.i64.wrap (IntKind.i64.wrap (12 * yF 19723) + mF 19723) - 1) + 12) = 24300 from rfl, show IntKind.i64.wrap ((24300 : Int).tdiv 12) = 2025 from rfl, show IntKind.i64.wrap ((24300 : Int).tmod 12 + 1) = 1 from rfl]
  conv => whnf
  refine ⟨[], by kernel_rfl, ?_⟩
  conv => whnf
  refine ⟨⟨by decide, by decide⟩, ?_⟩
  rw [show (if monthF 2025 1 < dF 19723 then monthF 2025 1 else dF 19723) = 1 from rfl]
  conv => whnf
  refine scall_of (cfg_ok envH1_ok 3) Tryz.func258 (by kernel_rfl) rfl ?_
  conv => whnf
  refine ⟨[], by kernel_rfl, ?_⟩
  conv => whnf
  refine ⟨fun _ => ⟨by decide, by decide⟩, ?_⟩
  conv => whnf
  refine ⟨[], by kernel_rfl, ?_⟩
  conv => whnf
  refine ⟨⟨by decide, by decide⟩, ?_⟩
  rw [show IntKind.i64.wrap (IntKind.i64.wrap (opensF 2025 + 1) - 1) = 20089 from rfl]
  conv => whnf
  refine .inl ⟨[()], ?_⟩
  refine unroll_step fun k hk => ?_
  conv => whnf
  subst hk
  conv => whnf
  subst hK
  exact told_of trivial rfl
end Go.Proofs.YtnnoplgabnfdiaaGreatDoor.Sh
/- The shadow machine over this program: lists of one's own. -/
namespace Go.Proofs.YtnnoplgabnfdiaaGreatDoor.Sh
open Go Go.RowKit
set_option linter.unusedVariables false
set_option linter.unusedSimpArgs false
set_option maxRecDepth 100000
set_option maxHeartbeats 4000000
theorem rv_av (x : RV) : (RV.av x).rv = x := by cases x <;> rfl
theorem map_rv_av (l : List RV) : (l.map RV.av).map AV.rv = l := by
  rw [List.map_map]; conv => rhs; rw [← List.map_id l]
  exact List.map_congr_left fun x _ => rv_av x
/-- A list without an element is one of whatever size of elements. -/
theorem ro_zero {s s' : Nat} {c : Option Nat} {r r' : Nat → List RV} : Wk (.ro s 0 c r) (.ro s' 0 none r') := fun w Fz g v hv => by
  obtain ⟨A, cc, cs, rfl, hl, hcap, h1, h2⟩ := inv_ro2 hv
  exact .ro _ _ _ _ _ (.ro _ _ _ _ _ _ cs hl (fun n hn => by cases hn) (fun i hi => absurd hi (by simp)) (fun i hi => absurd hi (by simp)))
theorem told_wk {r r' : AV} {h' : List AO} (h1 : conj (frObR (fun o => nth .free h' o) r')) (h2 : Wk (freezeR (fun o => nth .free h' o) r') r) : Told r (.ret r') h' := ⟨h1, h2⟩
def cloneQ (z b : Nat) : QSpec := fun vs => match vs with
  | [.ro 0 0 _ r] => some ([True], .ro z 0 none r)
  | [.ro s n none r] => some ([s = z ∧ n * b ≤ 140737488355328], .ro z n none r)
  | _ => none
theorem clone_of {f : FuncId} {z b : Nat} (H0 : ∀ c r, SCall Tryz.prog f [.ro 0 0 c r] [] (Told (.ro z 0 none r))) (H : ∀ n r, n * b ≤ 140737488355328 → SCall Tryz.prog f [.ro z n none r] [] (Told (.ro z n none r))) : ∀ vs ob q, cloneQ z b vs = some (ob, q) → conj ob → SCall Tryz.prog f vs [] (Told q) := by
  intro vs ob q h hob
  unfold cloneQ at h
  split at h
  · simp only [Option.some.injEq, Prod.mk.injEq] at h
    obtain ⟨rfl, rfl⟩ := h
    exact H0 _ _
  · simp only [Option.some.injEq, Prod.mk.injEq] at h
    obtain ⟨rfl, rfl⟩ := h
    obtain ⟨rfl, h1⟩ := hob
    exact H _ _ h1
  · simp at h
theorem clone70 : ∀ vs ob r, cloneQ 1 8 vs = some (ob, r) → conj ob → SCall Tryz.prog 70 vs [] (Told r) := clone_of (fun c r => by
  refine SCall.mono (K := fun r' h' => r' = .ret .nilsl ∨ r' = .ret (.sl 1 1 0 0 none) ∧ h' = [.dead, .rows 1 0 fun _ => []]) ?_ (fun r' h' hh => ?_)
  · cases c with
    | none =>
      refine scall_of (cfg_ok env_nil 0) Tryz.func70 (by kernel_rfl) rfl ?_
      conv => whnf
      refine ⟨fun _ => ?_, ?_⟩
      · conv => whnf
        exact .inl rfl
      · conv => whnf
        refine ⟨by simp [conj], ?_⟩
        conv => whnf
        exact .inr ⟨rfl, rfl⟩
    | some c =>
      refine scall_of (cfg_ok env_nil 0) Tryz.func70 (by kernel_rfl) rfl ?_
      conv => whnf
      refine ⟨fun _ => ?_, ?_⟩
      · conv => whnf
        exact .inl rfl
      · conv => whnf
        refine ⟨by simp [conj], ?_⟩
        conv => whnf
        exact .inr ⟨rfl, rfl⟩
  · rcases hh with rfl | ⟨rfl, rfl⟩
    · exact told_wk trivial ro_zero
    · exact told_wk (by simp [frObR, frOb, frOb1, nth, conj]) ro_zero) (fun n r hn => by
  refine SCall.mono (K := fun r' h' => (n = 0 ∧ r' = .ret .nilsl) ∨ r' = .ret (.sl 1 1 0 n none) ∧ h' = [.dead, .rows 1 n fun i => (r i).map RV.av]) ?_ (fun r' h' hh => ?_)
  · refine scall_of (cfg_ok env_nil 0) Tryz.func70 (by kernel_rfl) rfl ?_
    conv => whnf
    refine ⟨fun h0 => ?_, ?_⟩
    · conv => whnf
      exact .inl ⟨h0, rfl⟩
    · conv => whnf
      refine ⟨hn, ?_⟩
      conv => whnf
      exact .inr ⟨rfl, rfl⟩
  · rcases hh with ⟨rfl, rfl⟩ | ⟨rfl, rfl⟩
    · exact told_wk trivial ro_zero
    · refine told_of (by simp [frObR, frOb, frOb1, nth, conj]) ?_
      show AV.ro 1 n none (fun i => ((r (0 + i)).map RV.av).map AV.rv) = _
      congr 1
      funext i
      rw [map_rv_av, Nat.zero_add])
theorem clone68 : ∀ vs ob r, cloneQ 2 16 vs = some (ob, r) → conj ob → SCall Tryz.prog 68 vs [] (Told r) := clone_of (fun c r => by
  refine SCall.mono (K := fun r' h' => r' = .ret .nilsl ∨ r' = .ret (.sl 1 2 0 0 none) ∧ h' = [.dead, .rows 2 0 fun _ => []]) ?_ (fun r' h' hh => ?_)
  · cases c with
    | none =>
      refine scall_of (cfg_ok env_nil 0) Tryz.func68 (by kernel_rfl) rfl ?_
      conv => whnf
      refine ⟨fun _ => ?_, ?_⟩
      · conv => whnf
        exact .inl rfl
      · conv => whnf
        refine ⟨by simp [conj], ?_⟩
        conv => whnf
        exact .inr ⟨rfl, rfl⟩
    | some c =>
      refine scall_of (cfg_ok env_nil 0) Tryz.func68 (by kernel_rfl) rfl ?_
      conv => whnf
      refine ⟨fun _ => ?_, ?_⟩
      · conv => whnf
        exact .inl rfl
      · conv => whnf
        refine ⟨by simp [conj], ?_⟩
        conv => whnf
        exact .inr ⟨rfl, rfl⟩
  · rcases hh with rfl | ⟨rfl, rfl⟩
    · exact told_wk trivial ro_zero
    · exact told_wk (by simp [frObR, frOb, frOb1, nth, conj]) ro_zero) (fun n r hn => by
  refine SCall.mono (K := fun r' h' => (n = 0 ∧ r' = .ret .nilsl) ∨ r' = .ret (.sl 1 2 0 n none) ∧ h' = [.dead, .rows 2 n fun i => (r i).map RV.av]) ?_ (fun r' h' hh => ?_)
  · refine scall_of (cfg_ok env_nil 0) Tryz.func68 (by kernel_rfl) rfl ?_
    conv => whnf
    refine ⟨fun h0 => ?_, ?_⟩
    · conv => whnf
      exact .inl ⟨h0, rfl⟩
    · conv => whnf
      refine ⟨hn, ?_⟩
      conv => whnf
      exact .inr ⟨rfl, rfl⟩
  · rcases hh with ⟨rfl, rfl⟩ | ⟨rfl, rfl⟩
    · exact told_wk trivial ro_zero
    · refine told_of (by simp [frObR, frOb, frOb1, nth, conj]) ?_
      show AV.ro 2 n none (fun i => ((r (0 + i)).map RV.av).map AV.rv) = _
      congr 1
      funext i
      rw [map_rv_av, Nat.zero_add])
theorem clone69 : ∀ vs ob r, cloneQ 2 16 vs = some (ob, r) → conj ob → SCall Tryz.prog 69 vs [] (Told r) := clone_of (fun c r => by
  refine SCall.mono (K := fun r' h' => r' = .ret .nilsl ∨ r' = .ret (.sl 1 2 0 0 none) ∧ h' = [.dead, .rows 2 0 fun _ => []]) ?_ (fun r' h' hh => ?_)
  · cases c with
    | none =>
      refine scall_of (cfg_ok env_nil 0) Tryz.func69 (by kernel_rfl) rfl ?_
      conv => whnf
      refine ⟨fun _ => ?_, ?_⟩
      · conv => whnf
        exact .inl rfl
      · conv => whnf
        refine ⟨by simp [conj], ?_⟩
        conv => whnf
        exact .inr ⟨rfl, rfl⟩
    | some c =>
      refine scall_of (cfg_ok env_nil 0) Tryz.func69 (by kernel_rfl) rfl ?_
      conv => whnf
      refine ⟨fun _ => ?_, ?_⟩
      · conv => whnf
        exact .inl rfl
      · conv => whnf
        refine ⟨by simp [conj], ?_⟩
        conv => whnf
        exact .inr ⟨rfl, rfl⟩
  · rcases hh with rfl | ⟨rfl, rfl⟩
    · exact told_wk trivial ro_zero
    · exact told_wk (by simp [frObR, frOb, frOb1, nth, conj]) ro_zero) (fun n r hn => by
  refine SCall.mono (K := fun r' h' => (n = 0 ∧ r' = .ret .nilsl) ∨ r' = .ret (.sl 1 2 0 n none) ∧ h' = [.dead, .rows 2 n fun i => (r i).map RV.av]) ?_ (fun r' h' hh => ?_)
  · refine scall_of (cfg_ok env_nil 0) Tryz.func69 (by kernel_rfl) rfl ?_
    conv => whnf
    refine ⟨fun h0 => ?_, ?_⟩
    · conv => whnf
      exact .inl ⟨h0, rfl⟩
    · conv => whnf
      refine ⟨hn, ?_⟩
      conv => whnf
      exact .inr ⟨rfl, rfl⟩
  · rcases hh with ⟨rfl, rfl⟩ | ⟨rfl, rfl⟩
    · exact told_wk trivial ro_zero
    · refine told_of (by simp [frObR, frOb, frOb1, nth, conj]) ?_
      show AV.ro 2 n none (fun i => ((r (0 + i)).map RV.av).map AV.rv) = _
      congr 1
      funext i
      rw [map_rv_av, Nat.zero_add])
end Go.Proofs.YtnnoplgabnfdiaaGreatDoor.Sh
