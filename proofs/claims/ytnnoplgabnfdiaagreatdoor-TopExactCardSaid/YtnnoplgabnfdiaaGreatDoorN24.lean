/- Part 24 of a proof over the shadow machine. -/
import Derived.Test.YtnnoplgabnfdiaaGreatDoorN23
/- The shadow machine over this program: dates of 2024, and parts of a night, by the reference. -/
namespace Go.Proofs.YtnnoplgabnfdiaaGreatDoor.Sh
open Go Go.RowKit
set_option linter.unusedVariables false
set_option linter.unusedSimpArgs false
set_option maxRecDepth 100000
set_option maxHeartbeats 4000000
def lgF (n : Int) : Bool := bif n.tmod 400 == 0 then true else bif n.tmod 4 == 0 then n.tmod 100 != 0 else false
def lgQ : QSpec := fun vs => match vs with | [.int .i64 n] => some ([True], .bool (lgF n)) | _ => none
theorem long110 : ∀ vs ob r, lgQ vs = some (ob, r) → conj ob → SCall Tryz.prog 110 vs [] (Told r) := one_of (p := fun _ => True) fun n _ => by
  refine scall_of (cfg_ok env_nil 0) Tryz.func110 (by kernel_rfl) rfl ?_
  generalize hK : Told _ = K
  conv => whnf
  refine ⟨(by decide : (400 : Int) ≠ 0), ?_⟩
  conv => whnf
  refine bsplit (fun h => ?_) (fun h => ?_)
  · conv => whnf
    subst hK
    refine told_bool ?_
    unfold lgF
    rw [h]; rfl
  · conv => whnf
    refine ⟨⟨(by decide : (4 : Int) ≠ 0), fun _ => (by decide : (100 : Int) ≠ 0)⟩, ?_⟩
    conv => whnf
    subst hK
    refine told_bool ?_
    unfold lgF
    rw [h]; rfl
def envPb1 : Env := [(110, lgQ)]
theorem envPb1_ok : EnvOK Tryz.prog envPb1 := env_cons long110 env_nil
def befF (n : Int) : Int := if n = 2024 then 45290 else 45656
def befQ : QSpec := fun vs => match vs with | [.int .i64 n] => some ([n = 2024 ∨ n = 2025], .int .i64 (befF n)) | _ => none
theorem before145 : ∀ vs ob r, befQ vs = some (ob, r) → conj ob → SCall Tryz.prog 145 vs [] (Told r) := one_of (p := fun n => n = 2024 ∨ n = 2025) fun n hn => by
  rcases hn with rfl | rfl
  · refine scall_of (cfg_ok envPb1_ok 0) Tryz.func145 (by kernel_rfl) rfl ?_
    generalize hK : Told _ = K
    conv => whnf
    refine .inl ⟨List.replicate 32 (), ?_⟩
    refine unroll_step fun k hk => ?_
    conv => whnf
    refine ⟨trivial, ?_⟩
    conv => whnf
    subst hk
    refine unroll_step fun k hk => ?_
    conv => whnf
    refine ⟨trivial, ?_⟩
    conv => whnf
    subst hk
    refine unroll_step fun k hk => ?_
    conv => whnf
    refine ⟨trivial, ?_⟩
    conv => whnf
    subst hk
    refine unroll_step fun k hk => ?_
    conv => whnf
    refine ⟨trivial, ?_⟩
    conv => whnf
    subst hk
    refine unroll_step fun k hk => ?_
    conv => whnf
    refine ⟨trivial, ?_⟩
    conv => whnf
    subst hk
    refine unroll_step fun k hk => ?_
    conv => whnf
    refine ⟨trivial, ?_⟩
    conv => whnf
    subst hk
    refine unroll_step fun k hk => ?_
    conv => whnf
    refine ⟨trivial, ?_⟩
    conv => whnf
    subst hk
    refine unroll_step fun k hk => ?_
    conv => whnf
    refine ⟨trivial, ?_⟩
    conv => whnf
    subst hk
    refine unroll_step fun k hk => ?_
    conv => whnf
    refine ⟨trivial, ?_⟩
    conv => whnf
    subst hk
    refine unroll_step fun k hk => ?_
    conv => whnf
    refine ⟨trivial, ?_⟩
    conv => whnf
    subst hk
    refine unroll_step fun k hk => ?_
    conv => whnf
    refine ⟨trivial, ?_⟩
    conv => whnf
    subst hk
    refine unroll_step fun k hk => ?_
    conv => whnf
    refine ⟨trivial, ?_⟩
    conv => whnf
    subst hk
    refine unroll_step fun k hk => ?_
    conv => whnf
    refine ⟨trivial, ?_⟩
    conv => whnf
    subst hk
    refine unroll_step fun k hk => ?_
    conv => whnf
    refine ⟨trivial, ?_⟩
    conv => whnf
    subst hk
    refine unroll_step fun k hk => ?_
    conv => whnf
    refine ⟨trivial, ?_⟩
    conv => whnf
    subst hk
    refine unroll_step fun k hk => ?_
    conv => whnf
    refine ⟨trivial, ?_⟩
    conv => whnf
    subst hk
    refine unroll_step fun k hk => ?_
    conv => whnf
    refine ⟨trivial, ?_⟩
    conv => whnf
    subst hk
    refine unroll_step fun k hk => ?_
    conv => whnf
    refine ⟨trivial, ?_⟩
    conv => whnf
    subst hk
    refine unroll_step fun k hk => ?_
    conv => whnf
    refine ⟨trivial, ?_⟩
    conv => whnf
    subst hk
    refine unroll_step fun k hk => ?_
    conv => whnf
    refine ⟨trivial, ?_⟩
    conv => whnf
    subst hk
    refine unroll_step fun k hk => ?_
    conv => whnf
    refine ⟨trivial, ?_⟩
    conv => whnf
    subst hk
    refine unroll_step fun k hk => ?_
    conv => whnf
    refine ⟨trivial, ?_⟩
    conv => whnf
    subst hk
    refine unroll_step fun k hk => ?_
    conv => whnf
    refine ⟨trivial, ?_⟩
    conv => whnf
    subst hk
    refine unroll_step fun k hk => ?_
    conv => whnf
    refine ⟨trivial, ?_⟩
    conv => whnf
    subst hk
    refine unroll_step fun k hk => ?_
    conv => whnf
    refine ⟨trivial, ?_⟩
    conv => whnf
    subst hk
    refine unroll_step fun k hk => ?_
    conv => whnf
    refine ⟨trivial, ?_⟩
    conv => whnf
    subst hk
    refine unroll_step fun k hk => ?_
    conv => whnf
    refine ⟨trivial, ?_⟩
    conv => whnf
    subst hk
    refine unroll_step fun k hk => ?_
    conv => whnf
    refine ⟨trivial, ?_⟩
    conv => whnf
    subst hk
    refine unroll_step fun k hk => ?_
    conv => whnf
    refine ⟨trivial, ?_⟩
    conv => whnf
    subst hk
    refine unroll_step fun k hk => ?_
    conv => whnf
    refine ⟨trivial, ?_⟩
    conv => whnf
    subst hk
    refine unroll_step fun k hk => ?_
    conv => whnf
    refine ⟨trivial, ?_⟩
    conv => whnf
    subst hk
    refine unroll_step fun k hk => ?_
    conv => whnf
    subst hk
    conv => whnf
    subst hK
    exact told_int (by decide)
  · refine scall_of (cfg_ok envPb1_ok 0) Tryz.func145 (by kernel_rfl) rfl ?_
    generalize hK : Told _ = K
    conv => whnf
    refine .inl ⟨List.replicate 33 (), ?_⟩
    refine unroll_step fun k hk => ?_
    conv => whnf
    refine ⟨trivial, ?_⟩
    conv => whnf
    subst hk
    refine unroll_step fun k hk => ?_
    conv => whnf
    refine ⟨trivial, ?_⟩
    conv => whnf
    subst hk
    refine unroll_step fun k hk => ?_
    conv => whnf
    refine ⟨trivial, ?_⟩
    conv => whnf
    subst hk
    refine unroll_step fun k hk => ?_
    conv => whnf
    refine ⟨trivial, ?_⟩
    conv => whnf
    subst hk
    refine unroll_step fun k hk => ?_
    conv => whnf
    refine ⟨trivial, ?_⟩
    conv => whnf
    subst hk
    refine unroll_step fun k hk => ?_
    conv => whnf
    refine ⟨trivial, ?_⟩
    conv => whnf
    subst hk
    refine unroll_step fun k hk => ?_
    conv => whnf
    refine ⟨trivial, ?_⟩
    conv => whnf
    subst hk
    refine unroll_step fun k hk => ?_
    conv => whnf
    refine ⟨trivial, ?_⟩
    conv => whnf
    subst hk
    refine unroll_step fun k hk => ?_
    conv => whnf
    refine ⟨trivial, ?_⟩
    conv => whnf
    subst hk
    refine unroll_step fun k hk => ?_
    conv => whnf
    refine ⟨trivial, ?_⟩
    conv => whnf
    subst hk
    refine unroll_step fun k hk => ?_
    conv => whnf
    refine ⟨trivial, ?_⟩
    conv => whnf
    subst hk
    refine unroll_step fun k hk => ?_
    conv => whnf
    refine ⟨trivial, ?_⟩
    conv => whnf
    subst hk
    refine unroll_step fun k hk => ?_
    conv => whnf
    refine ⟨trivial, ?_⟩
    conv => whnf
    subst hk
    refine unroll_step fun k hk => ?_
    conv => whnf
    refine ⟨trivial, ?_⟩
    conv => whnf
    subst hk
    refine unroll_step fun k hk => ?_
    conv => whnf
    refine ⟨trivial, ?_⟩
    conv => whnf
    subst hk
    refine unroll_step fun k hk => ?_
    conv => whnf
    refine ⟨trivial, ?_⟩
    conv => whnf
    subst hk
    refine unroll_step fun k hk => ?_
    conv => whnf
    refine ⟨trivial, ?_⟩
    conv => whnf
    subst hk
    refine unroll_step fun k hk => ?_
    conv => whnf
    refine ⟨trivial, ?_⟩
    conv => whnf
    subst hk
    refine unroll_step fun k hk => ?_
    conv => whnf
    refine ⟨trivial, ?_⟩
    conv => whnf
    subst hk
    refine unroll_step fun k hk => ?_
    conv => whnf
    refine ⟨trivial, ?_⟩
    conv => whnf
    subst hk
    refine unroll_step fun k hk => ?_
    conv => whnf
    refine ⟨trivial, ?_⟩
    conv => whnf
    subst hk
    refine unroll_step fun k hk => ?_
    conv => whnf
    refine ⟨trivial, ?_⟩
    conv => whnf
    subst hk
    refine unroll_step fun k hk => ?_
    conv => whnf
    refine ⟨trivial, ?_⟩
    conv => whnf
    subst hk
    refine unroll_step fun k hk => ?_
    conv => whnf
    refine ⟨trivial, ?_⟩
    conv => whnf
    subst hk
    refine unroll_step fun k hk => ?_
    conv => whnf
    refine ⟨trivial, ?_⟩
    conv => whnf
    subst hk
    refine unroll_step fun k hk => ?_
    conv => whnf
    refine ⟨trivial, ?_⟩
    conv => whnf
    subst hk
    refine unroll_step fun k hk => ?_
    conv => whnf
    refine ⟨trivial, ?_⟩
    conv => whnf
    subst hk
    refine unroll_step fun k hk => ?_
    conv => whnf
    refine ⟨trivial, ?_⟩
    conv => whnf
    subst hk
    refine unroll_step fun k hk => ?_
    conv => whnf
    refine ⟨trivial, ?_⟩
    conv => whnf
    subst hk
    refine unroll_step fun k hk => ?_
    conv => whnf
    refine ⟨trivial, ?_⟩
    conv => whnf
    subst hk
    refine unroll_step fun k hk => ?_
    conv => whnf
    refine ⟨trivial, ?_⟩
    conv => whnf
    subst hk
    refine unroll_step fun k hk => ?_
    conv => whnf
    refine ⟨trivial, ?_⟩
    conv => whnf
    subst hk
    refine unroll_step fun k hk => ?_
    conv => whnf
    subst hk
    conv => whnf
    subst hK
    exact told_int (by decide)
def isQ : QSpec := fun vs => match vs with | [.int .i64 n] => some ([19723 ≤ n ∧ n ≤ 20089], .bool true) | _ => none
theorem is114 : ∀ vs ob r, isQ vs = some (ob, r) → conj ob → SCall Tryz.prog 114 vs [] (Told r) := one_of (p := fun n => 19723 ≤ n ∧ n ≤ 20089) fun n hn => by
  refine scall_of (cfg_ok env_nil 0) Tryz.func114 (by kernel_rfl) rfl ?_
  generalize hK : Told _ = K
  conv => whnf
  subst hK
  refine told_bool ?_
  show (bif decide (n ≥ -25567) then decide (n ≤ 84370) else false) = true
  rw [decide_eq_true (by omega), decide_eq_true (by omega)]; rfl
def mnF (m : Int) : Int := if m = 2 then 29 else if m = 4 then 30 else if m = 6 then 30 else if m = 9 then 30 else if m = 11 then 30 else 31
def mnQ : QSpec := fun vs => match vs with | [.int .i64 y, .int .i64 m] => some ([y = 2024 ∧ 1 ≤ m ∧ m ≤ 12], .int .i64 (mnF m)) | _ => none
theorem month146 : ∀ vs ob r, mnQ vs = some (ob, r) → conj ob → SCall Tryz.prog 146 vs [] (Told r) := by
  intro vs ob q h hob
  unfold mnQ at h
  split at h
  · rename_i y m
    simp only [Option.some.injEq, Prod.mk.injEq] at h
    obtain ⟨rfl, rfl⟩ := h
    obtain ⟨rfl, h1, h2⟩ : y = 2024 ∧ 1 ≤ m ∧ m ≤ 12 := hob
    have hc : m = 1 ∨ m = 2 ∨ m = 3 ∨ m = 4 ∨ m = 5 ∨ m = 6 ∨ m = 7 ∨ m = 8 ∨ m = 9 ∨ m = 10 ∨ m = 11 ∨ m = 12 := by omega
    rcases hc with rfl | rfl | rfl | rfl | rfl | rfl | rfl | rfl | rfl | rfl | rfl | rfl
    all_goals
      refine scall_of (cfg_ok envPb1_ok 0) Tryz.func146 (by kernel_rfl) rfl ?_
      generalize hK : Told _ = K
      conv => whnf
      refine ⟨⟨by decide, by decide⟩, ?_⟩
      conv => whnf
      refine ⟨fun _ => trivial, ?_⟩
      conv => whnf
      subst hK
      first | exact told_int rfl | exact told_cint rfl
  · simp at h
def mFr (n : Int) : Int := bif decide (n < 19754) then 1 else bif decide (n < 19783) then 2 else bif decide (n < 19814) then 3 else bif decide (n < 19844) then 4 else bif decide (n < 19875) then 5 else bif decide (n < 19905) then 6 else bif decide (n < 19936) then 7 else bif decide (n < 19967) then 8 else bif decide (n < 19997) then 9 else bif decide (n < 20028) then 10 else bif decide (n < 20058) then 11 else 12
def dFr (n : Int) : Int := bif decide (n < 19754) then n - 19722 else bif decide (n < 19783) then n - 19753 else bif decide (n < 19814) then n - 19782 else bif decide (n < 19844) then n - 19813 else bif decide (n < 19875) then n - 19843 else bif decide (n < 19905) then n - 19874 else bif decide (n < 19936) then n - 19904 else bif decide (n < 19967) then n - 19935 else bif decide (n < 19997) then n - 19966 else bif decide (n < 20028) then n - 19996 else bif decide (n < 20058) then n - 20027 else n - 20057
def rdateV (n : Int) : AV := .tup [.agg [.int .i64 2024, .int .i64 (mFr n), .int .i64 (dFr n)], .int .i64 0]
def rdateQ : QSpec := fun vs => match vs with | [.int .i64 n] => some ([19723 ≤ n ∧ n < 20089], rdateV n) | _ => none
theorem rdate_fin {n y m x : Int} {h' : List AO} (e1 : y = 2024) (e2 : m = mFr n) (e3 : x = dFr n) : Told (rdateV n) (.ret (.tup [.agg [.int .i64 y, .int .i64 m, .int .i64 x], .cint .i64 0])) h' := by subst e1; subst e2; subst e3; exact told_of trivial rfl
theorem rdate_finc {n y m x : Int} {h' : List AO} (e1 : y = 2024) (e2 : m = mFr n) (e3 : x = dFr n) : Told (rdateV n) (.ret (.tup [.agg [.int .i64 y, .cint .i64 m, .int .i64 x], .cint .i64 0])) h' := by subst e1; subst e2; subst e3; exact told_of trivial rfl
def envPb2 : Env := [(114, isQ), (145, befQ), (146, mnQ)]
theorem envPb2_ok : EnvOK Tryz.prog envPb2 := env_cons is114 (env_cons before145 (env_cons month146 env_nil))

theorem date109a (n : Int) (h1 : 19723 ≤ n) (h2 : n < 19817) : SCall Tryz.prog 109 [.int .i64 n] [] (Told (rdateV n)) := by
  refine scall_of (cfg_ok envPb2_ok 0) Tryz.func109 (by kernel_rfl) rfl ?_
  generalize hK : Told _ = K
  conv => whnf
  refine ⟨⟨by omega, by omega⟩, ?_⟩
  conv => whnf
  refine ⟨(by decide : (366 : Int) ≠ 0), ?_⟩
  rw [show IntKind.i64.wrap (n - -25567) = n + 25567 from by rw [w64 (by omega) (by omega)]; omega, show (n + 25567).tdiv 366 = 123 from by rw [td_eq (by omega)]; omega, show IntKind.i64.wrap (1900 + IntKind.i64.wrap 123) = 2023 from rfl]
  conv => whnf
  refine .inl ⟨[(), (), ()], ?_⟩
  refine unroll_step fun k hk => ?_
  conv => whnf
  refine ⟨.inl (by decide), ?_⟩
  rw [show befF (IntKind.i64.wrap (2023 + 1)) = 45290 from by decide]
  conv => whnf
  refine bt (decide_eq_true (by omega)) ?_
  conv => whnf
  rw [show IntKind.i64.wrap (2023 + 1) = 2024 from rfl]
  subst hk
  refine unroll_step fun k hk => ?_
  conv => whnf
  refine ⟨.inr (by decide), ?_⟩
  rw [show befF (IntKind.i64.wrap (2024 + 1)) = 45656 from by decide]
  conv => whnf
  refine bf (decide_eq_false (by omega)) ?_
  conv => whnf
  subst hk
  conv => whnf
  refine ⟨.inl rfl, ?_⟩
  rw [show befF 2024 = 45290 from rfl, show IntKind.i64.wrap (n + 25567 - 45290) = n - 19723 from by rw [w64 (by omega) (by omega)]; omega]
  conv => whnf
  refine .inl ⟨List.replicate 13 (), ?_⟩

  refine unroll_step fun k hk => ?_
  conv => whnf
  refine ⟨⟨rfl, by decide, by decide⟩, ?_⟩
  rw [show mnF 1 = 31 from by decide]
  conv => whnf
  refine bsplit (fun h => ?_) (fun h => ?_)
  rotate_left
  · have h' := of_decide_eq_false h
    conv => whnf
    subst hk
    conv => whnf
    subst hK
    refine rdate_finc ?_ ?_ ?_
    · rfl
    · unfold mFr; rw [bif_t (by omega)]
    · rw [w64 (by omega) (by omega)]; unfold dFr; rw [bif_t (by omega)]; omega
  replace h := of_decide_eq_true h
  conv => whnf
  refine ⟨⟨rfl, by decide, by decide⟩, ?_⟩
  rw [show mnF 1 = 31 from by decide, w64 (n := n - 19723 - 31) (by omega) (by omega)]
  conv => whnf
  rw [show IntKind.i64.wrap (1 + 1) = 2 from rfl]
  subst hk
  refine unroll_step fun k hk => ?_
  conv => whnf
  refine ⟨⟨rfl, by decide, by decide⟩, ?_⟩
  rw [show mnF 2 = 29 from by decide]
  conv => whnf
  refine bsplit (fun h => ?_) (fun h => ?_)
  rotate_left
  · have h' := of_decide_eq_false h
    conv => whnf
    subst hk
    conv => whnf
    subst hK
    refine rdate_fin ?_ ?_ ?_
    · rfl
    · unfold mFr; rw [bif_f (by omega)]; rw [bif_t (by omega)]
    · rw [w64 (by omega) (by omega)]; unfold dFr; rw [bif_f (by omega)]; rw [bif_t (by omega)]; omega
  replace h := of_decide_eq_true h
  conv => whnf
  refine ⟨⟨rfl, by decide, by decide⟩, ?_⟩
  rw [show mnF 2 = 29 from by decide, w64 (n := n - 19723 - 31 - 29) (by omega) (by omega)]
  conv => whnf
  rw [show IntKind.i64.wrap (2 + 1) = 3 from rfl]
  subst hk
  refine unroll_step fun k hk => ?_
  conv => whnf
  refine ⟨⟨rfl, by decide, by decide⟩, ?_⟩
  rw [show mnF 3 = 31 from by decide]
  conv => whnf
  refine bsplit (fun h => ?_) (fun h => ?_)
  rotate_left
  · have h' := of_decide_eq_false h
    conv => whnf
    subst hk
    conv => whnf
    subst hK
    refine rdate_fin ?_ ?_ ?_
    · rfl
    · unfold mFr; rw [bif_f (by omega)]; rw [bif_f (by omega)]; rw [bif_t (by omega)]
    · rw [w64 (by omega) (by omega)]; unfold dFr; rw [bif_f (by omega)]; rw [bif_f (by omega)]; rw [bif_t (by omega)]; omega
  replace h := of_decide_eq_true h
  conv => whnf
  refine ⟨⟨rfl, by decide, by decide⟩, ?_⟩
  rw [show mnF 3 = 31 from by decide, w64 (n := n - 19723 - 31 - 29 - 31) (by omega) (by omega)]
  conv => whnf
  rw [show IntKind.i64.wrap (3 + 1) = 4 from rfl]
  subst hk
  refine unroll_step fun k hk => ?_
  conv => whnf
  refine ⟨⟨rfl, by decide, by decide⟩, ?_⟩
  rw [show mnF 4 = 30 from by decide]
  conv => whnf
  refine bsplit (fun h => ?_) (fun h => ?_)
  rotate_left
  · have h' := of_decide_eq_false h
    conv => whnf
    subst hk
    conv => whnf
    subst hK
    refine rdate_fin ?_ ?_ ?_
    · rfl
    · unfold mFr; rw [bif_f (by omega)]; rw [bif_f (by omega)]; rw [bif_f (by omega)]; rw [bif_t (by omega)]
    · rw [w64 (by omega) (by omega)]; unfold dFr; rw [bif_f (by omega)]; rw [bif_f (by omega)]; rw [bif_f (by omega)]; rw [bif_t (by omega)]; omega
  replace h := of_decide_eq_true h
  conv => whnf
  refine ⟨⟨rfl, by decide, by decide⟩, ?_⟩
  rw [show mnF 4 = 30 from by decide, w64 (n := n - 19723 - 31 - 29 - 31 - 30) (by omega) (by omega)]
  conv => whnf
  rw [show IntKind.i64.wrap (4 + 1) = 5 from rfl]
  subst hk
  refine unroll_step fun k hk => ?_
  conv => whnf
  refine ⟨⟨rfl, by decide, by decide⟩, ?_⟩
  rw [show mnF 5 = 31 from by decide]
  conv => whnf
  refine bsplit (fun h => ?_) (fun h => ?_)
  rotate_left
  · have h' := of_decide_eq_false h
    conv => whnf
    subst hk
    conv => whnf
    subst hK
    refine rdate_fin ?_ ?_ ?_
    · rfl
    · unfold mFr; rw [bif_f (by omega)]; rw [bif_f (by omega)]; rw [bif_f (by omega)]; rw [bif_f (by omega)]; rw [bif_t (by omega)]
    · rw [w64 (by omega) (by omega)]; unfold dFr; rw [bif_f (by omega)]; rw [bif_f (by omega)]; rw [bif_f (by omega)]; rw [bif_f (by omega)]; rw [bif_t (by omega)]; omega
  replace h := of_decide_eq_true h
  conv => whnf
  refine ⟨⟨rfl, by decide, by decide⟩, ?_⟩
  rw [show mnF 5 = 31 from by decide, w64 (n := n - 19723 - 31 - 29 - 31 - 30 - 31) (by omega) (by omega)]
  conv => whnf
  rw [show IntKind.i64.wrap (5 + 1) = 6 from rfl]
  subst hk
  refine unroll_step fun k hk => ?_
  conv => whnf
  refine ⟨⟨rfl, by decide, by decide⟩, ?_⟩
  rw [show mnF 6 = 30 from by decide]
  conv => whnf
  refine bsplit (fun h => ?_) (fun h => ?_)
  rotate_left
  · have h' := of_decide_eq_false h
    conv => whnf
    subst hk
    conv => whnf
    subst hK
    refine rdate_fin ?_ ?_ ?_
    · rfl
    · unfold mFr; rw [bif_f (by omega)]; rw [bif_f (by omega)]; rw [bif_f (by omega)]; rw [bif_f (by omega)]; rw [bif_f (by omega)]; rw [bif_t (by omega)]
    · rw [w64 (by omega) (by omega)]; unfold dFr; rw [bif_f (by omega)]; rw [bif_f (by omega)]; rw [bif_f (by omega)]; rw [bif_f (by omega)]; rw [bif_f (by omega)]; rw [bif_t (by omega)]; omega
  replace h := of_decide_eq_true h
  conv => whnf
  refine ⟨⟨rfl, by decide, by decide⟩, ?_⟩
  rw [show mnF 6 = 30 from by decide, w64 (n := n - 19723 - 31 - 29 - 31 - 30 - 31 - 30) (by omega) (by omega)]
  conv => whnf
  rw [show IntKind.i64.wrap (6 + 1) = 7 from rfl]
  subst hk
  refine unroll_step fun k hk => ?_
  conv => whnf
  refine ⟨⟨rfl, by decide, by decide⟩, ?_⟩
  rw [show mnF 7 = 31 from by decide]
  conv => whnf
  refine bsplit (fun h => ?_) (fun h => ?_)
  rotate_left
  · have h' := of_decide_eq_false h
    conv => whnf
    subst hk
    conv => whnf
    subst hK
    refine rdate_fin ?_ ?_ ?_
    · rfl
    · unfold mFr; rw [bif_f (by omega)]; rw [bif_f (by omega)]; rw [bif_f (by omega)]; rw [bif_f (by omega)]; rw [bif_f (by omega)]; rw [bif_f (by omega)]; rw [bif_t (by omega)]
    · rw [w64 (by omega) (by omega)]; unfold dFr; rw [bif_f (by omega)]; rw [bif_f (by omega)]; rw [bif_f (by omega)]; rw [bif_f (by omega)]; rw [bif_f (by omega)]; rw [bif_f (by omega)]; rw [bif_t (by omega)]; omega
  replace h := of_decide_eq_true h
  conv => whnf
  refine ⟨⟨rfl, by decide, by decide⟩, ?_⟩
  rw [show mnF 7 = 31 from by decide, w64 (n := n - 19723 - 31 - 29 - 31 - 30 - 31 - 30 - 31) (by omega) (by omega)]
  conv => whnf
  rw [show IntKind.i64.wrap (7 + 1) = 8 from rfl]
  subst hk
  refine unroll_step fun k hk => ?_
  conv => whnf
  refine ⟨⟨rfl, by decide, by decide⟩, ?_⟩
  rw [show mnF 8 = 31 from by decide]
  conv => whnf
  refine bsplit (fun h => ?_) (fun h => ?_)
  rotate_left
  · have h' := of_decide_eq_false h
    conv => whnf
    subst hk
    conv => whnf
    subst hK
    refine rdate_fin ?_ ?_ ?_
    · rfl
    · unfold mFr; rw [bif_f (by omega)]; rw [bif_f (by omega)]; rw [bif_f (by omega)]; rw [bif_f (by omega)]; rw [bif_f (by omega)]; rw [bif_f (by omega)]; rw [bif_f (by omega)]; rw [bif_t (by omega)]
    · rw [w64 (by omega) (by omega)]; unfold dFr; rw [bif_f (by omega)]; rw [bif_f (by omega)]; rw [bif_f (by omega)]; rw [bif_f (by omega)]; rw [bif_f (by omega)]; rw [bif_f (by omega)]; rw [bif_f (by omega)]; rw [bif_t (by omega)]; omega
  replace h := of_decide_eq_true h
  conv => whnf
  refine ⟨⟨rfl, by decide, by decide⟩, ?_⟩
  rw [show mnF 8 = 31 from by decide, w64 (n := n - 19723 - 31 - 29 - 31 - 30 - 31 - 30 - 31 - 31) (by omega) (by omega)]
  conv => whnf
  rw [show IntKind.i64.wrap (8 + 1) = 9 from rfl]
  subst hk
  refine unroll_step fun k hk => ?_
  conv => whnf
  refine ⟨⟨rfl, by decide, by decide⟩, ?_⟩
  rw [show mnF 9 = 30 from by decide]
  conv => whnf
  refine bsplit (fun h => ?_) (fun h => ?_)
  rotate_left
  · have h' := of_decide_eq_false h
    conv => whnf
    subst hk
    conv => whnf
    subst hK
    refine rdate_fin ?_ ?_ ?_
    · rfl
    · unfold mFr; rw [bif_f (by omega)]; rw [bif_f (by omega)]; rw [bif_f (by omega)]; rw [bif_f (by omega)]; rw [bif_f (by omega)]; rw [bif_f (by omega)]; rw [bif_f (by omega)]; rw [bif_f (by omega)]; rw [bif_t (by omega)]
    · rw [w64 (by omega) (by omega)]; unfold dFr; rw [bif_f (by omega)]; rw [bif_f (by omega)]; rw [bif_f (by omega)]; rw [bif_f (by omega)]; rw [bif_f (by omega)]; rw [bif_f (by omega)]; rw [bif_f (by omega)]; rw [bif_f (by omega)]; rw [bif_t (by omega)]; omega
  replace h := of_decide_eq_true h
  conv => whnf
  refine ⟨⟨rfl, by decide, by decide⟩, ?_⟩
  rw [show mnF 9 = 30 from by decide, w64 (n := n - 19723 - 31 - 29 - 31 - 30 - 31 - 30 - 31 - 31 - 30) (by omega) (by omega)]
  conv => whnf
  rw [show IntKind.i64.wrap (9 + 1) = 10 from rfl]
  subst hk
  refine unroll_step fun k hk => ?_
  conv => whnf
  refine ⟨⟨rfl, by decide, by decide⟩, ?_⟩
  rw [show mnF 10 = 31 from by decide]
  conv => whnf
  refine bsplit (fun h => ?_) (fun h => ?_)
  rotate_left
  · have h' := of_decide_eq_false h
    conv => whnf
    subst hk
    conv => whnf
    subst hK
    refine rdate_fin ?_ ?_ ?_
    · rfl
    · unfold mFr; rw [bif_f (by omega)]; rw [bif_f (by omega)]; rw [bif_f (by omega)]; rw [bif_f (by omega)]; rw [bif_f (by omega)]; rw [bif_f (by omega)]; rw [bif_f (by omega)]; rw [bif_f (by omega)]; rw [bif_f (by omega)]; rw [bif_t (by omega)]
    · rw [w64 (by omega) (by omega)]; unfold dFr; rw [bif_f (by omega)]; rw [bif_f (by omega)]; rw [bif_f (by omega)]; rw [bif_f (by omega)]; rw [bif_f (by omega)]; rw [bif_f (by omega)]; rw [bif_f (by omega)]; rw [bif_f (by omega)]; rw [bif_f (by omega)]; rw [bif_t (by omega)]; omega
  replace h := of_decide_eq_true h
  conv => whnf
  refine ⟨⟨rfl, by decide, by decide⟩, ?_⟩
  rw [show mnF 10 = 31 from by decide, w64 (n := n - 19723 - 31 - 29 - 31 - 30 - 31 - 30 - 31 - 31 - 30 - 31) (by omega) (by omega)]
  conv => whnf
  rw [show IntKind.i64.wrap (10 + 1) = 11 from rfl]
  subst hk
  refine unroll_step fun k hk => ?_
  conv => whnf
  refine ⟨⟨rfl, by decide, by decide⟩, ?_⟩
  rw [show mnF 11 = 30 from by decide]
  conv => whnf
  refine bsplit (fun h => ?_) (fun h => ?_)
  rotate_left
  · have h' := of_decide_eq_false h
    conv => whnf
    subst hk
    conv => whnf
    subst hK
    refine rdate_fin ?_ ?_ ?_
    · rfl
    · unfold mFr; rw [bif_f (by omega)]; rw [bif_f (by omega)]; rw [bif_f (by omega)]; rw [bif_f (by omega)]; rw [bif_f (by omega)]; rw [bif_f (by omega)]; rw [bif_f (by omega)]; rw [bif_f (by omega)]; rw [bif_f (by omega)]; rw [bif_f (by omega)]; rw [bif_t (by omega)]
    · rw [w64 (by omega) (by omega)]; unfold dFr; rw [bif_f (by omega)]; rw [bif_f (by omega)]; rw [bif_f (by omega)]; rw [bif_f (by omega)]; rw [bif_f (by omega)]; rw [bif_f (by omega)]; rw [bif_f (by omega)]; rw [bif_f (by omega)]; rw [bif_f (by omega)]; rw [bif_f (by omega)]; rw [bif_t (by omega)]; omega
  replace h := of_decide_eq_true h
  conv => whnf
  refine ⟨⟨rfl, by decide, by decide⟩, ?_⟩
  rw [show mnF 11 = 30 from by decide, w64 (n := n - 19723 - 31 - 29 - 31 - 30 - 31 - 30 - 31 - 31 - 30 - 31 - 30) (by omega) (by omega)]
  conv => whnf
  rw [show IntKind.i64.wrap (11 + 1) = 12 from rfl]
  subst hk
  refine unroll_step fun k hk => ?_
  conv => whnf
  refine ⟨⟨rfl, by decide, by decide⟩, ?_⟩
  rw [show mnF 12 = 31 from by decide]
  conv => whnf
  refine bsplit (fun h => ?_) (fun h => ?_)
  rotate_left
  · have h' := of_decide_eq_false h
    conv => whnf
    subst hk
    conv => whnf
    subst hK
    refine rdate_fin ?_ ?_ ?_
    · rfl
    · unfold mFr; rw [bif_f (by omega)]; rw [bif_f (by omega)]; rw [bif_f (by omega)]; rw [bif_f (by omega)]; rw [bif_f (by omega)]; rw [bif_f (by omega)]; rw [bif_f (by omega)]; rw [bif_f (by omega)]; rw [bif_f (by omega)]; rw [bif_f (by omega)]; rw [bif_f (by omega)]; try rfl
    · rw [w64 (by omega) (by omega)]; unfold dFr; rw [bif_f (by omega)]; rw [bif_f (by omega)]; rw [bif_f (by omega)]; rw [bif_f (by omega)]; rw [bif_f (by omega)]; rw [bif_f (by omega)]; rw [bif_f (by omega)]; rw [bif_f (by omega)]; rw [bif_f (by omega)]; rw [bif_f (by omega)]; rw [bif_f (by omega)]; try omega
  replace h := of_decide_eq_true h
  exact absurd h (by omega)
theorem date109b (n : Int) (h1 : 19817 ≤ n) (h2 : n < 20089) : SCall Tryz.prog 109 [.int .i64 n] [] (Told (rdateV n)) := by
  refine scall_of (cfg_ok envPb2_ok 0) Tryz.func109 (by kernel_rfl) rfl ?_
  generalize hK : Told _ = K
  conv => whnf
  refine ⟨⟨by omega, by omega⟩, ?_⟩
  conv => whnf
  refine ⟨(by decide : (366 : Int) ≠ 0), ?_⟩
  rw [show IntKind.i64.wrap (n - -25567) = n + 25567 from by rw [w64 (by omega) (by omega)]; omega, show (n + 25567).tdiv 366 = 124 from by rw [td_eq (by omega)]; omega, show IntKind.i64.wrap (1900 + IntKind.i64.wrap 124) = 2024 from rfl]
  conv => whnf
  refine .inl ⟨[(), (), ()], ?_⟩
  refine unroll_step fun k hk => ?_
  conv => whnf
  refine ⟨.inr (by decide), ?_⟩
  rw [show befF (IntKind.i64.wrap (2024 + 1)) = 45656 from by decide]
  conv => whnf
  refine bf (decide_eq_false (by omega)) ?_
  conv => whnf
  subst hk
  conv => whnf
  refine ⟨.inl rfl, ?_⟩
  rw [show befF 2024 = 45290 from rfl, show IntKind.i64.wrap (n + 25567 - 45290) = n - 19723 from by rw [w64 (by omega) (by omega)]; omega]
  conv => whnf
  refine .inl ⟨List.replicate 13 (), ?_⟩

  refine unroll_step fun k hk => ?_
  conv => whnf
  refine ⟨⟨rfl, by decide, by decide⟩, ?_⟩
  rw [show mnF 1 = 31 from by decide]
  conv => whnf
  refine bsplit (fun h => ?_) (fun h => ?_)
  rotate_left
  · have h' := of_decide_eq_false h
    conv => whnf
    subst hk
    conv => whnf
    subst hK
    refine rdate_finc ?_ ?_ ?_
    · rfl
    · unfold mFr; rw [bif_t (by omega)]
    · rw [w64 (by omega) (by omega)]; unfold dFr; rw [bif_t (by omega)]; omega
  replace h := of_decide_eq_true h
  conv => whnf
  refine ⟨⟨rfl, by decide, by decide⟩, ?_⟩
  rw [show mnF 1 = 31 from by decide, w64 (n := n - 19723 - 31) (by omega) (by omega)]
  conv => whnf
  rw [show IntKind.i64.wrap (1 + 1) = 2 from rfl]
  subst hk
  refine unroll_step fun k hk => ?_
  conv => whnf
  refine ⟨⟨rfl, by decide, by decide⟩, ?_⟩
  rw [show mnF 2 = 29 from by decide]
  conv => whnf
  refine bsplit (fun h => ?_) (fun h => ?_)
  rotate_left
  · have h' := of_decide_eq_false h
    conv => whnf
    subst hk
    conv => whnf
    subst hK
    refine rdate_fin ?_ ?_ ?_
    · rfl
    · unfold mFr; rw [bif_f (by omega)]; rw [bif_t (by omega)]
    · rw [w64 (by omega) (by omega)]; unfold dFr; rw [bif_f (by omega)]; rw [bif_t (by omega)]; omega
  replace h := of_decide_eq_true h
  conv => whnf
  refine ⟨⟨rfl, by decide, by decide⟩, ?_⟩
  rw [show mnF 2 = 29 from by decide, w64 (n := n - 19723 - 31 - 29) (by omega) (by omega)]
  conv => whnf
  rw [show IntKind.i64.wrap (2 + 1) = 3 from rfl]
  subst hk
  refine unroll_step fun k hk => ?_
  conv => whnf
  refine ⟨⟨rfl, by decide, by decide⟩, ?_⟩
  rw [show mnF 3 = 31 from by decide]
  conv => whnf
  refine bsplit (fun h => ?_) (fun h => ?_)
  rotate_left
  · have h' := of_decide_eq_false h
    conv => whnf
    subst hk
    conv => whnf
    subst hK
    refine rdate_fin ?_ ?_ ?_
    · rfl
    · unfold mFr; rw [bif_f (by omega)]; rw [bif_f (by omega)]; rw [bif_t (by omega)]
    · rw [w64 (by omega) (by omega)]; unfold dFr; rw [bif_f (by omega)]; rw [bif_f (by omega)]; rw [bif_t (by omega)]; omega
  replace h := of_decide_eq_true h
  conv => whnf
  refine ⟨⟨rfl, by decide, by decide⟩, ?_⟩
  rw [show mnF 3 = 31 from by decide, w64 (n := n - 19723 - 31 - 29 - 31) (by omega) (by omega)]
  conv => whnf
  rw [show IntKind.i64.wrap (3 + 1) = 4 from rfl]
  subst hk
  refine unroll_step fun k hk => ?_
  conv => whnf
  refine ⟨⟨rfl, by decide, by decide⟩, ?_⟩
  rw [show mnF 4 = 30 from by decide]
  conv => whnf
  refine bsplit (fun h => ?_) (fun h => ?_)
  rotate_left
  · have h' := of_decide_eq_false h
    conv => whnf
    subst hk
    conv => whnf
    subst hK
    refine rdate_fin ?_ ?_ ?_
    · rfl
    · unfold mFr; rw [bif_f (by omega)]; rw [bif_f (by omega)]; rw [bif_f (by omega)]; rw [bif_t (by omega)]
    · rw [w64 (by omega) (by omega)]; unfold dFr; rw [bif_f (by omega)]; rw [bif_f (by omega)]; rw [bif_f (by omega)]; rw [bif_t (by omega)]; omega
  replace h := of_decide_eq_true h
  conv => whnf
  refine ⟨⟨rfl, by decide, by decide⟩, ?_⟩
  rw [show mnF 4 = 30 from by decide, w64 (n := n - 19723 - 31 - 29 - 31 - 30) (by omega) (by omega)]
  conv => whnf
  rw [show IntKind.i64.wrap (4 + 1) = 5 from rfl]
  subst hk
  refine unroll_step fun k hk => ?_
  conv => whnf
  refine ⟨⟨rfl, by decide, by decide⟩, ?_⟩
  rw [show mnF 5 = 31 from by decide]
  conv => whnf
  refine bsplit (fun h => ?_) (fun h => ?_)
  rotate_left
  · have h' := of_decide_eq_false h
    conv => whnf
    subst hk
    conv => whnf
    subst hK
    refine rdate_fin ?_ ?_ ?_
    · rfl
    · unfold mFr; rw [bif_f (by omega)]; rw [bif_f (by omega)]; rw [bif_f (by omega)]; rw [bif_f (by omega)]; rw [bif_t (by omega)]
    · rw [w64 (by omega) (by omega)]; unfold dFr; rw [bif_f (by omega)]; rw [bif_f (by omega)]; rw [bif_f (by omega)]; rw [bif_f (by omega)]; rw [bif_t (by omega)]; omega
  replace h := of_decide_eq_true h
  conv => whnf
  refine ⟨⟨rfl, by decide, by decide⟩, ?_⟩
  rw [show mnF 5 = 31 from by decide, w64 (n := n - 19723 - 31 - 29 - 31 - 30 - 31) (by omega) (by omega)]
  conv => whnf
  rw [show IntKind.i64.wrap (5 + 1) = 6 from rfl]
  subst hk
  refine unroll_step fun k hk => ?_
  conv => whnf
  refine ⟨⟨rfl, by decide, by decide⟩, ?_⟩
  rw [show mnF 6 = 30 from by decide]
  conv => whnf
  refine bsplit (fun h => ?_) (fun h => ?_)
  rotate_left
  · have h' := of_decide_eq_false h
    conv => whnf
    subst hk
    conv => whnf
    subst hK
    refine rdate_fin ?_ ?_ ?_
    · rfl
    · unfold mFr; rw [bif_f (by omega)]; rw [bif_f (by omega)]; rw [bif_f (by omega)]; rw [bif_f (by omega)]; rw [bif_f (by omega)]; rw [bif_t (by omega)]
    · rw [w64 (by omega) (by omega)]; unfold dFr; rw [bif_f (by omega)]; rw [bif_f (by omega)]; rw [bif_f (by omega)]; rw [bif_f (by omega)]; rw [bif_f (by omega)]; rw [bif_t (by omega)]; omega
  replace h := of_decide_eq_true h
  conv => whnf
  refine ⟨⟨rfl, by decide, by decide⟩, ?_⟩
  rw [show mnF 6 = 30 from by decide, w64 (n := n - 19723 - 31 - 29 - 31 - 30 - 31 - 30) (by omega) (by omega)]
  conv => whnf
  rw [show IntKind.i64.wrap (6 + 1) = 7 from rfl]
  subst hk
  refine unroll_step fun k hk => ?_
  conv => whnf
  refine ⟨⟨rfl, by decide, by decide⟩, ?_⟩
  rw [show mnF 7 = 31 from by decide]
  conv => whnf
  refine bsplit (fun h => ?_) (fun h => ?_)
  rotate_left
  · have h' := of_decide_eq_false h
    conv => whnf
    subst hk
    conv => whnf
    subst hK
    refine rdate_fin ?_ ?_ ?_
    · rfl
    · unfold mFr; rw [bif_f (by omega)]; rw [bif_f (by omega)]; rw [bif_f (by omega)]; rw [bif_f (by omega)]; rw [bif_f (by omega)]; rw [bif_f (by omega)]; rw [bif_t (by omega)]
    · rw [w64 (by omega) (by omega)]; unfold dFr; rw [bif_f (by omega)]; rw [bif_f (by omega)]; rw [bif_f (by omega)]; rw [bif_f (by omega)]; rw [bif_f (by omega)]; rw [bif_f (by omega)]; rw [bif_t (by omega)]; omega
  replace h := of_decide_eq_true h
  conv => whnf
  refine ⟨⟨rfl, by decide, by decide⟩, ?_⟩
  rw [show mnF 7 = 31 from by decide, w64 (n := n - 19723 - 31 - 29 - 31 - 30 - 31 - 30 - 31) (by omega) (by omega)]
  conv => whnf
  rw [show IntKind.i64.wrap (7 + 1) = 8 from rfl]
  subst hk
  refine unroll_step fun k hk => ?_
  conv => whnf
  refine ⟨⟨rfl, by decide, by decide⟩, ?_⟩
  rw [show mnF 8 = 31 from by decide]
  conv => whnf
  refine bsplit (fun h => ?_) (fun h => ?_)
  rotate_left
  · have h' := of_decide_eq_false h
    conv => whnf
    subst hk
    conv => whnf
    subst hK
    refine rdate_fin ?_ ?_ ?_
    · rfl
    · unfold mFr; rw [bif_f (by omega)]; rw [bif_f (by omega)]; rw [bif_f (by omega)]; rw [bif_f (by omega)]; rw [bif_f (by omega)]; rw [bif_f (by omega)]; rw [bif_f (by omega)]; rw [bif_t (by omega)]
    · rw [w64 (by omega) (by omega)]; unfold dFr; rw [bif_f (by omega)]; rw [bif_f (by omega)]; rw [bif_f (by omega)]; rw [bif_f (by omega)]; rw [bif_f (by omega)]; rw [bif_f (by omega)]; rw [bif_f (by omega)]; rw [bif_t (by omega)]; omega
  replace h := of_decide_eq_true h
  conv => whnf
  refine ⟨⟨rfl, by decide, by decide⟩, ?_⟩
  rw [show mnF 8 = 31 from by decide, w64 (n := n - 19723 - 31 - 29 - 31 - 30 - 31 - 30 - 31 - 31) (by omega) (by omega)]
  conv => whnf
  rw [show IntKind.i64.wrap (8 + 1) = 9 from rfl]
  subst hk
  refine unroll_step fun k hk => ?_
  conv => whnf
  refine ⟨⟨rfl, by decide, by decide⟩, ?_⟩
  rw [show mnF 9 = 30 from by decide]
  conv => whnf
  refine bsplit (fun h => ?_) (fun h => ?_)
  rotate_left
  · have h' := of_decide_eq_false h
    conv => whnf
    subst hk
    conv => whnf
    subst hK
    refine rdate_fin ?_ ?_ ?_
    · rfl
    · unfold mFr; rw [bif_f (by omega)]; rw [bif_f (by omega)]; rw [bif_f (by omega)]; rw [bif_f (by omega)]; rw [bif_f (by omega)]; rw [bif_f (by omega)]; rw [bif_f (by omega)]; rw [bif_f (by omega)]; rw [bif_t (by omega)]
    · rw [w64 (by omega) (by omega)]; unfold dFr; rw [bif_f (by omega)]; rw [bif_f (by omega)]; rw [bif_f (by omega)]; rw [bif_f (by omega)]; rw [bif_f (by omega)]; rw [bif_f (by omega)]; rw [bif_f (by omega)]; rw [bif_f (by omega)]; rw [bif_t (by omega)]; omega
  replace h := of_decide_eq_true h
  conv => whnf
  refine ⟨⟨rfl, by decide, by decide⟩, ?_⟩
  rw [show mnF 9 = 30 from by decide, w64 (n := n - 19723 - 31 - 29 - 31 - 30 - 31 - 30 - 31 - 31 - 30) (by omega) (by omega)]
  conv => whnf
  rw [show IntKind.i64.wrap (9 + 1) = 10 from rfl]
  subst hk
  refine unroll_step fun k hk => ?_
  conv => whnf
  refine ⟨⟨rfl, by decide, by decide⟩, ?_⟩
  rw [show mnF 10 = 31 from by decide]
  conv => whnf
  refine bsplit (fun h => ?_) (fun h => ?_)
  rotate_left
  · have h' := of_decide_eq_false h
    conv => whnf
    subst hk
    conv => whnf
    subst hK
    refine rdate_fin ?_ ?_ ?_
    · rfl
    · unfold mFr; rw [bif_f (by omega)]; rw [bif_f (by omega)]; rw [bif_f (by omega)]; rw [bif_f (by omega)]; rw [bif_f (by omega)]; rw [bif_f (by omega)]; rw [bif_f (by omega)]; rw [bif_f (by omega)]; rw [bif_f (by omega)]; rw [bif_t (by omega)]
    · rw [w64 (by omega) (by omega)]; unfold dFr; rw [bif_f (by omega)]; rw [bif_f (by omega)]; rw [bif_f (by omega)]; rw [bif_f (by omega)]; rw [bif_f (by omega)]; rw [bif_f (by omega)]; rw [bif_f (by omega)]; rw [bif_f (by omega)]; rw [bif_f (by omega)]; rw [bif_t (by omega)]; omega
  replace h := of_decide_eq_true h
  conv => whnf
  refine ⟨⟨rfl, by decide, by decide⟩, ?_⟩
  rw [show mnF 10 = 31 from by decide, w64 (n := n - 19723 - 31 - 29 - 31 - 30 - 31 - 30 - 31 - 31 - 30 - 31) (by omega) (by omega)]
  conv => whnf
  rw [show IntKind.i64.wrap (10 + 1) = 11 from rfl]
  subst hk
  refine unroll_step fun k hk => ?_
  conv => whnf
  refine ⟨⟨rfl, by decide, by decide⟩, ?_⟩
  rw [show mnF 11 = 30 from by decide]
  conv => whnf
  refine bsplit (fun h => ?_) (fun h => ?_)
  rotate_left
  · have h' := of_decide_eq_false h
    conv => whnf
    subst hk
    conv => whnf
    subst hK
    refine rdate_fin ?_ ?_ ?_
    · rfl
    · unfold mFr; rw [bif_f (by omega)]; rw [bif_f (by omega)]; rw [bif_f (by omega)]; rw [bif_f (by omega)]; rw [bif_f (by omega)]; rw [bif_f (by omega)]; rw [bif_f (by omega)]; rw [bif_f (by omega)]; rw [bif_f (by omega)]; rw [bif_f (by omega)]; rw [bif_t (by omega)]
    · rw [w64 (by omega) (by omega)]; unfold dFr; rw [bif_f (by omega)]; rw [bif_f (by omega)]; rw [bif_f (by omega)]; rw [bif_f (by omega)]; rw [bif_f (by omega)]; rw [bif_f (by omega)]; rw [bif_f (by omega)]; rw [bif_f (by omega)]; rw [bif_f (by omega)]; rw [bif_f (by omega)]; rw [bif_t (by omega)]; omega
  replace h := of_decide_eq_true h
  conv => whnf
  refine ⟨⟨rfl, by decide, by decide⟩, ?_⟩
  rw [show mnF 11 = 30 from by decide, w64 (n := n - 19723 - 31 - 29 - 31 - 30 - 31 - 30 - 31 - 31 - 30 - 31 - 30) (by omega) (by omega)]
  conv => whnf
  rw [show IntKind.i64.wrap (11 + 1) = 12 from rfl]
  subst hk
  refine unroll_step fun k hk => ?_
  conv => whnf
  refine ⟨⟨rfl, by decide, by decide⟩, ?_⟩
  rw [show mnF 12 = 31 from by decide]
  conv => whnf
  refine bsplit (fun h => ?_) (fun h => ?_)
  rotate_left
  · have h' := of_decide_eq_false h
    conv => whnf
    subst hk
    conv => whnf
    subst hK
    refine rdate_fin ?_ ?_ ?_
    · rfl
    · unfold mFr; rw [bif_f (by omega)]; rw [bif_f (by omega)]; rw [bif_f (by omega)]; rw [bif_f (by omega)]; rw [bif_f (by omega)]; rw [bif_f (by omega)]; rw [bif_f (by omega)]; rw [bif_f (by omega)]; rw [bif_f (by omega)]; rw [bif_f (by omega)]; rw [bif_f (by omega)]; try rfl
    · rw [w64 (by omega) (by omega)]; unfold dFr; rw [bif_f (by omega)]; rw [bif_f (by omega)]; rw [bif_f (by omega)]; rw [bif_f (by omega)]; rw [bif_f (by omega)]; rw [bif_f (by omega)]; rw [bif_f (by omega)]; rw [bif_f (by omega)]; rw [bif_f (by omega)]; rw [bif_f (by omega)]; rw [bif_f (by omega)]; try omega
  replace h := of_decide_eq_true h
  exact absurd h (by omega)
theorem date109 : ∀ vs ob r, rdateQ vs = some (ob, r) → conj ob → SCall Tryz.prog 109 vs [] (Told r) := one_of (p := fun n => 19723 ≤ n ∧ n < 20089) fun n hn => by
  by_cases h : n < 19817
  · exact date109a n hn.1 h
  · exact date109b n (by omega) hn.2
/-- A day's number, of months of thirty days. -/
def thF (n : Int) : Int := 360 * 2024 + 30 * mFr n + (if 30 < dFr n then 30 else dFr n)
theorem mFr_b (n : Int) : 1 ≤ mFr n ∧ mFr n ≤ 12 := by
  unfold mFr
  simp only [Bool.cond_decide]
  repeat' split
  all_goals omega
theorem dFr_b {n : Int} (h1 : 19723 ≤ n) (h2 : n < 20089) : 1 ≤ dFr n ∧ dFr n ≤ 31 := by
  unfold dFr
  simp only [Bool.cond_decide]
  repeat' split
  all_goals omega
def thQ : QSpec := fun vs => match vs with | [.int .i64 n] => some ([19723 ≤ n ∧ n < 20089], .int .i64 (thF n)) | _ => none
def envPb3 : Env := [(109, rdateQ)]
theorem envPb3_ok : EnvOK Tryz.prog envPb3 := env_cons date109 env_nil
theorem thirty111 : ∀ vs ob r, thQ vs = some (ob, r) → conj ob → SCall Tryz.prog 111 vs [] (Told r) := one_of (p := fun n => 19723 ≤ n ∧ n < 20089) fun n hn => by
  have hm := mFr_b n
  have hd := dFr_b hn.1 hn.2
  refine scall_of (cfg_ok envPb3_ok 0) Tryz.func111 (by kernel_rfl) rfl ?_
  generalize hK : Told _ = K
  conv => whnf
  refine ⟨hn, ?_⟩
  conv => whnf
  subst hK
  refine told_int ?_
  unfold thF
  generalize mFr n = m at *
  generalize dFr n = d at *
  have hd' : 1 ≤ (if 30 < d then 30 else d) ∧ (if 30 < d then 30 else d) ≤ 31 := by split <;> omega
  generalize (if 30 < d then 30 else d) = x at *
  simp (disch := omega) only [w64]
/-- Parts of a night. -/
def oneF (c n : Int) : Int := if c = 2 then 1 else if c = 3 then 365 else thF (n + 1) - thF n
def oneQ : QSpec := fun vs => match vs with | [.int .i64 c, .int .i64 n] => some ([(1 ≤ c ∧ c ≤ 3) ∧ 19723 ≤ n ∧ n < 20088], .int .i64 (oneF c n)) | _ => none
def envPb4 : Env := [(109, rdateQ), (110, lgQ), (111, thQ)]
theorem envPb4_ok : EnvOK Tryz.prog envPb4 := env_cons date109 (env_cons long110 (env_cons thirty111 env_nil))
theorem oneQ_of {f : FuncId} (H : ∀ c n, (1 ≤ c ∧ c ≤ 3) → (19723 ≤ n ∧ n < 20088) → SCall Tryz.prog f [.int .i64 c, .int .i64 n] [] (Told (.int .i64 (oneF c n)))) : ∀ vs ob r, oneQ vs = some (ob, r) → conj ob → SCall Tryz.prog f vs [] (Told r) := by
  intro vs ob q h hob
  unfold oneQ at h
  split at h
  · rename_i c n
    simp only [Option.some.injEq, Prod.mk.injEq] at h
    obtain ⟨rfl, rfl⟩ := h
    exact H c n hob.1 hob.2
  · simp at h
theorem one54 : ∀ vs ob r, oneQ vs = some (ob, r) → conj ob → SCall Tryz.prog 54 vs [] (Told r) := oneQ_of fun c n hc hn => by
  have h3 : c = 1 ∨ c = 2 ∨ c = 3 := by omega
  rcases h3 with rfl | rfl | rfl
  · refine scall_of (cfg_ok envPb4_ok 0) Tryz.func54 (by kernel_rfl) rfl ?_
    generalize hK : Told _ = K
    conv => whnf
    refine ⟨⟨hn.1, by omega⟩, ?_⟩
    conv => whnf
    rw [w64 (n := n + 1) (by omega) (by omega)]
    refine ⟨⟨⟨by omega, by omega⟩, ⟨hn.1, by omega⟩⟩, ?_⟩
    conv => whnf
    subst hK
    refine told_int ?_
    have a1 := mFr_b n
    have a2 := dFr_b hn.1 (show n < 20089 by omega)
    have b1 := mFr_b (n + 1)
    have b2 := dFr_b (n := n + 1) (by omega) (by omega)
    show IntKind.i64.wrap (thF (n + 1) - thF n) = thF (n + 1) - thF n
    unfold thF
    refine w64 ?_ ?_ <;> split <;> split <;> omega
  · refine scall_of (cfg_ok envPb4_ok 0) Tryz.func54 (by kernel_rfl) rfl ?_
    generalize hK : Told _ = K
    conv => whnf
    refine ⟨⟨hn.1, by omega⟩, ?_⟩
    conv => whnf
    subst hK
    exact told_cint rfl
  · refine scall_of (cfg_ok envPb4_ok 0) Tryz.func54 (by kernel_rfl) rfl ?_
    generalize hK : Told _ = K
    conv => whnf
    refine ⟨⟨hn.1, by omega⟩, ?_⟩
    conv => whnf
    refine ⟨trivial, ?_⟩
    conv => whnf
    subst hK
    exact told_cint rfl
def envPb5 : Env := [(54, oneQ)]
theorem envPb5_ok : EnvOK Tryz.prog envPb5 := env_cons one54 env_nil
theorem one19 : ∀ vs ob r, oneQ vs = some (ob, r) → conj ob → SCall Tryz.prog 19 vs [] (Told r) := oneQ_of fun c n hc hn => by
  refine scall_of (cfg_ok envPb5_ok 0) Tryz.func19 (by kernel_rfl) rfl ?_
  generalize hK : Told _ = K
  conv => whnf
  refine ⟨⟨hc, hn⟩, ?_⟩
  conv => whnf
  subst hK
  exact told_int rfl

end Go.Proofs.YtnnoplgabnfdiaaGreatDoor.Sh
/- The shadow machine over this program: the law in plain numbers: parts of nights add up; what a loan bears, off by less than a unit. -/
namespace Go.Proofs.YtnnoplgabnfdiaaGreatDoor.Sh
open Go Go.RowKit
set_option linter.unusedVariables false
set_option linter.unusedSimpArgs false
theorem mF_eq {d : Int} (h : d < 20089) : mF d = mFr d := by
  unfold mF mFr
  simp only [Bool.cond_decide]
  repeat' split
  all_goals omega
theorem dF_eq {d : Int} (h : d < 20089) : dF d = dFr d := by
  unfold dF dFr
  simp only [Bool.cond_decide]
  repeat' split
  all_goals omega
theorem place1 {d : Int} (h : d < 20089) : placeF 1 d = thF d := by
  unfold placeF thF
  rw [mF_eq h, dF_eq h, show yF d = 2024 from by unfold yF; rw [decide_eq_true h]; rfl]
  rfl
theorem place3 {d : Int} (h : d < 20089) : placeF 3 d = 2024 * 133590 + (d - 19723) * 365 := by
  unfold placeF
  rw [show yF d = 2024 from by unfold yF; rw [decide_eq_true h]; rfl]
  rfl
theorem th_b {d : Int} (h1 : 19723 ≤ d) (h2 : d < 20089) : 728671 ≤ thF d ∧ thF d ≤ 729030 := by
  have a := mFr_b d
  have b := dFr_b h1 h2
  unfold thF
  split <;> omega
theorem th_0 : thF 19723 = 728671 := by decide
theorem bet_eq {c d : Int} (hc : 1 ≤ c ∧ c ≤ 3) (h1 : 19723 ≤ d) (h2 : d < 20089) : betF c 19723 d = if c = 2 then d - 19723 else if c = 3 then (d - 19723) * 365 else thF d - thF 19723 := by
  unfold betF
  have h3 : c = 1 ∨ c = 2 ∨ c = 3 := by omega
  rcases h3 with rfl | rfl | rfl
  · rw [place1 h2, place1 (d := 19723) (by omega), if_neg (by omega), if_neg (by omega)]
    have := th_b h1 h2
    rw [th_0]
    exact w64 (by omega) (by omega)
  · rw [if_pos rfl]
    show IntKind.i64.wrap (d - 19723) = _
    exact w64 (by omega) (by omega)
  · rw [place3 h2, place3 (d := 19723) (by omega), if_neg (by omega), if_pos rfl]
    rw [show (2024 * 133590 + (d - 19723) * 365 - (2024 * 133590 + (19723 - 19723) * 365) : Int) = (d - 19723) * 365 from by omega]
    exact w64 (by omega) (by omega)
theorem bet_0 {c : Int} (hc : 1 ≤ c ∧ c ≤ 3) : betF c 19723 19723 = 0 := by
  rw [bet_eq hc (by omega) (by omega)]
  split
  · omega
  · split <;> omega
theorem bet_step {c d : Int} (hc : 1 ≤ c ∧ c ≤ 3) (h1 : 19723 ≤ d) (h2 : d + 1 < 20089) : betF c 19723 (d + 1) = betF c 19723 d + oneF c d := by
  rw [bet_eq hc (by omega) h2, bet_eq hc h1 (by omega)]
  unfold oneF
  split
  · omega
  · split <;> omega
theorem bet_b {c d : Int} (hc : 1 ≤ c ∧ c ≤ 3) (h1 : 19723 ≤ d) (h2 : d < 20089) : 0 ≤ betF c 19723 d ∧ betF c 19723 d ≤ 133590 := by
  rw [bet_eq hc h1 h2]
  have := th_b h1 h2
  rw [th_0]
  split
  · omega
  · split <;> omega
theorem exact_b {w v a r q H : Int} (hw : 0 < w) (hH : 0 ≤ H ∧ H < 1000 * w) (ha : 0 ≤ a) (hr : 0 ≤ r) (hq : 0 ≤ q) (hv : v = (a * r * q + (0 + H)) / (1000 * w)) : -w ≤ v * w - a * (r / 1000) * q ∧ v * w - a * (r / 1000) * q ≤ w + a * q := by
  have hW : 0 < 1000 * w := by omega
  have e1 := Int.mul_ediv_add_emod (a * r * q + (0 + H)) (1000 * w)
  have e2 := Int.emod_nonneg (a * r * q + (0 + H)) (show (1000 * w) ≠ 0 by omega)
  have e3 := Int.emod_lt_of_pos (a * r * q + (0 + H)) hW
  rw [← hv] at e1
  have e4 := Int.mul_ediv_add_emod r 1000
  have e5 := Int.emod_nonneg r (show (1000 : Int) ≠ 0 by omega)
  have e6 := Int.emod_lt_of_pos r (show (0 : Int) < 1000 by omega)
  generalize r / 1000 = k at *
  generalize r % 1000 = r0 at *
  have hZ : 0 ≤ a * q := Int.mul_nonneg ha hq
  have hZ1 : 0 ≤ r0 * (a * q) := Int.mul_nonneg e5 hZ
  have hZ2 : r0 * (a * q) ≤ 999 * (a * q) := Int.mul_le_mul_of_nonneg_right (by omega) hZ
  have eX : a * r * q = 1000 * (a * k * q) + r0 * (a * q) := by
    rw [← e4, Int.mul_add, Int.add_mul, Int.mul_comm a (1000 * k), Int.mul_assoc 1000 k a, Int.mul_comm k a, Int.mul_assoc 1000 (a * k) q, Int.mul_comm a r0, Int.mul_assoc r0 a q]
  have eT : 1000 * w * v = 1000 * (v * w) := by rw [Int.mul_assoc, Int.mul_comm w v]
  rw [eX] at e1 e2 e3
  rw [eT] at e1
  generalize (1000 * (a * k * q) + r0 * (a * q) + (0 + H)) % (1000 * w) = m at *
  generalize a * k * q = Y at *
  generalize v * w = T at *
  generalize r0 * (a * q) = R at *
  generalize a * q = Z at *
  omega
end Go.Proofs.YtnnoplgabnfdiaaGreatDoor.Sh
