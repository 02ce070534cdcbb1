/- Part 13 of a proof over the shadow machine. -/
import Derived.Test.YtnnoplgabnfdiaaGreatDoorN12
import Derived.Shelf.Strings.Search3
/- The shadow machine over this program: dates of 2024, and 1 January 2025. -/
namespace Go.Proofs.YtnnoplgabnfdiaaGreatDoor.Sh
open Go Go.RowKit
set_option linter.unusedVariables false
set_option linter.unusedSimpArgs false
set_option maxRecDepth 100000
set_option maxHeartbeats 4000000
theorem unroll_step {f : (EX → AState → Prop) → AState → Prop} {n : List Unit} {K : EX → AState → Prop} {s : AState}
    (H : ∀ k, (fun e s' => match e with | .normal => unroll f n K s' | e => K e s') = k → f k s) : unroll f (() :: n) K s := H _ rfl
def envB1 : Env := [(245, longQ), (203, opensQ), (204, monthQ)]
theorem envB1_ok : EnvOK Tryz.prog envB1 := env_cons long245 (env_cons opens203 (env_cons month204 env_nil))
theorem out_no {n a b : Int} (h1 : a ≤ n) (h2 : n ≤ b) : (bif decide (n < a) then true else decide (n > b)) = false := by
  rw [show decide (n < a) = false from decide_eq_false (by omega), show decide (n > b) = false from decide_eq_false (by omega)]; rfl
def yF (n : Int) : Int := bif decide (n < 20089) then 2024 else 2025
def mF (n : Int) : Int := bif decide (n < 19754) then 1 else bif decide (n < 19783) then 2 else bif decide (n < 19814) then 3 else bif decide (n < 19844) then 4 else bif decide (n < 19875) then 5 else bif decide (n < 19905) then 6 else bif decide (n < 19936) then 7 else bif decide (n < 19967) then 8 else bif decide (n < 19997) then 9 else bif decide (n < 20028) then 10 else bif decide (n < 20058) then 11 else bif decide (n < 20089) then 12 else 1
def dF (n : Int) : Int := bif decide (n < 19754) then n - 19722 else bif decide (n < 19783) then n - 19753 else bif decide (n < 19814) then n - 19782 else bif decide (n < 19844) then n - 19813 else bif decide (n < 19875) then n - 19843 else bif decide (n < 19905) then n - 19874 else bif decide (n < 19936) then n - 19904 else bif decide (n < 19967) then n - 19935 else bif decide (n < 19997) then n - 19966 else bif decide (n < 20028) then n - 19996 else bif decide (n < 20058) then n - 20027 else bif decide (n < 20089) then n - 20057 else n - 20088
def dateV (n : Int) : AV := .tup [.agg [.int .i64 (yF n), .int .i64 (mF n), .int .i64 (dF n)], .int .i64 0]
def dateQ : QSpec := fun vs => match vs with | [.int .i64 n] => some ([19723 ≤ n ∧ n ≤ 20089], dateV n) | _ => none
theorem date_fin {n y m x : Int} {h' : List AO} (e1 : y = yF n) (e2 : m = mF n) (e3 : x = dF n) : Told (dateV n) (.ret (.tup [.agg [.int .i64 y, .int .i64 m, .int .i64 x], .cint .i64 0])) h' := by subst e1; subst e2; subst e3; exact told_of trivial rfl
theorem date_finc {n y m x : Int} {h' : List AO} (e1 : y = yF n) (e2 : m = mF n) (e3 : x = dF n) : Told (dateV n) (.ret (.tup [.agg [.int .i64 y, .cint .i64 m, .int .i64 x], .cint .i64 0])) h' := by subst e1; subst e2; subst e3; exact told_of trivial rfl
theorem bif_t {p : Prop} {x y : Int} {_ : Decidable p} (h : p) : (bif decide p then x else y) = x := by rw [decide_eq_true h]; rfl
theorem bif_f {p : Prop} {x y : Int} {_ : Decidable p} (h : ¬ p) : (bif decide p then x else y) = y := by rw [decide_eq_false h]; rfl
theorem date178a (n : Int) (h1 : 19723 ≤ n) (h2 : n < 19817) : SCall Tryz.prog 178 [.int .i64 n] [] (Told (dateV n)) := by
  refine scall_of (cfg_ok envB1_ok 0) Tryz.func178 (by kernel_rfl) rfl ?_
  generalize hK : Told _ = K
  conv => whnf
  refine bsplit (fun h => by rw [out_no (by omega) (by omega)] at h; cases h) (fun h => ?_)
  conv => whnf
  refine ⟨by simp [conj], ?_⟩
  rw [show IntKind.i64.wrap (n - -25567) = n + 25567 from by rw [w64 (by omega) (by omega)]; omega, show (n + 25567).tdiv 366 = 123 from by rw [td_eq (by omega)]; omega, show IntKind.i64.wrap (1900 + IntKind.i64.wrap 123) = 2023 from rfl]
  conv => whnf
  refine .inl ⟨[(), (), ()], ?_⟩
  refine unroll_step fun k hk => ?_
  conv => whnf
  refine ⟨fun _ => (by decide : 1 ≤ IntKind.i64.wrap (2023 + 1) ∧ IntKind.i64.wrap (2023 + 1) ≤ 10000), ?_⟩
  rw [show opensF (IntKind.i64.wrap (2023 + 1)) = 19723 from rfl]
  conv => whnf
  refine bsplit (fun _ => ?_) (fun h => by simp at h; omega)
  conv => whnf
  rw [show IntKind.i64.wrap (2023 + 1) = 2024 from rfl]
  subst hk
  refine unroll_step fun k hk => ?_
  conv => whnf
  refine ⟨fun _ => (by decide : 1 ≤ IntKind.i64.wrap (2024 + 1) ∧ IntKind.i64.wrap (2024 + 1) ≤ 10000), ?_⟩
  rw [show opensF (IntKind.i64.wrap (2024 + 1)) = 20089 from rfl]
  conv => whnf
  refine bsplit (fun h => by simp at h; omega) (fun _ => ?_)
  conv => whnf
  subst hk
  conv => whnf
  refine ⟨⟨by decide, by decide⟩, ?_⟩
  rw [show opensF 2024 = 19723 from rfl, w64 (n := n - 19723) (by omega) (by omega)]
  conv => whnf
  refine .inl ⟨[(), (), (), (), (), (), (), (), (), (), (), (), ()], ?_⟩

  refine unroll_step fun k hk => ?_
  conv => whnf
  refine ⟨⟨by decide, by decide⟩, ?_⟩
  rw [show monthF 2024 1 = 31 from rfl]
  conv => whnf
  refine bsplit (fun h => ?_) (fun h => ?_)
  rotate_left
  · have h' := of_decide_eq_false h
    conv => whnf
    subst hk
    conv => whnf
    subst hK
    refine date_finc ?_ ?_ ?_
    · exact (bif_t (by omega)).symm
    · unfold mF; rw [bif_t (by omega)]
    · rw [w64 (by omega) (by omega)]; unfold dF; rw [bif_t (by omega)]; omega
  replace h := of_decide_eq_true h
  conv => whnf
  refine ⟨⟨by decide, by decide⟩, ?_⟩
  rw [show monthF 2024 1 = 31 from rfl, w64 (n := n - 19723 - 31) (by omega) (by omega)]
  conv => whnf
  rw [show IntKind.i64.wrap (1 + 1) = 2 from rfl]
  subst hk
  refine unroll_step fun k hk => ?_
  conv => whnf
  refine ⟨⟨by decide, by decide⟩, ?_⟩
  rw [show monthF 2024 2 = 29 from rfl]
  conv => whnf
  refine bsplit (fun h => ?_) (fun h => ?_)
  rotate_left
  · have h' := of_decide_eq_false h
    conv => whnf
    subst hk
    conv => whnf
    subst hK
    refine date_fin ?_ ?_ ?_
    · exact (bif_t (by omega)).symm
    · unfold mF; rw [bif_f (by omega)]; rw [bif_t (by omega)]
    · rw [w64 (by omega) (by omega)]; unfold dF; rw [bif_f (by omega)]; rw [bif_t (by omega)]; omega
  replace h := of_decide_eq_true h
  conv => whnf
  refine ⟨⟨by decide, by decide⟩, ?_⟩
  rw [show monthF 2024 2 = 29 from rfl, w64 (n := n - 19723 - 31 - 29) (by omega) (by omega)]
  conv => whnf
  rw [show IntKind.i64.wrap (2 + 1) = 3 from rfl]
  subst hk
  refine unroll_step fun k hk => ?_
  conv => whnf
  refine ⟨⟨by decide, by decide⟩, ?_⟩
  rw [show monthF 2024 3 = 31 from rfl]
  conv => whnf
  refine bsplit (fun h => ?_) (fun h => ?_)
  rotate_left
  · have h' := of_decide_eq_false h
    conv => whnf
    subst hk
    conv => whnf
    subst hK
    refine date_fin ?_ ?_ ?_
    · exact (bif_t (by omega)).symm
    · unfold mF; rw [bif_f (by omega)]; rw [bif_f (by omega)]; rw [bif_t (by omega)]
    · rw [w64 (by omega) (by omega)]; unfold dF; rw [bif_f (by omega)]; rw [bif_f (by omega)]; rw [bif_t (by omega)]; omega
  replace h := of_decide_eq_true h
  conv => whnf
  refine ⟨⟨by decide, by decide⟩, ?_⟩
  rw [show monthF 2024 3 = 31 from rfl, w64 (n := n - 19723 - 31 - 29 - 31) (by omega) (by omega)]
  conv => whnf
  rw [show IntKind.i64.wrap (3 + 1) = 4 from rfl]
  subst hk
  refine unroll_step fun k hk => ?_
  conv => whnf
  refine ⟨⟨by decide, by decide⟩, ?_⟩
  rw [show monthF 2024 4 = 30 from rfl]
  conv => whnf
  refine bsplit (fun h => ?_) (fun h => ?_)
  rotate_left
  · have h' := of_decide_eq_false h
    conv => whnf
    subst hk
    conv => whnf
    subst hK
    refine date_fin ?_ ?_ ?_
    · exact (bif_t (by omega)).symm
    · unfold mF; rw [bif_f (by omega)]; rw [bif_f (by omega)]; rw [bif_f (by omega)]; rw [bif_t (by omega)]
    · rw [w64 (by omega) (by omega)]; unfold dF; rw [bif_f (by omega)]; rw [bif_f (by omega)]; rw [bif_f (by omega)]; rw [bif_t (by omega)]; omega
  replace h := of_decide_eq_true h
  conv => whnf
  refine ⟨⟨by decide, by decide⟩, ?_⟩
  rw [show monthF 2024 4 = 30 from rfl, w64 (n := n - 19723 - 31 - 29 - 31 - 30) (by omega) (by omega)]
  conv => whnf
  rw [show IntKind.i64.wrap (4 + 1) = 5 from rfl]
  subst hk
  refine unroll_step fun k hk => ?_
  conv => whnf
  refine ⟨⟨by decide, by decide⟩, ?_⟩
  rw [show monthF 2024 5 = 31 from rfl]
  conv => whnf
  refine bsplit (fun h => ?_) (fun h => ?_)
  rotate_left
  · have h' := of_decide_eq_false h
    conv => whnf
    subst hk
    conv => whnf
    subst hK
    refine date_fin ?_ ?_ ?_
    · exact (bif_t (by omega)).symm
    · unfold mF; rw [bif_f (by omega)]; rw [bif_f (by omega)]; rw [bif_f (by omega)]; rw [bif_f (by omega)]; rw [bif_t (by omega)]
    · rw [w64 (by omega) (by omega)]; unfold dF; rw [bif_f (by omega)]; rw [bif_f (by omega)]; rw [bif_f (by omega)]; rw [bif_f (by omega)]; rw [bif_t (by omega)]; omega
  replace h := of_decide_eq_true h
  conv => whnf
  refine ⟨⟨by decide, by decide⟩, ?_⟩
  rw [show monthF 2024 5 = 31 from rfl, w64 (n := n - 19723 - 31 - 29 - 31 - 30 - 31) (by omega) (by omega)]
  conv => whnf
  rw [show IntKind.i64.wrap (5 + 1) = 6 from rfl]
  subst hk
  refine unroll_step fun k hk => ?_
  conv => whnf
  refine ⟨⟨by decide, by decide⟩, ?_⟩
  rw [show monthF 2024 6 = 30 from rfl]
  conv => whnf
  refine bsplit (fun h => ?_) (fun h => ?_)
  rotate_left
  · have h' := of_decide_eq_false h
    conv => whnf
    subst hk
    conv => whnf
    subst hK
    refine date_fin ?_ ?_ ?_
    · exact (bif_t (by omega)).symm
    · unfold mF; rw [bif_f (by omega)]; rw [bif_f (by omega)]; rw [bif_f (by omega)]; rw [bif_f (by omega)]; rw [bif_f (by omega)]; rw [bif_t (by omega)]
    · rw [w64 (by omega) (by omega)]; unfold dF; rw [bif_f (by omega)]; rw [bif_f (by omega)]; rw [bif_f (by omega)]; rw [bif_f (by omega)]; rw [bif_f (by omega)]; rw [bif_t (by omega)]; omega
  replace h := of_decide_eq_true h
  conv => whnf
  refine ⟨⟨by decide, by decide⟩, ?_⟩
  rw [show monthF 2024 6 = 30 from rfl, w64 (n := n - 19723 - 31 - 29 - 31 - 30 - 31 - 30) (by omega) (by omega)]
  conv => whnf
  rw [show IntKind.i64.wrap (6 + 1) = 7 from rfl]
  subst hk
  refine unroll_step fun k hk => ?_
  conv => whnf
  refine ⟨⟨by decide, by decide⟩, ?_⟩
  rw [show monthF 2024 7 = 31 from rfl]
  conv => whnf
  refine bsplit (fun h => ?_) (fun h => ?_)
  rotate_left
  · have h' := of_decide_eq_false h
    conv => whnf
    subst hk
    conv => whnf
    subst hK
    refine date_fin ?_ ?_ ?_
    · exact (bif_t (by omega)).symm
    · unfold mF; rw [bif_f (by omega)]; rw [bif_f (by omega)]; rw [bif_f (by omega)]; rw [bif_f (by omega)]; rw [bif_f (by omega)]; rw [bif_f (by omega)]; rw [bif_t (by omega)]
    · rw [w64 (by omega) (by omega)]; unfold dF; rw [bif_f (by omega)]; rw [bif_f (by omega)]; rw [bif_f (by omega)]; rw [bif_f (by omega)]; rw [bif_f (by omega)]; rw [bif_f (by omega)]; rw [bif_t (by omega)]; omega
  replace h := of_decide_eq_true h
  conv => whnf
  refine ⟨⟨by decide, by decide⟩, ?_⟩
  rw [show monthF 2024 7 = 31 from rfl, w64 (n := n - 19723 - 31 - 29 - 31 - 30 - 31 - 30 - 31) (by omega) (by omega)]
  conv => whnf
  rw [show IntKind.i64.wrap (7 + 1) = 8 from rfl]
  subst hk
  refine unroll_step fun k hk => ?_
  conv => whnf
  refine ⟨⟨by decide, by decide⟩, ?_⟩
  rw [show monthF 2024 8 = 31 from rfl]
  conv => whnf
  refine bsplit (fun h => ?_) (fun h => ?_)
  rotate_left
  · have h' := of_decide_eq_false h
    conv => whnf
    subst hk
    conv => whnf
    subst hK
    refine date_fin ?_ ?_ ?_
    · exact (bif_t (by omega)).symm
    · unfold mF; rw [bif_f (by omega)]; rw [bif_f (by omega)]; rw [bif_f (by omega)]; rw [bif_f (by omega)]; rw [bif_f (by omega)]; rw [bif_f (by omega)]; rw [bif_f (by omega)]; rw [bif_t (by omega)]
    · rw [w64 (by omega) (by omega)]; unfold dF; rw [bif_f (by omega)]; rw [bif_f (by omega)]; rw [bif_f (by omega)]; rw [bif_f (by omega)]; rw [bif_f (by omega)]; rw [bif_f (by omega)]; rw [bif_f (by omega)]; rw [bif_t (by omega)]; omega
  replace h := of_decide_eq_true h
  conv => whnf
  refine ⟨⟨by decide, by decide⟩, ?_⟩
  rw [show monthF 2024 8 = 31 from rfl, w64 (n := n - 19723 - 31 - 29 - 31 - 30 - 31 - 30 - 31 - 31) (by omega) (by omega)]
  conv => whnf
  rw [show IntKind.i64.wrap (8 + 1) = 9 from rfl]
  subst hk
  refine unroll_step fun k hk => ?_
  conv => whnf
  refine ⟨⟨by decide, by decide⟩, ?_⟩
  rw [show monthF 2024 9 = 30 from rfl]
  conv => whnf
  refine bsplit (fun h => ?_) (fun h => ?_)
  rotate_left
  · have h' := of_decide_eq_false h
    conv => whnf
    subst hk
    conv => whnf
    subst hK
    refine date_fin ?_ ?_ ?_
    · exact (bif_t (by omega)).symm
    · unfold mF; rw [bif_f (by omega)]; rw [bif_f (by omega)]; rw [bif_f (by omega)]; rw [bif_f (by omega)]; rw [bif_f (by omega)]; rw [bif_f (by omega)]; rw [bif_f (by omega)]; rw [bif_f (by omega)]; rw [bif_t (by omega)]
    · rw [w64 (by omega) (by omega)]; unfold dF; rw [bif_f (by omega)]; rw [bif_f (by omega)]; rw [bif_f (by omega)]; rw [bif_f (by omega)]; rw [bif_f (by omega)]; rw [bif_f (by omega)]; rw [bif_f (by omega)]; rw [bif_f (by omega)]; rw [bif_t (by omega)]; omega
  replace h := of_decide_eq_true h
  conv => whnf
  refine ⟨⟨by decide, by decide⟩, ?_⟩
  rw [show monthF 2024 9 = 30 from rfl, w64 (n := n - 19723 - 31 - 29 - 31 - 30 - 31 - 30 - 31 - 31 - 30) (by omega) (by omega)]
  conv => whnf
  rw [show IntKind.i64.wrap (9 + 1) = 10 from rfl]
  subst hk
  refine unroll_step fun k hk => ?_
  conv => whnf
  refine ⟨⟨by decide, by decide⟩, ?_⟩
  rw [show monthF 2024 10 = 31 from rfl]
  conv => whnf
  refine bsplit (fun h => ?_) (fun h => ?_)
  rotate_left
  · have h' := of_decide_eq_false h
    conv => whnf
    subst hk
    conv => whnf
    subst hK
    refine date_fin ?_ ?_ ?_
    · exact (bif_t (by omega)).symm
    · unfold mF; rw [bif_f (by omega)]; rw [bif_f (by omega)]; rw [bif_f (by omega)]; rw [bif_f (by omega)]; rw [bif_f (by omega)]; rw [bif_f (by omega)]; rw [bif_f (by omega)]; rw [bif_f (by omega)]; rw [bif_f (by omega)]; rw [bif_t (by omega)]
    · rw [w64 (by omega) (by omega)]; unfold dF; rw [bif_f (by omega)]; rw [bif_f (by omega)]; rw [bif_f (by omega)]; rw [bif_f (by omega)]; rw [bif_f (by omega)]; rw [bif_f (by omega)]; rw [bif_f (by omega)]; rw [bif_f (by omega)]; rw [bif_f (by omega)]; rw [bif_t (by omega)]; omega
  replace h := of_decide_eq_true h
  conv => whnf
  refine ⟨⟨by decide, by decide⟩, ?_⟩
  rw [show monthF 2024 10 = 31 from rfl, w64 (n := n - 19723 - 31 - 29 - 31 - 30 - 31 - 30 - 31 - 31 - 30 - 31) (by omega) (by omega)]
  conv => whnf
  rw [show IntKind.i64.wrap (10 + 1) = 11 from rfl]
  subst hk
  refine unroll_step fun k hk => ?_
  conv => whnf
  refine ⟨⟨by decide, by decide⟩, ?_⟩
  rw [show monthF 2024 11 = 30 from rfl]
  conv => whnf
  refine bsplit (fun h => ?_) (fun h => ?_)
  rotate_left
  · have h' := of_decide_eq_false h
    conv => whnf
    subst hk
    conv => whnf
    subst hK
    refine date_fin ?_ ?_ ?_
    · exact (bif_t (by omega)).symm
    · unfold mF; rw [bif_f (by omega)]; rw [bif_f (by omega)]; rw [bif_f (by omega)]; rw [bif_f (by omega)]; rw [bif_f (by omega)]; rw [bif_f (by omega)]; rw [bif_f (by omega)]; rw [bif_f (by omega)]; rw [bif_f (by omega)]; rw [bif_f (by omega)]; rw [bif_t (by omega)]
    · rw [w64 (by omega) (by omega)]; unfold dF; rw [bif_f (by omega)]; rw [bif_f (by omega)]; rw [bif_f (by omega)]; rw [bif_f (by omega)]; rw [bif_f (by omega)]; rw [bif_f (by omega)]; rw [bif_f (by omega)]; rw [bif_f (by omega)]; rw [bif_f (by omega)]; rw [bif_f (by omega)]; rw [bif_t (by omega)]; omega
  replace h := of_decide_eq_true h
  conv => whnf
  refine ⟨⟨by decide, by decide⟩, ?_⟩
  rw [show monthF 2024 11 = 30 from rfl, w64 (n := n - 19723 - 31 - 29 - 31 - 30 - 31 - 30 - 31 - 31 - 30 - 31 - 30) (by omega) (by omega)]
  conv => whnf
  rw [show IntKind.i64.wrap (11 + 1) = 12 from rfl]
  subst hk
  refine unroll_step fun k hk => ?_
  conv => whnf
  refine ⟨⟨by decide, by decide⟩, ?_⟩
  rw [show monthF 2024 12 = 31 from rfl]
  conv => whnf
  refine bsplit (fun h => ?_) (fun h => ?_)
  rotate_left
  · have h' := of_decide_eq_false h
    conv => whnf
    subst hk
    conv => whnf
    subst hK
    refine date_fin ?_ ?_ ?_
    · exact (bif_t (by omega)).symm
    · unfold mF; rw [bif_f (by omega)]; rw [bif_f (by omega)]; rw [bif_f (by omega)]; rw [bif_f (by omega)]; rw [bif_f (by omega)]; rw [bif_f (by omega)]; rw [bif_f (by omega)]; rw [bif_f (by omega)]; rw [bif_f (by omega)]; rw [bif_f (by omega)]; rw [bif_f (by omega)]; rw [bif_t (by omega)]
    · rw [w64 (by omega) (by omega)]; unfold dF; rw [bif_f (by omega)]; rw [bif_f (by omega)]; rw [bif_f (by omega)]; rw [bif_f (by omega)]; rw [bif_f (by omega)]; rw [bif_f (by omega)]; rw [bif_f (by omega)]; rw [bif_f (by omega)]; rw [bif_f (by omega)]; rw [bif_f (by omega)]; rw [bif_f (by omega)]; rw [bif_t (by omega)]; omega
  replace h := of_decide_eq_true h
  exact absurd h (by omega)
theorem date178b (n : Int) (h1 : 19817 ≤ n) (h2 : n < 20089) : SCall Tryz.prog 178 [.int .i64 n] [] (Told (dateV n)) := by
  refine scall_of (cfg_ok envB1_ok 0) Tryz.func178 (by kernel_rfl) rfl ?_
  generalize hK : Told _ = K
  conv => whnf
  refine bsplit (fun h => by rw [out_no (by omega) (by omega)] at h; cases h) (fun h => ?_)
  conv => whnf
  refine ⟨by simp [conj], ?_⟩
  rw [show IntKind.i64.wrap (n - -25567) = n + 25567 from by rw [w64 (by omega) (by omega)]; omega, show (n + 25567).tdiv 366 = 124 from by rw [td_eq (by omega)]; omega, show IntKind.i64.wrap (1900 + IntKind.i64.wrap 124) = 2024 from rfl]
  conv => whnf
  refine .inl ⟨[(), (), ()], ?_⟩
  refine unroll_step fun k hk => ?_
  conv => whnf
  refine ⟨fun _ => (by decide : 1 ≤ IntKind.i64.wrap (2024 + 1) ∧ IntKind.i64.wrap (2024 + 1) ≤ 10000), ?_⟩
  rw [show opensF (IntKind.i64.wrap (2024 + 1)) = 20089 from rfl]
  conv => whnf
  refine bsplit (fun h => by simp at h; omega) (fun _ => ?_)
  conv => whnf
  subst hk
  conv => whnf
  refine ⟨⟨by decide, by decide⟩, ?_⟩
  rw [show opensF 2024 = 19723 from rfl, w64 (n := n - 19723) (by omega) (by omega)]
  conv => whnf
  refine .inl ⟨[(), (), (), (), (), (), (), (), (), (), (), (), ()], ?_⟩

  refine unroll_step fun k hk => ?_
  conv => whnf
  refine ⟨⟨by decide, by decide⟩, ?_⟩
  rw [show monthF 2024 1 = 31 from rfl]
  conv => whnf
  refine bsplit (fun h => ?_) (fun h => ?_)
  rotate_left
  · have h' := of_decide_eq_false h
    conv => whnf
    subst hk
    conv => whnf
    subst hK
    refine date_finc ?_ ?_ ?_
    · exact (bif_t (by omega)).symm
    · unfold mF; rw [bif_t (by omega)]
    · rw [w64 (by omega) (by omega)]; unfold dF; rw [bif_t (by omega)]; omega
  replace h := of_decide_eq_true h
  conv => whnf
  refine ⟨⟨by decide, by decide⟩, ?_⟩
  rw [show monthF 2024 1 = 31 from rfl, w64 (n := n - 19723 - 31) (by omega) (by omega)]
  conv => whnf
  rw [show IntKind.i64.wrap (1 + 1) = 2 from rfl]
  subst hk
  refine unroll_step fun k hk => ?_
  conv => whnf
  refine ⟨⟨by decide, by decide⟩, ?_⟩
  rw [show monthF 2024 2 = 29 from rfl]
  conv => whnf
  refine bsplit (fun h => ?_) (fun h => ?_)
  rotate_left
  · have h' := of_decide_eq_false h
    conv => whnf
    subst hk
    conv => whnf
    subst hK
    refine date_fin ?_ ?_ ?_
    · exact (bif_t (by omega)).symm
    · unfold mF; rw [bif_f (by omega)]; rw [bif_t (by omega)]
    · rw [w64 (by omega) (by omega)]; unfold dF; rw [bif_f (by omega)]; rw [bif_t (by omega)]; omega
  replace h := of_decide_eq_true h
  conv => whnf
  refine ⟨⟨by decide, by decide⟩, ?_⟩
  rw [show monthF 2024 2 = 29 from rfl, w64 (n := n - 19723 - 31 - 29) (by omega) (by omega)]
  conv => whnf
  rw [show IntKind.i64.wrap (2 + 1) = 3 from rfl]
  subst hk
  refine unroll_step fun k hk => ?_
  conv => whnf
  refine ⟨⟨by decide, by decide⟩, ?_⟩
  rw [show monthF 2024 3 = 31 from rfl]
  conv => whnf
  refine bsplit (fun h => ?_) (fun h => ?_)
  rotate_left
  · have h' := of_decide_eq_false h
    conv => whnf
    subst hk
    conv => whnf
    subst hK
    refine date_fin ?_ ?_ ?_
    · exact (bif_t (by omega)).symm
    · unfold mF; rw [bif_f (by omega)]; rw [bif_f (by omega)]; rw [bif_t (by omega)]
    · rw [w64 (by omega) (by omega)]; unfold dF; rw [bif_f (by omega)]; rw [bif_f (by omega)]; rw [bif_t (by omega)]; omega
  replace h := of_decide_eq_true h
  conv => whnf
  refine ⟨⟨by decide, by decide⟩, ?_⟩
  rw [show monthF 2024 3 = 31 from rfl, w64 (n := n - 19723 - 31 - 29 - 31) (by omega) (by omega)]
  conv => whnf
  rw [show IntKind.i64.wrap (3 + 1) = 4 from rfl]
  subst hk
  refine unroll_step fun k hk => ?_
  conv => whnf
  refine ⟨⟨by decide, by decide⟩, ?_⟩
  rw [show monthF 2024 4 = 30 from rfl]
  conv => whnf
  refine bsplit (fun h => ?_) (fun h => ?_)
  rotate_left
  · have h' := of_decide_eq_false h
    conv => whnf
    subst hk
    conv => whnf
    subst hK
    refine date_fin ?_ ?_ ?_
    · exact (bif_t (by omega)).symm
    · unfold mF; rw [bif_f (by omega)]; rw [bif_f (by omega)]; rw [bif_f (by omega)]; rw [bif_t (by omega)]
    · rw [w64 (by omega) (by omega)]; unfold dF; rw [bif_f (by omega)]; rw [bif_f (by omega)]; rw [bif_f (by omega)]; rw [bif_t (by omega)]; omega
  replace h := of_decide_eq_true h
  conv => whnf
  refine ⟨⟨by decide, by decide⟩, ?_⟩
  rw [show monthF 2024 4 = 30 from rfl, w64 (n := n - 19723 - 31 - 29 - 31 - 30) (by omega) (by omega)]
  conv => whnf
  rw [show IntKind.i64.wrap (4 + 1) = 5 from rfl]
  subst hk
  refine unroll_step fun k hk => ?_
  conv => whnf
  refine ⟨⟨by decide, by decide⟩, ?_⟩
  rw [show monthF 2024 5 = 31 from rfl]
  conv => whnf
  refine bsplit (fun h => ?_) (fun h => ?_)
  rotate_left
  · have h' := of_decide_eq_false h
    conv => whnf
    subst hk
    conv => whnf
    subst hK
    refine date_fin ?_ ?_ ?_
    · exact (bif_t (by omega)).symm
    · unfold mF; rw [bif_f (by omega)]; rw [bif_f (by omega)]; rw [bif_f (by omega)]; rw [bif_f (by omega)]; rw [bif_t (by omega)]
    · rw [w64 (by omega) (by omega)]; unfold dF; rw [bif_f (by omega)]; rw [bif_f (by omega)]; rw [bif_f (by omega)]; rw [bif_f (by omega)]; rw [bif_t (by omega)]; omega
  replace h := of_decide_eq_true h
  conv => whnf
  refine ⟨⟨by decide, by decide⟩, ?_⟩
  rw [show monthF 2024 5 = 31 from rfl, w64 (n := n - 19723 - 31 - 29 - 31 - 30 - 31) (by omega) (by omega)]
  conv => whnf
  rw [show IntKind.i64.wrap (5 + 1) = 6 from rfl]
  subst hk
  refine unroll_step fun k hk => ?_
  conv => whnf
  refine ⟨⟨by decide, by decide⟩, ?_⟩
  rw [show monthF 2024 6 = 30 from rfl]
  conv => whnf
  refine bsplit (fun h => ?_) (fun h => ?_)
  rotate_left
  · have h' := of_decide_eq_false h
    conv => whnf
    subst hk
    conv => whnf
    subst hK
    refine date_fin ?_ ?_ ?_
    · exact (bif_t (by omega)).symm
    · unfold mF; rw [bif_f (by omega)]; rw [bif_f (by omega)]; rw [bif_f (by omega)]; rw [bif_f (by omega)]; rw [bif_f (by omega)]; rw [bif_t (by omega)]
    · rw [w64 (by omega) (by omega)]; unfold dF; rw [bif_f (by omega)]; rw [bif_f (by omega)]; rw [bif_f (by omega)]; rw [bif_f (by omega)]; rw [bif_f (by omega)]; rw [bif_t (by omega)]; omega
  replace h := of_decide_eq_true h
  conv => whnf
  refine ⟨⟨by decide, by decide⟩, ?_⟩
  rw [show monthF 2024 6 = 30 from rfl, w64 (n := n - 19723 - 31 - 29 - 31 - 30 - 31 - 30) (by omega) (by omega)]
  conv => whnf
  rw [show IntKind.i64.wrap (6 + 1) = 7 from rfl]
  subst hk
  refine unroll_step fun k hk => ?_
  conv => whnf
  refine ⟨⟨by decide, by decide⟩, ?_⟩
  rw [show monthF 2024 7 = 31 from rfl]
  conv => whnf
  refine bsplit (fun h => ?_) (fun h => ?_)
  rotate_left
  · have h' := of_decide_eq_false h
    conv => whnf
    subst hk
    conv => whnf
    subst hK
    refine date_fin ?_ ?_ ?_
    · exact (bif_t (by omega)).symm
    · unfold mF; rw [bif_f (by omega)]; rw [bif_f (by omega)]; rw [bif_f (by omega)]; rw [bif_f (by omega)]; rw [bif_f (by omega)]; rw [bif_f (by omega)]; rw [bif_t (by omega)]
    · rw [w64 (by omega) (by omega)]; unfold dF; rw [bif_f (by omega)]; rw [bif_f (by omega)]; rw [bif_f (by omega)]; rw [bif_f (by omega)]; rw [bif_f (by omega)]; rw [bif_f (by omega)]; rw [bif_t (by omega)]; omega
  replace h := of_decide_eq_true h
  conv => whnf
  refine ⟨⟨by decide, by decide⟩, ?_⟩
  rw [show monthF 2024 7 = 31 from rfl, w64 (n := n - 19723 - 31 - 29 - 31 - 30 - 31 - 30 - 31) (by omega) (by omega)]
  conv => whnf
  rw [show IntKind.i64.wrap (7 + 1) = 8 from rfl]
  subst hk
  refine unroll_step fun k hk => ?_
  conv => whnf
  refine ⟨⟨by decide, by decide⟩, ?_⟩
  rw [show monthF 2024 8 = 31 from rfl]
  conv => whnf
  refine bsplit (fun h => ?_) (fun h => ?_)
  rotate_left
  · have h' := of_decide_eq_false h
    conv => whnf
    subst hk
    conv => whnf
    subst hK
    refine date_fin ?_ ?_ ?_
    · exact (bif_t (by omega)).symm
    · unfold mF; rw [bif_f (by omega)]; rw [bif_f (by omega)]; rw [bif_f (by omega)]; rw [bif_f (by omega)]; rw [bif_f (by omega)]; rw [bif_f (by omega)]; rw [bif_f (by omega)]; rw [bif_t (by omega)]
    · rw [w64 (by omega) (by omega)]; unfold dF; rw [bif_f (by omega)]; rw [bif_f (by omega)]; rw [bif_f (by omega)]; rw [bif_f (by omega)]; rw [bif_f (by omega)]; rw [bif_f (by omega)]; rw [bif_f (by omega)]; rw [bif_t (by omega)]; omega
  replace h := of_decide_eq_true h
  conv => whnf
  refine ⟨⟨by decide, by decide⟩, ?_⟩
  rw [show monthF 2024 8 = 31 from rfl, w64 (n := n - 19723 - 31 - 29 - 31 - 30 - 31 - 30 - 31 - 31) (by omega) (by omega)]
  conv => whnf
  rw [show IntKind.i64.wrap (8 + 1) = 9 from rfl]
  subst hk
  refine unroll_step fun k hk => ?_
  conv => whnf
  refine ⟨⟨by decide, by decide⟩, ?_⟩
  rw [show monthF 2024 9 = 30 from rfl]
  conv => whnf
  refine bsplit (fun h => ?_) (fun h => ?_)
  rotate_left
  · have h' := of_decide_eq_false h
    conv => whnf
    subst hk
    conv => whnf
    subst hK
    refine date_fin ?_ ?_ ?_
    · exact (bif_t (by omega)).symm
    · unfold mF; rw [bif_f (by omega)]; rw [bif_f (by omega)]; rw [bif_f (by omega)]; rw [bif_f (by omega)]; rw [bif_f (by omega)]; rw [bif_f (by omega)]; rw [bif_f (by omega)]; rw [bif_f (by omega)]; rw [bif_t (by omega)]
    · rw [w64 (by omega) (by omega)]; unfold dF; rw [bif_f (by omega)]; rw [bif_f (by omega)]; rw [bif_f (by omega)]; rw [bif_f (by omega)]; rw [bif_f (by omega)]; rw [bif_f (by omega)]; rw [bif_f (by omega)]; rw [bif_f (by omega)]; rw [bif_t (by omega)]; omega
  replace h := of_decide_eq_true h
  conv => whnf
  refine ⟨⟨by decide, by decide⟩, ?_⟩
  rw [show monthF 2024 9 = 30 from rfl, w64 (n := n - 19723 - 31 - 29 - 31 - 30 - 31 - 30 - 31 - 31 - 30) (by omega) (by omega)]
  conv => whnf
  rw [show IntKind.i64.wrap (9 + 1) = 10 from rfl]
  subst hk
  refine unroll_step fun k hk => ?_
  conv => whnf
  refine ⟨⟨by decide, by decide⟩, ?_⟩
  rw [show monthF 2024 10 = 31 from rfl]
  conv => whnf
  refine bsplit (fun h => ?_) (fun h => ?_)
  rotate_left
  · have h' := of_decide_eq_false h
    conv => whnf
    subst hk
    conv => whnf
    subst hK
    refine date_fin ?_ ?_ ?_
    · exact (bif_t (by omega)).symm
    · unfold mF; rw [bif_f (by omega)]; rw [bif_f (by omega)]; rw [bif_f (by omega)]; rw [bif_f (by omega)]; rw [bif_f (by omega)]; rw [bif_f (by omega)]; rw [bif_f (by omega)]; rw [bif_f (by omega)]; rw [bif_f (by omega)]; rw [bif_t (by omega)]
    · rw [w64 (by omega) (by omega)]; unfold dF; rw [bif_f (by omega)]; rw [bif_f (by omega)]; rw [bif_f (by omega)]; rw [bif_f (by omega)]; rw [bif_f (by omega)]; rw [bif_f (by omega)]; rw [bif_f (by omega)]; rw [bif_f (by omega)]; rw [bif_f (by omega)]; rw [bif_t (by omega)]; omega
  replace h := of_decide_eq_true h
  conv => whnf
  refine ⟨⟨by decide, by decide⟩, ?_⟩
  rw [show monthF 2024 10 = 31 from rfl, w64 (n := n - 19723 - 31 - 29 - 31 - 30 - 31 - 30 - 31 - 31 - 30 - 31) (by omega) (by omega)]
  conv => whnf
  rw [show IntKind.i64.wrap (10 + 1) = 11 from rfl]
  subst hk
  refine unroll_step fun k hk => ?_
  conv => whnf
  refine ⟨⟨by decide, by decide⟩, ?_⟩
  rw [show monthF 2024 11 = 30 from rfl]
  conv => whnf
  refine bsplit (fun h => ?_) (fun h => ?_)
  rotate_left
  · have h' := of_decide_eq_false h
    conv => whnf
    subst hk
    conv => whnf
    subst hK
    refine date_fin ?_ ?_ ?_
    · exact (bif_t (by omega)).symm
    · unfold mF; rw [bif_f (by omega)]; rw [bif_f (by omega)]; rw [bif_f (by omega)]; rw [bif_f (by omega)]; rw [bif_f (by omega)]; rw [bif_f (by omega)]; rw [bif_f (by omega)]; rw [bif_f (by omega)]; rw [bif_f (by omega)]; rw [bif_f (by omega)]; rw [bif_t (by omega)]
    · rw [w64 (by omega) (by omega)]; unfold dF; rw [bif_f (by omega)]; rw [bif_f (by omega)]; rw [bif_f (by omega)]; rw [bif_f (by omega)]; rw [bif_f (by omega)]; rw [bif_f (by omega)]; rw [bif_f (by omega)]; rw [bif_f (by omega)]; rw [bif_f (by omega)]; rw [bif_f (by omega)]; rw [bif_t (by omega)]; omega
  replace h := of_decide_eq_true h
  conv => whnf
  refine ⟨⟨by decide, by decide⟩, ?_⟩
  rw [show monthF 2024 11 = 30 from rfl, w64 (n := n - 19723 - 31 - 29 - 31 - 30 - 31 - 30 - 31 - 31 - 30 - 31 - 30) (by omega) (by omega)]
  conv => whnf
  rw [show IntKind.i64.wrap (11 + 1) = 12 from rfl]
  subst hk
  refine unroll_step fun k hk => ?_
  conv => whnf
  refine ⟨⟨by decide, by decide⟩, ?_⟩
  rw [show monthF 2024 12 = 31 from rfl]
  conv => whnf
  refine bsplit (fun h => ?_) (fun h => ?_)
  rotate_left
  · have h' := of_decide_eq_false h
    conv => whnf
    subst hk
    conv => whnf
    subst hK
    refine date_fin ?_ ?_ ?_
    · exact (bif_t (by omega)).symm
    · unfold mF; rw [bif_f (by omega)]; rw [bif_f (by omega)]; rw [bif_f (by omega)]; rw [bif_f (by omega)]; rw [bif_f (by omega)]; rw [bif_f (by omega)]; rw [bif_f (by omega)]; rw [bif_f (by omega)]; rw [bif_f (by omega)]; rw [bif_f (by omega)]; rw [bif_f (by omega)]; rw [bif_t (by omega)]
    · rw [w64 (by omega) (by omega)]; unfold dF; rw [bif_f (by omega)]; rw [bif_f (by omega)]; rw [bif_f (by omega)]; rw [bif_f (by omega)]; rw [bif_f (by omega)]; rw [bif_f (by omega)]; rw [bif_f (by omega)]; rw [bif_f (by omega)]; rw [bif_f (by omega)]; rw [bif_f (by omega)]; rw [bif_f (by omega)]; rw [bif_t (by omega)]; omega
  replace h := of_decide_eq_true h
  exact absurd h (by omega)
theorem date178c : SCall Tryz.prog 178 [.int .i64 20089] [] (Told (dateV 20089)) := by
  refine scall_of (cfg_ok envB1_ok 0) Tryz.func178 (by kernel_rfl) rfl ?_
  generalize hK : Told _ = K
  conv => whnf
  refine ⟨by simp [conj], ?_⟩
  conv => whnf
  refine .inl ⟨[(), (), ()], ?_⟩
  refine unroll_step fun k hk => ?_
  conv => whnf
  refine ⟨fun _ => ⟨by decide, by decide⟩, ?_⟩
  conv => whnf
  subst hk
  refine unroll_step fun k hk => ?_
  conv => whnf
  refine ⟨fun _ => ⟨by decide, by decide⟩, ?_⟩
  conv => whnf
  subst hk
  conv => whnf
  refine ⟨⟨by decide, by decide⟩, ?_⟩
  conv => whnf
  refine .inl ⟨[()], unroll_step fun k hk => ?_⟩
  conv => whnf
  refine ⟨⟨by decide, by decide⟩, ?_⟩
  conv => whnf
  subst hk
  conv => whnf
  subst hK
  exact date_finc rfl rfl rfl
theorem date178 : ∀ vs ob r, dateQ vs = some (ob, r) → conj ob → SCall Tryz.prog 178 vs [] (Told r) := one_of (p := fun n => 19723 ≤ n ∧ n ≤ 20089) fun n ⟨h1, h2⟩ => by
  by_cases a : n < 19817
  · exact date178a n h1 a
  · by_cases b : n < 20089
    · exact date178b n (by omega) b
    · have : n = 20089 := by omega
      subst this; exact date178c
end Go.Proofs.YtnnoplgabnfdiaaGreatDoor.Sh
/- The shadow machine over this program: parts of a year between days. -/
namespace Go.Proofs.YtnnoplgabnfdiaaGreatDoor.Sh
open Go Go.RowKit
set_option linter.unusedVariables false
set_option linter.unusedSimpArgs false
set_option maxRecDepth 100000
set_option maxHeartbeats 4000000
theorem beq_nf {a b : Int} (h : ¬ a = b) : (a == b) = false := by simpa using h
def wholeF (c : Int) : Int := bif c == 1 then 360 else bif c == 2 then 365 else 133590
def yearQ : QSpec := fun vs => match vs with | [.int .i64 n] => some ([1 ≤ n ∧ n ≤ 3], .int .i64 (wholeF n)) | _ => none
def partsQ : QSpec := fun vs => match vs with | [.int .i64 n] => some ([1 ≤ n ∧ n ≤ 3], .tup [.int .i64 (wholeF n), .int .i64 0]) | _ => none
theorem three {c : Int} (h : 1 ≤ c ∧ c ≤ 3) : c = 1 ∨ c = 2 ∨ c = 3 := by omega
theorem year284 : ∀ vs ob r, yearQ vs = some (ob, r) → conj ob → SCall Tryz.prog 284 vs [] (Told r) := one_of (p := fun c => 1 ≤ c ∧ c ≤ 3) fun c hc => by
  rcases three hc with h | h | h <;> subst h
  all_goals
    refine scall_of (cfg_ok env_nil 0) Tryz.func284 (by kernel_rfl) rfl ?_
    generalize hK : Told _ = K
    conv => whnf
    subst hK
    exact told_of trivial rfl
theorem caught283 {h : List AO} {K : MD → List AO → Prop} (H : K .ret h) : DCall Tryz.prog 283 [.ptr 0 1 1 0 0, .ptr 1 1 1 0 0] .ret h K := by
  refine dcall_of (cfg_ok env_nil 0) Tryz.func283 (by kernel_rfl) ?_
  conv => whnf
  exact H
def envC1 : Env := (284, yearQ) :: envB1
theorem envC1_ok : EnvOK Tryz.prog envC1 := env_cons year284 envB1_ok
theorem parts311 : ∀ vs ob r, partsQ vs = some (ob, r) → conj ob → SCall Tryz.prog 311 vs [] (Told r) := one_of (p := fun c => 1 ≤ c ∧ c ≤ 3) fun c hc => by
  refine scall_ofD (cfg_ok envC1_ok 0) Tryz.func311 (by kernel_rfl) rfl ?_
  generalize hK : Told _ = K
  conv => whnf
  refine ⟨hc, ?_⟩
  conv => whnf
  refine caught283 ?_
  conv => whnf
  subst hK
  exact told_of trivial rfl
def placeF (c n : Int) : Int := bif c == 1 then 360 * yF n + 30 * mF n + (if 30 < dF n then 30 else dF n) else bif c == 2 then n else yF n * 133590 + (n - opensF (yF n)) * (bif longF (yF n) then 365 else 366)
def placeQ : QSpec := fun vs => match vs with | [.int .i64 c, .int .i64 n] => some ([(1 ≤ c ∧ c ≤ 3) ∧ 19723 ≤ n ∧ n ≤ 20089], .int .i64 (placeF c n)) | _ => none
def envC2 : Env := (178, dateQ) :: envC1
theorem envC2_ok : EnvOK Tryz.prog envC2 := env_cons date178 envC1_ok
theorem yF_or (n : Int) : yF n = 2024 ∨ yF n = 2025 := by unfold yF; cases decide (n < 20089) <;> simp
theorem mF_b {n : Int} : 1 ≤ mF n ∧ mF n ≤ 12 := by
  unfold mF
  simp only [Bool.cond_decide]
  repeat' split
  all_goals omega
theorem dF_b {n : Int} (h1 : 19723 ≤ n) (h2 : n ≤ 20089) : 1 ≤ dF n ∧ dF n ≤ 31 := by
  unfold dF
  simp only [Bool.cond_decide]
  repeat' split
  all_goals omega
theorem opens_y {n : Int} (h1 : 19723 ≤ n) (h2 : n ≤ 20089) : opensF (yF n) ≤ n ∧ n ≤ opensF (yF n) + 365 := by
  unfold yF
  by_cases h : n < 20089
  · rw [bif_t h, show opensF 2024 = 19723 from rfl]; omega
  · rw [bif_f h, show opensF 2025 = 20089 from rfl]; omega
theorem place285 : ∀ vs ob r, placeQ vs = some (ob, r) → conj ob → SCall Tryz.prog 285 vs [] (Told r) := two_of (p := fun c n => (1 ≤ c ∧ c ≤ 3) ∧ 19723 ≤ n ∧ n ≤ 20089) fun c n ⟨hc, h1, h2⟩ => by
  refine scall_of (cfg_ok envC2_ok 0) Tryz.func285 (by kernel_rfl) rfl ?_
  generalize hK : Told _ = K
  have hy := yF_or n
  have hm := mF_b (n := n)
  have hd := dF_b h1 h2
  rcases three hc with h | h | h <;> subst h
  · conv => whnf
    refine ⟨⟨h1, h2⟩, ?_⟩
    conv => whnf
    subst hK
    refine told_int ?_
    unfold placeF
    split <;> simp (disch := omega) only [w64] <;> rfl
  · conv => whnf
    refine ⟨⟨h1, h2⟩, ?_⟩
    conv => whnf
    subst hK
    exact told_int rfl
  · conv => whnf
    refine ⟨⟨h1, h2⟩, ?_⟩
    conv => whnf
    refine ⟨by rcases hy with e | e <;> rw [e] <;> exact ⟨by decide, by decide⟩, ?_⟩
    conv => whnf
    have ho := opens_y h1 h2
    have fin : ∀ each : Int, each = (bif longF (yF n) then 365 else 366) → K (.ret (.int .i64 (IntKind.i64.wrap (IntKind.i64.wrap (IntKind.i64.wrap (yF n * 365) * 366) + IntKind.i64.wrap (IntKind.i64.wrap (n - opensF (yF n)) * each))))) [.lit 1 [.int .i64 (yF n), .int .i64 (mF n), .int .i64 (dF n)]] := fun each he => by
      have hb : each = 365 ∨ each = 366 := by rw [he]; cases longF (yF n) <;> simp
      subst hK
      refine told_int ?_
      unfold placeF
      rw [← he]
      generalize opensF (yF n) = o at *
      have hm : 0 ≤ (n - o) * each ∧ (n - o) * each ≤ 133590 := by
        rcases hb with e | e <;> rw [e] <;> omega
      simp (disch := omega) only [w64]
      show _ = yF n * 133590 + (n - o) * each
      omega
    have fin2 : ∀ each : Int, each = (bif longF (yF n) then 365 else 366) → ∀ k : EX → AState → Prop, True := fun _ _ _ => trivial
    refine bsplit (fun h => ?_) (fun h => ?_)
    · conv => whnf
      refine ⟨[], by kernel_rfl, ?_⟩
      conv => whnf
      refine ⟨by rcases hy with e | e <;> rw [e] <;> exact ⟨by decide, by decide⟩, ?_⟩
      conv => whnf
      exact fin 365 (by rw [h]; rfl)
    · conv => whnf
      refine ⟨[], by kernel_rfl, ?_⟩
      conv => whnf
      refine ⟨by rcases hy with e | e <;> rw [e] <;> exact ⟨by decide, by decide⟩, ?_⟩
      conv => whnf
      exact fin 366 (by rw [h]; rfl)
def betF (c a b : Int) : Int := IntKind.i64.wrap (placeF c b - placeF c a)
def betQ : QSpec := fun vs => match vs with | [.int .i64 c, .int .i64 a, .int .i64 b] => some ([(1 ≤ c ∧ c ≤ 3) ∧ (19723 ≤ a ∧ a ≤ 20089) ∧ 19723 ≤ b ∧ b ≤ 20089], .tup [.int .i64 (betF c a b), .int .i64 0]) | _ => none
def envC3 : Env := (285, placeQ) :: envC2
theorem envC3_ok : EnvOK Tryz.prog envC3 := env_cons place285 envC2_ok
theorem bet255 : ∀ vs ob r, betQ vs = some (ob, r) → conj ob → SCall Tryz.prog 255 vs [] (Told r) := by
  intro vs ob q h hob
  unfold betQ at h
  split at h
  · rename_i c a b
    simp only [Option.some.injEq, Prod.mk.injEq] at h
    obtain ⟨rfl, rfl⟩ := h
    obtain ⟨hc, ha, hb⟩ : (1 ≤ c ∧ c ≤ 3) ∧ (19723 ≤ a ∧ a ≤ 20089) ∧ 19723 ≤ b ∧ b ≤ 20089 := hob
    refine scall_ofD (cfg_ok envC3_ok 0) Tryz.func255 (by kernel_rfl) rfl ?_
    generalize hK : Told _ = K
    conv => whnf
    refine ⟨hc, ?_⟩
    conv => whnf
    refine ⟨⟨⟨hc, ha⟩, hc, hb⟩, ?_⟩
    conv => whnf
    refine caught283 ?_
    conv => whnf
    subst hK
    exact told_of trivial rfl
  · simp at h
end Go.Proofs.YtnnoplgabnfdiaaGreatDoor.Sh
/- The shadow machine over this program: whether a text is in another one, by the library's own text: the kit's contract, laid (its tool wrote the table and the fields), and turned. -/
namespace Go.Proofs.YtnnoplgabnfdiaaGreatDoor.Sh
open Go Go.RowKit Go.Shelf
set_option linter.unusedVariables false
set_option linter.unusedSimpArgs false
set_option maxRecDepth 100000
set_option maxHeartbeats 4000000
def lays144_ren : Go.Shelf.Ren := ⟨fun | 144 => 147 | 143 => 170 | 219 => 188 | 217 => 220 | 225 => 221 | 224 => 222 | 267 => 223 | 266 => 261 | 314 => 262 | n => n, fun | 9 => 9 | 4 => 4 | 3 => 3 | 5 => 5 | 46 => 69 | 146 => 310 | 51 => 306 | n => n, fun | 1 => 0 | n => n⟩
theorem lays144 : Go.Proofs.Lays.n144 Tryz.prog lays144_ren := {
  mixed := by kernel_rfl
  f143 := Tryz.func170.trans (congrArg some (by kernel_rfl))
  f144 := Tryz.func147.trans (congrArg some (by kernel_rfl))
  f217 := Tryz.func220.trans (congrArg some (by kernel_rfl))
  f219 := Tryz.func188.trans (congrArg some (by kernel_rfl))
  f224 := Tryz.func222.trans (congrArg some (by kernel_rfl))
  f225 := Tryz.func221.trans (congrArg some (by kernel_rfl))
  f266 := Tryz.func261.trans (congrArg some (by kernel_rfl))
  f267 := Tryz.func223.trans (congrArg some (by kernel_rfl))
  f314 := Tryz.func262.trans (congrArg some (by kernel_rfl))
  t3 := Tryz.underlying3
  a3 := Tryz.isAgg3
  z3 := Tryz.sizeOf3
  v3 := Tryz.zeroValue3
  t4 := Tryz.underlying4
  a4 := Tryz.isAgg4
  z4 := Tryz.sizeOf4
  v4 := Tryz.zeroValue4
  t5 := Tryz.underlying5
  a5 := Tryz.isAgg5
  z5 := Tryz.sizeOf5
  v5 := Tryz.zeroValue5
  t9 := Tryz.underlying9
  a9 := Tryz.isAgg9
  z9 := Tryz.sizeOf9
  v9 := Tryz.zeroValue9
  t46 := Tryz.underlying69
  a46 := Tryz.isAgg69
  z46 := Tryz.sizeOf69
  v46 := Tryz.zeroValue69
  t51 := Tryz.underlying306
  a51 := Tryz.isAgg306
  z51 := Tryz.sizeOf306
  v51 := Tryz.zeroValue306
  t146 := Tryz.underlying310
  a146 := Tryz.isAgg310
  z146 := Tryz.sizeOf310
  v146 := Tryz.zeroValue310
  g1 := by kernel_rfl }
def containsQ : QSpec := fun vs => match vs with | [.str s, .str t] => some ([s.size < 4294967281], .bool (Lib.contains s.data.toList t.data.toList)) | _ => none
theorem contains147 : ∀ vs ob r, containsQ vs = some (ob, r) → conj ob → SCall Tryz.prog 147 vs [] (Told r) := by
  intro vs ob q h hob
  unfold containsQ at h
  split at h
  · rename_i s t
    simp only [Option.some.injEq, Prod.mk.injEq] at h
    obtain ⟨rfl, rfl⟩ := h
    intro B0 w0 w Fz g args hH hl hv
    have h0 : args.getD 0 undef = .string s := by have := hv 0 (by simp); generalize args.getD 0 undef = c at this; cases this; rfl
    have h1 : args.getD 1 undef = .string t := by have := hv 1 (by simp); generalize args.getD 1 undef = c at this; cases this; rfl
    have hs : args.size = 2 := hl.symm
    have ha : args = #[.string s, .string t] := by
      apply Array.ext (by simpa using hs)
      intro i hi1 hi2
      match i, hi1 with
      | 0, hi => simpa [Array.getD, hs] using h0
      | 1, hi => simpa [Array.getD, hs] using h1
    subst ha
    obtain ⟨_, m, hm⟩ := hH.gl_up
    refine .inl ⟨⟨_, Tryz.func147, by kernel_rfl, by kernel_rfl⟩, ?_⟩
    refine (Any.strings_Contains lays144 s t m w hob hm).mono ?_
    rintro e w' ⟨rfl, rfl⟩
    exact ⟨.ret (.bool (Lib.contains s.data.toList t.data.toList)), _, [], Fz, g, rfl, told_of trivial rfl, .bool _, hH, On.refl _ _ _⟩
  · simp at h
end Go.Proofs.YtnnoplgabnfdiaaGreatDoor.Sh
/- The shadow machine over this program: which texts are names. -/
namespace Go.Proofs.YtnnoplgabnfdiaaGreatDoor.Sh
open Go Go.RowKit
set_option linter.unusedVariables false
set_option linter.unusedSimpArgs false
set_option maxRecDepth 100000
set_option maxHeartbeats 4000000
theorem bt {b : Bool} {p q : Prop} (h : b = true) (hp : p) : @Bool.rec (fun _ => Prop) q p b := by subst h; exact hp
theorem bf {b : Bool} {p q : Prop} (h : b = false) (hq : q) : @Bool.rec (fun _ => Prop) q p b := by subst h; exact hq
theorem seq_rfl (s : AState) : SEq s s := ⟨rfl, rfl, fun o ho => by
  generalize nth AO.free s.heap o = x
  cases x <;> first | rfl | exact ⟨rfl, rfl, fun _ _ => rfl⟩⟩
def wordsL : List UInt8 := [32, 112, 114, 111, 100, 117, 99, 116, 32, 99, 111, 117, 110, 116, 32, 116, 104, 105, 114, 116, 121, 32, 102, 105, 120, 101, 100, 32, 97, 99, 116, 117, 97, 108, 32, 114, 111, 117, 110, 100, 32, 104, 97, 108, 102, 45, 117, 112, 32, 100, 111, 119, 110, 32, 107, 105, 110, 100, 32, 97, 110, 110, 117, 105, 116, 121, 32, 101, 113, 117, 97, 108, 32, 98, 117, 108, 108, 101, 116, 32, 101, 118, 101, 114, 121, 32, 116, 105, 109, 101, 115, 32, 103, 114, 97, 99, 101, 32, 114, 97, 116, 101, 32, 112, 101, 110, 97, 108, 116, 121, 32, 114, 101, 115, 101, 116, 32, 108, 97, 116, 101, 32, 99, 97, 112, 32, 104, 111, 108, 105, 100, 97, 121, 32, 111, 114, 100, 101, 114, 32, 102, 101, 101, 115, 32, 105, 110, 116, 101, 114, 101, 115, 116, 32, 112, 114, 105, 110, 99, 105, 112, 97, 108, 32, 111, 118, 101, 114, 32, 104, 111, 108, 100, 32, 112, 114, 101, 112, 97, 121, 32, 114, 101, 102, 117, 110, 100, 32, 114, 111, 108, 108, 32, 115, 116, 97, 121, 32, 110, 101, 120, 116, 32, 119, 105, 116, 104, 105, 110, 32, 112, 114, 101, 118, 105, 111, 117, 115, 32]
/-- A byte that may stand in a name. -/
def badB (c : Int) : Bool := bif (bif (bif decide (c < 97) then true else decide (c > 122)) then (bif decide (c < 48) then true else decide (c > 57)) else false) then c != 45 else false
structure NameOK (s : ByteArray) : Prop where
  lo : 1 ≤ s.size
  hi : s.size ≤ 20
  a : 97 ≤ byteAt s 0
  z : byteAt s 0 ≤ 122
  all : ∀ i, i < s.size → badB (byteAt s i) = false
  no : Lib.contains wordsL ((⟨#[32]⟩ ++ s) ++ ⟨#[32]⟩ : ByteArray).data.toList = false
def nameQ : QSpec := fun vs => match vs with | [.str s] => some ([NameOK s], .bool true) | _ => none
def envV1 : Env := [(147, containsQ)]
theorem envV1_ok : EnvOK Tryz.prog envV1 := env_cons contains147 env_nil
theorem name116 : ∀ vs ob r, nameQ vs = some (ob, r) → conj ob → SCall Tryz.prog 116 vs [] (Told r) := by
  intro vs ob q h hob
  unfold nameQ at h
  split at h
  · rename_i s
    simp only [Option.some.injEq, Prod.mk.injEq] at h
    obtain ⟨rfl, rfl⟩ := h
    obtain ⟨lo, hi, ha, hz, hall, hno⟩ : NameOK s := hob
    refine scall_of (cfg_ok envV1_ok 0) Tryz.func116 (by kernel_rfl) rfl ?_
    generalize hK : Told _ = K
    conv => whnf
    refine ⟨⟨fun _ => ⟨by omega, by omega⟩, fun _ => ⟨by omega, by omega⟩⟩, ?_⟩
    conv => whnf
    refine bf (by simp; omega) ?_
    conv => whnf
    refine .inr ⟨[], [0, 24, 25, 26], 0, fun m st => ∃ i : Nat, m = s.size - i ∧ i ≤ s.size ∧ st = ⟨.str s :: (List.replicate 23 .top ++ .ro 1 s.size none (fun i => [.int .u8 (byteAt s i)]) :: .int .i64 s.size :: .int .i64 i :: List.replicate 27 .top), []⟩, Nat.zero_le _, ⟨_, _, ?_, 0, rfl, Nat.zero_le _, rfl⟩, ?_⟩
    · exact seq_rfl _
    rintro m st ⟨i, rfl, hi2, rfl⟩
    conv => whnf
    refine bsplit (fun h => ?_) (fun h => ?_)
    · have hlt : i < s.size := by have := of_decide_eq_true h; omega
      conv => whnf
      refine ⟨⟨by omega, by omega⟩, ?_⟩
      rw [show ((i : Int)).toNat = i from Int.toNat_natCast i]
      conv => whnf
      refine bf (hall i hlt) ?_
      conv => whnf
      refine ⟨s.size - (i + 1), _, by omega, ?_, i + 1, rfl, by omega, rfl⟩
      rw [show ((i + 1 : Nat) : Int) = IntKind.i64.wrap ((i : Int) + 1) from by rw [w64 (by omega) (by omega)]; rfl]
      exact seq_rfl _
    · conv => whnf
      have e1 : (⟨#[32]⟩ : ByteArray).size = 1 := rfl
      refine ⟨⟨by omega, by rw [ByteArray.size_append]; omega, show (_ : Nat) < 4294967281 from by decide⟩, ?_⟩
      conv => whnf
      subst hK
      exact told_bool (congrArg (!·) hno)
  · simp at h
end Go.Proofs.YtnnoplgabnfdiaaGreatDoor.Sh
