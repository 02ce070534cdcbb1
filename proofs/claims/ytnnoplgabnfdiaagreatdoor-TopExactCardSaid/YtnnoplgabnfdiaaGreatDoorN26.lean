/- Part 26 of a proof over the shadow machine. -/
import Derived.Test.YtnnoplgabnfdiaaGreatDoorN25
/- The shadow machine over this program: a product near another one. -/
namespace Go.Proofs.YtnnoplgabnfdiaaGreatDoor.Sh
open Go Go.RowKit
set_option linter.unusedVariables false
set_option linter.unusedSimpArgs false
set_option maxRecDepth 100000
set_option maxHeartbeats 4000000
def homeB : ByteArray := ⟨#[104, 111, 109, 101]⟩
/-- The plain product. -/
def plainC : List AV := [.str homeB, .int .i64 2, .int .i64 1, .int .i64 1, .int .i64 1, .int .i64 12, .int .i64 0, .int .i64 60000000, .ro 0 0 (some 0) fun _ => [], .int .i64 100000000, .int .i64 1, .int .i64 2, .int .i64 3, .int .i64 4, .int .i64 1, .ro 0 0 (some 0) fun _ => [], .int .i64 0, .int .i64 1, .ro 0 0 (some 0) fun _ => []]
theorem plain20 : SCall Tryz.prog 20 [] [] (Told (.agg plainC)) := by
  refine scall_of (cfg_ok env_nil 0) Tryz.func20 (by kernel_rfl) rfl ?_
  generalize hK : Told _ = K
  conv => whnf
  subst hK
  exact told_of trivial rfl
def PX.pa (u : PX) : PA := ⟨u.p.nm, u.p.ct, u.p.rd, u.p.kd, u.p.ev, u.p.tm, u.p.gr, u.p.rt, u.n8, (fun i => [.int .i64 (u.a8 i), .int .i64 (u.b8 i)]), u.p.pn, u.p.o0, u.p.o1, u.p.o2, u.p.o3, u.p.ov, u.p.ln, (fun i => [.int .i64 (u.p.ld i), .int .i64 (u.p.lf i)]), u.p.cp, u.p.rl, u.n18, (fun i => [.int .i64 (u.h18 i)])⟩
noncomputable def envPf (u : PX) : Env := [(20, exQ [] (.agg plainC)), (21, exQ [.agg u.cells] (.int .i64 (bif chB u then 0 else 9)))]
theorem envPf_ok (u : PX) (hu : Small u) : EnvOK Tryz.prog (envPf u) := env_cons (exQ_of plain20) (env_cons (exQ_of (check21 u hu)) env_nil)
def nearQ (u : PX) : PR := ⟨homeB, IntKind.i64.wrap (1 + IntKind.i64.wrap ((IntKind.u64.wrap u.p.ct).tmod 3)), (bif 0 + (IntKind.i64.wrap ((IntKind.u64.wrap u.p.rd).tmod 2)).toNat == 0 then 1 else 3), IntKind.i64.wrap (1 + IntKind.i64.wrap ((IntKind.u64.wrap u.p.kd).tmod 3)), (bif 0 + (IntKind.i64.wrap ((IntKind.u64.wrap u.p.ev).tmod 6)).toNat == 0 then 1 else bif 0 + (IntKind.i64.wrap ((IntKind.u64.wrap u.p.ev).tmod 6)).toNat - 1 == 0 then 2 else bif 0 + (IntKind.i64.wrap ((IntKind.u64.wrap u.p.ev).tmod 6)).toNat - 1 - 1 == 0 then 3 else bif 0 + (IntKind.i64.wrap ((IntKind.u64.wrap u.p.ev).tmod 6)).toNat - 1 - 1 - 1 == 0 then 4 else bif 0 + (IntKind.i64.wrap ((IntKind.u64.wrap u.p.ev).tmod 6)).toNat - 1 - 1 - 1 - 1 == 0 then 6 else 12), IntKind.i64.wrap (1 + IntKind.i64.wrap ((IntKind.u64.wrap u.p.tm).tmod (IntKind.u64.wrap 1))), 0, IntKind.i64.wrap ((IntKind.u64.wrap u.p.rt).tmod 300000000), IntKind.i64.wrap ((IntKind.u64.wrap u.p.pn).tmod 500000000), 1, 2, 3, 4, IntKind.i64.wrap (1 + IntKind.i64.wrap ((IntKind.u64.wrap u.p.ov).tmod 3)), 0, (fun _ => 0), (fun _ => 0), 0, 1⟩
theorem near6_t1 (u : PX) (hu : Small u) (x0 : AO) (hc : chB u = true) (ht : u.p.tm > 1) : SCall Tryz.prog 6 [.agg u.pa.cells, .cint .i64 1] [x0] fun r h' => r = .ret (.agg (outC { u.p with tm := 1, gr := bif (bif decide (u.p.gr ≥ 1) then true else u.p.kd == 3) then 0 else u.p.gr } 0 (fun _ => []) u.n18 (fun i => [.int .i64 (u.h18 i)]))) ∧ h' = [x0] := by
  refine kept_of3 rfl (fun o ho => .inl rfl) ?_
  refine scall_of (cfg_ok (envPf_ok u hu) 1) Tryz.func6 (by kernel_rfl) rfl ?_
  generalize hK : Kept3 _ _ _ = K
  conv => whnf
  refine ⟨rfl, ?_⟩
  conv => whnf
  refine ⟨rfl, ?_⟩
  rw [hc]
  conv => whnf
  refine bt (decide_eq_true ht) ?_
  conv => whnf
  refine bsplit (fun hg => ?_) (fun hg => ?_)
  · conv => whnf
    subst hK
    refine ⟨⟨_, rfl⟩, trivial, ?_⟩
    rw [show (bif decide (u.p.gr ≥ 1) then true else u.p.kd == 3) = true from hg]
    refine wk_agg rfl fun i hi => ?_
    replace hi : i < 19 := hi
    match i, hi with
    | 8, _ => exact ro_zero
    | 0, _ | 1, _ | 2, _ | 3, _ | 4, _ | 5, _ | 6, _ | 7, _ | 9, _ | 10, _ | 11, _ | 12, _ | 13, _ | 14, _ | 15, _ | 16, _ | 17, _ | 18, _ => exact Wk.refl _
    | n + 19, h => exact absurd h (by omega)
  · conv => whnf
    subst hK
    refine ⟨⟨_, rfl⟩, trivial, ?_⟩
    rw [show (bif decide (u.p.gr ≥ 1) then true else u.p.kd == 3) = false from hg]
    refine wk_agg rfl fun i hi => ?_
    replace hi : i < 19 := hi
    match i, hi with
    | 8, _ => exact ro_zero
    | 0, _ | 1, _ | 2, _ | 3, _ | 4, _ | 5, _ | 6, _ | 7, _ | 9, _ | 10, _ | 11, _ | 12, _ | 13, _ | 14, _ | 15, _ | 16, _ | 17, _ | 18, _ => exact Wk.refl _
    | n + 19, h => exact absurd h (by omega)
theorem near6_t2 (u : PX) (hu : Small u) (x0 : AO) (hc : chB u = true) (ht : ¬ u.p.tm > 1) : SCall Tryz.prog 6 [.agg u.pa.cells, .cint .i64 1] [x0] fun r h' => r = .ret (.agg (outC { u.p with gr := bif (bif decide (u.p.gr ≥ u.p.tm) then true else u.p.kd == 3) then 0 else u.p.gr } u.n8 (fun i => [.int .i64 (u.a8 i), .int .i64 (u.b8 i)]) u.n18 (fun i => [.int .i64 (u.h18 i)]))) ∧ h' = [x0] := by
  refine kept_of3 rfl (fun o ho => .inl rfl) ?_
  refine scall_of (cfg_ok (envPf_ok u hu) 1) Tryz.func6 (by kernel_rfl) rfl ?_
  generalize hK : Kept3 _ _ _ = K
  conv => whnf
  refine ⟨rfl, ?_⟩
  conv => whnf
  refine ⟨rfl, ?_⟩
  rw [hc]
  conv => whnf
  refine bf (decide_eq_false ht) ?_
  conv => whnf
  refine bsplit (fun hg => ?_) (fun hg => ?_)
  · conv => whnf
    subst hK
    refine ⟨⟨_, rfl⟩, trivial, ?_⟩
    rw [show (bif decide (u.p.gr ≥ u.p.tm) then true else u.p.kd == 3) = true from hg]
    refine wk_agg rfl fun i hi => ?_
    replace hi : i < 19 := hi
    match i, hi with
    | 0, _ | 1, _ | 2, _ | 3, _ | 4, _ | 5, _ | 6, _ | 7, _ | 8, _ | 9, _ | 10, _ | 11, _ | 12, _ | 13, _ | 14, _ | 15, _ | 16, _ | 17, _ | 18, _ => exact Wk.refl _
    | n + 19, h => exact absurd h (by omega)
  · conv => whnf
    subst hK
    refine ⟨⟨_, rfl⟩, trivial, ?_⟩
    rw [show (bif decide (u.p.gr ≥ u.p.tm) then true else u.p.kd == 3) = false from hg]
    refine wk_agg rfl fun i hi => ?_
    replace hi : i < 19 := hi
    match i, hi with
    | 0, _ | 1, _ | 2, _ | 3, _ | 4, _ | 5, _ | 6, _ | 7, _ | 8, _ | 9, _ | 10, _ | 11, _ | 12, _ | 13, _ | 14, _ | 15, _ | 16, _ | 17, _ | 18, _ => exact Wk.refl _
    | n + 19, h => exact absurd h (by omega)
theorem near6_f (u : PX) (hu : Small u) (x0 : AO) (hc : chB u = false) : SCall Tryz.prog 6 [.agg u.pa.cells, .cint .i64 1] [x0] fun r h' => r = .ret (.agg (outC (nearQ u) 0 (fun _ => []) 0 (fun _ => []))) ∧ h' = [x0] := by
  refine kept_of3 rfl (fun o ho => .inl rfl) ?_
  refine scall_of (cfg_ok (envPf_ok u hu) 1) Tryz.func6 (by kernel_rfl) rfl ?_
  generalize hK : Kept3 _ _ _ = K
  conv => whnf
  refine ⟨rfl, ?_⟩
  conv => whnf
  refine ⟨rfl, ?_⟩
  rw [hc]
  conv => whnf
  refine ⟨[(7, 13)], by kernel_rfl, ?_⟩
  conv => whnf
  refine ⟨⟨(by decide : (3 : Int) ≠ 0), (by decide : (3 : Int) ≠ 0)⟩, by kernel_rfl, ?_⟩
  conv => whnf
  have h2 := mod_b (u64_b u.p.rd) (show (0 : Int) < 2 by decide)
  have h6 := mod_b (u64_b u.p.ev) (show (0 : Int) < 6 by decide)
  have w2 : IntKind.i64.wrap ((IntKind.u64.wrap u.p.rd).tmod 2) = (IntKind.u64.wrap u.p.rd).tmod 2 := w64 (by omega) (by omega)
  have w6 : IntKind.i64.wrap ((IntKind.u64.wrap u.p.ev).tmod 6) = (IntKind.u64.wrap u.p.ev).tmod 6 := w64 (by omega) (by omega)
  refine ⟨⟨(by decide : (2 : Int) ≠ 0), by show 0 ≤ IntKind.i64.wrap ((IntKind.u64.wrap u.p.rd).tmod 2) ∧ IntKind.i64.wrap ((IntKind.u64.wrap u.p.rd).tmod 2) < 2; rw [w2]; exact h2, by show 0 + (IntKind.i64.wrap ((IntKind.u64.wrap u.p.rd).tmod 2)).toNat < 2; rw [w2]; omega⟩, ?_⟩
  conv => whnf
  refine ⟨⟨(by decide : (6 : Int) ≠ 0), by show 0 ≤ IntKind.i64.wrap ((IntKind.u64.wrap u.p.ev).tmod 6) ∧ IntKind.i64.wrap ((IntKind.u64.wrap u.p.ev).tmod 6) < 6; rw [w6]; exact h6, by show 0 + (IntKind.i64.wrap ((IntKind.u64.wrap u.p.ev).tmod 6)).toNat < 6; rw [w6]; omega⟩, ?_⟩
  conv => whnf
  refine ⟨(by decide : IntKind.u64.wrap 1 ≠ 0), ?_⟩
  conv => whnf
  refine ⟨[(6, 11)], by kernel_rfl, ?_⟩
  conv => whnf
  refine ⟨⟨(by decide : (300000000 : Int) ≠ 0), (by decide : (500000000 : Int) ≠ 0)⟩, by kernel_rfl, ?_⟩
  conv => whnf
  refine ⟨(by decide : (3 : Int) ≠ 0), ?_⟩
  conv => whnf
  have ht : IntKind.i64.wrap (1 + IntKind.i64.wrap ((IntKind.u64.wrap u.p.tm).tmod (IntKind.u64.wrap 1))) = 1 := by
    rw [show IntKind.u64.wrap 1 = 1 from by decide, show (IntKind.u64.wrap u.p.tm).tmod 1 = 0 from by have := mod_b (u64_b u.p.tm) (show (0 : Int) < 1 by decide); omega]
    decide
  refine bf (decide_eq_false (by show ¬ IntKind.i64.wrap (1 + IntKind.i64.wrap ((IntKind.u64.wrap u.p.tm).tmod (IntKind.u64.wrap 1))) > 1; rw [ht]; decide)) ?_
  conv => whnf
  refine bsplit (fun hg => ?_) (fun hg => ?_)
  · conv => whnf
    subst hK
    refine ⟨⟨_, rfl⟩, trivial, ?_⟩
    refine wk_agg rfl fun i hi => ?_
    replace hi : i < 19 := hi
    match i, hi with
    | 8, _ | 15, _ | 18, _ => exact ro_zero
    | 0, _ | 1, _ | 2, _ | 3, _ | 4, _ | 5, _ | 6, _ | 7, _ | 9, _ | 10, _ | 11, _ | 12, _ | 13, _ | 14, _ | 16, _ | 17, _ => exact Wk.refl _
    | n + 19, h => exact absurd h (by omega)
  · conv => whnf
    subst hK
    refine ⟨⟨_, rfl⟩, trivial, ?_⟩
    refine wk_agg rfl fun i hi => ?_
    replace hi : i < 19 := hi
    match i, hi with
    | 8, _ | 15, _ | 18, _ => exact ro_zero
    | 0, _ | 1, _ | 2, _ | 3, _ | 4, _ | 5, _ | 6, _ | 7, _ | 9, _ | 10, _ | 11, _ | 12, _ | 13, _ | 14, _ | 16, _ | 17, _ => exact Wk.refl _
    | n + 19, h => exact absurd h (by omega)
theorem home_ok : NameOK homeB := by
  refine ⟨by decide, by decide, by decide, by decide, ?_, by decide⟩
  intro i hi
  replace hi : i < 4 := hi
  match i, hi with
  | 0, _ | 1, _ | 2, _ | 3, _ => decide
  | n + 4, h => exact absurd h (by omega)
theorem okp_f (u : PX) : OKP (bul (nearQ u)) := by
  have h1 := mod_b (u64_b u.p.ct) (show (0 : Int) < 3 by decide)
  have h2 := mod_b (u64_b u.p.ov) (show (0 : Int) < 3 by decide)
  have h3 := mod_b (u64_b u.p.rt) (show (0 : Int) < 300000000 by decide)
  have h4 := mod_b (u64_b u.p.pn) (show (0 : Int) < 500000000 by decide)
  refine ⟨home_ok, ?_, ?_, (show (1 : Int) ≤ 3 ∧ (3 : Int) ≤ 3 by decide), .inr rfl, (show (1 : Int) ≤ 1 ∧ (1 : Int) ≤ 600 by decide), rfl, ?_, ?_, (show (1 : Int) ≤ 1 ∧ (1 : Int) ≤ 4 by decide), (show (1 : Int) ≤ 2 ∧ (2 : Int) ≤ 4 by decide), (show (1 : Int) ≤ 3 ∧ (3 : Int) ≤ 4 by decide), (show (1 : Int) ≤ 4 ∧ (4 : Int) ≤ 4 by decide), (show (1 : Int) ≠ 2 ∧ (1 : Int) ≠ 3 ∧ (1 : Int) ≠ 4 ∧ (2 : Int) ≠ 3 ∧ (2 : Int) ≠ 4 ∧ (3 : Int) ≠ 4 by decide), ?_, (show 0 ≤ 8 by decide), ?_, (show (0 : Int) ≤ 0 ∧ (0 : Int) ≤ 10000000000000 by decide), .inr rfl, rfl⟩
  · show 1 ≤ IntKind.i64.wrap (1 + IntKind.i64.wrap ((IntKind.u64.wrap u.p.ct).tmod 3)) ∧ IntKind.i64.wrap (1 + IntKind.i64.wrap ((IntKind.u64.wrap u.p.ct).tmod 3)) ≤ 3
    rw [w64 (n := (IntKind.u64.wrap u.p.ct).tmod 3) (by omega) (by omega), w64 (by omega) (by omega)]; omega
  · show (bif 0 + (IntKind.i64.wrap ((IntKind.u64.wrap u.p.rd).tmod 2)).toNat == 0 then (1 : Int) else 3) = 1 ∨ (bif 0 + (IntKind.i64.wrap ((IntKind.u64.wrap u.p.rd).tmod 2)).toNat == 0 then (1 : Int) else 3) = 3
    cases 0 + (IntKind.i64.wrap ((IntKind.u64.wrap u.p.rd).tmod 2)).toNat == 0
    · exact .inr rfl
    · exact .inl rfl
  · show 0 ≤ IntKind.i64.wrap ((IntKind.u64.wrap u.p.rt).tmod 300000000) ∧ IntKind.i64.wrap ((IntKind.u64.wrap u.p.rt).tmod 300000000) ≤ 1000000000
    rw [w64 (by omega) (by omega)]; omega
  · show 0 ≤ IntKind.i64.wrap ((IntKind.u64.wrap u.p.pn).tmod 500000000) ∧ IntKind.i64.wrap ((IntKind.u64.wrap u.p.pn).tmod 500000000) ≤ 1000000000
    rw [w64 (by omega) (by omega)]; omega
  · show 1 ≤ IntKind.i64.wrap (1 + IntKind.i64.wrap ((IntKind.u64.wrap u.p.ov).tmod 3)) ∧ IntKind.i64.wrap (1 + IntKind.i64.wrap ((IntKind.u64.wrap u.p.ov).tmod 3)) ≤ 3
    rw [w64 (n := (IntKind.u64.wrap u.p.ov).tmod 3) (by omega) (by omega), w64 (by omega) (by omega)]; omega
  · intro i hi; exact absurd hi (by show ¬ i < 0; omega)
theorem ordB_or {p : PR} {b : Int} (h : ordB p b = true) : p.o0 = b ∨ p.o1 = b ∨ p.o2 = b ∨ p.o3 = b := by
  unfold ordB at h
  simpa using h
theorem okp_t (u : PX) (h : chB u = true) : OKP (bul u.p) := by
  obtain ⟨h1, h2, h3, h4, h5, h6, h7, h8, h9, h10⟩ := chB_ok h
  unfold ordF at h8
  simp only [Bool.and_eq_true] at h8
  obtain ⟨⟨⟨a1, a2⟩, a3⟩, a4⟩ := h8
  have a1 := ordB_or a1
  have a2 := ordB_or a2
  have a3 := ordB_or a3
  have a4 := ordB_or a4
  have hT : (∀ i, i < u.p.ln → inF (u.p.ld i) 1 365 = true ∧ inF (u.p.lf i) 0 10000000000000 = true ∧ (0 < i → u.p.ld (i - 1) < u.p.ld i ∧ u.p.lf (i - 1) ≤ u.p.lf i)) ∧ u.p.ln ≤ 8 ∧ inF u.p.cp 0 10000000000000 = true ∧ (u.p.cp = 0 ∨ 0 < u.p.ln) := by
    unfold trF at h10; exact @of_decide_eq_true _ (_) h10
  obtain ⟨t1, t2, t3, t4⟩ := hT
  have hO : (1 ≤ u.p.o0 ∧ u.p.o0 ≤ 4) ∧ (1 ≤ u.p.o1 ∧ u.p.o1 ≤ 4) ∧ (1 ≤ u.p.o2 ∧ u.p.o2 ≤ 4) ∧ (1 ≤ u.p.o3 ∧ u.p.o3 ≤ 4) ∧ (u.p.o0 ≠ u.p.o1 ∧ u.p.o0 ≠ u.p.o2 ∧ u.p.o0 ≠ u.p.o3 ∧ u.p.o1 ≠ u.p.o2 ∧ u.p.o1 ≠ u.p.o3 ∧ u.p.o2 ≠ u.p.o3) := by
    rcases a1 with a1 | a1 | a1 | a1 <;> rcases a2 with a2 | a2 | a2 | a2 <;> first | omega | (rcases a3 with a3 | a3 | a3 | a3 <;> first | omega | (rcases a4 with a4 | a4 | a4 | a4 <;> omega))
  obtain ⟨b0, b1, b2, b3, b4⟩ := hO
  refine ⟨nmF_ok h1, inF_iff.mp h2, ?_, (show (1 : Int) ≤ 3 ∧ (3 : Int) ≤ 3 by decide), .inr rfl, (show (1 : Int) ≤ 1 ∧ (1 : Int) ≤ 600 by decide), rfl, inF_iff.mp h6, inF_iff.mp h7, b0, b1, b2, b3, b4, inF_iff.mp h9, t2, fun i hi => ?_, inF_iff.mp t3, t4.symm, rfl⟩
  · show u.p.rd = 1 ∨ u.p.rd = 3
    by_cases e : u.p.rd = 1
    · exact .inl e
    · rw [show (u.p.rd == 1) = false from beq_nf e] at h3
      exact .inr (by simpa using h3)
  · obtain ⟨c1, c2, c3⟩ := t1 i hi
    exact ⟨inF_iff.mp c1, inF_iff.mp c2, fun h0 => c3 h0⟩
theorem near6 (u : PX) (hu : Small u) : Near u.pa := fun x0 => by
  cases hc : chB u with
  | false => exact (near6_f u hu x0 hc).mono fun r h' ⟨e1, e2⟩ => ⟨⟨_, _, _, _, _, okp_f u, e1⟩, e2⟩
  | true =>
    by_cases ht : u.p.tm > 1
    · exact (near6_t1 u hu x0 hc ht).mono fun r h' ⟨e1, e2⟩ => ⟨⟨{ u.p with tm := 1, gr := bif (bif decide (u.p.gr ≥ 1) then true else u.p.kd == 3) then 0 else u.p.gr }, _, _, _, _, okp_t u hc, e1⟩, e2⟩
    · exact (near6_t2 u hu x0 hc ht).mono fun r h' ⟨e1, e2⟩ => ⟨⟨{ u.p with gr := bif (bif decide (u.p.gr ≥ u.p.tm) then true else u.p.kd == 3) then 0 else u.p.gr }, _, _, _, _, okp_t u hc, e1⟩, e2⟩
end Go.Proofs.YtnnoplgabnfdiaaGreatDoor.Sh
/- The shadow machine: a call without objects of its caller's, within whatever memory. -/
namespace Go.Proofs.YtnnoplgabnfdiaaGreatDoor.Sh
open Go Go.RowKit
set_option linter.unusedVariables false
set_option linter.unusedSimpArgs false
/-- Leads to no object. -/
def noO0 : AV → Bool
  | .ptr .. | .sl .. | .mp _ | .iface .. | .agg _ | .tup _ | .when .. => false
  | .fn _ [] [] => true
  | .fn .. => false
  | _ => true
def noO1 : AV → Bool
  | .agg cs => cs.all noO0
  | v => noO0 v
def noO2 : AV → Bool
  | .fn _ a b => a.all noO1 && b.all noO1
  | .tup vs => vs.all noO1
  | .iface _ v => noO1 v
  | v => noO1 v
section
variable {P : Program} {B0 : Nat} {w0 w w' : World} {Fz F2 : Nat → Prop} {g g' : Gh} {h : List AO}
theorem all_nth {p : AV → Bool} {l : List AV} (h : l.all p = true) {i : Nat} (hi : i < l.length) : p (nth .top l i) = true :=
  List.all_eq_true.mp h _ (by rw [nth_get, List.getD_eq_getElem?_getD, List.getElem?_eq_getElem hi]; exact List.getElem_mem _)
theorem noO0_vr {v : AV} {c : Value} (hn : noO0 v = true) (hv : VR w Fz g v c) : VR w Fz g' v c := by
  cases v with
  | fn f xs ys =>
    obtain ⟨us, vs, rfl, ha, hb, _⟩ := inv_fn hv
    cases xs <;> cases ys <;> simp [noO0] at hn
    exact .fn f [] [] us vs ha hb (fun i hi => absurd hi (by simp)) (fun i hi => absurd hi (by simp))
  | rp s row i j =>
    generalize hc : AV.rp s row i j = q at hv
    cases hv <;> cases hc
    rename_i ad hm
    exact .rp _ _ _ _ _ hm
  | _ => first | (simp [noO0] at hn; done) | (cases hv; constructor; done) | (cases hv; exact .ro _ _ _ _ _ (by assumption))
theorem noO1_vr {v : AV} {c : Value} (hn : noO1 v = true) (hv : VR w Fz g v c) : VR w Fz g' v c := by
  cases v with
  | agg cs =>
    obtain ⟨vs, rfl, hl, hh⟩ := inv_agg hv
    exact .agg _ _ hl fun i hi => noO0_vr (all_nth hn hi) (hh i hi)
  | _ => exact noO0_vr hn hv
theorem noO2_vr {v : AV} {c : Value} (hn : noO2 v = true) (hv : VR w Fz g v c) : VR w Fz g' v c := by
  cases v with
  | tup cs =>
    obtain ⟨vs, rfl, hl, hh⟩ := inv_tup hv
    exact .tup _ _ hl fun i hi => noO1_vr (all_nth hn hi) (hh i hi)
  | fn f a b =>
    obtain ⟨us, vs, rfl, ha, hb, k1, k2⟩ := inv_fn hv
    have hn' : a.all noO1 = true ∧ b.all noO1 = true := by simpa [noO2] using hn
    exact .fn _ _ _ _ _ ha hb (fun i hi => noO1_vr (all_nth hn'.1 hi) (k1 i hi)) (fun i hi => noO1_vr (all_nth hn'.2 hi) (k2 i hi))
  | iface t x =>
    obtain ⟨x', rfl, k⟩ := inv_iface hv
    exact .iface _ _ _ (noO1_vr hn k)
  | _ => exact noO1_vr hn hv
/-- What a call without objects tells: one of such results, or something thrown. -/
def ToldE (Q Qp : AV → Prop) (r' : AR) (h' : List AO) : Prop := match r' with
  | .ret r' => ∃ r, Q r ∧ conj (frObR (fun o => nth .free h' o) r') ∧ Wk (freezeR (fun o => nth .free h' o) r') r
  | .pan v => ∃ r, Qp r ∧ noO2 r = true ∧ Wk v r
/-- The same, within whatever memory. -/
theorem quiet_e {f : FuncId} {vs : List AV} {Q Qp : AV → Prop} (H : SCall P f vs [] (ToldE Q Qp)) (hn : vs.all noO2 = true) (h : List AO) : SCall P f vs h fun r' h' => ((∃ r, Q r ∧ r' = .ret r) ∨ ∃ r, Qp r ∧ r' = .pan r) ∧ h' = h := fun B0 w0 w Fz g args hH hl hv => by
  have H0 : HR w.heap.size w w Fz (fun _ => none) [] := ⟨Below.refl _ _, Nat.le_refl _, hH.fz, fun _ _ => rfl, fun o ho => absurd ho (by simp), fun o b ho => absurd ho (by simp), fun o _ b ho => absurd ho (by simp), hH.gl_up⟩
  refine (H _ _ _ _ _ args H0 hl (fun i hi => noO2_vr (all_nth hn hi) (hv i hi))).mono fun e w' ⟨r', c, h', Fz', g', h1, h2, h3, h4, h5⟩ => ?_
  have hsame : ∀ b, b < w.heap.size → w'.heap[b]? = w.heap[b]? := fun b hb => h4.below.block b hb
  have hbl : Below B0 w0 w' := hH.below.trans (h4.below.mono hH.base)
  have hn : ∀ b, (Fz' b ∨ (w.heap.size ≤ b ∧ b < w'.heap.size)) → Fz b ∨ w.heap.size ≤ b := fun b hb => by
    rcases hb with x | x
    · exact h5.new b x
    · exact .inr x.1
  have H2 := hH.stillF (F2 := fun b => Fz' b ∨ (w.heap.size ≤ b ∧ b < w'.heap.size)) hbl h4.below.size hsame (fun b x => .inl (h5.fz b x)) hn (fun b hb => hb.elim (h4.fz b) (·.2))
  have O2 : On w w' Fz (fun b => Fz' b ∨ (w.heap.size ≤ b ∧ b < w'.heap.size)) g g := ⟨fun b hb => hsame b (hH.fz b hb), fun b x => .inl (h5.fz b x), fun _ _ x => x, hn, h4.below.size, fun _ _ _ x => .inl x⟩
  cases r' with
  | ret q =>
    obtain ⟨r, q1, q2, q3⟩ := h2
    have hr := q3 _ _ _ _ (freezeR_vr (g' := g) (F2 := fun b => Fz' b ∨ (w.heap.size ≤ b ∧ b < w'.heap.size)) (fun _ => .inl rfl) h4 (fun _ x => .inl x) (fun o b ho _ hh => let ⟨a1, a2, _⟩ := h4.own o b ho hh; .inr ⟨a1, a2⟩) q2 h3)
    exact ⟨.ret r, c, h, _, g, h1, ⟨.inl ⟨r, q1, rfl⟩, rfl⟩, hr, H2, O2⟩
  | pan q =>
    obtain ⟨r, q1, q2, q3⟩ := h2
    have hr : VR w' (fun b => Fz' b ∨ (w.heap.size ≤ b ∧ b < w'.heap.size)) g r c := noO2_vr q2 ((q3 _ _ _ _ h3).mono (Same.refl _ _) (fun _ x => .inl x) (fun _ _ x => x))
    exact ⟨.pan r, c, h, _, g, h1, ⟨.inr ⟨r, q1, rfl⟩, rfl⟩, hr, H2, O2⟩
theorem quiet_h {f : FuncId} {vs : List AV} {r : AV} (H : SCall P f vs [] (Told r)) (hn : vs.all noO2 = true) (h : List AO) : SCall P f vs h fun r' h' => r' = .ret r ∧ h' = h :=
  (quiet_e (Q := fun x => x = r) (Qp := fun _ => False) (H.mono fun r' h' hk => by
    cases r' with
    | ret q => exact ⟨r, rfl, hk⟩
    | pan q => exact hk.elim) hn h).mono fun r' h' ⟨h1, h2⟩ => by
      rcases h1 with ⟨x, rfl, e⟩ | ⟨x, h0, _⟩
      · exact ⟨e, h2⟩
      · exact h0.elim
end
end Go.Proofs.YtnnoplgabnfdiaaGreatDoor.Sh
/- The shadow machine over this program: the instalment of a loan whose instalments are alike, and its plan. -/
namespace Go.Proofs.YtnnoplgabnfdiaaGreatDoor.Sh
open Go Go.RowKit
set_option linter.unusedVariables false
set_option linter.unusedSimpArgs false
set_option maxRecDepth 100000
set_option maxHeartbeats 4000000
/-- The product that a program tries itself on. -/
def plP : PR := ⟨homeB, 2, 1, 1, 1, 12, 0, 60000000, 100000000, 1, 2, 3, 4, 1, 0, fun _ => 0, fun _ => 0, 0, 1⟩
theorem plP_ok : OKP plP := ⟨home_ok, by decide, by decide, by decide, by decide, by decide, rfl, by decide, by decide, by decide, by decide, by decide, by decide, by decide, by decide, by decide, fun i hi => absurd hi (by show ¬ i < 0; omega), by decide, .inr rfl, rfl⟩
theorem plP_sh : SHP plP := ⟨plP_ok, .inl ⟨rfl, rfl⟩⟩
def ptL (i : Nat) : Int := partF plP i
theorem ptL_b (i : Nat) (h : i < 12) : 0 ≤ ptL i ∧ ptL i ≤ 31 := by
  match i, h with
  | 0, _ | 1, _ | 2, _ | 3, _ | 4, _ | 5, _ | 6, _ | 7, _ | 8, _ | 9, _ | 10, _ | 11, _ => decide
  | n + 12, h => exact absurd h (by omega)
/-- What an instalment leaves. -/
def leftW (n : Int) : Nat → Nat → Int → Int → Int
  | 0, _, b, _ => b
  | k + 1, i, b, s => bif decide (b + (bornV 365000000000 182500000000 s b 60000000 (ptL i) - n) ≤ 0) then b + (bornV 365000000000 182500000000 s b 60000000 (ptL i) - n) else leftW n k (i + 1) (b + (bornV 365000000000 182500000000 s b 60000000 (ptL i) - n)) (bornR 365000000000 182500000000 s b 60000000 (ptL i))
def leftF (n : Int) : Int := leftW n 12 0 10000 0
theorem wholeP : wholeB plP.ct = 365000000000 := by decide
theorem halfP : halfB plP.ct plP.rd = 182500000000 := by decide
theorem bornR_b {W H s b r q : Int} (hW : 0 < W) : -H ≤ bornR W H s b r q ∧ bornR W H s b r q < W - H := by
  unfold bornR
  have h1 := Int.emod_nonneg (b * r * q + (s + H)) (show W ≠ 0 by omega)
  have h2 := Int.emod_lt_of_pos (b * r * q + (s + H)) hW
  omega
theorem bornV_L {s b q : Int} (hs : -182500000000 ≤ s ∧ s < 182500000000) (hb : 0 < b ∧ b ≤ 12400) (hq : 0 ≤ q ∧ q ≤ 31) : 0 ≤ bornV 365000000000 182500000000 s b 60000000 q ∧ bornV 365000000000 182500000000 s b 60000000 q ≤ 100 := by
  unfold bornV
  have h1 : 0 ≤ b * 60000000 * q := Int.mul_nonneg (by omega) hq.1
  have h2 : b * 60000000 * q ≤ (12400 * 60000000) * 31 := Int.mul_le_mul (by omega) hq.2 hq.1 (by omega)
  constructor
  · exact Int.ediv_nonneg (by omega) (by omega)
  · exact Int.ediv_le_of_le_mul (by omega) (by omega)
def levC : List AV := plP.cells ++ [.ro 1 12 none (partRV plP), .int .i64 10000]
theorem left318 (n : Int) (hn : 0 ≤ n ∧ n ≤ 1000000000000000) : SCall Tryz.prog 318 [.agg levC, .int .i64 n] [] (Told (.int .i64 (leftF n))) := by
  refine scall_of (cfg_ok env_nil 0) Tryz.func318 (by kernel_rfl) rfl ?_
  generalize hK : Told _ = K
  conv => whnf
  refine (new302_1 _ 2 1 (by decide) (by decide)).mono fun r h' ⟨e1, e2⟩ => ?_
  subst e1 e2
  conv => whnf
  rw [show wholeB 2 = 365000000000 from by decide, show halfB 2 1 = 182500000000 from by decide]
  refine .inr ⟨[], [1, 2, 5, 7, 25, 26, 27], 2, fun m t => ∃ (i : Nat) (b s : Int), m = 12 - i ∧ i ≤ 12 ∧ (0 < b ∧ b ≤ 10000 + 100 * (i : Int)) ∧ (-182500000000 ≤ s ∧ s < 182500000000) ∧ leftF n = leftW n (12 - i) i b s ∧ t = ⟨.top :: .int .i64 n :: .ptr 0 1 1 0 0 :: .top :: .top :: .ptr 1 1 1 0 0 :: .top :: .int .i64 b :: (List.replicate 17 .top ++ .ro 1 12 none (partRV plP) :: .int .i64 12 :: .int .i64 (i : Int) :: List.replicate 35 .top), [.lit 1 levC, .lit 1 [.int .i64 365000000000, .int .i64 182500000000, .int .i64 s]]⟩, by decide, ⟨_, _, ?_, 0, 10000, 0, rfl, by omega, by omega, by omega, rfl, rfl⟩, ?_⟩
  · exact ⟨rfl, rfl, fun o ho => match o, ho with
      | 0, _ => rfl
      | 1, _ => rfl⟩
  rintro m t ⟨i, b, s, rfl, hi, hb, hs, hL, rfl⟩
  conv => whnf
  refine bsplit (fun h => ?_) (fun h => ?_)
  · have hlt : i < 12 := by have := of_decide_eq_true h; omega
    have hq := ptL_b i hlt
    have hv := bornV_L (s := s) hs (b := b) (by omega) hq
    have hr := bornR_b (W := 365000000000) (H := 182500000000) (s := s) (b := b) (r := 60000000) (q := ptL i) (by omega)
    have hC : BC 365000000000 182500000000 s b 60000000 (ptL i) := by
      have h := BC_of plP_ok (s := s) (b := b) (r := 60000000) (q := ptL i) (by rw [wholeP, halfP]; omega) (by omega) (by omega) (by omega)
      unfold BCP at h
      rwa [wholeP, halfP] at h
    conv => whnf
    refine ⟨⟨by omega, by omega⟩, ?_⟩
    rw [show ((i : Int)).toNat = i from by omega]
    conv => whnf
    refine (bear287_1_2 _ _ _ _ _ _ _ hC).mono fun r h' ⟨e1, e2⟩ => ?_
    subst e1 e2
    conv => whnf
    generalize hV : bornV 365000000000 182500000000 s b 60000000 (ptL i) = V at *
    rw [w64 (n := V - n) (by omega) (by omega), w64 (n := b + (V - n)) (by omega) (by omega)]
    have hL' : leftF n = bif decide (b + (V - n) ≤ 0) then b + (V - n) else leftW n (12 - (i + 1)) (i + 1) (b + (V - n)) (bornR 365000000000 182500000000 s b 60000000 (ptL i)) := by
      rw [hL, show 12 - i = (12 - (i + 1)) + 1 by omega]
      show (bif decide (b + (bornV 365000000000 182500000000 s b 60000000 (ptL i) - n) ≤ 0) then b + (bornV 365000000000 182500000000 s b 60000000 (ptL i) - n) else _) = _
      rw [hV]
    refine bsplit (fun h => ?_) (fun h => ?_)
    · rw [h] at hL'
      conv => whnf
      subst hK
      rw [hL']
      exact told_of trivial rfl
    · rw [h] at hL'
      conv => whnf
      have h0 := of_decide_eq_false h
      refine bf (decide_eq_false (by omega)) ?_
      conv => whnf
      refine ⟨12 - (i + 1), _, by omega, ?_, i + 1, b + (V - n), bornR 365000000000 182500000000 s b 60000000 (ptL i), rfl, by omega, by omega, hr, hL', rfl⟩
      rw [show ((i + 1 : Nat) : Int) = IntKind.i64.wrap ((i : Int) + 1) from by rw [w64 (by omega) (by omega)]; rfl]
      exact ⟨rfl, rfl, fun o ho => match o, ho with
        | 0, _ => rfl
        | 1, _ => rfl⟩
  · conv => whnf
    have h0 := of_decide_eq_false h
    have hii : i = 12 := by omega
    subst hii
    subst hK
    rw [hL]
    exact told_of trivial rfl
def leftQ : QSpec := fun vs => match vs with | [.agg cs, .int .i64 n] => some ([cs = levC ∧ 0 ≤ n ∧ n ≤ 1000000000000000], .int .i64 (leftF n)) | _ => none
theorem leftQ_ok : ∀ vs ob r, leftQ vs = some (ob, r) → conj ob → SCall Tryz.prog 318 vs [] (Told r) := by
  intro vs ob q h hob
  unfold leftQ at h
  split at h
  · simp only [Option.some.injEq, Prod.mk.injEq] at h
    obtain ⟨rfl, rfl⟩ := h
    obtain ⟨rfl, h1, h2⟩ := hob
    exact left318 _ ⟨h1, h2⟩
  · simp at h
def envLa1 : Env := [(318, leftQ)]
theorem envLa1_ok : EnvOK Tryz.prog envLa1 := env_cons leftQ_ok env_nil
/-- The bisection. -/
def bisF : Nat → Int × Int
  | 0 => (0, 1000000000000000)
  | k + 1 => match bisF k with
    | (l, h) => bif decide (leftF (l + (h - l) / 2) > 0) then (l + (h - l) / 2, h) else (l, l + (h - l) / 2)
def instA : Int := (bisF 50).2
theorem instA_eq : instA = 861 := by decide +kernel
def bisB (k : Nat) : Bool := decide (0 ≤ (bisF k).1) && (decide ((bisF k).1 < (bisF k).2) && (decide ((bisF k).2 ≤ 1000000000000000) && (decide ((bisF k).2 - (bisF k).1 > 1) == decide (k < 50))))
theorem bisB_all : (List.range 51).all bisB = true := by decide +kernel
theorem bis_ok {k : Nat} (h : k ≤ 50) : 0 ≤ (bisF k).1 ∧ (bisF k).1 < (bisF k).2 ∧ (bisF k).2 ≤ 1000000000000000 ∧ ((bisF k).2 - (bisF k).1 > 1 ↔ k < 50) := by
  have h1 := List.all_eq_true.mp bisB_all k (List.mem_range.mpr (by omega))
  unfold bisB at h1
  simp only [Bool.and_eq_true, decide_eq_true_eq, beq_iff_eq] at h1
  obtain ⟨a, b, c, d⟩ := h1
  exact ⟨a, b, c, by simpa using d⟩
theorem leftMax : ¬ leftF 1000000000000000 > 0 := by decide +kernel
theorem least317 : SCall Tryz.prog 317 [.fn 318 [.agg levC] []] [] (Told (.int .i64 instA)) := by
  refine scall_of (cfg_ok envLa1_ok 0) Tryz.func317 (by kernel_rfl) rfl ?_
  generalize hK : Told _ = K
  conv => whnf
  refine ⟨⟨rfl, by decide, by decide⟩, ?_⟩
  conv => whnf
  refine .inr ⟨[], [0, 3, 4], 0, fun m t => ∃ k : Nat, m = 50 - k ∧ k ≤ 50 ∧ t = ⟨.fn 318 [.agg levC] [] :: .top :: .top :: .int .i64 (bisF k).1 :: .int .i64 (bisF k).2 :: List.replicate 23 .top, []⟩, by decide, ⟨_, _, ?_, 0, rfl, Nat.zero_le _, rfl⟩, ?_⟩
  · exact ⟨rfl, rfl, fun o ho => absurd ho (by show ¬ o < 0; omega)⟩
  rintro m t ⟨k, rfl, hk, rfl⟩
  obtain ⟨b1, b2, b3, b4⟩ := bis_ok hk
  conv => whnf
  rw [w64 (n := (bisF k).2 - (bisF k).1) (by omega) (by omega)]
  refine bsplit (fun h => ?_) (fun h => ?_)
  · have hlt : k < 50 := b4.mp (of_decide_eq_true h)
    conv => whnf
    refine ⟨(by decide : (2 : Int) ≠ 0), ?_⟩
    rw [w64 (n := (bisF k).2 - (bisF k).1) (by omega) (by omega), td_eq (by omega), w64 (n := ((bisF k).2 - (bisF k).1) / 2) (by omega) (by omega), w64 (n := (bisF k).1 + ((bisF k).2 - (bisF k).1) / 2) (by omega) (by omega)]
    conv => whnf
    refine ⟨⟨rfl, by omega, by omega⟩, ?_⟩
    conv => whnf
    have hB : bisF (k + 1) = bif decide (leftF ((bisF k).1 + ((bisF k).2 - (bisF k).1) / 2) > 0) then ((bisF k).1 + ((bisF k).2 - (bisF k).1) / 2, (bisF k).2) else ((bisF k).1, (bisF k).1 + ((bisF k).2 - (bisF k).1) / 2) := rfl
    refine bsplit (fun h => ?_) (fun h => ?_)
    · rw [h] at hB
      conv => whnf
      refine ⟨50 - (k + 1), _, by omega, ?_, k + 1, rfl, by omega, rfl⟩
      rw [hB]
      exact ⟨rfl, rfl, fun o ho => absurd ho (by show ¬ o < 0; omega)⟩
    · rw [h] at hB
      conv => whnf
      refine ⟨50 - (k + 1), _, by omega, ?_, k + 1, rfl, by omega, rfl⟩
      rw [hB]
      exact ⟨rfl, rfl, fun o ho => absurd ho (by show ¬ o < 0; omega)⟩
  · conv => whnf
    have hk : k = 50 := by
      have := of_decide_eq_false h
      have h5 := mt b4.mpr this
      omega
    subst hk
    subst hK
    exact told_of trivial rfl
def envLa2 : Env := [(22, checkQ)]
theorem envLa2_ok : EnvOK Tryz.prog envLa2 := env_cons check22 env_nil
theorem may315 : SCall Tryz.prog 315 [.agg levC] [] (Told (.int .i64 0)) := by
  refine scall_of (cfg_ok envLa2_ok 0) Tryz.func315 (by kernel_rfl) rfl ?_
  generalize hK : Told _ = K
  conv => whnf
  refine ⟨⟨⟨rfl, rfl, rfl⟩, plP_ok⟩, ?_⟩
  conv => whnf
  refine .inr ⟨[], [1, 30, 31, 32], 1, fun m t => ∃ i : Nat, m = 12 - i ∧ i ≤ 12 ∧ t = ⟨.top :: .ptr 0 1 1 0 0 :: (List.replicate 28 .top ++ .ro 1 12 none (partRV plP) :: .int .i64 12 :: .int .i64 (i : Int) :: List.replicate 10 .top), [.lit 1 levC]⟩, by decide, ⟨_, _, ?_, 0, rfl, Nat.zero_le _, rfl⟩, ?_⟩
  · exact ⟨rfl, rfl, fun o ho => match o, ho with
      | 0, _ => rfl⟩
  rintro m t ⟨i, rfl, hi, rfl⟩
  conv => whnf
  refine bsplit (fun h => ?_) (fun h => ?_)
  · have hlt : i < 12 := by have := of_decide_eq_true h; omega
    have hq := ptL_b i hlt
    conv => whnf
    refine ⟨⟨by omega, by omega⟩, ?_⟩
    rw [show ((i : Int)).toNat = i from by omega]
    conv => whnf
    change 0 ≤ partF plP i ∧ partF plP i ≤ 31 at hq
    refine bf (by rw [decide_eq_false (show ¬ partF plP i < 0 by omega)]; exact decide_eq_false (by omega)) ?_
    conv => whnf
    refine ⟨12 - (i + 1), _, by omega, ?_, i + 1, rfl, by omega, rfl⟩
    rw [show ((i + 1 : Nat) : Int) = IntKind.i64.wrap ((i : Int) + 1) from by rw [w64 (by omega) (by omega)]; rfl]
    exact ⟨rfl, rfl, fun o ho => match o, ho with
      | 0, _ => rfl⟩
  · conv => whnf
    subst hK
    exact told_of trivial rfl
def envLa3 : Env := [(315, exQ [.agg levC] (.int .i64 0))]
theorem envLa3_ok : EnvOK Tryz.prog envLa3 := env_cons (exQ_of may315) env_nil
theorem of309 (x0 x1 : AO) : SCall Tryz.prog 309 [plP.av, .ro 1 plP.tm.toNat none (partRV plP), .int .i64 10000] [x0, x1] fun r h' => r = .ret (.tup [.int .i64 instA, .int .i64 0]) ∧ h' = [x0, x1] := by
  refine kept_of3 rfl (fun o ho => .inl rfl) ?_
  refine scall_ofD (cfg_ok envLa3_ok 2) Tryz.func309 (by kernel_rfl) rfl ?_
  generalize hK : Kept3 _ _ _ = K
  conv => whnf
  refine ⟨rfl, ?_⟩
  conv => whnf
  refine (quiet_h least317 rfl _).mono fun r h' ⟨e1, e2⟩ => ?_
  subst e1 e2
  conv => whnf
  refine dcall_of (cfg_ok env_nil 6) Tryz.func316 (by kernel_rfl) ?_
  conv => whnf
  subst hK
  exact ⟨⟨_, rfl⟩, trivial, Wk.refl _⟩
/-- What is left, and the rest, ahead of each instalment. -/
def lineS : Nat → Int × Int
  | 0 => (10000, 0)
  | i + 1 => match lineS i with
    | (l, s) => (l - (bif (i : Int) == 11 then l else if l < 861 - bornV 365000000000 182500000000 s l 60000000 (ptL i) then l else 861 - bornV 365000000000 182500000000 s l 60000000 (ptL i)), bornR 365000000000 182500000000 s l 60000000 (ptL i))
def lA (i : Nat) : Int := (lineS i).1
def sA (i : Nat) : Int := (lineS i).2
def vA (i : Nat) : Int := bornV 365000000000 182500000000 (sA i) (lA i) 60000000 (ptL i)
def ppA (i : Nat) : Int := bif (i : Int) == 11 then lA i else if lA i < 861 - vA i then lA i else 861 - vA i
theorem lA_s (i : Nat) : lA (i + 1) = lA i - ppA i := rfl
theorem sA_s (i : Nat) : sA (i + 1) = bornR 365000000000 182500000000 (sA i) (lA i) 60000000 (ptL i) := rfl
def lineB (i : Nat) : Bool := decide ((0 ≤ lA i ∧ lA i ≤ 10000) ∧ (-182500000000 ≤ sA i ∧ sA i < 182500000000) ∧ 0 ≤ vA i ∧ (0 ≤ ppA i ∧ ppA i ≤ lA i) ∧ (i = 11 → -12 ≤ ppA i + vA i - 861 ∧ ppA i + vA i - 861 ≤ 12))
theorem lineB_all : (List.range 12).all lineB = true := by decide +kernel
theorem lines_ok : LinesOK plP 10000 861 lA sA ppA vA := fun i hi x0 x3 => by
  replace hi : i < 12 := hi
  have h1 := List.all_eq_true.mp lineB_all i (List.mem_range.mpr hi)
  unfold lineB at h1
  obtain ⟨a, b, c, d, e⟩ := of_decide_eq_true h1
  have hq := ptL_b i hi
  have hC := BC_of plP_ok (s := sA i) (b := lA i) (r := 60000000) (q := ptL i) (by rw [wholeP, halfP]; omega) (by omega) (by omega) (by omega)
  unfold BCP at hC
  have H := line310A x0 x3 plP plP_ok rfl (i : Int) (dueF (plP.ev * ((i : Int) + 1))) (partF plP i) 861 (lA i) 10000 (sA i) (ppA i) (vA i) hC (by decide) (by rw [wholeP, halfP]; rfl) c (by omega) rfl d (fun h => by
    have h2 : i = 11 := by have : (i : Int) = 12 - 1 := h; omega
    exact e h2)
  rw [show bornR (wholeB plP.ct) (halfB plP.ct plP.rd) (sA i) (lA i) plP.rt (partF plP i) = sA (i + 1) from by rw [wholeP, halfP]; rfl] at H
  rw [lA_s]
  exact H
theorem planA : Plan plP 10000 ppA vA lA := of301_a plP 10000 861 plP_sh rfl (fun x0 x1 => by rw [← instA_eq]; exact of309 x0 x1) (by decide) lA sA ppA vA rfl rfl lines_ok
end Go.Proofs.YtnnoplgabnfdiaaGreatDoor.Sh
/- The shadow machine over this program: an empty text opens no engine. -/
namespace Go.Proofs.YtnnoplgabnfdiaaGreatDoor.Sh
open Go Go.RowKit
set_option linter.unusedVariables false
set_option linter.unusedSimpArgs false
set_option maxRecDepth 100000
set_option maxHeartbeats 4000000
def noB : ByteArray := ⟨#[]⟩
def endR : Nat → List RV := fun _ => [.int .i64 0, .int .i64 0, .str noB]
theorem pass193 (x0 x1 x2 x4 : AO) : SCall Tryz.prog 193 [.ptr 3 1 1 0 0] [x0, x1, x2, .lit 1 [.str noB, .int .i64 0], x4] fun r h' => r = .ret (.tup []) ∧ h' = [x0, x1, x2, .lit 1 [.str noB, .int .i64 0], x4] := by
  refine scall_of (cfg_ok env_nil 5) Tryz.func193 (by kernel_rfl) rfl ?_
  generalize hK : (fun (r : AR) (h' : List AO) => _) = K
  conv => whnf
  refine .inl ⟨[()], unroll_step fun k hk => ?_⟩
  conv => whnf
  refine ⟨[], by kernel_rfl, ?_⟩
  conv => whnf
  subst hk
  conv => whnf
  subst hK
  exact ⟨rfl, rfl⟩
theorem next173 (x0 x1 x2 : AO) : SCall Tryz.prog 173 [.ptr 3 1 1 0 0] [x0, x1, x2, .lit 1 [.str noB, .int .i64 0]] fun r h' => r = .ret (.agg [.int .i64 0, .int .i64 0, .str noB]) ∧ h' = [x0, x1, x2, .lit 1 [.str noB, .int .i64 0]] := by
  refine kept_of3 rfl (fun o ho => .inl rfl) ?_
  refine scall_of (cfg_ok env_nil 4) Tryz.func173 (by kernel_rfl) rfl ?_
  generalize hK : Kept3 _ _ _ = K
  conv => whnf
  refine (pass193 x0 x1 x2 _).mono fun r h' ⟨e1, e2⟩ => ?_
  subst e1 e2
  conv => whnf
  refine ⟨[], by kernel_rfl, ?_⟩
  conv => whnf
  subst hK
  exact ⟨⟨_, rfl⟩, trivial, Wk.refl _⟩
theorem all151 : SCall Tryz.prog 151 [.str noB] [] (Told (.tup [.ro 3 1 none endR, .int .i64 0, .int .i64 0])) := by
  refine scall_ofD (cfg_ok env_nil 0) Tryz.func151 (by kernel_rfl) rfl ?_
  generalize hK : Told _ = K
  conv => whnf
  refine .inl ⟨[()], unroll_step fun k hk => ?_⟩
  conv => whnf
  refine (next173 (.lit 1 [.nilsl]) (.lit 1 [.int .i64 0]) (.lit 1 [.int .i64 0])).mono fun r h' ⟨e1, e2⟩ => ?_
  subst e1 e2
  conv => whnf
  refine ⟨show 1 * 32 ≤ 140737488355328 by decide, ?_⟩
  conv => whnf
  subst hk
  conv => whnf
  refine dcall_of (cfg_ok env_nil 7) Tryz.func172 (by kernel_rfl) ?_
  conv => whnf
  subst hK
  refine told_wk ?_ ?_
  · exact show 0 + 1 ≤ 1 by decide
  · refine wk_tup rfl fun i hi => ?_
    replace hi : i < 3 := hi
    match i, hi with
    | 0, _ => exact ro_congr fun i hi => rfl
    | 1, _ | 2, _ => exact Wk.refl _
    | n + 3, h => exact absurd h (by omega)
def parsO : AO := .lit 1 [.ro 3 1 none endR, .int .i64 0, .str noB, .int .i64 0, .int .i64 0, .int .i64 0, .int .i64 0, .int .i64 0, .int .i64 0, .int .i64 0, .nilsl, .int .i64 0, .int .i64 0, .int .i64 0, .int .i64 0, .int .i64 0, .cint .i64 1, .nilsl, .int .i64 0, .cint .i64 1, .nilsl, .mp 3]
def tokO : AO := .lit 1 [.int .i64 0, .int .i64 0, .str noB]
def faultV : AV := .iface 237 (.agg [.int .i64 0, .cint .i64 7])
theorem next200 (x0 x1 x2 x3 x5 : AO) : SCall Tryz.prog 200 [.ptr 4 1 1 0 0] [x0, x1, x2, x3, parsO, x5] fun r h' => r = .ret (.agg [.int .i64 0, .int .i64 0, .str noB]) ∧ h' = [x0, x1, x2, x3, parsO, x5] := by
  refine kept_of3 rfl (fun o ho => .inl rfl) ?_
  refine scall_of (cfg_ok env_nil 6) Tryz.func200 (by kernel_rfl) rfl ?_
  generalize hK : Kept3 _ _ _ = K
  conv => whnf
  refine ⟨[(3, 10), (7, 10), (8, 10), (9, 10)], by kernel_rfl, ?_⟩
  conv => whnf
  refine ⟨⟨by decide, by decide⟩, by kernel_rfl, ?_⟩
  conv => whnf
  subst hK
  exact ⟨⟨_, rfl⟩, trivial, Wk.refl _⟩
theorem wrong175 (x0 x1 x2 x3 x5 x6 : AO) : SCall Tryz.prog 175 [.agg [.int .i64 0, .int .i64 0, .str noB]] [x0, x1, x2, x3, parsO, x5, x6] fun r h' => r = .pan faultV ∧ h' = [x0, x1, x2, x3, parsO, x5, x6, tokO] := by
  refine scall_of (cfg_ok env_nil 7) Tryz.func175 (by kernel_rfl) rfl ?_
  generalize hK : (fun (r : AR) (h' : List AO) => _) = K
  conv => whnf
  subst hK
  exact ⟨rfl, rfl⟩
theorem want174 (x0 x1 x2 x3 : AO) (b : ByteArray) : SCall Tryz.prog 174 [.ptr 4 1 1 0 0, .cint .i64 1, .str b] [x0, x1, x2, x3, parsO] fun r h' => r = .pan faultV ∧ h' = [x0, x1, x2, x3, parsO, tokO, tokO, tokO] := by
  refine scall_of (cfg_ok env_nil 5) Tryz.func174 (by kernel_rfl) rfl ?_
  generalize hK : (fun (r : AR) (h' : List AO) => _) = K
  conv => whnf
  refine (next200 x0 x1 x2 x3 tokO).mono fun r h' ⟨e1, e2⟩ => ?_
  subst e1 e2
  conv => whnf
  refine (wrong175 x0 x1 x2 x3 tokO tokO).mono fun r h' ⟨e1, e2⟩ => ?_
  subst e1 e2
  conv => whnf
  subst hK
  exact ⟨rfl, rfl⟩
theorem text152 (x0 x1 x2 x3 : AO) : SCall Tryz.prog 152 [.ptr 4 1 1 0 0] [x0, x1, x2, x3, parsO] fun r h' => r = .pan faultV ∧ h' = [x0, x1, x2, x3, parsO, tokO, tokO, tokO] := by
  refine scall_of (cfg_ok env_nil 5) Tryz.func152 (by kernel_rfl) rfl ?_
  generalize hK : (fun (r : AR) (h' : List AO) => _) = K
  conv => whnf
  refine (want174 x0 x1 x2 x3 _).mono fun r h' ⟨e1, e2⟩ => ?_
  subst e1 e2
  conv => whnf
  subst hK
  exact ⟨rfl, rfl⟩
def envPg : Env := [(151, exQ [.str noB] (.tup [.ro 3 1 none endR, .int .i64 0, .int .i64 0]))]
theorem envPg_ok : EnvOK Tryz.prog envPg := env_cons (exQ_of all151) env_nil
def zeroC : List AV := [.str noB, .int .i64 0, .int .i64 0, .int .i64 0, .int .i64 0, .int .i64 0, .int .i64 0, .int .i64 0, .ro 0 0 (some 0) fun _ => [], .int .i64 0, .int .i64 0, .int .i64 0, .int .i64 0, .int .i64 0, .int .i64 0, .ro 0 0 (some 0) fun _ => [], .int .i64 0, .int .i64 0, .ro 0 0 (some 0) fun _ => []]
theorem parse121 : SCall Tryz.prog 121 [.str noB] [] (Told (.tup [.agg zeroC, .int .i64 0, .int .i64 7])) := by
  refine scall_ofD (cfg_ok envPg_ok 0) Tryz.func121 (by kernel_rfl) rfl ?_
  generalize hK : Told _ = K
  conv => whnf
  refine ⟨rfl, ?_⟩
  conv => whnf
  refine (text152 _ _ _ _).mono fun r h' ⟨e1, e2⟩ => ?_
  subst e1 e2
  conv => whnf
  refine dcall_of (cfg_ok env_nil 8) Tryz.func150 (by kernel_rfl) ?_
  conv => whnf
  refine ⟨[(2, 5), (4, 5), (4, 6)], by kernel_rfl, ?_⟩
  conv => whnf
  refine ⟨by kernel_rfl, ?_⟩
  conv => whnf
  subst hK
  exact told_of trivial rfl
def envPg2 : Env := [(121, exQ [.str noB] (.tup [.agg zeroC, .int .i64 0, .int .i64 7]))]
theorem envPg2_ok : EnvOK Tryz.prog envPg2 := env_cons (exQ_of parse121) env_nil
theorem open72 : SCall Tryz.prog 72 [.str noB] [] (Told (.tup [.nilp, .int .i64 0, .int .i64 7])) := by
  refine scall_of (cfg_ok envPg2_ok 0) Tryz.func72 (by kernel_rfl) rfl ?_
  generalize hK : Told _ = K
  conv => whnf
  refine ⟨rfl, ?_⟩
  conv => whnf
  subst hK
  exact told_of trivial rfl
end Go.Proofs.YtnnoplgabnfdiaaGreatDoor.Sh
