/- Part 25 of a proof over the shadow machine. -/
import Derived.Test.YtnnoplgabnfdiaaGreatDoorN24
/- The shadow machine over this program: the law's walk, over what a product near another one, and awake, answer. -/
namespace Go.Proofs.YtnnoplgabnfdiaaGreatDoor.Sh
open Go Go.RowKit
set_option linter.unusedVariables false
set_option linter.unusedSimpArgs false
set_option maxRecDepth 100000
set_option maxHeartbeats 4000000
/-- A product as it comes in. -/
structure PA where
  nm : ByteArray
  ct : Int
  rd : Int
  kd : Int
  ev : Int
  tm : Int
  gr : Int
  rt : Int
  n8 : Nat
  r8 : Nat → List RV
  pn : Int
  o0 : Int
  o1 : Int
  o2 : Int
  o3 : Int
  ov : Int
  n15 : Nat
  r15 : Nat → List RV
  cp : Int
  rl : Int
  n18 : Nat
  r18 : Nat → List RV
def PA.cells (u : PA) : List AV := [.str u.nm, .int .i64 u.ct, .int .i64 u.rd, .int .i64 u.kd, .int .i64 u.ev, .int .i64 u.tm, .int .i64 u.gr, .int .i64 u.rt, .ro 2 u.n8 none u.r8, .int .i64 u.pn, .int .i64 u.o0, .int .i64 u.o1, .int .i64 u.o2, .int .i64 u.o3, .int .i64 u.ov, .ro 2 u.n15 none u.r15, .int .i64 u.cp, .int .i64 u.rl, .ro 1 u.n18 none u.r18]
/-- A product near another one. -/
def outC (q : PR) (n8 : Nat) (r8 : Nat → List RV) (n18 : Nat) (r18 : Nat → List RV) : List AV := [.str q.nm, .int .i64 q.ct, .int .i64 q.rd, .int .i64 q.kd, .int .i64 q.ev, .int .i64 q.tm, .int .i64 q.gr, .int .i64 q.rt, .ro 2 n8 none r8, .int .i64 q.pn, .int .i64 q.o0, .int .i64 q.o1, .int .i64 q.o2, .int .i64 q.o3, .int .i64 q.ov, .ro 2 q.ln none fun i => [.int .i64 (q.ld i), .int .i64 (q.lf i)], .int .i64 q.cp, .int .i64 q.rl, .ro 1 n18 none r18]
def bul (q : PR) : PR := { q with kd := 3, ev := 12, tm := 1, gr := 0, rl := 1 }
def Near (u : PA) : Prop := ∀ x0, SCall Tryz.prog 6 [.agg u.cells, .cint .i64 1] [x0] fun r h' => (∃ q n8 r8 n18 r18, OKP (bul q) ∧ r = .ret (.agg (outC q n8 r8 n18 r18))) ∧ h' = [x0]
def Awake : Prop := SCall Tryz.prog 9 [] [] (Told (.bool true))
def envPc : Env := [(9, exQ [] (.bool true)), (19, oneQ)]
theorem envPc_ok (h : Awake) : EnvOK Tryz.prog envPc := env_cons (exQ_of h) (env_cons one19 env_nil)
theorem u64_b (n : Int) : 0 ≤ IntKind.u64.wrap n := by
  unfold IntKind.wrap
  exact Int.emod_nonneg _ (by decide)
theorem mod_b {n k : Int} (h : 0 ≤ n) (hk : 0 < k) : 0 ≤ n.tmod k ∧ n.tmod k < k := by
  rw [Int.tmod_eq_emod_of_nonneg h]
  exact ⟨Int.emod_nonneg _ (by omega), Int.emod_lt_of_pos _ hk⟩
theorem wk_cint {k : IntKind} {n : Int} : Wk (.cint k n) (.int k n) := fun w Fz g c h => by cases h; exact .int _ _
/-- The loan at the end of a day, and what leads there. -/
theorem fin_ok (p : PR) (hq : OKP p) (hk : p.kd = 3) (he : p.ev = 12) (ht : p.tm = 1) (a d : Int) (ha : 1 ≤ a ∧ a ≤ 10000) (hd : 0 ≤ d ∧ d < 300) : ∃ s : ST, DOK p s ∧ s.P = a ∧ s.A = (a * p.rt * betF p.ct 19723 (19723 + d) + (0 + halfB p.ct p.rd)) / wholeB p.ct ∧ SCall Tryz.prog 104 [p.av, (s1 p a (ppB a)).av, .ro 5 1 none (evR a), .int .i64 (19723 + d)] [] (Told (.tup [s.av, .int .i64 0])) := by
  have hp : SHP p := ⟨hq, .inr ⟨he, ht⟩⟩
  have hW := wholeB_b hq.ct
  have hH := halfB_b (rd := p.rd) hq.ct
  have hb := bet_b (d := 19723 + d) hq.ct (by omega) (by omega)
  by_cases h0 : d = 0
  · subst h0
    refine ⟨s1 p a (ppB a), s1_ok p a (ppB a) hp ha, rfl, ?_, from104_z p a (ppB a) hp ha⟩
    show (0 : Int) = _
    rw [show betF p.ct 19723 (19723 + 0) = 0 from bet_0 hq.ct, Int.mul_zero]
    exact (Int.ediv_eq_zero_of_lt (by omega) (by omega)).symm
  · have hBC : BCP p 0 a p.rt (betF p.ct 19723 (19723 + d)) := BC_of hq (by omega) (by omega) hq.rt hb
    have hv := hBC.hv
    have hV0 : 0 ≤ bornV (wholeB p.ct) (halfB p.ct p.rd) 0 a p.rt (betF p.ct 19723 (19723 + d)) := by
      unfold bornV
      refine Int.ediv_nonneg ?_ (by omega)
      have h1 : 0 ≤ a * p.rt := Int.mul_nonneg (by omega) hq.rt.1
      have h2 : 0 ≤ a * p.rt * betF p.ct 19723 (19723 + d) := Int.mul_nonneg h1 hb.1
      omega
    have hV1 : bornV (wholeB p.ct) (halfB p.ct p.rd) 0 a p.rt (betF p.ct 19723 (19723 + d)) ≤ 100000000000000 := by
      unfold bornV
      refine Int.ediv_le_of_le_mul (by omega) ?_
      have h1 : a * p.rt ≤ 10000 * 1000000000 := Int.mul_le_mul ha.2 hq.rt.2 hq.rt.1 (by omega)
      have h0 : 0 ≤ a * p.rt := Int.mul_nonneg (by omega) hq.rt.1
      have h2 : a * p.rt * betF p.ct 19723 (19723 + d) ≤ (10000 * 1000000000) * 133590 := Int.mul_le_mul h1 hb.2 hb.1 (by omega)
      omega
    have hN : NOK p (s1 p a (ppB a)) (19723 + d - 19723) := by
      have e : (19723 : Int) + (19723 + d - 19723) = 19723 + d := by omega
      refine ⟨hq, show (19723 : Int) ≤ 19723 by omega, by omega, show (19723 : Int) + (19723 + d - 19723) ≤ 20089 by omega, ?_, ?_, rfl, show 0 ≤ a ∧ a ≤ _ by omega, show (0 : Int) ≤ 0 ∧ (0 : Int) ≤ _ by omega, ?_⟩
      · show BCP p 0 a p.rt (betF p.ct 19723 (19723 + (19723 + d - 19723)))
        rw [e]; exact hBC
      · show BCP p 0 0 p.pn (betF p.ct 19723 (19723 + (19723 + d - 19723)))
        rw [e]; exact BC_of hq (by omega) (by omega) hq.pn hb
      · show 0 ≤ 0 + bornV (wholeB p.ct) (halfB p.ct p.rd) 0 a p.rt (betF p.ct 19723 (19723 + (19723 + d - 19723))) ∧ 0 + bornV (wholeB p.ct) (halfB p.ct p.rd) 0 a p.rt (betF p.ct 19723 (19723 + (19723 + d - 19723))) ≤ _
        rw [e]; omega
    have hdu : dueF p.ev = 20089 := by rw [he]; decide
    have D := s1_ok p a (ppB a) hp ha
    refine ⟨nightS p (s1 p a (ppB a)) (19723 + d - 19723), ⟨hp, D.ho, D.hs, D.hn, D.hpn, D.pn, D.P, hN.A2⟩, rfl, ?_, from104_n p a (19723 + d) (ppB a) hp ha (by omega) (by omega) (by omega) (by omega) hN⟩
    show 0 + bornV (wholeB p.ct) (halfB p.ct p.rd) 0 a p.rt (betF p.ct 19723 (19723 + (19723 + d - 19723))) = _
    rw [show (19723 : Int) + (19723 + d - 19723) = 19723 + d by omega, Int.zero_add]
    rfl
theorem top5 (u : PA) (am dy : Int) (hN : Near u) (hA : Awake) : SCall Tryz.prog 5 [.agg u.cells, .int .i64 am, .int .i64 dy] [] (Told (.bool true)) := by
  refine scall_of (cfg_ok (envPc_ok hA) 0) Tryz.func5 (by kernel_rfl) rfl ?_
  generalize hK : Told _ = K
  conv => whnf
  refine (hN _).mono fun r h' ⟨⟨q, n8, r8, n18, r18, hq, e1⟩, e2⟩ => ?_
  subst e1 e2
  conv => whnf
  refine ⟨(by decide : (10000 : Int) ≠ 0), ?_⟩
  have ha0 := mod_b (u64_b am) (show (0 : Int) < 10000 by decide)
  have hd0 := mod_b (u64_b dy) (show (0 : Int) < 300 by decide)
  generalize (IntKind.u64.wrap am).tmod 10000 = a0 at *
  rw [w64 (n := a0) (by omega) (by omega), w64 (n := 1 + a0) (by omega) (by omega)]
  have hp : SHP (bul q) := ⟨hq, .inr ⟨rfl, rfl⟩⟩
  have ha : 1 ≤ 1 + a0 ∧ 1 + a0 ≤ 10000 := by omega
  generalize 1 + a0 = a at *
  conv => whnf
  refine ⟨(by decide : (300 : Int) ≠ 0), ?_⟩
  generalize (IntKind.u64.wrap dy).tmod 300 = d0 at *
  rw [w64 (n := d0) (by omega) (by omega)]
  conv => whnf
  refine scall_args (vs' := [.agg (pN (bul q))]) rfl (fun i hi => ?_) ((new8_1 (bul q) hq _).mono fun r h' ⟨e1, e2⟩ => ?_)
  · match i, hi with
    | 0, _ =>
      refine wk_agg rfl fun i hi => ?_
      replace hi : i < 19 := hi
      match i, hi with
      | 3, _ | 4, _ | 5, _ | 6, _ | 17, _ => exact wk_cint
      | 0, _ | 1, _ | 2, _ | 7, _ | 8, _ | 9, _ | 10, _ | 11, _ | 12, _ | 13, _ | 14, _ | 15, _ | 16, _ | 18, _ => exact Wk.refl _
      | n + 19, h => exact absurd h (by omega)
  subst e1 e2
  conv => whnf
  refine ⟨rfl, ?_⟩
  conv => whnf
  obtain ⟨s, D, hP, hA, HF⟩ := fin_ok (bul q) hq rfl rfl rfl a d0 ha (by omega)
  refine scall_args (vs' := [.ptr 5 1 1 0 0, .agg (evA a)]) rfl (fun i hi => ?_) ((do10_1 (bul q) a (ppB a) (vB (bul q) a) (lB a) hp ha (planB (bul q) hp rfl rfl rfl a ha) _ _).mono fun r h' ⟨e1, e2⟩ => ?_)
  · match i, hi with
    | 0, _ => exact Wk.refl _
    | 1, _ =>
      refine wk_agg rfl fun i hi => ?_
      replace hi : i < 5 := hi
      match i, hi with
      | 0, _ | 1, _ | 2, _ => exact wk_cint
      | 3, _ | 4, _ => exact Wk.refl _
  subst e1 e2
  conv => whnf
  rw [w64 (n := 19723 + d0) (by omega) (by omega)]
  refine (at18 (bul q) a (19723 + d0) (ppB a) s hp (by omega) HF D (by omega) _ _ _ _ _ _ _ _ _ _ _ _).mono fun r h' ⟨e1, e2⟩ => ?_
  subst e1 e2
  conv => whnf
  have hc : 1 ≤ q.ct ∧ q.ct ≤ 3 := hq.ct
  have hw0 : IntKind.i64.wrap (19723 + d0) = 19723 + d0 := w64 (by omega) (by omega)
  refine .inr ⟨[], [1, 2, 3, 11, 12, 13, 15], 16, fun m t => ∃ i : Nat, m = d0.toNat - i ∧ i ≤ d0.toNat ∧ t = ⟨.top :: .int .i64 a :: .int .i64 d0 :: .ptr 0 1 1 0 0 :: .top :: .top :: .top :: .top :: .top :: .top :: .top :: .ptr 15 1 1 0 0 :: .int .i64 0 :: .int .i64 (betF q.ct 19723 (19723 + (i : Int))) :: .top :: .int .i64 (19723 + (i : Int)) :: List.replicate 111 .top, [.lit 1 (pN (bul q)), .lit 1 (pN (bul q)), .emap, .emap, .lit 1 [.nilsl, .mp 2, .mp 3, .int .i64 0], engO (bul q) (.ptr 11 1 1 0 0) 19723 (.ro 19 1 none (mkR (s1 (bul q) a (ppB a)))) (.sl 14 3 0 1 none), .dead, .dead, .dead, .xmap, .emap, .lit 1 [.ro 5 1 none (evR a), .mp 9, .mp 10, .int .i64 1], .dead, .dead, .rows 3 1 (batA a), .lit 1 (stmtA (bul q) s)]⟩, by decide, ⟨_, _, ?_, 0, rfl, Nat.zero_le _, rfl⟩, ?_⟩
  · rw [show betF q.ct 19723 (19723 + ((0 : Nat) : Int)) = 0 from bet_0 hc]
    exact ⟨rfl, rfl, fun o ho => match o, ho with
      | 0, _ | 1, _ | 2, _ | 3, _ | 4, _ | 5, _ | 6, _ | 7, _ | 8, _ | 9, _ | 10, _ | 11, _ | 12, _ | 13, _ | 15, _ => rfl
      | 14, _ => ⟨rfl, rfl, fun i hi => rfl⟩
      | n + 16, h => absurd h (by show ¬ n + 16 < 16; omega)⟩
  rintro m t ⟨i, rfl, hi, rfl⟩
  conv => whnf
  rw [hw0]
  refine bsplit (fun h => ?_) (fun h => ?_)
  · have hlt : 19723 + (i : Int) < 19723 + d0 := of_decide_eq_true h
    conv => whnf
    refine ⟨⟨hc, by omega, by omega⟩, ?_⟩
    conv => whnf
    have hs := bet_step (d := 19723 + (i : Int)) hc (by omega) (by omega)
    have hb := bet_b (d := 19723 + (i : Int) + 1) hc (by omega) (by omega)
    refine ⟨d0.toNat - (i + 1), _, by omega, ?_, i + 1, rfl, by omega, rfl⟩
    rw [show (19723 : Int) + ((i + 1 : Nat) : Int) = IntKind.i64.wrap (19723 + (i : Int) + 1) from by rw [w64 (by omega) (by omega)]; omega]
    rw [show betF q.ct 19723 (IntKind.i64.wrap (19723 + (i : Int) + 1)) = IntKind.i64.wrap (betF q.ct 19723 (19723 + (i : Int)) + oneF q.ct (19723 + (i : Int))) from by rw [← hs, w64 (n := 19723 + (i : Int) + 1) (by omega) (by omega), w64 (by omega) (by omega)]]
    exact ⟨rfl, rfl, fun o ho => match o, ho with
      | 0, _ | 1, _ | 2, _ | 3, _ | 4, _ | 5, _ | 6, _ | 7, _ | 8, _ | 9, _ | 10, _ | 11, _ | 12, _ | 13, _ | 15, _ => rfl
      | 14, _ => ⟨rfl, rfl, fun i hi => rfl⟩
      | n + 16, h => absurd h (by show ¬ n + 16 < 16; omega)⟩
  have hii : (i : Int) = d0 := by have := of_decide_eq_false h; omega
  rw [hii]
  conv => whnf
  have hX : (bif 0 + (IntKind.i64.wrap ((bul q).ct - 1)).toNat == 0 then (360 : Int) else bif 0 + (IntKind.i64.wrap ((bul q).ct - 1)).toNat - 1 == 0 then 365 else 133590) = wholeF q.ct := by
    show (bif 0 + (IntKind.i64.wrap (q.ct - 1)).toNat == 0 then (360 : Int) else bif 0 + (IntKind.i64.wrap (q.ct - 1)).toNat - 1 == 0 then 365 else 133590) = wholeF q.ct
    have h3 : q.ct = 1 ∨ q.ct = 2 ∨ q.ct = 3 := by omega
    rcases h3 with e | e | e <;> rw [e] <;> decide
  have hct : IntKind.i64.wrap ((bul q).ct - 1) = q.ct - 1 := w64 (n := q.ct - 1) (by omega) (by omega)
  rw [hX]
  refine ⟨⟨⟨by rw [hct]; omega, by rw [hct]; show q.ct - 1 < 3; omega⟩, show 0 + (IntKind.i64.wrap ((bul q).ct - 1)).toNat < 3 by rw [hct]; omega⟩, ?_⟩
  have hwf := wholeF_or hc
  rw [w64 (n := 1000000000 * wholeF q.ct) (by omega) (by omega)]
  conv => whnf
  have hrt : 0 ≤ q.rt ∧ q.rt ≤ 1000000000 := hq.rt
  have hk : IntKind.i64.wrap ((bul q).rt.tdiv 1000) = q.rt / 1000 := by
    show IntKind.i64.wrap (q.rt.tdiv 1000) = _
    rw [td_eq hrt.1]
    exact w64 (by omega) (by omega)
  have hb := bet_b (d := 19723 + d0) hc (by omega) (by omega)
  generalize hqq : betF q.ct 19723 (19723 + d0) = Q at *
  have hk0 : 0 ≤ q.rt / 1000 ∧ q.rt / 1000 ≤ 1000000 := by omega
  have hy1 : 0 ≤ a * (q.rt / 1000) ∧ a * (q.rt / 1000) ≤ 10000000000 := ⟨Int.mul_nonneg (by omega) hk0.1, Int.mul_le_mul ha.2 hk0.2 hk0.1 (by omega)⟩
  have hy2 : 0 ≤ a * (q.rt / 1000) * Q ∧ a * (q.rt / 1000) * Q ≤ 10000000000 * 133590 := ⟨Int.mul_nonneg hy1.1 hb.1, Int.mul_le_mul hy1.2 hb.2 hb.1 (by omega)⟩
  rw [hk, w64 (n := a * (q.rt / 1000)) (by omega) (by omega), w64 (n := a * (q.rt / 1000) * Q) (by omega) (by omega)]
  refine ⟨(by decide : (1000 : Int) ≠ 0), ?_⟩
  conv => whnf
  have hh : IntKind.i64.wrap ((1000000000 * wholeF q.ct).tdiv 1000) = 1000000 * wholeF q.ct := by
    rw [td_eq (by omega), show 1000000000 * wholeF q.ct / 1000 = 1000000 * wholeF q.ct by omega]
    exact w64 (by omega) (by omega)
  have hHb := halfB_b (rd := q.rd) hc
  have hWB : wholeB q.ct = 1000 * (1000000 * wholeF q.ct) := by unfold wholeB; omega
  have hE := exact_b (w := 1000000 * wholeF q.ct) (v := s.A) (a := a) (r := q.rt) (q := Q) (H := halfB q.ct q.rd) (by omega) ⟨hHb.1, by omega⟩ (by omega) hrt.1 hb.1 (by
    rw [← hWB, ← hqq]; exact hA)
  have haQ : 0 ≤ a * Q ∧ a * Q ≤ 10000 * 133590 := ⟨Int.mul_nonneg (by omega) hb.1, Int.mul_le_mul ha.2 hb.2 hb.1 (by omega)⟩
  rw [hh, w64 (n := s.A * (1000000 * wholeF q.ct)) (by omega) (by omega), w64 (n := s.A * (1000000 * wholeF q.ct) - a * (q.rt / 1000) * Q) (by omega) (by omega)]
  refine ⟨(by decide : (1000 : Int) ≠ 0), ?_⟩
  conv => whnf
  refine ⟨⟨fun _ => (by decide : (1000 : Int) ≠ 0), fun _ => (by decide : (1000 : Int) ≠ 0)⟩, ?_⟩
  conv => whnf
  subst hK
  refine told_bool ?_
  have hm : IntKind.i64.wrap ((IntKind.i64.wrap (0 - 1000000000 * wholeF q.ct)).tdiv 1000) = -(1000000 * wholeF q.ct) := by rcases hwf with e | e | e <;> rw [e] <;> decide
  show (bif bif bif (0 : Int) == 0 then s.P == a else false then decide (s.A * (1000000 * wholeF q.ct) - a * (q.rt / 1000) * Q ≥ IntKind.i64.wrap ((IntKind.i64.wrap (0 - 1000000000 * wholeF q.ct)).tdiv 1000)) else false then decide (s.A * (1000000 * wholeF q.ct) - a * (q.rt / 1000) * Q ≤ IntKind.i64.wrap (IntKind.i64.wrap ((1000000000 * wholeF q.ct).tdiv 1000) + IntKind.i64.wrap (a * Q))) else false) = true
  rw [hm, hh, w64 (n := a * Q) (by omega) (by omega), w64 (n := 1000000 * wholeF q.ct + a * Q) (by omega) (by omega), decide_eq_true (show s.A * (1000000 * wholeF q.ct) - a * (q.rt / 1000) * Q ≥ -(1000000 * wholeF q.ct) by omega), decide_eq_true hE.2, hP]
  simp
end Go.Proofs.YtnnoplgabnfdiaaGreatDoor.Sh
/- The shadow machine over this program: which products may be, by the reference. -/
namespace Go.Proofs.YtnnoplgabnfdiaaGreatDoor.Sh
open Go Go.RowKit
set_option linter.unusedVariables false
set_option linter.unusedSimpArgs false
set_option maxRecDepth 100000
set_option maxHeartbeats 4000000
/-- A product, with resets and holidays. -/
structure PX where
  p : PR
  n8 : Nat
  a8 : Nat → Int
  b8 : Nat → Int
  n18 : Nat
  h18 : Nat → Int
def PX.cells (u : PX) : List AV := outC u.p u.n8 (fun i => [.int .i64 (u.a8 i), .int .i64 (u.b8 i)]) u.n18 (fun i => [.int .i64 (u.h18 i)])
structure Small (u : PX) : Prop where
  nm : u.p.nm.size < 9223372036854775808
  n8 : u.n8 < 9223372036854775808
  n15 : u.p.ln < 9223372036854775808
  n18 : u.n18 < 9223372036854775808
def sixL : List AV := [.cint .i64 1, .cint .i64 2, .cint .i64 3, .cint .i64 4, .cint .i64 6, .cint .i64 12]
def sixA : AV := freeze1 (fun o => nth .free [AO.free, .lit 1 sixL] o) (.sl 1 1 0 6 (some 6))
def sixF (v : Int) : Bool := (1 : Int) == v || ((2 : Int) == v || ((3 : Int) == v || ((4 : Int) == v || ((6 : Int) == v || (12 : Int) == v))))
theorem in57_a (v : Int) : SCall Tryz.prog 57 [sixA, .int .i64 v] [] (Told (.bool (sixF v))) := by
  refine scall_of (cfg_ok env_nil 0) Tryz.func57 (by kernel_rfl) rfl ?_
  generalize hK : Told _ = K
  conv => whnf
  refine .inl ⟨[(), (), (), (), (), (), ()], ?_⟩
  refine unroll_step fun k0 hk0 => ?_
  conv => whnf
  refine ⟨⟨by decide, by decide⟩, ?_⟩
  conv => whnf
  refine bsplit (fun h0 => ?_) (fun h0 => ?_)
  · conv => whnf
    subst hk0
    conv => whnf
    subst hK
    exact told_bool (by unfold sixF; rw [(show (1 == v) = true from h0)]; simp)
  conv => whnf
  subst hk0
  refine unroll_step fun k1 hk1 => ?_
  conv => whnf
  refine ⟨⟨by decide, by decide⟩, ?_⟩
  conv => whnf
  refine bsplit (fun h1 => ?_) (fun h1 => ?_)
  · conv => whnf
    subst hk1
    conv => whnf
    subst hK
    exact told_bool (by unfold sixF; rw [(show (1 == v) = false from h0), (show (2 == v) = true from h1)]; simp)
  conv => whnf
  subst hk1
  refine unroll_step fun k2 hk2 => ?_
  conv => whnf
  refine ⟨⟨by decide, by decide⟩, ?_⟩
  conv => whnf
  refine bsplit (fun h2 => ?_) (fun h2 => ?_)
  · conv => whnf
    subst hk2
    conv => whnf
    subst hK
    exact told_bool (by unfold sixF; rw [(show (1 == v) = false from h0), (show (2 == v) = false from h1), (show (3 == v) = true from h2)]; simp)
  conv => whnf
  subst hk2
  refine unroll_step fun k3 hk3 => ?_
  conv => whnf
  refine ⟨⟨by decide, by decide⟩, ?_⟩
  conv => whnf
  refine bsplit (fun h3 => ?_) (fun h3 => ?_)
  · conv => whnf
    subst hk3
    conv => whnf
    subst hK
    exact told_bool (by unfold sixF; rw [(show (1 == v) = false from h0), (show (2 == v) = false from h1), (show (3 == v) = false from h2), (show (4 == v) = true from h3)]; simp)
  conv => whnf
  subst hk3
  refine unroll_step fun k4 hk4 => ?_
  conv => whnf
  refine ⟨⟨by decide, by decide⟩, ?_⟩
  conv => whnf
  refine bsplit (fun h4 => ?_) (fun h4 => ?_)
  · conv => whnf
    subst hk4
    conv => whnf
    subst hK
    exact told_bool (by unfold sixF; rw [(show (1 == v) = false from h0), (show (2 == v) = false from h1), (show (3 == v) = false from h2), (show (4 == v) = false from h3), (show (6 == v) = true from h4)]; simp)
  conv => whnf
  subst hk4
  refine unroll_step fun k5 hk5 => ?_
  conv => whnf
  refine ⟨⟨by decide, by decide⟩, ?_⟩
  conv => whnf
  refine bsplit (fun h5 => ?_) (fun h5 => ?_)
  · conv => whnf
    subst hk5
    conv => whnf
    subst hK
    exact told_bool (by unfold sixF; rw [(show (1 == v) = false from h0), (show (2 == v) = false from h1), (show (3 == v) = false from h2), (show (4 == v) = false from h3), (show (6 == v) = false from h4), (show (12 == v) = true from h5)]; simp)
  conv => whnf
  subst hk5
  refine unroll_step fun k6 hk6 => ?_
  conv => whnf
  subst hk6
  conv => whnf
  subst hK
  exact told_bool (by unfold sixF; rw [(show (1 == v) = false from h0), (show (2 == v) = false from h1), (show (3 == v) = false from h2), (show (4 == v) = false from h3), (show (6 == v) = false from h4), (show (12 == v) = false from h5)]; rfl)
def ordB (p : PR) (b : Int) : Bool := p.o0 == b || (p.o1 == b || (p.o2 == b || p.o3 == b))
def ordL (p : PR) : List AO := [.lit 1 [.int .i64 p.o0, .int .i64 p.o1, .int .i64 p.o2, .int .i64 p.o3]]
theorem in57_o (p : PR) (v : Int) : SCall Tryz.prog 57 [.sl 0 1 0 4 (some 4), .int .i64 v] (ordL p) fun r h' => r = .ret (.bool (ordB p v)) ∧ h' = ordL p := by
  refine scall_of (cfg_ok env_nil 1) Tryz.func57 (by kernel_rfl) rfl ?_
  generalize hK : (fun (r : AR) (h' : List AO) => r = .ret (.bool (ordB p v)) ∧ h' = ordL p) = K
  conv => whnf
  refine .inl ⟨[(), (), (), (), ()], ?_⟩
  refine unroll_step fun k0 hk0 => ?_
  conv => whnf
  refine ⟨⟨by decide, by decide⟩, ?_⟩
  conv => whnf
  refine bsplit (fun h0 => ?_) (fun h0 => ?_)
  · conv => whnf
    subst hk0
    conv => whnf
    subst hK
    exact ⟨congrArg (fun b => AR.ret (.bool b)) (by unfold ordB; rw [(show (p.o0 == v) = true from h0)]; simp), rfl⟩
  conv => whnf
  subst hk0
  refine unroll_step fun k1 hk1 => ?_
  conv => whnf
  refine ⟨⟨by decide, show _ + _ < 4 from by decide⟩, ?_⟩
  conv => whnf
  refine bsplit (fun h1 => ?_) (fun h1 => ?_)
  · conv => whnf
    subst hk1
    conv => whnf
    subst hK
    exact ⟨congrArg (fun b => AR.ret (.bool b)) (by unfold ordB; rw [(show (p.o0 == v) = false from h0), (show (p.o1 == v) = true from h1)]; simp), rfl⟩
  conv => whnf
  subst hk1
  refine unroll_step fun k2 hk2 => ?_
  conv => whnf
  refine ⟨⟨by decide, show _ + _ < 4 from by decide⟩, ?_⟩
  conv => whnf
  refine bsplit (fun h2 => ?_) (fun h2 => ?_)
  · conv => whnf
    subst hk2
    conv => whnf
    subst hK
    exact ⟨congrArg (fun b => AR.ret (.bool b)) (by unfold ordB; rw [(show (p.o0 == v) = false from h0), (show (p.o1 == v) = false from h1), (show (p.o2 == v) = true from h2)]; simp), rfl⟩
  conv => whnf
  subst hk2
  refine unroll_step fun k3 hk3 => ?_
  conv => whnf
  refine ⟨⟨by decide, show _ + _ < 4 from by decide⟩, ?_⟩
  conv => whnf
  refine bsplit (fun h3 => ?_) (fun h3 => ?_)
  · conv => whnf
    subst hk3
    conv => whnf
    subst hK
    exact ⟨congrArg (fun b => AR.ret (.bool b)) (by unfold ordB; rw [(show (p.o0 == v) = false from h0), (show (p.o1 == v) = false from h1), (show (p.o2 == v) = false from h2), (show (p.o3 == v) = true from h3)]; simp), rfl⟩
  conv => whnf
  subst hk3
  refine unroll_step fun k4 hk4 => ?_
  conv => whnf
  subst hk4
  conv => whnf
  subst hK
  exact ⟨congrArg (fun b => AR.ret (.bool b)) (by unfold ordB; rw [(show (p.o0 == v) = false from h0), (show (p.o1 == v) = false from h1), (show (p.o2 == v) = false from h2), (show (p.o3 == v) = false from h3)]; rfl), rfl⟩
def ordF (p : PR) : Bool := ordB p 1 && ordB p 2 && ordB p 3 && ordB p 4
theorem rj_t {a b p : Bool} {i : Nat} (h : (bif (bif !a then true else !b) then true else bif decide ((i : Int) > 0) then p else false) = true) : ¬ (a = true ∧ b = true ∧ (0 < i → p = false)) := fun ⟨h1, h2, h3⟩ => by
  rw [h1, h2] at h
  by_cases h0 : 0 < i
  · rw [h3 h0] at h
    cases hd : decide ((i : Int) > 0) <;> rw [hd] at h <;> exact absurd h (by decide)
  · rw [decide_eq_false (show ¬ (i : Int) > 0 by omega)] at h
    exact absurd (show false = true from h) (by decide)
theorem rj_f {a b p : Bool} {i : Nat} (h : (bif (bif !a then true else !b) then true else bif decide ((i : Int) > 0) then p else false) = false) : a = true ∧ b = true ∧ (0 < i → p = false) := by
  cases a with
  | false => exact absurd (show true = false from h) (by decide)
  | true => cases b with
    | false => exact absurd (show true = false from h) (by decide)
    | true => exact ⟨rfl, rfl, fun h0 => by rw [decide_eq_true (show (i : Int) > 0 by omega)] at h; exact h⟩
theorem wi_eq {i : Nat} (h0 : 0 < i) (h1 : i < 9223372036854775808) : (IntKind.i64.wrap ((i : Int) - 1)).toNat = i - 1 := by
  rw [w64 (by omega) (by omega)]; omega
theorem in57_oc (p : PR) (v v' : Int) (h : v = v') : SCall Tryz.prog 57 [.sl 0 1 0 4 (some 4), .int .i64 v] (ordL p) fun r h' => r = .ret (.bool (ordB p v')) ∧ h' = ordL p := by
  subst h; exact in57_o p v
theorem order59 (p : PR) : SCall Tryz.prog 59 [.agg [.int .i64 p.o0, .int .i64 p.o1, .int .i64 p.o2, .int .i64 p.o3]] [] (Told (.bool (ordF p))) := by
  refine scall_of (cfg_ok env_nil 0) Tryz.func59 (by kernel_rfl) rfl ?_
  generalize hK : Told _ = K
  conv => whnf
  refine .inl ⟨[(), (), (), (), ()], ?_⟩
  refine unroll_step fun k0 hk0 => ?_
  conv => whnf
  refine scall_args (vs' := [.sl 0 1 0 4 (some 4), .int .i64 1]) rfl (fun i hi => ?_) ((in57_oc p 1 1 rfl).mono fun r h' ⟨e1, e2⟩ => ?_)
  · match i, hi with
    | 0, _ => exact Wk.refl _
    | 1, _ => exact wk_cint
  subst e1 e2
  conv => whnf
  refine bsplit (fun h1 => ?_) (fun h1 => ?_)
  · conv => whnf
    subst hk0
    conv => whnf
    subst hK
    exact told_bool (by unfold ordF; rw [show ordB p 1 = false from by simpa using h1]; rfl)
  conv => whnf
  subst hk0
  refine unroll_step fun k1 hk1 => ?_
  conv => whnf
  refine (in57_oc p _ 2 (by decide)).mono fun r h' ⟨e1, e2⟩ => ?_
  subst e1 e2
  conv => whnf
  refine bsplit (fun h2 => ?_) (fun h2 => ?_)
  · conv => whnf
    subst hk1
    conv => whnf
    subst hK
    exact told_bool (by unfold ordF; rw [show ordB p 2 = false from by simpa using h2]; simp)
  conv => whnf
  subst hk1
  refine unroll_step fun k2 hk2 => ?_
  conv => whnf
  refine (in57_oc p _ 3 (by decide)).mono fun r h' ⟨e1, e2⟩ => ?_
  subst e1 e2
  conv => whnf
  refine bsplit (fun h3 => ?_) (fun h3 => ?_)
  · conv => whnf
    subst hk2
    conv => whnf
    subst hK
    exact told_bool (by unfold ordF; rw [show ordB p 3 = false from by simpa using h3]; simp)
  conv => whnf
  subst hk2
  refine unroll_step fun k3 hk3 => ?_
  conv => whnf
  refine (in57_oc p _ 4 (by decide)).mono fun r h' ⟨e1, e2⟩ => ?_
  subst e1 e2
  conv => whnf
  refine bsplit (fun h4 => ?_) (fun h4 => ?_)
  · conv => whnf
    subst hk3
    conv => whnf
    subst hK
    exact told_bool (by unfold ordF; rw [show ordB p 4 = false from by simpa using h4]; simp)
  conv => whnf
  subst hk3
  refine unroll_step fun k4 hk4 => ?_
  conv => whnf
  subst hk4
  conv => whnf
  subst hK
  exact told_bool (by unfold ordF; rw [show ordB p 1 = true from by simpa using h1, show ordB p 2 = true from by simpa using h2, show ordB p 3 = true from by simpa using h3, show ordB p 4 = true from by simpa using h4]; rfl)
noncomputable def rgF (n : Nat) (h : Nat → Int) : Bool := @decide ((∀ i, i < n → isF (h i) = true ∧ (0 < i → h (i - 1) < h i)) ∧ n ≤ 200) (Classical.propDecidable _)
theorem rgF_true {n : Nat} {h : Nat → Int} (hx : (∀ i, i < n → isF (h i) = true ∧ (0 < i → h (i - 1) < h i)) ∧ n ≤ 200) : rgF n h = true := by unfold rgF; exact @decide_eq_true _ (_) hx
theorem rgF_false {n : Nat} {h : Nat → Int} (hx : ¬ ((∀ i, i < n → isF (h i) = true ∧ (0 < i → h (i - 1) < h i)) ∧ n ≤ 200)) : rgF n h = false := by unfold rgF; exact @decide_eq_false _ (_) hx
def envP61 : Env := [(114, isR)]
theorem envP61_ok : EnvOK Tryz.prog envP61 := env_cons isAny114 env_nil
theorem right61 (n : Nat) (h : Nat → Int) (hn : n < 9223372036854775808) : SCall Tryz.prog 61 [.ro 1 n none fun i => [.int .i64 (h i)]] [] (Told (.bool (rgF n h))) := by
  refine scall_of (cfg_ok envP61_ok 0) Tryz.func61 (by kernel_rfl) rfl ?_
  generalize hK : Told _ = K
  conv => whnf
  refine .inr ⟨[], [0, 3], 0, fun m st => ∃ i : Nat, m = n - i ∧ i ≤ n ∧ (∀ j, j < i → isF (h j) = true ∧ (0 < j → h (j - 1) < h j)) ∧ st = ⟨(.ro 1 n none fun i => [.int .i64 (h i)]) :: .top :: .top :: .int .i64 i :: List.replicate 31 .top, []⟩, Nat.zero_le _, ⟨_, _, ?_, 0, rfl, Nat.zero_le _, (fun j hj => absurd hj (by omega)), rfl⟩, ?_⟩
  · exact seq_rfl _
  rintro m st ⟨i, rfl, hi, hN, rfl⟩
  conv => whnf
  refine bsplit (fun hc => ?_) (fun hc => ?_)
  · have hlt : i < n := by have := of_decide_eq_true hc; omega
    conv => whnf
    refine ⟨[], by kernel_rfl, ?_⟩
    conv => whnf
    refine ⟨⟨⟨by omega, by omega⟩, trivial, fun _ _ => ⟨by omega, by omega⟩, fun _ h0 => by have h0 := of_decide_eq_true h0; rw [w64 (by omega) (by omega)]; exact ⟨by omega, by omega⟩⟩, ?_⟩
    rw [show ((i : Int)).toNat = i from Int.toNat_natCast i]
    conv => whnf
    refine bsplit (fun hb => ?_) (fun hb => ?_)
    · conv => whnf
      subst hK
      refine told_bool (rgF_false fun hx => ?_).symm
      refine rj_t (a := isF (h i)) (b := true) (p := decide (h i ≤ h (IntKind.i64.wrap ((i : Int) - 1)).toNat)) (i := i) (by cases hf : isF (h i) <;> rw [hf] at hb <;> exact hb) ⟨(hx.1 i hlt).1, rfl, fun h0 => ?_⟩
      rw [wi_eq h0 (by omega)]
      exact decide_eq_false (by have := (hx.1 i hlt).2 h0; omega)
    · have hq := rj_f (a := isF (h i)) (b := true) (p := decide (h i ≤ h (IntKind.i64.wrap ((i : Int) - 1)).toNat)) (i := i) (by cases hf : isF (h i) <;> rw [hf] at hb <;> exact hb)
      conv => whnf
      refine ⟨n - (i + 1), _, by omega, ?_, i + 1, rfl, by omega, fun j hj => ?_, rfl⟩
      · rw [show ((i + 1 : Nat) : Int) = IntKind.i64.wrap ((i : Int) + 1) from by rw [w64 (by omega) (by omega)]; rfl]
        exact seq_rfl _
      · by_cases e : j = i
        · subst e; exact ⟨hq.1, fun h0 => by have h3 := of_decide_eq_false (hq.2.2 h0); rw [wi_eq h0 (by omega)] at h3; omega⟩
        · exact hN j (by omega)
  · conv => whnf
    have hii : i = n := by have := of_decide_eq_false hc; omega
    subst hii
    subst hK
    refine told_bool ?_
    by_cases h2 : (i : Int) ≤ 200
    · rw [rgF_true ⟨hN, by omega⟩]; exact decide_eq_true h2
    · rw [rgF_false fun hx => h2 (by omega)]; exact decide_eq_false h2
def envI : Env := [(56, inQ)]
theorem envI_ok : EnvOK Tryz.prog envI := env_cons in56 env_nil
noncomputable def rsF (u : PX) : Bool := @decide ((∀ i, i < u.n8 → inF (u.a8 i) 1 (IntKind.i64.wrap (u.p.tm - 1)) = true ∧ inF (u.b8 i) 0 1000000000 = true ∧ (0 < i → u.a8 (i - 1) < u.a8 i)) ∧ u.n8 ≤ 20) (Classical.propDecidable _)
theorem rsF_true {u : PX} (hx : (∀ i, i < u.n8 → inF (u.a8 i) 1 (IntKind.i64.wrap (u.p.tm - 1)) = true ∧ inF (u.b8 i) 0 1000000000 = true ∧ (0 < i → u.a8 (i - 1) < u.a8 i)) ∧ u.n8 ≤ 20) : rsF u = true := by unfold rsF; exact @decide_eq_true _ (_) hx
theorem rsF_false {u : PX} (hx : ¬ ((∀ i, i < u.n8 → inF (u.a8 i) 1 (IntKind.i64.wrap (u.p.tm - 1)) = true ∧ inF (u.b8 i) 0 1000000000 = true ∧ (0 < i → u.a8 (i - 1) < u.a8 i)) ∧ u.n8 ≤ 20)) : rsF u = false := by unfold rsF; exact @decide_eq_false _ (_) hx
theorem resets58 (u : PX) (hu : Small u) : SCall Tryz.prog 58 [.agg u.cells] [] (Told (.bool (rsF u))) := by
  have hz := hu.n8
  refine scall_of (cfg_ok envI_ok 0) Tryz.func58 (by kernel_rfl) rfl ?_
  generalize hK : Told _ = K
  conv => whnf
  refine .inr ⟨[], [1, 3], 1, fun m st => ∃ i : Nat, m = u.n8 - i ∧ i ≤ u.n8 ∧ (∀ j, j < i → inF (u.a8 j) 1 (IntKind.i64.wrap (u.p.tm - 1)) = true ∧ inF (u.b8 j) 0 1000000000 = true ∧ (0 < j → u.a8 (j - 1) < u.a8 j)) ∧ st = ⟨.top :: .ptr 0 1 1 0 0 :: .top :: .int .i64 i :: List.replicate 46 .top, [.lit 1 u.cells]⟩, Nat.zero_le _, ⟨_, _, ?_, 0, rfl, Nat.zero_le _, (fun j hj => absurd hj (by omega)), rfl⟩, ?_⟩
  · exact seq_rfl _
  rintro m st ⟨i, rfl, hi, hN, rfl⟩
  conv => whnf
  refine bsplit (fun hc => ?_) (fun hc => ?_)
  · have hlt : i < u.n8 := by have := of_decide_eq_true hc; omega
    conv => whnf
    refine ⟨⟨by omega, by omega⟩, ?_⟩
    rw [show ((i : Int)).toNat = i from Int.toNat_natCast i]
    conv => whnf
    refine ⟨[], by kernel_rfl, ?_⟩
    conv => whnf
    refine ⟨?_, ?_⟩
    · exact fun _ h0 => by have h0 := of_decide_eq_true h0; rw [w64 (by omega) (by omega)]; exact ⟨by omega, by omega⟩
    conv => whnf
    refine bsplit (fun hb => ?_) (fun hb => ?_)
    · conv => whnf
      subst hK
      refine told_bool (rsF_false fun hx => ?_).symm
      have hi := hx.1 i hlt
      refine rj_t (a := inF (u.a8 i) 1 (IntKind.i64.wrap (u.p.tm - 1))) (b := inF (u.b8 i) 0 1000000000) (p := decide (u.a8 i ≤ u.a8 (IntKind.i64.wrap ((i : Int) - 1)).toNat)) (i := i) hb ⟨hi.1, hi.2.1, fun h0 => ?_⟩
      rw [wi_eq h0 (by omega)]
      exact decide_eq_false (by have := hi.2.2 h0; omega)
    · have hq := rj_f (a := inF (u.a8 i) 1 (IntKind.i64.wrap (u.p.tm - 1))) (b := inF (u.b8 i) 0 1000000000) (p := decide (u.a8 i ≤ u.a8 (IntKind.i64.wrap ((i : Int) - 1)).toNat)) (i := i) hb
      conv => whnf
      refine ⟨u.n8 - (i + 1), _, by omega, ?_, i + 1, rfl, by omega, fun j hj => ?_, rfl⟩
      · rw [show ((i + 1 : Nat) : Int) = IntKind.i64.wrap ((i : Int) + 1) from by rw [w64 (by omega) (by omega)]; rfl]
        exact seq_rfl _
      · by_cases e : j = i
        · subst e; exact ⟨hq.1, hq.2.1, fun h0 => by have h3 := of_decide_eq_false (hq.2.2 h0); rw [wi_eq h0 (by omega)] at h3; omega⟩
        · exact hN j (by omega)
  · conv => whnf
    have hii : i = u.n8 := by have := of_decide_eq_false hc; omega
    subst hii
    subst hK
    refine told_bool ?_
    by_cases h2 : (u.n8 : Int) ≤ 20
    · rw [rsF_true ⟨hN, by omega⟩]; exact decide_eq_true h2
    · rw [rsF_false fun hx => h2 (by omega)]; exact decide_eq_false h2
noncomputable def trF (u : PX) : Bool := @decide ((∀ i, i < u.p.ln → inF (u.p.ld i) 1 365 = true ∧ inF (u.p.lf i) 0 10000000000000 = true ∧ (0 < i → u.p.ld (i - 1) < u.p.ld i ∧ u.p.lf (i - 1) ≤ u.p.lf i)) ∧ u.p.ln ≤ 8 ∧ inF u.p.cp 0 10000000000000 = true ∧ (u.p.cp = 0 ∨ 0 < u.p.ln)) (Classical.propDecidable _)
theorem trF_true {u : PX} (hx : (∀ i, i < u.p.ln → inF (u.p.ld i) 1 365 = true ∧ inF (u.p.lf i) 0 10000000000000 = true ∧ (0 < i → u.p.ld (i - 1) < u.p.ld i ∧ u.p.lf (i - 1) ≤ u.p.lf i)) ∧ u.p.ln ≤ 8 ∧ inF u.p.cp 0 10000000000000 = true ∧ (u.p.cp = 0 ∨ 0 < u.p.ln)) : trF u = true := by unfold trF; exact @decide_eq_true _ (_) hx
theorem trF_false {u : PX} (hx : ¬ ((∀ i, i < u.p.ln → inF (u.p.ld i) 1 365 = true ∧ inF (u.p.lf i) 0 10000000000000 = true ∧ (0 < i → u.p.ld (i - 1) < u.p.ld i ∧ u.p.lf (i - 1) ≤ u.p.lf i)) ∧ u.p.ln ≤ 8 ∧ inF u.p.cp 0 10000000000000 = true ∧ (u.p.cp = 0 ∨ 0 < u.p.ln))) : trF u = false := by unfold trF; exact @decide_eq_false _ (_) hx
theorem tier_step {a b c d : Int} (h : (bif decide (a ≤ b) then true else decide (c < d)) = false) : b < a ∧ d ≤ c := by
  by_cases h1 : a ≤ b
  · rw [decide_eq_true h1] at h; exact absurd (show true = false from h) (by decide)
  · rw [decide_eq_false h1] at h; have := of_decide_eq_false h; omega
theorem tiers60 (u : PX) (hu : Small u) : SCall Tryz.prog 60 [.agg u.cells] [] (Told (.bool (trF u))) := by
  have hz := hu.n15
  refine scall_of (cfg_ok envI_ok 0) Tryz.func60 (by kernel_rfl) rfl ?_
  generalize hK : Told _ = K
  conv => whnf
  refine .inr ⟨[], [1, 3], 1, fun m st => ∃ i : Nat, m = u.p.ln - i ∧ i ≤ u.p.ln ∧ (∀ j, j < i → inF (u.p.ld j) 1 365 = true ∧ inF (u.p.lf j) 0 10000000000000 = true ∧ (0 < j → u.p.ld (j - 1) < u.p.ld j ∧ u.p.lf (j - 1) ≤ u.p.lf j)) ∧ st = ⟨.top :: .ptr 0 1 1 0 0 :: .top :: .int .i64 i :: List.replicate 71 .top, [.lit 1 u.cells]⟩, Nat.zero_le _, ⟨_, _, ?_, 0, rfl, Nat.zero_le _, (fun j hj => absurd hj (by omega)), rfl⟩, ?_⟩
  · exact seq_rfl _
  rintro m st ⟨i, rfl, hi, hN, rfl⟩
  conv => whnf
  refine bsplit (fun hc => ?_) (fun hc => ?_)
  · have hlt : i < u.p.ln := by have := of_decide_eq_true hc; omega
    conv => whnf
    refine ⟨⟨by omega, by omega⟩, ?_⟩
    rw [show ((i : Int)).toNat = i from Int.toNat_natCast i]
    conv => whnf
    refine ⟨[], by kernel_rfl, ?_⟩
    conv => whnf
    refine ⟨?_, ?_⟩
    · exact ⟨fun _ h0 => by have h0 := of_decide_eq_true h0; rw [w64 (by omega) (by omega)]; exact ⟨by omega, by omega⟩, fun _ h0 _ => by have h0 := of_decide_eq_true h0; rw [w64 (by omega) (by omega)]; exact ⟨by omega, by omega⟩⟩
    conv => whnf
    refine bsplit (fun hb => ?_) (fun hb => ?_)
    · conv => whnf
      subst hK
      refine told_bool (trF_false fun hx => ?_).symm
      have hi := hx.1 i hlt
      refine rj_t (a := inF (u.p.ld i) 1 365) (b := inF (u.p.lf i) 0 10000000000000) (p := (bif decide (u.p.ld i ≤ u.p.ld (IntKind.i64.wrap ((i : Int) - 1)).toNat) then true else decide (u.p.lf i < u.p.lf (IntKind.i64.wrap ((i : Int) - 1)).toNat))) (i := i) hb ⟨hi.1, hi.2.1, fun h0 => ?_⟩
      rw [wi_eq h0 (by omega)]
      have := hi.2.2 h0
      rw [decide_eq_false (by omega), decide_eq_false (by omega)]; rfl
    · have hq := rj_f (a := inF (u.p.ld i) 1 365) (b := inF (u.p.lf i) 0 10000000000000) (p := (bif decide (u.p.ld i ≤ u.p.ld (IntKind.i64.wrap ((i : Int) - 1)).toNat) then true else decide (u.p.lf i < u.p.lf (IntKind.i64.wrap ((i : Int) - 1)).toNat))) (i := i) hb
      conv => whnf
      refine ⟨u.p.ln - (i + 1), _, by omega, ?_, i + 1, rfl, by omega, fun j hj => ?_, rfl⟩
      · rw [show ((i + 1 : Nat) : Int) = IntKind.i64.wrap ((i : Int) + 1) from by rw [w64 (by omega) (by omega)]; rfl]
        exact seq_rfl _
      · by_cases e : j = i
        · subst e; exact ⟨hq.1, hq.2.1, fun h0 => tier_step (by have h3 := hq.2.2 h0; rw [wi_eq h0 (by omega)] at h3; exact h3)⟩
        · exact hN j (by omega)
  · conv => whnf
    have hii : i = u.p.ln := by have := of_decide_eq_false hc; omega
    subst hii
    subst hK
    refine told_bool ?_
    show (bif (bif decide ((u.p.ln : Int) ≤ 8) then inF u.p.cp 0 10000000000000 else false) then (bif u.p.cp == 0 then true else decide ((u.p.ln : Int) > 0)) else false) = trF u
    by_cases h1 : (u.p.ln : Int) ≤ 8
    · cases h2 : inF u.p.cp 0 10000000000000 with
      | false => rw [decide_eq_true h1, trF_false fun hx => absurd hx.2.2.1 (by rw [h2]; decide)]; rfl
      | true =>
        rw [decide_eq_true h1]
        by_cases h3 : u.p.cp = 0
        · rw [trF_true ⟨hN, by omega, h2, .inl h3⟩, h3]; rfl
        · by_cases h4 : (u.p.ln : Int) > 0
          · rw [trF_true ⟨hN, by omega, h2, .inr (by omega)⟩, decide_eq_true h4]; cases u.p.cp == 0 <;> rfl
          · rw [trF_false fun hx => by rcases hx.2.2.2 with h | h; exact h3 h; omega, decide_eq_false h4, show (u.p.cp == 0) = false from beq_nf h3]; rfl
    · rw [trF_false fun hx => h1 (by omega), decide_eq_false h1]; rfl
noncomputable def envPe (u : PX) : Env := [(55, exQ [.str u.p.nm] (.bool (nmF u.p.nm))), (56, inQ), (57, exQ [sixA, .int .i64 u.p.ev] (.bool (sixF u.p.ev))), (58, exQ [.agg u.cells] (.bool (rsF u))), (59, exQ [.agg [.int .i64 u.p.o0, .int .i64 u.p.o1, .int .i64 u.p.o2, .int .i64 u.p.o3]] (.bool (ordF u.p))), (60, exQ [.agg u.cells] (.bool (trF u))), (61, exQ [.ro 1 u.n18 none fun i => [.int .i64 (u.h18 i)]] (.bool (rgF u.n18 u.h18)))]
theorem envPe_ok (u : PX) (hu : Small u) : EnvOK Tryz.prog (envPe u) := env_cons (exQ_of (name55 _ hu.nm)) (env_cons in56 (env_cons (exQ_of (in57_a _)) (env_cons (exQ_of (resets58 u hu)) (env_cons (exQ_of (order59 u.p)) (env_cons (exQ_of (tiers60 u hu)) (env_cons (exQ_of (right61 _ _ hu.n18)) env_nil))))))
def okB (u : PX) : Prop := nmF u.p.nm = true ∧ inF u.p.ct 1 3 = true ∧ (bif u.p.rd == 1 then true else u.p.rd == 3) = true ∧ inF u.p.kd 1 3 = true ∧ inF u.p.tm 1 600 = true ∧ inF u.p.rt 0 1000000000 = true ∧ inF u.p.pn 0 1000000000 = true ∧ ordF u.p = true ∧ inF u.p.ov 1 3 = true ∧ trF u = true
theorem not_t {a : Bool} (h : (!a) = true) : a = false := by cases a <;> simp_all
theorem not_f {a : Bool} (h : (!a) = false) : a = true := by cases a <;> simp_all
theorem and_t {a b : Bool} (h : (bif a then b else false) = true) : a = true ∧ b = true := by
  cases a with
  | false => exact absurd (show false = true from h) (by decide)
  | true => exact ⟨rfl, h⟩
noncomputable def chC (u : PX) (b1 : Bool) : Bool := (bif bif bif (bif bif bif bif bif bif (bif bif bif bif b1 then sixF u.p.ev else false then inF u.p.tm 1 600 else false then inF u.p.gr 0 (IntKind.i64.wrap (u.p.tm - 1)) else false then bif u.p.kd != 3 then true else u.p.gr == 0 else false) then inF u.p.rt 0 1000000000 else false then inF u.p.pn 0 1000000000 else false then rsF u else false then ordF u.p else false then inF u.p.ov 1 3 else false then trF u else false) then inF u.p.rl 1 4 else false then rgF u.n18 u.h18 else false then (bif u.p.rl != 1 then true else (u.n18 : Int) == 0) else false)
noncomputable def chB (u : PX) : Bool := chC u (bif bif bif nmF u.p.nm then inF u.p.ct 1 3 else false then bif u.p.rd == 1 then true else u.p.rd == 3 else false then inF u.p.kd 1 3 else false)
theorem chB_ok {u : PX} (h : chB u = true) : okB u := by
  unfold chB at h
  generalize hb1 : (bif bif bif nmF u.p.nm then inF u.p.ct 1 3 else false then bif u.p.rd == 1 then true else u.p.rd == 3 else false then inF u.p.kd 1 3 else false) = b1 at h
  unfold chC at h
  obtain ⟨h, _⟩ := and_t h
  obtain ⟨h, _⟩ := and_t h
  obtain ⟨h, _⟩ := and_t h
  obtain ⟨h, e1⟩ := and_t h
  obtain ⟨h, e2⟩ := and_t h
  obtain ⟨h, e3⟩ := and_t h
  obtain ⟨h, e4⟩ := and_t h
  obtain ⟨h, e5⟩ := and_t h
  obtain ⟨h, e6⟩ := and_t h
  obtain ⟨h, _⟩ := and_t h
  obtain ⟨h, _⟩ := and_t h
  obtain ⟨h, e7⟩ := and_t h
  obtain ⟨h, _⟩ := and_t h
  rw [h] at hb1
  obtain ⟨h, f1⟩ := and_t hb1
  obtain ⟨h, f2⟩ := and_t h
  obtain ⟨h, f3⟩ := and_t h
  exact ⟨h, f3, f2, f1, e7, e6, e5, e3, e2, e1⟩
theorem check21 (u : PX) (hu : Small u) : SCall Tryz.prog 21 [.agg u.cells] [] (Told (.int .i64 (bif chB u then 0 else 9))) := by
  refine scall_of (cfg_ok (envPe_ok u hu) 0) Tryz.func21 (by kernel_rfl) rfl ?_
  generalize hK : Told _ = K
  conv => whnf
  refine ⟨rfl, ?_⟩
  unfold chB at hK
  generalize hb1 : (bif bif bif nmF u.p.nm then inF u.p.ct 1 3 else false then bif u.p.rd == 1 then true else u.p.rd == 3 else false then inF u.p.kd 1 3 else false) = b1 at *
  cases b1 with
  | false =>
    conv => whnf
    refine ⟨fun h => absurd h (by decide), ?_⟩
    conv => whnf
    refine ⟨⟨fun _ => rfl, fun _ => rfl, fun _ => rfl⟩, ?_⟩
    conv => whnf
    refine ⟨fun _ => rfl, ?_⟩
    conv => whnf
    subst hK
    exact told_cint rfl
  | true =>
    conv => whnf
    refine ⟨fun h => rfl, ?_⟩
    conv => whnf
    refine ⟨⟨fun _ => rfl, fun _ => rfl, fun _ => rfl⟩, ?_⟩
    conv => whnf
    refine ⟨fun _ => rfl, ?_⟩
    conv => whnf
    refine bsplit (fun h => ?_) (fun h => ?_)
    · conv => whnf
      subst hK
      exact told_cint (by rw [show chC u true = false from not_t h]; rfl)
    · conv => whnf
      subst hK
      exact told_cint (by rw [show chC u true = true from not_f h]; rfl)
end Go.Proofs.YtnnoplgabnfdiaaGreatDoor.Sh
