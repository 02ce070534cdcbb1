/- Part 17 of a proof over the shadow machine. -/
import Derived.Test.YtnnoplgabnfdiaaGreatDoorN16
/- The shadow machine over this program: nights. -/
namespace Go.Proofs.YtnnoplgabnfdiaaGreatDoor.Sh
open Go Go.RowKit
set_option linter.unusedVariables false
set_option linter.unusedSimpArgs false
set_option maxRecDepth 100000
set_option maxHeartbeats 4000000
/-- A state of a loan without dues, fees and fines. -/
structure ST where
  day : Int
  op : Bool
  start : Int
  pn : Nat
  pr : Nat → List RV
  nx : Int
  rt : Int
  P : Int
  A : Int
  dr : Nat → List RV
  re : Int
  fi : Int
def ST.cells (s : ST) : List AV := [.int .i64 s.day, .bool s.op, .int .i64 s.start, .ro 1 s.pn none s.pr, .int .i64 s.nx, .int .i64 s.rt, .int .i64 s.P, .int .i64 s.A, .ro 4 0 none s.dr, .int .i64 0, .int .i64 0, .int .i64 0, .int .i64 (0 - s.P), .int .i64 s.A, .int .i64 0, .int .i64 0, .int .i64 0, .int .i64 s.re, .int .i64 s.fi]
def ST.av (s : ST) : AV := .agg s.cells
def gB : AV → Option Bool
  | .bool b => some b
  | _ => none
def g1 : AV → Option (Nat × (Nat → List RV))
  | .ro 1 n none r => some (n, r)
  | _ => none
def g4 : AV → Option (Nat → List RV)
  | .ro 4 0 none r => some r
  | _ => none
theorem gB_some {v : AV} {n : Bool} (h : gB v = some n) : v = .bool n := by
  unfold gB at h; split at h <;> simp at h; subst h; rfl
theorem g1_some {v : AV} {l : Nat × (Nat → List RV)} (h : g1 v = some l) : v = .ro 1 l.1 none l.2 := by
  unfold g1 at h; split at h <;> simp at h; subst h; rfl
theorem g4_some {v : AV} {r : Nat → List RV} (h : g4 v = some r) : v = .ro 4 0 none r := by
  unfold g4 at h; split at h <;> simp at h; subst h; rfl
def stOf : AV → Option (Prop × ST)
  | .agg [c0, c1, c2, c3, c4, c5, c6, c7, c8, c9, c10, c11, c12, c13, c14, c15, c16, c17, c18] =>
    (gI c0).bind fun day => (gB c1).bind fun op => (gI c2).bind fun start => (g1 c3).bind fun pl => (gI c4).bind fun nx => (gI c5).bind fun rt => (gI c6).bind fun P => (gI c7).bind fun A => (g4 c8).bind fun dr => (gI c9).bind fun pe => (gI c10).bind fun fe => (gI c11).bind fun un => (gI c12).bind fun ca => (gI c13).bind fun ea => (gI c14).bind fun fd => (gI c15).bind fun ch => (gI c16).bind fun lf => (gI c17).bind fun re => (gI c18).bind fun fi =>
      some (pe = 0 ∧ fe = 0 ∧ un = 0 ∧ ca = 0 - P ∧ ea = A ∧ fd = 0 ∧ ch = 0 ∧ lf = 0, ⟨day, op, start, pl.1, pl.2, nx, rt, P, A, dr, re, fi⟩)
  | _ => none
theorem stOf_av {v : AV} {q : Prop} {s : ST} (h : stOf v = some (q, s)) (hq : q) : v = s.av := by
  unfold stOf at h
  split at h
  · simp only [Option.bind_eq_some_iff, Option.some.injEq, Prod.mk.injEq] at h
    obtain ⟨day, e0, op, e1, start, e2, pl, e3, nx, e4, rt, e5, P, e6, A, e7, dr, e8, pe, e9, fe, e10, un, e11, ca, e12, ea, e13, fd, e14, ch, e15, lf, e16, re, e17, fi, e18, rfl, rfl⟩ := h
    obtain ⟨rfl, rfl, rfl, rfl, rfl, rfl, rfl, rfl⟩ := hq
    rw [gI_some e0, gB_some e1, gI_some e2, g1_some e3, gI_some e4, gI_some e5, gI_some e6, gI_some e7, g4_some e8, gI_some e9, gI_some e10, gI_some e11, gI_some e12, gI_some e13, gI_some e14, gI_some e15, gI_some e16, gI_some e17, gI_some e18]
    rfl
  · simp at h
def psQ (ob : PR → ST → Int → Prop) (r : PR → ST → Int → AV) : QSpec := fun vs => match vs with
  | [v, u, .int .i64 n] => match prOf v, stOf u with
    | some (q, p), some (q', s) => some ([q ∧ q' ∧ ob p s n], r p s n)
    | _, _ => none
  | _ => none
theorem psQ_of {f : FuncId} {ob : PR → ST → Int → Prop} {r : PR → ST → Int → AV} (H : ∀ p s n, ob p s n → SCall Tryz.prog f [p.av, s.av, .int .i64 n] [] (Told (r p s n))) : ∀ vs o q, psQ ob r vs = some (o, q) → conj o → SCall Tryz.prog f vs [] (Told q) := by
  intro vs o q h hob
  unfold psQ at h
  split at h
  · split at h
    · rename_i v u n x y q' p q'' s e1 e2
      simp only [Option.some.injEq, Prod.mk.injEq] at h
      obtain ⟨rfl, rfl⟩ := h
      obtain ⟨h1, h2, h3⟩ : q' ∧ q'' ∧ ob p s n := hob
      rw [prOf_av e1 h1, stOf_av e2 h2]
      exact H p s n h3
    · simp at h
  · simp at h
theorem fine0 {W H r q : Int} (h : BC W H 0 0 r q) : bornV W H 0 0 r q = 0 ∧ bornR W H 0 0 r q = 0 := by
  obtain ⟨hW, hH, hs, hb, hr, hq, br, brq, hv⟩ := h
  unfold bornV bornR
  rw [Int.zero_mul, Int.zero_mul, Int.zero_add, Int.zero_add, Int.ediv_eq_zero_of_lt hH.1 hH.2, Int.emod_eq_of_lt hH.1 hH.2]
  exact ⟨rfl, by omega⟩
def nightV (p : PR) (s : ST) (n : Int) : Int := bornV (wholeB p.ct) (halfB p.ct p.rd) s.re s.P s.rt (betF p.ct s.day (s.day + n))
def nightR (p : PR) (s : ST) (n : Int) : Int := bornR (wholeB p.ct) (halfB p.ct p.rd) s.re s.P s.rt (betF p.ct s.day (s.day + n))
structure NOK (p : PR) (s : ST) (n : Int) : Prop where
  hp : OKP p
  d1 : 19723 ≤ s.day
  n0 : 0 ≤ n
  d2 : s.day + n ≤ 20089
  b1 : BCP p s.re s.P s.rt (betF p.ct s.day (s.day + n))
  b2 : BCP p 0 0 p.pn (betF p.ct s.day (s.day + n))
  fi : s.fi = 0
  P : 0 ≤ s.P ∧ s.P ≤ 100000000000000
  A : 0 ≤ s.A ∧ s.A ≤ 100000000000000
  A2 : 0 ≤ s.A + nightV p s n ∧ s.A + nightV p s n ≤ 100000000000000
def nightS (p : PR) (s : ST) (n : Int) : ST := { s with day := s.day + n, A := s.A + nightV p s n, re := nightR p s n, fi := 0 }
def envQ1 : Env := [(255, betQ), (256, must2Q), (257, nbearQ), (107, owedQ), (90, moQ rightR)]
theorem envQ1_ok : EnvOK Tryz.prog envQ1 := env_cons bet255 (env_cons must256 (env_cons bear257 (env_cons owed107 (env_cons right90 env_nil))))
theorem nights215 : ∀ vs ob r, psQ NOK (fun p s n => (nightS p s n).av) vs = some (ob, r) → conj ob → SCall Tryz.prog 215 vs [] (Told r) := psQ_of fun p s n hN => by
  obtain ⟨hp, d1, n0, d2, b1, b2, hfi, hP, hA, hA2⟩ := hN
  refine scall_of (cfg_ok envQ1_ok 0) Tryz.func215 (by kernel_rfl) rfl ?_
  generalize hK : Told _ = K
  conv => whnf
  rw [w64 (n := s.day + n) (by omega) (by omega), hfi]
  refine ⟨⟨hp.ct, ⟨d1, by omega⟩, by omega, d2⟩, ?_⟩
  conv => whnf
  refine ⟨rfl, ?_⟩
  conv => whnf
  refine ⟨⟨⟨rfl, rfl, rfl⟩, hp, b1⟩, ?_⟩
  conv => whnf
  refine ⟨[], by kernel_rfl, ?_⟩
  conv => whnf
  refine ⟨⟨⟨⟨rfl, rfl, rfl, rfl, rfl, rfl, rfl⟩, ⟨hP, hA, rfl⟩, .inr rfl⟩, ⟨⟨rfl, rfl, rfl⟩, hp, b2⟩⟩, ?_⟩
  rw [(fine0 b2).1, (fine0 b2).2]
  conv => whnf
  have hw : IntKind.i64.wrap (s.A + bornV (wholeB p.ct) (halfB p.ct p.rd) s.re s.P s.rt (betF p.ct s.day (s.day + n))) = s.A + nightV p s n := w64 (by show _ ≤ s.A + nightV p s n; omega) (by show s.A + nightV p s n ≤ _; omega)
  rw [hw]
  refine ⟨⟨⟨⟨rfl, rfl, rfl, rfl, rfl, rfl, rfl⟩, ⟨hP, hA2, rfl⟩⟩, rfl⟩, ?_⟩
  conv => whnf
  rw [w64 (n := s.day + n) (by omega) (by omega)]
  subst hK
  exact told_of trivial rfl
end Go.Proofs.YtnnoplgabnfdiaaGreatDoor.Sh
/- The shadow machine over this program: the parts of a year between instalments. -/
namespace Go.Proofs.YtnnoplgabnfdiaaGreatDoor.Sh
open Go Go.RowKit
set_option linter.unusedVariables false
set_option linter.unusedSimpArgs false
set_option maxRecDepth 100000
set_option maxHeartbeats 4000000
def partF (p : PR) (i : Nat) : Int := betF p.ct (dueF (p.ev * (i : Int))) (dueF (p.ev * ((i : Int) + 1)))
def partRV (p : PR) : Nat → List RV := fun i => [.int .i64 (partF p i)]
def daysQ : QSpec := prQ1 (fun p n => SHP p ∧ n = 19723) (fun p n => .tup [.ro 1 p.tm.toNat none (dueRV p), .int .i64 0])
def envJ1 : Env := [(144, daysQ), (255, betQ)]
theorem envJ1_ok : EnvOK Tryz.prog envJ1 := env_cons days144 (env_cons bet255 env_nil)
theorem parts308 : ∀ vs ob r, prQ1 (fun p n => SHP p ∧ n = 19723) (fun p n => .tup [.ro 1 p.tm.toNat none (partRV p), .int .i64 0]) vs = some (ob, r) → conj ob → SCall Tryz.prog 308 vs [] (Told r) := prQ1_of fun p n ⟨hp, hn⟩ => by
  subst hn
  have hE := hp.sh
  refine scall_of (cfg_ok envJ1_ok 0) Tryz.func308 (by kernel_rfl) rfl ?_
  generalize hK : Told _ = K
  conv => whnf
  refine ⟨⟨⟨rfl, rfl, rfl⟩, hp, rfl⟩, ?_⟩
  conv => whnf
  refine .inr ⟨[(8, 1)], [1, 2, 8, 22, 23, 24], 2, fun m s => ∃ (i : Nat) (st : Int), m = p.tm.toNat - i ∧ i ≤ p.tm.toNat ∧ st = dueF (p.ev * (i : Int)) ∧ s = ⟨.top :: .int .i64 st :: .ptr 0 1 1 0 0 :: (List.replicate 5 .top ++ .sl 1 1 0 i none :: (List.replicate 13 .top ++ .ro 1 p.tm.toNat none (dueRV p) :: .int .i64 p.tm.toNat :: .int .i64 i :: List.replicate 21 .top)), [.lit 1 p.cells, .rows 1 i fun i => [.int .i64 (partF p i)]]⟩, by decide, ⟨_, _, ?_, 0, 19723, rfl, Nat.zero_le _, by rw [Int.natCast_zero, Int.mul_zero]; rfl, rfl⟩, ?_⟩
  · exact ⟨rfl, rfl, fun o ho => match o, ho with
      | 0, _ => rfl
      | 1, _ => ⟨rfl, rfl, fun i hi => absurd hi (by omega)⟩⟩
  rintro m s ⟨i, st, rfl, hi, hst, rfl⟩
  conv => whnf
  refine bsplit (fun h => ?_) (fun h => ?_)
  · have hlt : i < p.tm.toNat := by have := of_decide_eq_true h; omega
    have hd := dueF_b (p.ev * ((i : Int) + 1))
    have hs := dueF_b (p.ev * (i : Int))
    conv => whnf
    refine ⟨⟨by omega, by omega⟩, ?_⟩
    rw [show ((i : Int)).toNat = i from by omega]
    conv => whnf
    refine ⟨⟨hp.ok.ct, by rw [hst]; exact hs, hd⟩, ?_⟩
    conv => whnf
    refine ⟨⟨rfl, show (i + 1) * 8 ≤ 140737488355328 from by rcases hE with e | e <;> omega, fun i hi => ⟨rfl, rfl⟩⟩, ?_⟩
    conv => whnf
    refine ⟨p.tm.toNat - (i + 1), _, by omega, ?_, i + 1, dueF (p.ev * ((i : Int) + 1)), rfl, by omega, rfl, rfl⟩
    rw [show ((i + 1 : Nat) : Int) = IntKind.i64.wrap ((i : Int) + 1) from by rw [w64 (by omega) (by rcases hE with e | e <;> omega)]; rfl]
    refine ⟨rfl, rfl, fun o ho => match o, ho with
      | 0, _ => rfl
      | 1, _ => ⟨rfl, rfl, fun r hr => ?_⟩⟩
    subst hst
    show [AV.int .i64 (bif decide (r < i) then partF p r else partF p i)] = [AV.int .i64 (partF p r)]
    by_cases h : r < i
    · rw [bif_t h]
    · have : r = i := by omega
      subst this; rw [bif_f h]
  · conv => whnf
    subst hK
    have hii : i = p.tm.toNat := by have := of_decide_eq_false h; omega
    subst hii
    refine told_of (show 0 + p.tm.toNat ≤ p.tm.toNat from by omega) ?_
    show AV.tup [AV.ro 1 p.tm.toNat none (fun i => ([AV.int .i64 (partF p (0 + i))]).map AV.rv), AV.int .i64 0] = _
    congr 3
    funext i
    rw [Nat.zero_add]; rfl
end Go.Proofs.YtnnoplgabnfdiaaGreatDoor.Sh
/- The shadow machine over this program: nights that a run makes; when an instalment is due. -/
namespace Go.Proofs.YtnnoplgabnfdiaaGreatDoor.Sh
open Go Go.RowKit
set_option linter.unusedVariables false
set_option linter.unusedSimpArgs false
set_option maxRecDepth 100000
set_option maxHeartbeats 4000000
def nightsQ : QSpec := psQ NOK fun p s n => (nightS p s n).av
def envR1 : Env := [(215, nightsQ)]
theorem envR1_ok : EnvOK Tryz.prog envR1 := env_cons nights215 env_nil
def passQ : QSpec := psQ NOK fun p s n => .tup [(nightS p s n).av, .int .i64 0]
theorem pass184 : ∀ vs ob r, passQ vs = some (ob, r) → conj ob → SCall Tryz.prog 184 vs [] (Told r) := psQ_of fun p s n hN => by
  refine scall_ofD (cfg_ok envR1_ok 0) Tryz.func184 (by kernel_rfl) rfl ?_
  generalize hK : Told _ = K
  conv => whnf
  refine ⟨⟨⟨rfl, rfl, rfl⟩, ⟨rfl, rfl, rfl, rfl, rfl, rfl, rfl, rfl⟩, hN⟩, ?_⟩
  conv => whnf
  refine dcall_of (cfg_ok env_nil 0) Tryz.func214 (by kernel_rfl) ?_
  conv => whnf
  subst hK
  exact told_of trivial rfl
/-- What does what days bring. -/
def runL (p : PR) (kn : Bool) (st : Int) (ds : AV) : AO := .lit 1 [.str p.nm, .int .i64 p.ct, .int .i64 p.rd, .int .i64 p.kd, .int .i64 p.ev, .int .i64 p.tm, .int .i64 p.gr, .int .i64 p.rt, .ro 0 0 (some 0) fun _ => [], .int .i64 p.pn, .int .i64 p.o0, .int .i64 p.o1, .int .i64 p.o2, .int .i64 p.o3, .int .i64 p.ov, .ro 2 p.ln none fun i => [.int .i64 (p.ld i), .int .i64 (p.lf i)], .int .i64 p.cp, .int .i64 p.rl, .ro 0 0 (some 0) fun _ => [], .bool kn, .int .i64 st, ds]
def envR2 : Env := [(144, daysQ)]
theorem envR2_ok : EnvOK Tryz.prog envR2 := env_cons days144 env_nil
theorem due108_a (x0 : AO) (p : PR) (s : ST) (hp : SHP p) (ho : s.op = true) (hs : s.start = 19723) (hn : s.nx = 1) (hpn : 1 ≤ s.pn) : SCall Tryz.prog 108 [.ptr 1 1 1 0 0, s.av, .int .i64 s.nx] [x0, runL p false 0 .nilsl] fun r h' => r = .ret (.tup [.int .i64 (dueF p.ev), .bool true]) ∧ h' = [x0, runL p true 19723 (.ro 1 p.tm.toNat none (dueRV p)), .lit 1 s.cells] := by
  have hE := hp.sh
  refine scall_of (cfg_ok envR2_ok 2) Tryz.func108 (by kernel_rfl) rfl ?_
  generalize hK : (fun (r : AR) (h' : List AO) => r = .ret (.tup [.int .i64 (dueF p.ev), .bool true]) ∧ h' = [x0, runL p true 19723 (.ro 1 p.tm.toNat none (dueRV p)), .lit 1 s.cells]) = K
  conv => whnf
  refine bf (by rw [ho]; rfl) ?_
  conv => whnf
  refine ⟨[], by kernel_rfl, ?_⟩
  conv => whnf
  refine ⟨[(3, 6)], by kernel_rfl, ?_⟩
  conv => whnf
  refine ⟨rfl, ?_⟩
  conv => whnf
  refine ⟨[], by kernel_rfl, ?_⟩
  conv => whnf
  refine ⟨⟨⟨rfl, rfl, rfl⟩, hp, hs⟩, ?_⟩
  conv => whnf
  refine bf (by rw [hn]; simp; omega) ?_
  conv => whnf
  rw [show IntKind.i64.wrap (s.nx - 1) = 0 from by rw [hn]; rfl]
  refine ⟨⟨by omega, show (0 : Int) < (p.tm.toNat : Int) from by omega⟩, ?_⟩
  conv => whnf
  subst hK
  refine ⟨?_, ?_⟩
  · show AR.ret (.tup [.int .i64 (dueF (p.ev * ((((0 : Int).toNat : Nat) : Int) + 1))), .bool true]) = _
    rw [show p.ev * ((((0 : Int).toNat : Nat) : Int) + 1) = p.ev from by simp]
  show [x0, runL p true s.start (.ro 1 p.tm.toNat none (dueRV p)), .lit 1 s.cells] = _
  rw [hs]
theorem due108_b (x0 : AO) (p : PR) (s : ST) (hp : SHP p) (ho : s.op = true) (hs : s.start = 19723) (hn : s.nx = 1) (hpn : 1 ≤ s.pn) : ∀ xs, SCall Tryz.prog 108 [.ptr 1 1 1 0 0, s.av, .int .i64 s.nx] [x0, runL p true 19723 (.ro 1 p.tm.toNat none (dueRV p)), xs] fun r h' => r = .ret (.tup [.int .i64 (dueF p.ev), .bool true]) ∧ h' = [x0, runL p true 19723 (.ro 1 p.tm.toNat none (dueRV p)), xs, .lit 1 s.cells] := fun xs => by
  have hE := hp.sh
  refine scall_of (cfg_ok envR2_ok 3) Tryz.func108 (by kernel_rfl) rfl ?_
  generalize hK : (fun (r : AR) (h' : List AO) => r = .ret (.tup [.int .i64 (dueF p.ev), .bool true]) ∧ h' = [x0, runL p true 19723 (.ro 1 p.tm.toNat none (dueRV p)), xs, .lit 1 s.cells]) = K
  conv => whnf
  refine bf (by rw [ho]; rfl) ?_
  conv => whnf
  refine ⟨[], by kernel_rfl, ?_⟩
  conv => whnf
  refine bf (by rw [hs]; rfl) ?_
  conv => whnf
  refine bf (by rw [hn]; simp; omega) ?_
  conv => whnf
  rw [show IntKind.i64.wrap (s.nx - 1) = 0 from by rw [hn]; rfl]
  refine ⟨⟨by omega, by omega⟩, ?_⟩
  rw [show p.ev * ((((0 : Int).toNat : Nat) : Int) + 1) = p.ev from by simp]
  conv => whnf
  subst hK
  exact ⟨rfl, rfl⟩
end Go.Proofs.YtnnoplgabnfdiaaGreatDoor.Sh
/- The shadow machine: what a call leaves, where the other objects may be whatever they are. -/
namespace Go.Proofs.YtnnoplgabnfdiaaGreatDoor.Sh
open Go Go.RowKit
set_option linter.unusedVariables false
set_option linter.unusedSimpArgs false
def cutG (n : Nat) (g : Gh) : Gh := fun o => if o < n then g o else none
section
variable {P : Program} {B0 : Nat} {w0 w w' : World} {Fz F2 : Nat → Prop} {g g' : Gh} {h : List AO} {n : Nat}
theorem lt_cut (hg : ∀ o, n ≤ o → g o = none) {o : Nat} {x : Nat × Nat} (h : g o = some x) : o < n := by
  rcases Nat.lt_or_ge o n with e | e
  · exact e
  · rw [hg o e] at h; cases h
theorem cut_at {o : Nat} {x : Nat × Nat} (ho : o < n) (h : g' o = some x) : cutG n g' o = some x := by unfold cutG; rw [if_pos ho]; exact h
/-- What a value says when it could be said with the first objects alone. -/
theorem vr_cut (hg : ∀ o, n ≤ o → g o = none) {v : AV} {c : Value} (h1 : VR w' F2 g' v c) : ∀ c0, VR w Fz g v c0 → VR w' F2 (cutG n g') v c := by
  induction h1 with
  | top v => exact fun _ _ => .top _
  | cint k m => exact fun _ _ => .cint _ _
  | int k m => exact fun _ _ => .int _ _
  | bool b => exact fun _ _ => .bool _
  | str s => exact fun _ _ => .str _
  | nilp => exact fun _ _ => .nilp
  | nilsl => exact fun _ _ => .nilsl
  | nilfn => exact fun _ _ => .nilfn
  | nilif => exact fun _ _ => .nilif
  | nilmp => exact fun _ _ => .nilmp
  | ptr o N s i j b κ h =>
    intro c0 h0
    obtain ⟨b', κ', e, _⟩ := inv_ptr h0
    exact .ptr _ _ _ _ _ _ _ (cut_at (lt_cut hg e) h)
  | rp s row i j a h => exact fun _ _ => .rp _ _ _ _ _ h
  | sl o s off len cap b κ h hl hc =>
    intro c0 h0
    obtain ⟨b', κ', e, _⟩ := inv_sl h0
    exact .sl _ _ _ _ _ _ _ (cut_at (lt_cut hg e) h) hl hc
  | sle o s off cap A b h hc =>
    intro c0 h0
    obtain ⟨b', κ', e, _⟩ := inv_sl h0
    exact .sle _ _ _ _ _ _ (cut_at (lt_cut hg e) h) hc
  | ro s len cap row v h => exact fun _ _ => .ro _ _ _ _ _ h
  | fn f xs ys us vs ha hb h1 h2 ih1 ih2 =>
    intro c0 h0
    obtain ⟨us', vs', _, _, _, k1, k2⟩ := inv_fn h0
    exact .fn _ _ _ _ _ ha hb (fun i hi => ih1 i hi _ (k1 i hi)) (fun i hi => ih2 i hi _ (k2 i hi))
  | iface t x v h ih =>
    intro c0 h0
    obtain ⟨v', _, k⟩ := inv_iface h0
    exact .iface _ _ _ (ih _ k)
  | agg cs vs hl h ih =>
    intro c0 h0
    obtain ⟨vs', _, _, k⟩ := inv_agg h0
    exact .agg _ _ hl fun i hi => ih i hi _ (k i hi)
  | tup cs vs hl h ih =>
    intro c0 h0
    obtain ⟨vs', _, _, k⟩ := inv_tup h0
    exact .tup _ _ hl fun i hi => ih i hi _ (k i hi)
  | mp o b κ h =>
    intro c0 h0
    cases h0 with
    | mp _ b' κ' e => exact .mp _ _ _ (cut_at (lt_cut hg e) h)
theorem or_cut (hg : ∀ o, n ≤ o → g o = none) {o : Nat} {x : AO} (ho : o < n) (h1 : OR w' F2 g' o x) (h0 : OR w Fz g o x) : OR w' F2 (cutG n g') o x := by
  have hgo : cutG n g' o = g' o := by unfold cutG; rw [if_pos ho]
  cases x with
  | free => exact hgo.trans h1
  | dead => trivial
  | emap => obtain ⟨b, κ, q1, q2⟩ := h1; exact ⟨b, κ, hgo.trans q1, q2⟩
  | xmap => obtain ⟨b, κ, es, m, q1, q2⟩ := h1; exact ⟨b, κ, es, m, hgo.trans q1, q2⟩
  | lit z cells =>
    obtain ⟨b, κ, cs, t, q1, q2, q3, q4, q5⟩ := h1
    obtain ⟨b', κ', cs', t', r1, r2, r3, r4, r5⟩ := h0
    exact ⟨b, κ, cs, t, hgo.trans q1, q2, q3, q4, fun i hi => vr_cut hg (q5 i hi) _ (r5 i hi)⟩
  | rows z m row =>
    obtain ⟨b, κ, q1, q2, q3⟩ := h1
    obtain ⟨b', κ', r1, r2, r3⟩ := h0
    refine ⟨b, κ, hgo.trans q1, q2, ?_⟩
    rcases q3 with q3 | ⟨cs, t, a1, a2, a3⟩
    · exact .inl q3
    · by_cases hm : m = 0
      · exact .inr ⟨cs, t, a1, a2, fun i hi => absurd hi (by omega)⟩
      · rcases r3 with r3 | ⟨cs', t', c1, c2, c3⟩
        · omega
        · exact .inr ⟨cs, t, a1, a2, fun i hi j hj => vr_cut hg (a3 i hi j hj) _ (c3 i hi j hj)⟩
theorem or_below {o : Nat} {x : AO} (ho : o < n) (hb : belowO n x = x) (h1 : OR w' F2 g' o x) : OR w' F2 (cutG n g') o x := by
  have hgn : ∀ o x, o < n → g' o = some x → cutG n g' o = some x := fun o x ho hx => cut_at ho hx
  have hgo : cutG n g' o = g' o := by unfold cutG; rw [if_pos ho]
  rw [← hb]
  cases x with
  | free => exact hgo.trans h1
  | dead => trivial
  | emap => obtain ⟨b, κ, q1, q2⟩ := h1; exact ⟨b, κ, hgo.trans q1, q2⟩
  | xmap => obtain ⟨b, κ, es, m, q1, q2⟩ := h1; exact ⟨b, κ, es, m, hgo.trans q1, q2⟩
  | lit z cells =>
    obtain ⟨b, κ, cs, t, q1, q2, q3, q4, q5⟩ := h1
    exact ⟨b, κ, cs, t, hgo.trans q1, by simpa using q2, q3, by simpa using q4, fun i hi => by rw [map_top rfl]; exact below1_vr hgn (q5 i (by simpa using hi))⟩
  | rows z m row =>
    obtain ⟨b, κ, q1, q2, q3⟩ := h1
    exact ⟨b, κ, hgo.trans q1, q2, q3.imp id fun ⟨cs, t, a1, a2, a3⟩ => ⟨cs, t, a1, a2, fun i hi j hj => by rw [map_top rfl]; exact below0_vr hgn (a3 i hi j hj)⟩⟩
/-- What is left of a call with a plain result: of its memory the first objects, each as it was, or one that shows what it holds. -/
def Kept2 (h h1 : List AO) (r : AV) (r' : AR) (h' : List AO) : Prop := r' = .ret r ∧ ∃ t, h' = h1 ++ t
theorem kept_of2 {f : FuncId} {vs : List AV} {h1 : List AO} {r : AV} (hl : h1.length = h.length) (hr : plain r = true ∨ below2 h.length r = r ∨ (0 < vs.length ∧ ∀ (w : World) (Fz : Nat → Prop) (g : Gh) (c : Value), VR w Fz g (nth .top vs 0) c → ∃ c0, VR w Fz g r c0)) (ho : ∀ o, o < h.length → nth .free h1 o = nth .free h o ∨ belowO h.length (nth .free h1 o) = nth .free h1 o)
    (H : SCall P f vs h (Kept2 h h1 r)) : SCall P f vs h fun r' h' => r' = .ret r ∧ h' = h1 := fun B0 w0 w Fz g args hH hlen hv => by
  refine (H B0 w0 w Fz g args hH hlen hv).mono fun e w' ⟨r', c, h', Fz', g', he, ⟨e1, t, e2⟩, hrv, H', hon⟩ => ?_
  subst e1; subst e2
  have hn : ∀ o, o < h.length → nth .free (h1 ++ t) o = nth .free h1 o := fun o ho => by rw [nth_append, if_pos (by omega)]
  have hHas : ∀ o b, o < h1.length → Has (cutG h.length g') o (nth .free h1 o) b → Has g' o (nth .free (h1 ++ t) o) b := fun o b ho hh => by
    rw [hn o (by omega)]
    exact (Has.eq (show cutG h.length g' o = g' o by unfold cutG; rw [if_pos (by omega)])).mp hh
  have hrr : VR w' Fz' (cutG h.length g') r c := by
    rcases hr with hr | hr | ⟨hr, hr'⟩
    · exact plain_vr hr hrv
    · rw [← hr]; exact below2_vr (fun o x ho hx => cut_at ho hx) hrv
    · obtain ⟨c0, h0⟩ := hr' w Fz g _ (hv 0 hr)
      exact vr_cut (fun o ho => hH.free o ho) hrv c0 h0
  refine ⟨.ret r, c, h1, Fz', cutG h.length g', he, ⟨rfl, rfl⟩, hrr, ⟨H'.below, H'.base, H'.fz, fun o ho' => ?_, fun o ho' => ?_, fun o b ho' hh => H'.own o b (by simp; omega) (hHas o b ho' hh), fun o o' b h1' h2' hh hh' => H'.sep o o' b (by simp; omega) (by simp; omega) (hHas o b h1' hh) (hHas o' b h2' hh'), H'.gl⟩, ⟨hon.same, hon.fz, fun o x hx => ?_, hon.new, hon.size, fun o b κ hb => ?_⟩⟩
  · unfold cutG; rw [if_neg (by omega)]
  · have hoo : o < h.length := by omega
    have h1o := H'.objs o (by simp; omega)
    rw [hn o hoo] at h1o
    rcases ho o hoo with e | e
    · have h0 := hH.objs o hoo
      rw [← e] at h0
      exact or_cut (fun o ho => hH.free o ho) hoo h1o h0
    · exact or_below hoo e h1o
  · have hoo : o < h.length := by
      rcases Nat.lt_or_ge o h.length with e | e
      · exact e
      · rw [hH.free o e] at hx; cases hx
    exact cut_at hoo (hon.gh o x hx)
  · unfold cutG at hb
    by_cases hoo : o < h.length
    · rw [if_pos hoo] at hb; exact hon.newg o b κ hb
    · rw [if_neg hoo] at hb; cases hb
end
end Go.Proofs.YtnnoplgabnfdiaaGreatDoor.Sh
/- The shadow machine over this program: small contracts: events, states that begin, lists that are copied. -/
namespace Go.Proofs.YtnnoplgabnfdiaaGreatDoor.Sh
open Go Go.RowKit
set_option linter.unusedVariables false
set_option linter.unusedSimpArgs false
set_option maxRecDepth 100000
set_option maxHeartbeats 4000000
theorem Wk.refl (v : AV) : Wk v v := fun _ _ _ _ h => h
theorem wk_agg {cs ds : List AV} (hl : cs.length = ds.length) (h : ∀ i, i < cs.length → Wk (nth .top cs i) (nth .top ds i)) : Wk (.agg cs) (.agg ds) := fun w Fz g c hv => by
  obtain ⟨vs, rfl, h2, k⟩ := inv_agg hv
  exact .agg _ _ (by omega) fun i hi => h i (by omega) _ _ _ _ (k i (by omega))
theorem wk_tup {cs ds : List AV} (hl : cs.length = ds.length) (h : ∀ i, i < cs.length → Wk (nth .top cs i) (nth .top ds i)) : Wk (.tup cs) (.tup ds) := fun w Fz g c hv => by
  obtain ⟨vs, rfl, h2, k⟩ := inv_tup hv
  exact .tup _ _ (by omega) fun i hi => h i (by omega) _ _ _ _ (k i (by omega))
theorem clone92 : ∀ vs ob r, cloneQ 1 8 vs = some (ob, r) → conj ob → SCall Tryz.prog 92 vs [] (Told r) := clone_of (fun c r => by
  refine SCall.mono (K := fun r' h' => r' = .ret .nilsl ∨ r' = .ret (.sl 1 1 0 0 none) ∧ h' = [.dead, .rows 1 0 fun _ => []]) ?_ (fun r' h' hh => ?_)
  · cases c with
    | none =>
      refine scall_of (cfg_ok env_nil 0) Tryz.func92 (by kernel_rfl) rfl ?_
      conv => whnf
      refine ⟨fun _ => ?_, ?_⟩
      · conv => whnf
        exact .inl rfl
      · conv => whnf
        refine ⟨by simp [conj], ?_⟩
        conv => whnf
        exact .inr ⟨rfl, rfl⟩
    | some c =>
      refine scall_of (cfg_ok env_nil 0) Tryz.func92 (by kernel_rfl) rfl ?_
      conv => whnf
      refine ⟨fun _ => ?_, ?_⟩
      · conv => whnf
        exact .inl rfl
      · conv => whnf
        refine ⟨by simp [conj], ?_⟩
        conv => whnf
        exact .inr ⟨rfl, rfl⟩
  · rcases hh with rfl | ⟨rfl, rfl⟩
    · exact told_wk trivial ro_zero
    · exact told_wk (by simp [frObR, frOb, frOb1, nth, conj]) ro_zero) (fun n r hn => by
  refine SCall.mono (K := fun r' h' => (n = 0 ∧ r' = .ret .nilsl) ∨ r' = .ret (.sl 1 1 0 n none) ∧ h' = [.dead, .rows 1 n fun i => (r i).map RV.av]) ?_ (fun r' h' hh => ?_)
  · refine scall_of (cfg_ok env_nil 0) Tryz.func92 (by kernel_rfl) rfl ?_
    conv => whnf
    refine ⟨fun h0 => ?_, ?_⟩
    · conv => whnf
      exact .inl ⟨h0, rfl⟩
    · conv => whnf
      refine ⟨hn, ?_⟩
      conv => whnf
      exact .inr ⟨rfl, rfl⟩
  · rcases hh with ⟨rfl, rfl⟩ | ⟨rfl, rfl⟩
    · exact told_wk trivial ro_zero
    · refine told_of (by simp [frObR, frOb, frOb1, nth, conj]) ?_
      show AV.ro 1 n none (fun i => ((r (0 + i)).map RV.av).map AV.rv) = _
      congr 1
      funext i
      rw [map_rv_av, Nat.zero_add])
theorem clone93 : ∀ vs ob r, cloneQ 4 32 vs = some (ob, r) → conj ob → SCall Tryz.prog 93 vs [] (Told r) := clone_of (fun c r => by
  refine SCall.mono (K := fun r' h' => r' = .ret .nilsl ∨ r' = .ret (.sl 1 4 0 0 none) ∧ h' = [.dead, .rows 4 0 fun _ => []]) ?_ (fun r' h' hh => ?_)
  · cases c with
    | none =>
      refine scall_of (cfg_ok env_nil 0) Tryz.func93 (by kernel_rfl) rfl ?_
      conv => whnf
      refine ⟨fun _ => ?_, ?_⟩
      · conv => whnf
        exact .inl rfl
      · conv => whnf
        refine ⟨by simp [conj], ?_⟩
        conv => whnf
        exact .inr ⟨rfl, rfl⟩
    | some c =>
      refine scall_of (cfg_ok env_nil 0) Tryz.func93 (by kernel_rfl) rfl ?_
      conv => whnf
      refine ⟨fun _ => ?_, ?_⟩
      · conv => whnf
        exact .inl rfl
      · conv => whnf
        refine ⟨by simp [conj], ?_⟩
        conv => whnf
        exact .inr ⟨rfl, rfl⟩
  · rcases hh with rfl | ⟨rfl, rfl⟩
    · exact told_wk trivial ro_zero
    · exact told_wk (by simp [frObR, frOb, frOb1, nth, conj]) ro_zero) (fun n r hn => by
  refine SCall.mono (K := fun r' h' => (n = 0 ∧ r' = .ret .nilsl) ∨ r' = .ret (.sl 1 4 0 n none) ∧ h' = [.dead, .rows 4 n fun i => (r i).map RV.av]) ?_ (fun r' h' hh => ?_)
  · refine scall_of (cfg_ok env_nil 0) Tryz.func93 (by kernel_rfl) rfl ?_
    conv => whnf
    refine ⟨fun h0 => ?_, ?_⟩
    · conv => whnf
      exact .inl ⟨h0, rfl⟩
    · conv => whnf
      refine ⟨hn, ?_⟩
      conv => whnf
      exact .inr ⟨rfl, rfl⟩
  · rcases hh with ⟨rfl, rfl⟩ | ⟨rfl, rfl⟩
    · exact told_wk trivial ro_zero
    · refine told_of (by simp [frObR, frOb, frOb1, nth, conj]) ?_
      show AV.ro 4 n none (fun i => ((r (0 + i)).map RV.av).map AV.rv) = _
      congr 1
      funext i
      rw [map_rv_av, Nat.zero_add])
theorem clone84 : ∀ vs ob r, cloneQ 5 40 vs = some (ob, r) → conj ob → SCall Tryz.prog 84 vs [] (Told r) := clone_of (fun c r => by
  refine SCall.mono (K := fun r' h' => r' = .ret .nilsl ∨ r' = .ret (.sl 1 5 0 0 none) ∧ h' = [.dead, .rows 5 0 fun _ => []]) ?_ (fun r' h' hh => ?_)
  · cases c with
    | none =>
      refine scall_of (cfg_ok env_nil 0) Tryz.func84 (by kernel_rfl) rfl ?_
      conv => whnf
      refine ⟨fun _ => ?_, ?_⟩
      · conv => whnf
        exact .inl rfl
      · conv => whnf
        refine ⟨by simp [conj], ?_⟩
        conv => whnf
        exact .inr ⟨rfl, rfl⟩
    | some c =>
      refine scall_of (cfg_ok env_nil 0) Tryz.func84 (by kernel_rfl) rfl ?_
      conv => whnf
      refine ⟨fun _ => ?_, ?_⟩
      · conv => whnf
        exact .inl rfl
      · conv => whnf
        refine ⟨by simp [conj], ?_⟩
        conv => whnf
        exact .inr ⟨rfl, rfl⟩
  · rcases hh with rfl | ⟨rfl, rfl⟩
    · exact told_wk trivial ro_zero
    · exact told_wk (by simp [frObR, frOb, frOb1, nth, conj]) ro_zero) (fun n r hn => by
  refine SCall.mono (K := fun r' h' => (n = 0 ∧ r' = .ret .nilsl) ∨ r' = .ret (.sl 1 5 0 n none) ∧ h' = [.dead, .rows 5 n fun i => (r i).map RV.av]) ?_ (fun r' h' hh => ?_)
  · refine scall_of (cfg_ok env_nil 0) Tryz.func84 (by kernel_rfl) rfl ?_
    conv => whnf
    refine ⟨fun h0 => ?_, ?_⟩
    · conv => whnf
      exact .inl ⟨h0, rfl⟩
    · conv => whnf
      refine ⟨hn, ?_⟩
      conv => whnf
      exact .inr ⟨rfl, rfl⟩
  · rcases hh with ⟨rfl, rfl⟩ | ⟨rfl, rfl⟩
    · exact told_wk trivial ro_zero
    · refine told_of (by simp [frObR, frOb, frOb1, nth, conj]) ?_
      show AV.ro 5 n none (fun i => ((r (0 + i)).map RV.av).map AV.rv) = _
      congr 1
      funext i
      rw [map_rv_av, Nat.zero_add])
def mustIQ : QSpec := fun vs => match vs with | [.int .i64 n] => some ([n = 0], .tup []) | _ => none
theorem must213 : ∀ vs ob r, mustIQ vs = some (ob, r) → conj ob → SCall Tryz.prog 213 vs [] (Told r) := by
  intro vs ob q h hob
  unfold mustIQ at h
  split at h
  · simp only [Option.some.injEq, Prod.mk.injEq] at h
    obtain ⟨rfl, rfl⟩ := h
    rename_i n
    have hn : n = 0 := hob
    subst hn
    refine scall_of (cfg_ok env_nil 0) Tryz.func213 (by kernel_rfl) rfl ?_
    generalize hK : Told _ = K
    conv => whnf
    subst hK
    exact told_of trivial rfl
  · simp at h
theorem must28 : ∀ vs ob r, mustIQ vs = some (ob, r) → conj ob → SCall Tryz.prog 28 vs [] (Told r) := by
  intro vs ob q h hob
  unfold mustIQ at h
  split at h
  · simp only [Option.some.injEq, Prod.mk.injEq] at h
    obtain ⟨rfl, rfl⟩ := h
    rename_i n
    have hn : n = 0 := hob
    subst hn
    refine scall_of (cfg_ok env_nil 0) Tryz.func28 (by kernel_rfl) rfl ?_
    generalize hK : Told _ = K
    conv => whnf
    subst hK
    exact told_of trivial rfl
  · simp at h
def evA (a : Int) : List AV := [.int .i64 1, .int .i64 1, .int .i64 19723, .int .i64 a, .int .i64 0]
def evQ (ob : Int → Prop) (r : Int → AV) : QSpec := fun vs => match vs with
  | [.agg [.int .i64 k, .int .i64 kd, .int .i64 d, .int .i64 a, .int .i64 f]] => some ([(k = 1 ∧ kd = 1 ∧ d = 19723 ∧ f = 0) ∧ ob a], r a)
  | _ => none
theorem evQ_of {f : FuncId} {ob : Int → Prop} {r : Int → AV} (H : ∀ a, ob a → SCall Tryz.prog f [.agg (evA a)] [] (Told (r a))) : ∀ vs o q, evQ ob r vs = some (o, q) → conj o → SCall Tryz.prog f vs [] (Told q) := by
  intro vs o q h hob
  unfold evQ at h
  split at h
  · simp only [Option.some.injEq, Prod.mk.injEq] at h
    obtain ⟨rfl, rfl⟩ := h
    obtain ⟨⟨rfl, rfl, rfl, rfl⟩, h2⟩ := hob
    exact H _ h2
  · simp at h
theorem in127 : ∀ vs ob r, inQ vs = some (ob, r) → conj ob → SCall Tryz.prog 127 vs [] (Told r) := in_of fun v a b => by
  refine scall_of (cfg_ok env_nil 0) Tryz.func127 (by kernel_rfl) rfl ?_
  generalize hK : Told _ = K
  conv => whnf
  subst hK
  exact told_bool rfl
theorem in128 : ∀ vs ob r, inQ vs = some (ob, r) → conj ob → SCall Tryz.prog 128 vs [] (Told r) := in_of fun v a b => by
  refine scall_of (cfg_ok env_nil 0) Tryz.func128 (by kernel_rfl) rfl ?_
  generalize hK : Told _ = K
  conv => whnf
  subst hK
  exact told_bool rfl
def envX1 : Env := [(127, inQ), (128, inQ)]
theorem envX1_ok : EnvOK Tryz.prog envX1 := env_cons in127 (env_cons in128 env_nil)
def eventQ : QSpec := evQ (fun a => 1 ≤ a ∧ a ≤ 10000) fun _ => .int .i64 0
theorem event78 : ∀ vs ob r, eventQ vs = some (ob, r) → conj ob → SCall Tryz.prog 78 vs [] (Told r) := evQ_of fun a ha => by
  refine scall_of (cfg_ok envX1_ok 0) Tryz.func78 (by kernel_rfl) rfl ?_
  generalize hK : Told _ = K
  conv => whnf
  refine bf (congrArg (!·) (inF_iff.mpr ⟨by omega, by omega⟩)) ?_
  conv => whnf
  subst hK
  exact told_of trivial rfl
def s0 (p : PR) : ST := ⟨19723, false, 0, 0, fun _ => [], 1, p.rt, 0, 0, fun _ => [], 0, 0⟩
def envX2 : Env := [(22, checkQ)]
theorem envX2_ok : EnvOK Tryz.prog envX2 := env_cons check22 env_nil
theorem begin142 : ∀ vs ob r, prQ1 (fun p n => OKP p ∧ n = 19723) (fun p n => .tup [(s0 p).av, .int .i64 0]) vs = some (ob, r) → conj ob → SCall Tryz.prog 142 vs [] (Told r) := prQ1_of fun p n ⟨hp, hn⟩ => by
  subst hn
  refine scall_of (cfg_ok envX2_ok 0) Tryz.func142 (by kernel_rfl) rfl ?_
  generalize hK : Told _ = K
  conv => whnf
  refine ⟨⟨⟨rfl, rfl, rfl⟩, hp⟩, ?_⟩
  conv => whnf
  subst hK
  refine told_wk trivial (wk_tup rfl fun i hi => ?_)
  match i, hi with
  | 0, _ =>
    refine wk_agg rfl fun i hi => ?_
    replace hi : i < 19 := hi
    match i, hi with
    | 3, _ => exact ro_zero
    | 8, _ => exact ro_zero
    | 0, _ | 1, _ | 2, _ | 4, _ | 5, _ | 6, _ | 7, _ | 9, _ | 10, _ | 11, _ | 12, _ | 13, _ | 14, _ | 15, _ | 16, _ | 17, _ | 18, _ => exact Wk.refl _
    | n + 19, h => exact absurd h (by omega)
  | 1, _ => exact Wk.refl _
theorem new106_2 (x0 x1 : AO) (p : PR) (hp : OKP p) : SCall Tryz.prog 106 [p.av] [x0, x1] fun r h' => r = .ret (.tup [.ptr 3 1 1 0 0, .cint .i64 0]) ∧ h' = [x0, x1, .lit 1 p.cells, runL p false 0 .nilsl] := by
  refine scall_of (cfg_ok envX2_ok 2) Tryz.func106 (by kernel_rfl) rfl ?_
  generalize hK : (fun (r : AR) (h' : List AO) => r = .ret (.tup [.ptr 3 1 1 0 0, .cint .i64 0]) ∧ h' = [x0, x1, .lit 1 p.cells, runL p false 0 .nilsl]) = K
  conv => whnf
  refine ⟨⟨⟨rfl, rfl, rfl⟩, hp⟩, ?_⟩
  conv => whnf
  subst hK
  exact ⟨rfl, rfl⟩
theorem new106_3 (x0 x1 x2 : AO) (p : PR) (hp : OKP p) : SCall Tryz.prog 106 [p.av] [x0, x1, x2] fun r h' => r = .ret (.tup [.ptr 4 1 1 0 0, .cint .i64 0]) ∧ h' = [x0, x1, x2, .lit 1 p.cells, runL p false 0 .nilsl] := by
  refine scall_of (cfg_ok envX2_ok 3) Tryz.func106 (by kernel_rfl) rfl ?_
  generalize hK : (fun (r : AR) (h' : List AO) => r = .ret (.tup [.ptr 4 1 1 0 0, .cint .i64 0]) ∧ h' = [x0, x1, x2, .lit 1 p.cells, runL p false 0 .nilsl]) = K
  conv => whnf
  refine ⟨⟨⟨rfl, rfl, rfl⟩, hp⟩, ?_⟩
  conv => whnf
  subst hK
  exact ⟨rfl, rfl⟩
def sQ (ob : ST → Prop) (r : ST → AV) : QSpec := fun vs => match vs with
  | [u] => match stOf u with
    | some (q', s) => some ([q' ∧ ob s], r s)
    | _ => none
  | _ => none
theorem sQ_of {f : FuncId} {ob : ST → Prop} {r : ST → AV} (H : ∀ s, ob s → SCall Tryz.prog f [s.av] [] (Told (r s))) : ∀ vs o q, sQ ob r vs = some (o, q) → conj o → SCall Tryz.prog f vs [] (Told q) := by
  intro vs o q h hob
  unfold sQ at h
  split at h
  · split at h
    · rename_i u x q'' s e2
      simp only [Option.some.injEq, Prod.mk.injEq] at h
      obtain ⟨rfl, rfl⟩ := h
      obtain ⟨h2, h3⟩ : q'' ∧ ob s := hob
      rw [stOf_av e2 h2]
      exact H s h3
    · simp at h
  · simp at h
def envX3 : Env := [(92, cloneQ 1 8), (93, cloneQ 4 32)]
theorem envX3_ok : EnvOK Tryz.prog envX3 := env_cons clone92 (env_cons clone93 env_nil)
def ownQ : QSpec := sQ (fun s => s.pn ≤ 1000) fun s => s.av
theorem own40 : ∀ vs ob r, ownQ vs = some (ob, r) → conj ob → SCall Tryz.prog 40 vs [] (Told r) := sQ_of fun s hs => by
  refine scall_of (cfg_ok envX3_ok 0) Tryz.func40 (by kernel_rfl) rfl ?_
  generalize hK : Told _ = K
  conv => whnf
  refine ⟨[(6, 8), (6, 11), (8, 6)], by kernel_rfl, ?_⟩
  conv => whnf
  refine ⟨⟨⟨rfl, by omega⟩, rfl, by omega⟩, ?_⟩
  refine ⟨rfl, ?_⟩
  conv => whnf
  subst hK
  exact told_of trivial rfl
end Go.Proofs.YtnnoplgabnfdiaaGreatDoor.Sh
/- The shadow machine over this program: what lies between no money, and a loan that was paid out. -/
namespace Go.Proofs.YtnnoplgabnfdiaaGreatDoor.Sh
open Go Go.RowKit
set_option linter.unusedVariables false
set_option linter.unusedSimpArgs false
set_option maxRecDepth 100000
set_option maxHeartbeats 4000000
theorem ro_congr {s n : Nat} {r r' : Nat → List RV} (h : ∀ i, i < n → r i = r' i) : Wk (.ro s n none r) (.ro s n none r') := fun w Fz g v hv => by
  obtain ⟨A, cc, cs, rfl, hl, hcap, h1, h2⟩ := inv_ro2 hv
  exact .ro _ _ _ _ _ (.ro _ _ _ _ _ _ cs hl (fun n hn => by cases hn) h1 (fun i hi j hj => by rw [← h i hi]; exact h2 i hi j hj))
def balF (P A n : Int) : Int := if n = 1 then 0 - P else if n = 2 then P else if n = 4 then A else if n = 9 then IntKind.i64.wrap (0 - A) else 0
def balQ : QSpec := fun vs => match vs with
  | [v, .int .i64 n] => match moOf v with
    | some (q, m) => some ([q ∧ OKM m ∧ 1 ≤ n ∧ n ≤ 11], .int .i64 (balF m.P m.A n))
    | none => none
  | _ => none
theorem balQ_of {f : FuncId} (H : ∀ m n, OKM m → (1 ≤ n ∧ n ≤ 11) → SCall Tryz.prog f [.agg m.cells, .int .i64 n] [] (Told (.int .i64 (balF m.P m.A n)))) : ∀ vs ob r, balQ vs = some (ob, r) → conj ob → SCall Tryz.prog f vs [] (Told r) := by
  intro vs ob q h hob
  unfold balQ at h
  split at h
  · split at h
    · rename_i v n x q' m e
      simp only [Option.some.injEq, Prod.mk.injEq] at h
      obtain ⟨rfl, rfl⟩ := h
      obtain ⟨h1, hm, hn⟩ : q' ∧ OKM m ∧ 1 ≤ n ∧ n ≤ 11 := hob
      rw [moOf_av e h1]
      exact H m n hm hn
    · simp at h
  · simp at h
theorem balance136 : ∀ vs ob r, balQ vs = some (ob, r) → conj ob → SCall Tryz.prog 136 vs [] (Told r) := balQ_of fun m n hm hn => by
  obtain ⟨P, A, d⟩ := m
  obtain ⟨hP, hA, hd⟩ := hm
  simp only at hP hA hd
  have hc : n = 1 ∨ n = 2 ∨ n = 3 ∨ n = 4 ∨ n = 5 ∨ n = 6 ∨ n = 7 ∨ n = 8 ∨ n = 9 ∨ n = 10 ∨ n = 11 := by omega
  rcases noDue_or hd with ⟨r, rfl⟩ | ⟨r, rfl⟩ <;> rcases hc with rfl | rfl | rfl | rfl | rfl | rfl | rfl | rfl | rfl | rfl | rfl
  all_goals
    refine scall_of (cfg_ok envP2_ok 0) Tryz.func136 (by kernel_rfl) rfl ?_
    generalize hK : Told _ = K
    conv => whnf
    refine ⟨⟨⟨rfl, rfl, rfl, rfl, rfl, rfl, rfl⟩, hP, hA, hd⟩, ?_⟩
    conv => whnf
    subst hK
    exact told_of trivial rfl
def envZg1 : Env := [(136, balQ)]
theorem envZg1_ok : EnvOK Tryz.prog envZg1 := env_cons balance136 env_nil
theorem balance91 : ∀ vs ob r, balQ vs = some (ob, r) → conj ob → SCall Tryz.prog 91 vs [] (Told r) := balQ_of fun m n hm hn => by
  obtain ⟨P, A, d⟩ := m
  obtain ⟨hP, hA, hd⟩ := hm
  simp only at hP hA hd
  rcases noDue_or hd with ⟨r, rfl⟩ | ⟨r, rfl⟩
  all_goals
    refine scall_of (cfg_ok envZg1_ok 0) Tryz.func91 (by kernel_rfl) rfl ?_
    generalize hK : Told _ = K
    conv => whnf
    refine ⟨⟨⟨rfl, rfl, rfl, rfl, rfl, rfl, rfl⟩, ⟨hP, hA, hd⟩, hn⟩, ?_⟩
    conv => whnf
    subst hK
    exact told_of trivial rfl
def envZg2 : Env := [(90, moQ rightR), (91, balQ)]
theorem envZg2_ok : EnvOK Tryz.prog envZg2 := env_cons right90 (env_cons balance91 env_nil)
def m0 : MO := ⟨0, 0, .ro 0 0 (some 0) fun _ => []⟩
def m1 (a : Int) : MO := ⟨a, 0, .ro 4 0 none fun _ => []⟩
def postRV (a : Int) : Nat → List RV := fun i => match i with
  | 0 => [.int .i64 1, .int .i64 (0 - a)]
  | _ => [.int .i64 2, .int .i64 a]
theorem between36 (a : Int) (ha : 1 ≤ a ∧ a ≤ 10000) : SCall Tryz.prog 36 [.agg m0.cells, .agg (m1 a).cells] [] (Told (.tup [.ro 2 2 none (postRV a), .int .i64 0])) := by
  have hM0 : OKM m0 := ⟨by decide, by decide, rfl⟩
  have hM1 : OKM (m1 a) := ⟨show 0 ≤ a ∧ a ≤ _ by omega, show (0 : Int) ≤ 0 ∧ (0 : Int) ≤ _ by omega, rfl⟩
  refine scall_of (cfg_ok envZg2_ok 0) Tryz.func36 (by kernel_rfl) rfl ?_
  generalize hK : Told _ = K
  conv => whnf
  refine ⟨⟨⟨⟨rfl, rfl, rfl, rfl, rfl, rfl, rfl⟩, hM0⟩, fun _ => ⟨⟨rfl, rfl, rfl, rfl, rfl, rfl, rfl⟩, hM1⟩⟩, ?_⟩
  conv => whnf
  refine ⟨[], by kernel_rfl, ?_⟩
  conv => whnf
  refine .inl ⟨[(), (), (), (), (), (), (), (), (), (), (), ()], ?_⟩
  refine unroll_step fun k hk => ?_
  conv => whnf
  refine ⟨⟨⟨⟨rfl, rfl, rfl, rfl, rfl, rfl, rfl⟩, hM1, by decide, by decide⟩, ⟨⟨rfl, rfl, rfl, rfl, rfl, rfl, rfl⟩, hM0, by decide, by decide⟩⟩, ?_⟩
  conv => whnf
  refine bt (show (IntKind.i64.wrap (0 - a - (0 - 0)) != 0) = true by rw [Int.sub_zero, Int.sub_zero, w64 (by omega) (by omega)]; simp; omega) ?_
  conv => whnf
  refine ⟨show 1 * 16 ≤ 140737488355328 by decide, ?_⟩
  conv => whnf
  subst hk
  refine unroll_step fun k hk => ?_
  conv => whnf
  refine ⟨⟨⟨⟨rfl, rfl, rfl, rfl, rfl, rfl, rfl⟩, hM1, by decide, by decide⟩, ⟨⟨rfl, rfl, rfl, rfl, rfl, rfl, rfl⟩, hM0, by decide, by decide⟩⟩, ?_⟩
  conv => whnf
  refine bt (show (IntKind.i64.wrap (a - 0) != 0) = true by rw [Int.sub_zero, w64 (by omega) (by omega)]; simp; omega) ?_
  conv => whnf
  refine ⟨⟨rfl, by decide, fun i hi => ⟨rfl, rfl⟩⟩, ?_⟩
  conv => whnf
  subst hk
  refine unroll_step fun k hk => ?_
  conv => whnf
  refine ⟨⟨⟨⟨rfl, rfl, rfl, rfl, rfl, rfl, rfl⟩, hM1, by decide, by decide⟩, ⟨⟨rfl, rfl, rfl, rfl, rfl, rfl, rfl⟩, hM0, by decide, by decide⟩⟩, ?_⟩
  conv => whnf
  subst hk
  refine unroll_step fun k hk => ?_
  conv => whnf
  refine ⟨⟨⟨⟨rfl, rfl, rfl, rfl, rfl, rfl, rfl⟩, hM1, by decide, by decide⟩, ⟨⟨rfl, rfl, rfl, rfl, rfl, rfl, rfl⟩, hM0, by decide, by decide⟩⟩, ?_⟩
  conv => whnf
  subst hk
  refine unroll_step fun k hk => ?_
  conv => whnf
  refine ⟨⟨⟨⟨rfl, rfl, rfl, rfl, rfl, rfl, rfl⟩, hM1, by decide, by decide⟩, ⟨⟨rfl, rfl, rfl, rfl, rfl, rfl, rfl⟩, hM0, by decide, by decide⟩⟩, ?_⟩
  conv => whnf
  subst hk
  refine unroll_step fun k hk => ?_
  conv => whnf
  refine ⟨⟨⟨⟨rfl, rfl, rfl, rfl, rfl, rfl, rfl⟩, hM1, by decide, by decide⟩, ⟨⟨rfl, rfl, rfl, rfl, rfl, rfl, rfl⟩, hM0, by decide, by decide⟩⟩, ?_⟩
  conv => whnf
  subst hk
  refine unroll_step fun k hk => ?_
  conv => whnf
  refine ⟨⟨⟨⟨rfl, rfl, rfl, rfl, rfl, rfl, rfl⟩, hM1, by decide, by decide⟩, ⟨⟨rfl, rfl, rfl, rfl, rfl, rfl, rfl⟩, hM0, by decide, by decide⟩⟩, ?_⟩
  conv => whnf
  subst hk
  refine unroll_step fun k hk => ?_
  conv => whnf
  refine ⟨⟨⟨⟨rfl, rfl, rfl, rfl, rfl, rfl, rfl⟩, hM1, by decide, by decide⟩, ⟨⟨rfl, rfl, rfl, rfl, rfl, rfl, rfl⟩, hM0, by decide, by decide⟩⟩, ?_⟩
  conv => whnf
  subst hk
  refine unroll_step fun k hk => ?_
  conv => whnf
  refine ⟨⟨⟨⟨rfl, rfl, rfl, rfl, rfl, rfl, rfl⟩, hM1, by decide, by decide⟩, ⟨⟨rfl, rfl, rfl, rfl, rfl, rfl, rfl⟩, hM0, by decide, by decide⟩⟩, ?_⟩
  conv => whnf
  subst hk
  refine unroll_step fun k hk => ?_
  conv => whnf
  refine ⟨⟨⟨⟨rfl, rfl, rfl, rfl, rfl, rfl, rfl⟩, hM1, by decide, by decide⟩, ⟨⟨rfl, rfl, rfl, rfl, rfl, rfl, rfl⟩, hM0, by decide, by decide⟩⟩, ?_⟩
  conv => whnf
  subst hk
  refine unroll_step fun k hk => ?_
  conv => whnf
  refine ⟨⟨⟨⟨rfl, rfl, rfl, rfl, rfl, rfl, rfl⟩, hM1, by decide, by decide⟩, ⟨⟨rfl, rfl, rfl, rfl, rfl, rfl, rfl⟩, hM0, by decide, by decide⟩⟩, ?_⟩
  conv => whnf
  subst hk
  refine unroll_step fun k hk => ?_
  conv => whnf
  subst hk
  conv => whnf
  subst hK
  refine told_wk (show 0 + 2 ≤ 2 by decide) (wk_tup rfl fun i hi => ?_)
  replace hi : i < 2 := hi
  match i, hi with
  | 0, _ =>
    refine ro_congr fun i hi => ?_
    match i, hi with
    | 0, _ =>
      show [RV.int .i64 1, RV.int .i64 (IntKind.i64.wrap (0 - a - (0 - 0)))] = [RV.int .i64 1, RV.int .i64 (0 - a)]
      rw [Int.sub_zero, Int.sub_zero, w64 (by omega) (by omega)]
    | 1, _ =>
      show [RV.int .i64 2, RV.int .i64 (IntKind.i64.wrap (a - 0))] = [RV.int .i64 2, RV.int .i64 a]
      rw [Int.sub_zero, w64 (by omega) (by omega)]
  | 1, _ => exact Wk.refl _
end Go.Proofs.YtnnoplgabnfdiaaGreatDoor.Sh
