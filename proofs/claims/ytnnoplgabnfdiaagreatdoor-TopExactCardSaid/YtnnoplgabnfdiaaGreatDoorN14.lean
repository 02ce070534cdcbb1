/- Part 14 of a proof over the shadow machine. -/
import Derived.Test.YtnnoplgabnfdiaaGreatDoorN13
/- The shadow machine over this program: which products may be: the parts. -/
namespace Go.Proofs.YtnnoplgabnfdiaaGreatDoor.Sh
open Go Go.RowKit
set_option linter.unusedVariables false
set_option linter.unusedSimpArgs false
set_option maxRecDepth 100000
set_option maxHeartbeats 4000000
/-- A product, without resets and holidays. -/
structure PR where
  nm : ByteArray
  ct : Int
  rd : Int
  kd : Int
  ev : Int
  tm : Int
  gr : Int
  rt : Int
  pn : Int
  o0 : Int
  o1 : Int
  o2 : Int
  o3 : Int
  ov : Int
  ln : Nat
  ld : Nat → Int
  lf : Nat → Int
  cp : Int
  rl : Int
def nil0 : AV := .ro 0 0 (some 0) fun _ => []
def PR.cells (p : PR) : List AV := [.str p.nm, .int .i64 p.ct, .int .i64 p.rd, .int .i64 p.kd, .int .i64 p.ev, .int .i64 p.tm, .int .i64 p.gr, .int .i64 p.rt, .ro 0 0 (some 0) fun _ => [], .int .i64 p.pn, .int .i64 p.o0, .int .i64 p.o1, .int .i64 p.o2, .int .i64 p.o3, .int .i64 p.ov, .ro 2 p.ln none fun i => [.int .i64 (p.ld i), .int .i64 (p.lf i)], .int .i64 p.cp, .int .i64 p.rl, .ro 0 0 (some 0) fun _ => []]
def PR.av (p : PR) : AV := .agg p.cells
def gI : AV → Option Int
  | .int .i64 n => some n
  | _ => none
def gS : AV → Option ByteArray
  | .str s => some s
  | _ => none
def g0 : AV → Option (Nat → List RV)
  | .ro 0 0 (some 0) r => some r
  | _ => none
def g2 : AV → Option (Nat × (Nat → List RV))
  | .ro 2 n none r => some (n, r)
  | _ => none
def rvI : RV → Int
  | .int _ n => n
  | _ => 0
def prOf : AV → Option (Prop × PR)
  | .agg [c0, c1, c2, c3, c4, c5, c6, c7, c8, c9, c10, c11, c12, c13, c14, c15, c16, c17, c18] =>
    (gS c0).bind fun nm => (gI c1).bind fun ct => (gI c2).bind fun rd => (gI c3).bind fun kd => (gI c4).bind fun ev => (gI c5).bind fun tm => (gI c6).bind fun gr => (gI c7).bind fun rt => (g0 c8).bind fun r8 => (gI c9).bind fun pn => (gI c10).bind fun o0 => (gI c11).bind fun o1 => (gI c12).bind fun o2 => (gI c13).bind fun o3 => (gI c14).bind fun ov => (g2 c15).bind fun l => (gI c16).bind fun cp => (gI c17).bind fun rl => (g0 c18).bind fun r18 =>
      some ((r8 = fun _ => []) ∧ (r18 = fun _ => []) ∧ l.2 = fun i => [.int .i64 (rvI (nth .top (l.2 i) 0)), .int .i64 (rvI (nth .top (l.2 i) 1))], ⟨nm, ct, rd, kd, ev, tm, gr, rt, pn, o0, o1, o2, o3, ov, l.1, fun i => rvI (nth .top (l.2 i) 0), fun i => rvI (nth .top (l.2 i) 1), cp, rl⟩)
  | _ => none
theorem gI_some {v : AV} {n : Int} (h : gI v = some n) : v = .int .i64 n := by
  unfold gI at h; split at h <;> simp at h; subst h; rfl
theorem gS_some {v : AV} {n : ByteArray} (h : gS v = some n) : v = .str n := by
  unfold gS at h; split at h <;> simp at h; subst h; rfl
theorem g0_some {v : AV} {r : Nat → List RV} (h : g0 v = some r) : v = .ro 0 0 (some 0) r := by
  unfold g0 at h; split at h <;> simp at h; subst h; rfl
theorem g2_some {v : AV} {l : Nat × (Nat → List RV)} (h : g2 v = some l) : v = .ro 2 l.1 none l.2 := by
  unfold g2 at h; split at h <;> simp at h; subst h; rfl
theorem prOf_av {v : AV} {q : Prop} {p : PR} (h : prOf v = some (q, p)) (hq : q) : v = p.av := by
  unfold prOf at h
  split at h
  · simp only [Option.bind_eq_some_iff, Option.some.injEq, Prod.mk.injEq] at h
    obtain ⟨nm, e0, ct, e1, rd, e2, kd, e3, ev, e4, tm, e5, gr, e6, rt, e7, r8, e8, pn, e9, o0, e10, o1, e11, o2, e12, o3, e13, ov, e14, l, e15, cp, e16, rl, e17, r18, e18, rfl, rfl⟩ := h
    obtain ⟨q1, q2, q3⟩ := hq
    rw [gS_some e0, gI_some e1, gI_some e2, gI_some e3, gI_some e4, gI_some e5, gI_some e6, gI_some e7, g0_some e8, gI_some e9, gI_some e10, gI_some e11, gI_some e12, gI_some e13, gI_some e14, g2_some e15, gI_some e16, gI_some e17, g0_some e18, q1, q2]
    unfold PR.av PR.cells
    rw [← q3]
  · simp at h
/-- A function of a product, and of what follows. -/
def prQ (ob : PR → Prop) (r : PR → AV) : QSpec := fun vs => match vs with
  | [v] => match prOf v with
    | some (q, p) => some ([q ∧ ob p], r p)
    | none => none
  | _ => none
theorem prQ_of {f : FuncId} {ob : PR → Prop} {r : PR → AV} (H : ∀ p, ob p → SCall Tryz.prog f [p.av] [] (Told (r p))) : ∀ vs o q, prQ ob r vs = some (o, q) → conj o → SCall Tryz.prog f vs [] (Told q) := by
  intro vs o q h hob
  unfold prQ at h
  split at h
  · split at h
    · rename_i v q' p e
      simp only [Option.some.injEq, Prod.mk.injEq] at h
      obtain ⟨rfl, rfl⟩ := h
      obtain ⟨h1, h2⟩ : q' ∧ ob p := hob
      rw [prOf_av e h1]
      exact H p h2
    · simp at h
  · simp at h
/-- From a to b. -/
def inF (v a b : Int) : Bool := bif decide (v ≥ a) then decide (v ≤ b) else false
theorem inF_iff {v a b : Int} : inF v a b = true ↔ a ≤ v ∧ v ≤ b := by
  unfold inF
  by_cases h : v ≥ a
  · rw [decide_eq_true h]; simp; omega
  · rw [decide_eq_false h]; simp; omega
def inQ : QSpec := fun vs => match vs with | [.int .i64 v, .int .i64 a, .int .i64 b] => some ([], .bool (inF v a b)) | _ => none
theorem in_of {f : FuncId} (H : ∀ v a b, SCall Tryz.prog f [.int .i64 v, .int .i64 a, .int .i64 b] [] (Told (.bool (inF v a b)))) : ∀ vs ob q, inQ vs = some (ob, q) → conj ob → SCall Tryz.prog f vs [] (Told q) := by
  intro vs ob q h hob
  unfold inQ at h
  split at h
  · simp only [Option.some.injEq, Prod.mk.injEq] at h
    obtain ⟨rfl, rfl⟩ := h
    exact H _ _ _
  · simp at h
theorem in117 : ∀ vs ob r, inQ vs = some (ob, r) → conj ob → SCall Tryz.prog 117 vs [] (Told r) := in_of fun v a b => by
  refine scall_of (cfg_ok env_nil 0) Tryz.func117 (by kernel_rfl) rfl ?_
  generalize hK : Told _ = K
  conv => whnf
  subst hK
  exact told_bool rfl
theorem in118 : ∀ vs ob r, inQ vs = some (ob, r) → conj ob → SCall Tryz.prog 118 vs [] (Told r) := in_of fun v a b => by
  refine scall_of (cfg_ok env_nil 0) Tryz.func118 (by kernel_rfl) rfl ?_
  generalize hK : Told _ = K
  conv => whnf
  subst hK
  exact told_bool rfl
def mustQ : QSpec := fun vs => match vs with | [.bool b] => some ([b = true], .tup []) | _ => none
theorem must115 : ∀ vs ob r, mustQ vs = some (ob, r) → conj ob → SCall Tryz.prog 115 vs [] (Told r) := by
  intro vs ob q h hob
  unfold mustQ at h
  split at h
  · simp only [Option.some.injEq, Prod.mk.injEq] at h
    obtain ⟨rfl, rfl⟩ := h
    rename_i b
    have hb : b = true := hob
    subst hb
    refine scall_of (cfg_ok env_nil 0) Tryz.func115 (by kernel_rfl) rfl ?_
    generalize hK : Told _ = K
    conv => whnf
    subst hK
    exact told_of trivial rfl
  · simp at h
structure OKP (p : PR) : Prop where
  nm : NameOK p.nm
  ct : 1 ≤ p.ct ∧ p.ct ≤ 3
  rd : p.rd = 1 ∨ p.rd = 3
  kd : 1 ≤ p.kd ∧ p.kd ≤ 3
  ev : p.ev = 1 ∨ p.ev = 12
  tm : 1 ≤ p.tm ∧ p.tm ≤ 600
  gr : p.gr = 0
  rt : 0 ≤ p.rt ∧ p.rt ≤ 1000000000
  pn : 0 ≤ p.pn ∧ p.pn ≤ 1000000000
  o0 : 1 ≤ p.o0 ∧ p.o0 ≤ 4
  o1 : 1 ≤ p.o1 ∧ p.o1 ≤ 4
  o2 : 1 ≤ p.o2 ∧ p.o2 ≤ 4
  o3 : 1 ≤ p.o3 ∧ p.o3 ≤ 4
  od : p.o0 ≠ p.o1 ∧ p.o0 ≠ p.o2 ∧ p.o0 ≠ p.o3 ∧ p.o1 ≠ p.o2 ∧ p.o1 ≠ p.o3 ∧ p.o2 ≠ p.o3
  ov : 1 ≤ p.ov ∧ p.ov ≤ 3
  ln : p.ln ≤ 8
  late : ∀ i, i < p.ln → (1 ≤ p.ld i ∧ p.ld i ≤ 365) ∧ (0 ≤ p.lf i ∧ p.lf i ≤ 10000000000000) ∧ (0 < i → p.ld i > p.ld (i - 1) ∧ p.lf i ≥ p.lf (i - 1))
  cp : 0 ≤ p.cp ∧ p.cp ≤ 10000000000000
  lcp : 0 < p.ln ∨ p.cp = 0
  rl : p.rl = 1
def envD1 : Env := [(115, mustQ), (116, nameQ), (117, inQ), (118, inQ)]
theorem envD1_ok : EnvOK Tryz.prog envD1 := env_cons must115 (env_cons name116 (env_cons in117 (env_cons in118 env_nil)))
theorem shape63 (p : PR) (hp : OKP p) : SCall Tryz.prog 63 [p.av] [] (Told (.tup [])) := by
  refine scall_of (cfg_ok envD1_ok 0) Tryz.func63 (by kernel_rfl) rfl ?_
  generalize hK : Told _ = K
  have h1 : inF p.ct 1 3 = true := inF_iff.mpr hp.ct
  have h2 : inF p.kd 1 3 = true := inF_iff.mpr hp.kd
  have h3 : inF p.tm 1 600 = true := inF_iff.mpr hp.tm
  have h4 : (bif p.rd == 1 then true else p.rd == 3) = true := by rcases hp.rd with e | e <;> rw [e] <;> rfl
  conv => whnf
  refine ⟨⟨hp.nm, by rw [h1, h4, h2]; rfl⟩, ?_⟩
  conv => whnf
  refine ⟨by rcases hp.ev with e | e <;> rw [e] <;> rfl, ?_⟩
  conv => whnf
  refine ⟨by rw [hp.gr, h3, show inF 0 0 (IntKind.i64.wrap (p.tm - 1)) = true from inF_iff.mpr (by rw [w64 (by have := hp.tm; omega) (by have := hp.tm; omega)]; have := hp.tm; omega)]; simp [conj], ?_⟩
  conv => whnf
  subst hK
  exact told_of trivial rfl
theorem rates64 (p : PR) (hp : OKP p) : SCall Tryz.prog 64 [p.av] [] (Told (.tup [])) := by
  refine scall_of (cfg_ok envD1_ok 0) Tryz.func64 (by kernel_rfl) rfl ?_
  generalize hK : Told _ = K
  have h1 : inF p.rt 0 1000000000 = true := inF_iff.mpr hp.rt
  have h2 : inF p.pn 0 1000000000 = true := inF_iff.mpr hp.pn
  conv => whnf
  refine ⟨by rw [h1, h2]; rfl, ?_⟩
  conv => whnf
  refine .inl ⟨[()], unroll_step fun k hk => ?_⟩
  conv => whnf
  subst hk
  conv => whnf
  subst hK
  exact told_of trivial rfl
end Go.Proofs.YtnnoplgabnfdiaaGreatDoor.Sh
/- The shadow machine over this program: which products may be: the order. -/
namespace Go.Proofs.YtnnoplgabnfdiaaGreatDoor.Sh
open Go Go.RowKit
set_option linter.unusedVariables false
set_option linter.unusedSimpArgs false
set_option maxRecDepth 100000
set_option maxHeartbeats 4000000
theorem four {a : Int} (h : 1 ≤ a ∧ a ≤ 4) : a = 1 ∨ a = 2 ∨ a = 3 ∨ a = 4 := by omega
theorem order65 (p : PR) (hp : OKP p) : SCall Tryz.prog 65 [p.av] [] (Told (.tup [])) := by
  obtain ⟨q01, q02, q03, q12, q13, q23⟩ := hp.od
  refine scall_of (cfg_ok envD1_ok 0) Tryz.func65 (by kernel_rfl) rfl ?_
  generalize hK : Told _ = K
  conv => whnf
  refine .inl ⟨[(), (), (), (), ()], ?_⟩
  refine unroll_step fun k hk => ?_
  conv => whnf
  refine ⟨⟨by decide, by decide⟩, ?_⟩
  conv => whnf
  refine ⟨⟨fun _ => ⟨by have := hp.o0; omega, by have := hp.o0; omega⟩, ?_⟩, ?_⟩
  · rw [show inF p.o0 1 4 = true from inF_iff.mpr hp.o0]
    rcases four hp.o0 with e0 | e0 | e0 | e0 <;> first | (exfalso; omega) | (rw [e0]; exact ⟨fun _ => show Int.toNat _ < 5 from by decide, rfl⟩)
  conv => whnf
  refine ⟨⟨⟨by have := hp.o0; omega, by have := hp.o0; omega⟩, show Int.toNat _ < 5 from by have := hp.o0; omega⟩, ?_⟩
  conv => whnf
  subst hk
  refine unroll_step fun k hk => ?_
  conv => whnf
  refine ⟨⟨by decide, by decide⟩, ?_⟩
  rw [show (bif (IntKind.i64.wrap (0 + 1)).toNat == 0 then p.o0 else bif (IntKind.i64.wrap (0 + 1)).toNat - 1 == 0 then p.o1 else bif (IntKind.i64.wrap (0 + 1)).toNat - 1 - 1 == 0 then p.o2 else p.o3) = p.o1 from rfl]
  conv => whnf
  refine ⟨⟨fun _ => ⟨by have := hp.o1; omega, by have := hp.o1; omega⟩, ?_⟩, ?_⟩
  · rw [show inF p.o1 1 4 = true from inF_iff.mpr hp.o1]
    rcases four hp.o0 with e0 | e0 | e0 | e0 <;> rcases four hp.o1 with e1 | e1 | e1 | e1 <;> first | (exfalso; omega) | (rw [e0, e1]; exact ⟨fun _ => show Int.toNat _ < 5 from by decide, rfl⟩)
  conv => whnf
  refine ⟨⟨⟨by have := hp.o1; omega, by have := hp.o1; omega⟩, show Int.toNat _ < 5 from by have := hp.o1; omega⟩, ?_⟩
  conv => whnf
  subst hk
  refine unroll_step fun k hk => ?_
  conv => whnf
  refine ⟨⟨by decide, by decide⟩, ?_⟩
  rw [show (bif (IntKind.i64.wrap (IntKind.i64.wrap (0 + 1) + 1)).toNat == 0 then p.o0 else bif (IntKind.i64.wrap (IntKind.i64.wrap (0 + 1) + 1)).toNat - 1 == 0 then p.o1 else bif (IntKind.i64.wrap (IntKind.i64.wrap (0 + 1) + 1)).toNat - 1 - 1 == 0 then p.o2 else p.o3) = p.o2 from rfl]
  conv => whnf
  refine ⟨⟨fun _ => ⟨by have := hp.o2; omega, by have := hp.o2; omega⟩, ?_⟩, ?_⟩
  · rw [show inF p.o2 1 4 = true from inF_iff.mpr hp.o2]
    rcases four hp.o0 with e0 | e0 | e0 | e0 <;> rcases four hp.o1 with e1 | e1 | e1 | e1 <;> rcases four hp.o2 with e2 | e2 | e2 | e2 <;> first | (exfalso; omega) | (rw [e0, e1, e2]; exact ⟨fun _ => show Int.toNat _ < 5 from by decide, rfl⟩)
  conv => whnf
  refine ⟨⟨⟨by have := hp.o2; omega, by have := hp.o2; omega⟩, show Int.toNat _ < 5 from by have := hp.o2; omega⟩, ?_⟩
  conv => whnf
  subst hk
  refine unroll_step fun k hk => ?_
  conv => whnf
  refine ⟨⟨by decide, by decide⟩, ?_⟩
  rw [show (bif (IntKind.i64.wrap (IntKind.i64.wrap (IntKind.i64.wrap (0 + 1) + 1) + 1)).toNat == 0 then p.o0 else bif (IntKind.i64.wrap (IntKind.i64.wrap (IntKind.i64.wrap (0 + 1) + 1) + 1)).toNat - 1 == 0 then p.o1 else bif (IntKind.i64.wrap (IntKind.i64.wrap (IntKind.i64.wrap (0 + 1) + 1) + 1)).toNat - 1 - 1 == 0 then p.o2 else p.o3) = p.o3 from rfl]
  conv => whnf
  refine ⟨⟨fun _ => ⟨by have := hp.o3; omega, by have := hp.o3; omega⟩, ?_⟩, ?_⟩
  · rw [show inF p.o3 1 4 = true from inF_iff.mpr hp.o3]
    rcases four hp.o0 with e0 | e0 | e0 | e0 <;> rcases four hp.o1 with e1 | e1 | e1 | e1 <;> rcases four hp.o2 with e2 | e2 | e2 | e2 <;> rcases four hp.o3 with e3 | e3 | e3 | e3 <;> first | (exfalso; omega) | (rw [e0, e1, e2, e3]; exact ⟨fun _ => show Int.toNat _ < 5 from by decide, rfl⟩)
  conv => whnf
  refine ⟨⟨⟨by have := hp.o3; omega, by have := hp.o3; omega⟩, show Int.toNat _ < 5 from by have := hp.o3; omega⟩, ?_⟩
  conv => whnf
  subst hk
  refine unroll_step fun k hk => ?_
  conv => whnf
  subst hk
  conv => whnf
  refine ⟨inF_iff.mpr hp.ov, ?_⟩
  conv => whnf
  subst hK
  exact told_of trivial rfl
end Go.Proofs.YtnnoplgabnfdiaaGreatDoor.Sh
/- The shadow machine over this program: which products may be. -/
namespace Go.Proofs.YtnnoplgabnfdiaaGreatDoor.Sh
open Go Go.RowKit
set_option linter.unusedVariables false
set_option linter.unusedSimpArgs false
set_option maxRecDepth 100000
set_option maxHeartbeats 4000000
theorem days67 (p : PR) (hp : OKP p) : SCall Tryz.prog 67 [p.av] [] (Told (.tup [])) := by
  refine scall_of (cfg_ok envD1_ok 0) Tryz.func67 (by kernel_rfl) rfl ?_
  generalize hK : Told _ = K
  conv => whnf
  refine scall_of (cfg_ok envD1_ok 1) Tryz.func119 (by kernel_rfl) rfl ?_
  conv => whnf
  refine .inl ⟨[()], unroll_step fun k hk => ?_⟩
  conv => whnf
  subst hk
  conv => whnf
  refine scall_of (cfg_ok envD1_ok 1) Tryz.func70 (by kernel_rfl) rfl ?_
  conv => whnf
  refine ⟨fun _ => ?_, ?_⟩
  · conv => whnf
    refine ⟨by rw [hp.rl]; rfl, ?_⟩
    conv => whnf
    subst hK
    exact told_of trivial rfl
  · conv => whnf
    refine ⟨by simp [conj], ?_⟩
    conv => whnf
    refine ⟨by rw [hp.rl]; rfl, ?_⟩
    conv => whnf
    subst hK
    exact told_of trivial rfl
theorem late66 (p : PR) (hp : OKP p) : SCall Tryz.prog 66 [p.av] [] (Told (.tup [])) := by
  refine scall_of (cfg_ok envD1_ok 0) Tryz.func66 (by kernel_rfl) rfl ?_
  generalize hK : Told _ = K
  conv => whnf
  refine ⟨by
    rw [show decide ((p.ln : Int) ≤ 8) = true from decide_eq_true (by have := hp.ln; omega), show inF p.cp 0 10000000000000 = true from inF_iff.mpr hp.cp]
    rcases hp.lcp with h | h
    · rw [show decide ((p.ln : Int) > 0) = true from decide_eq_true (by omega)]; rfl
    · rw [h]; simp [conj], ?_⟩
  conv => whnf
  refine .inr ⟨[], [2, 29, 30, 31], 2, fun m s => ∃ i : Nat, m = p.ln - i ∧ i ≤ p.ln ∧ s = ⟨.top :: .top :: .ptr 1 1 1 0 0 :: (List.replicate 26 .top ++ .ro 2 p.ln none (fun i => [.int .i64 (p.ld i), .int .i64 (p.lf i)]) :: .int .i64 p.ln :: .int .i64 i :: List.replicate 41 .top), [.lit 1 p.cells, .lit 1 p.cells]⟩, Nat.zero_le _, ⟨_, _, ?_, 0, rfl, Nat.zero_le _, rfl⟩, ?_⟩
  · exact seq_rfl _
  rintro m s ⟨i, rfl, hi, rfl⟩
  conv => whnf
  refine bsplit (fun h => ?_) (fun h => ?_)
  · have hlt : i < p.ln := by have := of_decide_eq_true h; omega
    have hl := hp.late i hlt
    conv => whnf
    refine ⟨⟨by omega, by omega⟩, ?_⟩
    rw [show ((i : Int)).toNat = i from Int.toNat_natCast i]
    conv => whnf
    refine ⟨by rw [show inF (p.ld i) 1 365 = true from inF_iff.mpr hl.1, show inF (p.lf i) 0 10000000000000 = true from inF_iff.mpr hl.2.1]; rfl, ?_⟩
    conv => whnf
    refine ⟨[], by kernel_rfl, ?_⟩
    conv => whnf
    refine ⟨?_, ?_⟩
    · by_cases h0 : i = 0
      · subst h0; exact ⟨fun h => by simp at h, fun h => by simp at h, rfl⟩
      · have wi : IntKind.i64.wrap ((i : Int) - 1) = ((i - 1 : Nat) : Int) := by rw [w64 (by omega) (by have := hp.ln; omega)]; omega
        rw [wi, Int.toNat_natCast]
        have h3 := hl.2.2 (by omega)
        refine ⟨fun _ => ⟨by omega, by omega⟩, fun _ _ => ⟨by omega, by omega⟩, ?_⟩
        rw [show ((i : Int) == 0) = false from beq_nf (by omega), decide_eq_true h3.1, decide_eq_true h3.2]; rfl
    conv => whnf
    refine ⟨p.ln - (i + 1), _, by omega, ?_, i + 1, rfl, by omega, rfl⟩
    rw [show ((i + 1 : Nat) : Int) = IntKind.i64.wrap ((i : Int) + 1) from by rw [w64 (by omega) (by have := hp.ln; omega)]; rfl]
    exact seq_rfl _
  · conv => whnf
    subst hK
    exact told_of trivial rfl
end Go.Proofs.YtnnoplgabnfdiaaGreatDoor.Sh
/- The shadow machine over this program: which products may be: all of it. -/
namespace Go.Proofs.YtnnoplgabnfdiaaGreatDoor.Sh
open Go Go.RowKit
set_option linter.unusedVariables false
set_option linter.unusedSimpArgs false
set_option maxRecDepth 100000
set_option maxHeartbeats 4000000
def lookQ : QSpec := prQ OKP fun _ => .tup []
def envG1 : Env := [(63, lookQ), (64, lookQ), (65, lookQ), (66, lookQ), (67, lookQ)]
theorem envG1_ok : EnvOK Tryz.prog envG1 := env_cons (prQ_of shape63) (env_cons (prQ_of rates64) (env_cons (prQ_of order65) (env_cons (prQ_of late66) (env_cons (prQ_of days67) env_nil))))
def checkQ : QSpec := prQ OKP fun _ => .int .i64 0
theorem check22 : ∀ vs ob r, checkQ vs = some (ob, r) → conj ob → SCall Tryz.prog 22 vs [] (Told r) := prQ_of fun p hp => by
  refine scall_ofD (cfg_ok envG1_ok 0) Tryz.func22 (by kernel_rfl) rfl ?_
  generalize hK : Told _ = K
  conv => whnf
  refine .inl ⟨[(), (), (), (), (), ()], ?_⟩
  refine unroll_step fun k hk => ?_
  conv => whnf
  refine ⟨⟨by decide, by decide⟩, ?_⟩
  conv => whnf
  refine ⟨⟨⟨rfl, rfl, rfl⟩, hp⟩, ?_⟩
  conv => whnf
  subst hk
  refine unroll_step fun k hk => ?_
  conv => whnf
  refine ⟨⟨by decide, show _ + _ < 5 from by decide⟩, ?_⟩
  conv => whnf
  refine ⟨⟨⟨rfl, rfl, rfl⟩, hp⟩, ?_⟩
  conv => whnf
  subst hk
  refine unroll_step fun k hk => ?_
  conv => whnf
  refine ⟨⟨by decide, show _ + _ < 5 from by decide⟩, ?_⟩
  conv => whnf
  refine ⟨⟨⟨rfl, rfl, rfl⟩, hp⟩, ?_⟩
  conv => whnf
  subst hk
  refine unroll_step fun k hk => ?_
  conv => whnf
  refine ⟨⟨by decide, show _ + _ < 5 from by decide⟩, ?_⟩
  conv => whnf
  refine ⟨⟨⟨rfl, rfl, rfl⟩, hp⟩, ?_⟩
  conv => whnf
  subst hk
  refine unroll_step fun k hk => ?_
  conv => whnf
  refine ⟨⟨by decide, show _ + _ < 5 from by decide⟩, ?_⟩
  conv => whnf
  refine ⟨⟨⟨rfl, rfl, rfl⟩, hp⟩, ?_⟩
  conv => whnf
  subst hk
  refine unroll_step fun k hk => ?_
  conv => whnf
  subst hk
  conv => whnf
  refine dcall_of (cfg_ok env_nil 0) Tryz.func62 (by kernel_rfl) ?_
  conv => whnf
  subst hK
  exact told_of trivial rfl
end Go.Proofs.YtnnoplgabnfdiaaGreatDoor.Sh
