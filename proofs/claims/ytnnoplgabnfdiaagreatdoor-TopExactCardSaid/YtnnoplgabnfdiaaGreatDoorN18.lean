/- Part 18 of a proof over the shadow machine. -/
import Derived.Test.YtnnoplgabnfdiaaGreatDoorN17
/- The shadow machine over this program: the one line of a loan that is paid back at once. -/
namespace Go.Proofs.YtnnoplgabnfdiaaGreatDoor.Sh
open Go Go.RowKit
set_option linter.unusedVariables false
set_option linter.unusedSimpArgs false
set_option maxRecDepth 100000
set_option maxHeartbeats 4000000
theorem wholeB_b {ct : Int} (h : 1 ≤ ct ∧ ct ≤ 3) : 360000000000 ≤ wholeB ct ∧ wholeB ct ≤ 133590000000000 := by
  have := wholeF_or h; unfold wholeB; omega
theorem halfB_b {ct rd : Int} (h : 1 ≤ ct ∧ ct ≤ 3) : 0 ≤ halfB ct rd ∧ halfB ct rd < wholeB ct := by
  have := wholeB_b h
  unfold halfB
  cases rd == 1
  · exact ⟨by simp, by simp; omega⟩
  · exact ⟨by simp; omega, by simp; omega⟩
theorem BC_of {p : PR} (hp : OKP p) {s b r q : Int} (hs : -halfB p.ct p.rd ≤ s ∧ s < wholeB p.ct - halfB p.ct p.rd) (hb : 0 ≤ b ∧ b ≤ 20000) (hr : 0 ≤ r ∧ r ≤ 1000000000) (hq : 0 ≤ q ∧ q ≤ 133590) : BCP p s b r q := by
  have hW := wholeB_b hp.ct
  have hH := halfB_b (rd := p.rd) hp.ct
  have h1 : 0 ≤ b * r := Int.mul_nonneg hb.1 hr.1
  have h2 : b * r ≤ 20000 * 1000000000 := Int.mul_le_mul hb.2 hr.2 hr.1 (by omega)
  have h3 : 0 ≤ b * r * q := Int.mul_nonneg h1 hq.1
  have h4 : b * r * q ≤ (20000 * 1000000000) * 133590 := Int.mul_le_mul h2 hq.2 hq.1 (by omega)
  refine ⟨by omega, hH, hs, by omega, hr, by omega, by omega, by omega, ?_⟩
  exact Int.ediv_le_of_le_mul (by omega) (by omega)
/-- What makes lines. -/
def makL (p : PR) (amount inst left : Int) : AO := .lit 1 [.str p.nm, .int .i64 p.ct, .int .i64 p.rd, .int .i64 p.kd, .int .i64 p.ev, .int .i64 p.tm, .int .i64 p.gr, .int .i64 p.rt, .ro 0 0 (some 0) fun _ => [], .int .i64 p.pn, .int .i64 p.o0, .int .i64 p.o1, .int .i64 p.o2, .int .i64 p.o3, .int .i64 p.ov, .ro 2 p.ln none fun i => [.int .i64 (p.ld i), .int .i64 (p.lf i)], .int .i64 p.cp, .int .i64 p.rl, .ro 0 0 (some 0) fun _ => [], .int .i64 amount, .int .i64 inst, .int .i64 left, .ptr 2 1 1 0 0]
def bearL (p : PR) (s : Int) : AO := .lit 1 [.int .i64 (wholeB p.ct), .int .i64 (halfB p.ct p.rd), .int .i64 s]
/-- What a bearer bears, as a call that writes to it. -/
def bearRun (o : Nat) (vs : List AV) (x : AO) (_ : List AO) : Option (List Prop × AV × AO) := match x with
  | .lit 1 [.int .i64 W, .int .i64 H, .int .i64 s] => match vs with
    | [.ptr o' 1 1 0 0, .int .i64 b, .int .i64 r, .int .i64 q] => bif Nat.beq o' o then some ([BC W H s b r q], .tup [.int .i64 (bornV W H s b r q), .cint .i64 0], .lit 1 [.int .i64 W, .int .i64 H, .int .i64 (bornR W H s b r q)]) else none
    | _ => none
  | _ => none
def S25 : SEnv := [(287, ⟨5, 2, true, bearRun 2⟩)]
theorem S25_ok : SOK Tryz.prog S25 := ⟨mk_ok, fun f N o w run hS vs h ob r x hl ho hr hob => by
  unfold S25 SEnv.get at hS
  cases hf : (287 == f) with
  | false => rw [hf] at hS; simp [SEnv.get] at hS
  | true =>
    rw [hf] at hS
    simp only [cond_true, Option.some.injEq, SS.mk.injEq] at hS
    obtain ⟨rfl, rfl, rfl, rfl⟩ := hS
    have e : f = 287 := (by simpa using hf : 287 = f).symm
    subst e
    match h, hl with
    | [x0, x1, x2, x3, x4], _ =>
      unfold bearRun at hr
      simp only [nth] at hr
      split at hr
      · rename_i W H s0 hlen
        split at hr
        · rename_i o' b r' q
          cases hb : Nat.beq o' 2 with
          | false => rw [hb] at hr; simp at hr
          | true =>
            rw [hb] at hr
            simp only [cond_true, Option.some.injEq, Prod.mk.injEq] at hr
            obtain ⟨rfl, rfl, rfl⟩ := hr
            have e := Nat.eq_of_beq_eq_true hb
            subst e
            refine kept_of2 (h := [x0, x1, _, x3, x4]) rfl (.inl rfl) (fun o ho => ?_) ((bear287_2_5 x0 x1 x3 x4 W H s0 b r' q hob).mono fun r1 h1 ⟨e1, e2⟩ => ⟨e1, _, e2⟩)
            match o, ho with
            | 0, _ => exact .inl rfl
            | 1, _ => exact .inl rfl
            | 2, _ => exact .inr rfl
            | 3, _ => exact .inl rfl
            | 4, _ => exact .inl rfl
        · simp at hr
      · simp at hr, fun f o w run hS => by
  unfold S25 SEnv.get at hS
  cases hf : (287 == f) <;> rw [hf] at hS <;> simp [SEnv.get] at hS⟩
theorem line310B (x0 x3 : AO) (p : PR) (hp : OKP p) (hk : p.kd = 3) (ht : p.tm = 1) (a d q : Int) (ha : 1 ≤ a ∧ a ≤ 10000) (hq : 0 ≤ q ∧ q ≤ 133590) : SCall Tryz.prog 310 [.ptr 1 1 1 0 0, .int .i64 0, .int .i64 d, .int .i64 q] [x0, makL p a 0 a, bearL p 0, x3] fun r h' => r = .ret (.tup [.agg [.int .i64 d, .int .i64 a, .int .i64 (bornV (wholeB p.ct) (halfB p.ct p.rd) 0 a p.rt q), .int .i64 0], .cint .i64 0]) ∧ ∃ t, h' = [x0, makL p a 0 0, bearL p (bornR (wholeB p.ct) (halfB p.ct p.rd) 0 a p.rt q), x3] ++ t := by
  have hC : BC (wholeB p.ct) (halfB p.ct p.rd) 0 a p.rt q := BC_of hp (by have := halfB_b (rd := p.rd) hp.ct; omega) (by omega) hp.rt hq
  refine scall_of (cfgS_ok env_nil S25_ok 4) Tryz.func310 (by kernel_rfl) rfl ?_
  generalize hK : (fun (r : AR) (h' : List AO) => r = .ret (.tup [.agg [.int .i64 d, .int .i64 a, .int .i64 (bornV (wholeB p.ct) (halfB p.ct p.rd) 0 a p.rt q), .int .i64 0], .cint .i64 0]) ∧ ∃ t, h' = [x0, makL p a 0 0, bearL p (bornR (wholeB p.ct) (halfB p.ct p.rd) 0 a p.rt q), x3] ++ t) = K
  conv => whnf
  refine ⟨[], by kernel_rfl, ?_⟩
  conv => whnf
  refine ⟨hC, ?_⟩
  conv => whnf
  refine scall_of (cfg_ok env_nil 5) Tryz.func319 (by kernel_rfl) rfl ?_
  conv => whnf
  refine bf (by rw [hp.gr]; rfl) ?_
  conv => whnf
  refine bt (by rw [ht]; rfl) ?_
  conv => whnf
  refine bf (by simp; omega) ?_
  conv => whnf
  refine bf (by rw [hk]; rfl) ?_
  conv => whnf
  subst hK
  rw [show IntKind.i64.wrap (a - a) = 0 from by rw [Int.sub_self]; rfl]
  exact ⟨rfl, _, rfl⟩
theorem line310A (x0 x3 : AO) (p : PR) (hp : OKP p) (hk : p.kd = 1) (k d q inst left a s part v : Int) (hC : BC (wholeB p.ct) (halfB p.ct p.rd) s left p.rt q) (hi : 0 ≤ inst ∧ inst ≤ 1000000000000000) (hv : v = bornV (wholeB p.ct) (halfB p.ct p.rd) s left p.rt q) (hv0 : 0 ≤ v) (hk0 : 0 ≤ k) (hpart : part = bif k == p.tm - 1 then left else if left < inst - v then left else inst - v) (h0 : 0 ≤ part ∧ part ≤ left) (hl : k = p.tm - 1 → -p.tm ≤ part + v - inst ∧ part + v - inst ≤ p.tm) : SCall Tryz.prog 310 [.ptr 1 1 1 0 0, .int .i64 k, .int .i64 d, .int .i64 q] [x0, makL p a inst left, bearL p s, x3] fun r h' => r = .ret (.tup [.agg [.int .i64 d, .int .i64 part, .int .i64 v, .int .i64 (left - part)], .cint .i64 0]) ∧ ∃ t, h' = [x0, makL p a inst (left - part), bearL p (bornR (wholeB p.ct) (halfB p.ct p.rd) s left p.rt q), x3] ++ t := by
  have hv1 := hC.hv
  have hb := hC.hb
  have htm := hp.tm
  have hvb : v ≤ 1000000000000000 := by rw [hv]; exact hv1
  refine scall_of (cfgS_ok env_nil S25_ok 4) Tryz.func310 (by kernel_rfl) rfl ?_
  generalize hK : (fun (r : AR) (h' : List AO) => r = .ret (.tup [.agg [.int .i64 d, .int .i64 part, .int .i64 v, .int .i64 (left - part)], .cint .i64 0]) ∧ ∃ t, h' = [x0, makL p a inst (left - part), bearL p (bornR (wholeB p.ct) (halfB p.ct p.rd) s left p.rt q), x3] ++ t) = K
  conv => whnf
  refine ⟨[], by kernel_rfl, ?_⟩
  conv => whnf
  refine ⟨hC, ?_⟩
  rw [← hv]
  conv => whnf
  refine scall_of (cfg_ok env_nil 5) Tryz.func319 (by kernel_rfl) rfl ?_
  conv => whnf
  refine bf (by rw [hp.gr]; exact decide_eq_false (by omega)) ?_
  conv => whnf
  have hw1 : IntKind.i64.wrap (p.tm - 1) = p.tm - 1 := w64 (by omega) (by omega)
  have fin : ∀ K0 : Bool, K0 = (bif (bif p.kd == 1 then k == IntKind.i64.wrap (p.tm - 1) else false) then decide ((if IntKind.i64.wrap (IntKind.i64.wrap (part + v) - inst) < IntKind.i64.wrap (0 - IntKind.i64.wrap (IntKind.i64.wrap (part + v) - inst)) then IntKind.i64.wrap (0 - IntKind.i64.wrap (IntKind.i64.wrap (part + v) - inst)) else IntKind.i64.wrap (IntKind.i64.wrap (part + v) - inst)) > p.tm) else false) → K0 = false := fun K0 e => by
    rw [e, hw1, hk, w64 (n := part + v) (by omega) (by omega), w64 (n := part + v - inst) (by omega) (by omega), w64 (n := 0 - (part + v - inst)) (by omega) (by omega)]
    by_cases hkk : k = p.tm - 1
    · have := hl hkk
      simp [hkk]
      split <;> omega
    · simp [hkk]
  refine bsplit (fun h => ?_) (fun h => ?_)
  · have hpl : part = left := by rw [hpart]; rw [hw1] at h; rw [h]; rfl
    conv => whnf
    refine bf (by exact decide_eq_false (by omega)) ?_
    rw [← hpl]
    conv => whnf
    refine bf (fin _ rfl) ?_
    conv => whnf
    subst hK
    rw [w64 (n := part - part) (by omega) (by omega), hpl]
    exact ⟨rfl, _, rfl⟩
  · have hpl : part = if left < IntKind.i64.wrap (inst - v) then left else IntKind.i64.wrap (inst - v) := by rw [hpart, w64 (n := inst - v) (by omega) (by omega)]; rw [hw1] at h; rw [h]; rfl
    conv => whnf
    refine bt (by rw [hk]; rfl) ?_
    conv => whnf
    refine ⟨[], by kernel_rfl, ?_⟩
    conv => whnf
    rw [← hpl]
    refine bf (by exact decide_eq_false (by omega)) ?_
    conv => whnf
    refine bf (fin _ rfl) ?_
    conv => whnf
    subst hK
    rw [w64 (n := left - part) (by omega) (by omega)]
    exact ⟨rfl, _, rfl⟩
end Go.Proofs.YtnnoplgabnfdiaaGreatDoor.Sh
/- The shadow machine over this program: a schedule. -/
namespace Go.Proofs.YtnnoplgabnfdiaaGreatDoor.Sh
open Go Go.RowKit
set_option linter.unusedVariables false
set_option linter.unusedSimpArgs false
set_option maxRecDepth 100000
set_option maxHeartbeats 4000000
def partsQ8 : QSpec := prQ1 (fun p n => SHP p ∧ n = 19723) (fun p n => .tup [.ro 1 p.tm.toNat none (partRV p), .int .i64 0])
def envW1 : Env := [(144, daysQ), (308, partsQ8)]
theorem envW1_ok : EnvOK Tryz.prog envW1 := env_cons days144 (env_cons parts308 env_nil)
def lineRV (p : PR) (PP V L : Nat → Int) : Nat → List RV := fun i => [.int .i64 (dueF (p.ev * ((i : Int) + 1))), .int .i64 (PP i), .int .i64 (V i), .int .i64 (L (i + 1))]
def LinesOK (p : PR) (a inst : Int) (L S PP V : Nat → Int) : Prop := ∀ i, i < p.tm.toNat → ∀ x0 x3, SCall Tryz.prog 310 [.ptr 1 1 1 0 0, .int .i64 (i : Int), .int .i64 (dueF (p.ev * ((i : Int) + 1))), .int .i64 (partF p i)] [x0, makL p a inst (L i), bearL p (S i), x3] fun r h' => r = .ret (.tup [.agg [.int .i64 (dueF (p.ev * ((i : Int) + 1))), .int .i64 (PP i), .int .i64 (V i), .int .i64 (L (i + 1))], .cint .i64 0]) ∧ ∃ t, h' = [x0, makL p a inst (L (i + 1)), bearL p (S (i + 1)), x3] ++ t
theorem linesK {p : PR} {a inst : Int} {L S PP V : Nat → Int} (HL : LinesOK p a inst L S PP V) (i : Nat) (hi : i < p.tm.toNat) (x0 x3 : AO) : SCall Tryz.prog 310 [.ptr 1 1 1 0 0, .int .i64 (i : Int), .int .i64 (dueF (p.ev * ((i : Int) + 1))), .int .i64 (partF p i)] [x0, makL p a inst (L i), bearL p (S i), x3] fun r h' => r = .ret (.tup [.agg [.int .i64 (dueF (p.ev * ((i : Int) + 1))), .int .i64 (PP i), .int .i64 (V i), .int .i64 (L (i + 1))], .cint .i64 0]) ∧ h' = [x0, makL p a inst (L (i + 1)), bearL p (S (i + 1)), x3] := by
  refine kept_of2 (h := [x0, makL p a inst (L i), bearL p (S i), x3]) rfl (.inl rfl) (fun o ho => ?_) (HL i hi x0 x3)
  match o, ho with
  | 0, _ => exact .inl rfl
  | 1, _ => exact .inr rfl
  | 2, _ => exact .inr rfl
  | 3, _ => exact .inl rfl
theorem of301_b (p : PR) (a : Int) (hp : SHP p) (hk : p.kd = 3) (ha : 1 ≤ a ∧ a ≤ 10000) (L S PP V : Nat → Int) (h0 : L 0 = a) (h1 : S 0 = 0) (HL : LinesOK p a 0 L S PP V) : SCall Tryz.prog 301 [p.av, .int .i64 19723, .int .i64 a] [] (Told (.tup [.ro 4 p.tm.toNat none (lineRV p PP V L), .int .i64 0])) := by
  have hE := hp.sh
  refine scall_of (cfg_ok envW1_ok 0) Tryz.func301 (by kernel_rfl) rfl ?_
  generalize hK : Told _ = K
  conv => whnf
  refine ⟨⟨⟨rfl, rfl, rfl⟩, hp, rfl⟩, ?_⟩
  conv => whnf
  refine bf (by rw [show decide (a < 1) = false from decide_eq_false (by omega)]; exact decide_eq_false (by omega)) ?_
  conv => whnf
  refine ⟨⟨⟨rfl, rfl, rfl⟩, hp, rfl⟩, ?_⟩
  conv => whnf
  refine bf (by rw [hk]; rfl) ?_
  conv => whnf
  refine (new302_2 _ _ p.ct p.rd hp.ok.ct hp.ok.rd).mono fun r h' ⟨e1, e2⟩ => ?_
  subst e1 e2
  conv => whnf
  refine .inr ⟨[(14, 4)], [10, 13, 14, 74, 75, 76], 4, fun m s => ∃ (i : Nat), m = p.tm.toNat - i ∧ i ≤ p.tm.toNat ∧ s = ⟨List.replicate 10 .top ++ .ro 1 p.tm.toNat none (partRV p) :: .top :: .top :: .fn 310 [.ptr 1 1 1 0 0] [] :: .sl 3 4 0 i none :: (List.replicate 59 .top ++ .ro 1 p.tm.toNat none (dueRV p) :: .int .i64 p.tm.toNat :: .int .i64 i :: List.replicate 24 .top), [.lit 1 p.cells, makL p a 0 (L i), bearL p (S i), .rows 4 i fun i => (lineRV p PP V L i).map RV.av]⟩, by decide, ⟨_, _, ?_, 0, rfl, Nat.zero_le _, rfl⟩, ?_⟩
  · rw [h0, h1]
    exact ⟨rfl, rfl, fun o ho => match o, ho with
      | 0, _ => rfl
      | 1, _ => rfl
      | 2, _ => rfl
      | 3, _ => ⟨rfl, rfl, fun i hi => absurd hi (by omega)⟩⟩
  rintro m s ⟨i, rfl, hi, rfl⟩
  conv => whnf
  refine bsplit (fun h => ?_) (fun h => ?_)
  · have hlt : i < p.tm.toNat := by have := of_decide_eq_true h; omega
    conv => whnf
    refine ⟨⟨by omega, by omega⟩, ?_⟩
    rw [show ((i : Int)).toNat = i from by omega]
    conv => whnf
    refine ⟨⟨by omega, by omega⟩, ?_⟩
    rw [show ((i : Int)).toNat = i from by omega]
    conv => whnf
    refine (linesK HL i hlt _ _).mono fun r h' ⟨e1, e2⟩ => ?_
    subst e1 e2
    conv => whnf
    refine ⟨⟨rfl, show (i + 1) * 32 ≤ 140737488355328 from by rcases hE with e | e <;> omega, fun i hi => ⟨rfl, rfl⟩⟩, ?_⟩
    conv => whnf
    refine ⟨p.tm.toNat - (i + 1), _, by omega, ?_, i + 1, rfl, by omega, rfl⟩
    rw [show ((i + 1 : Nat) : Int) = IntKind.i64.wrap ((i : Int) + 1) from by rw [w64 (by omega) (by rcases hE with e | e <;> omega)]; rfl]
    refine ⟨rfl, rfl, fun o ho => match o, ho with
      | 0, _ => rfl
      | 1, _ => rfl
      | 2, _ => rfl
      | 3, _ => ⟨rfl, rfl, fun r hr => ?_⟩⟩
    have key : ∀ b : Bool, b = decide (r < i) → merges b (((lineRV p PP V L r).map RV.av).map (kill0 3)) (([AV.int .i64 (dueF (p.ev * ((i : Int) + 1))), .int .i64 (PP i), .int .i64 (V i), .int .i64 (L (i + 1))]).map (kill0 3)) = (lineRV p PP V L r).map RV.av := fun b e => by
      by_cases h : r < i
      · rw [e, decide_eq_true h]; rfl
      · have : r = i := by omega
        subst this; rw [e, decide_eq_false h]; rfl
    exact key _ rfl
  · conv => whnf
    subst hK
    have hii : i = p.tm.toNat := by have := of_decide_eq_false h; omega
    subst hii
    refine told_of (show 0 + p.tm.toNat ≤ p.tm.toNat from by omega) ?_
    show AV.tup [AV.ro 4 p.tm.toNat none (fun i => ((lineRV p PP V L (0 + i)).map RV.av).map AV.rv), AV.int .i64 0] = _
    congr 3
    funext i
    rw [Nat.zero_add]; rfl
theorem of301_a (p : PR) (a inst : Int) (hp : SHP p) (hk : p.kd = 1) (HI : ∀ x0 x1, SCall Tryz.prog 309 [p.av, .ro 1 p.tm.toNat none (partRV p), .int .i64 a] [x0, x1] fun r h' => r = .ret (.tup [.int .i64 inst, .int .i64 0]) ∧ h' = [x0, x1]) (ha : 1 ≤ a ∧ a ≤ 10000) (L S PP V : Nat → Int) (h0 : L 0 = a) (h1 : S 0 = 0) (HL : LinesOK p a inst L S PP V) : SCall Tryz.prog 301 [p.av, .int .i64 19723, .int .i64 a] [] (Told (.tup [.ro 4 p.tm.toNat none (lineRV p PP V L), .int .i64 0])) := by
  have hE := hp.sh
  refine scall_of (cfg_ok envW1_ok 0) Tryz.func301 (by kernel_rfl) rfl ?_
  generalize hK : Told _ = K
  conv => whnf
  refine ⟨⟨⟨rfl, rfl, rfl⟩, hp, rfl⟩, ?_⟩
  conv => whnf
  refine bf (by rw [show decide (a < 1) = false from decide_eq_false (by omega)]; exact decide_eq_false (by omega)) ?_
  conv => whnf
  refine ⟨⟨⟨rfl, rfl, rfl⟩, hp, rfl⟩, ?_⟩
  conv => whnf
  refine bt (by rw [hk]; rfl) ?_
  conv => whnf
  refine (HI _ _).mono fun r h' ⟨e1, e2⟩ => ?_
  subst e1 e2
  conv => whnf
  refine (new302_2 _ _ p.ct p.rd hp.ok.ct hp.ok.rd).mono fun r h' ⟨e1, e2⟩ => ?_
  subst e1 e2
  conv => whnf
  refine .inr ⟨[(14, 4)], [10, 13, 14, 74, 75, 76], 4, fun m s => ∃ (i : Nat), m = p.tm.toNat - i ∧ i ≤ p.tm.toNat ∧ s = ⟨List.replicate 10 .top ++ .ro 1 p.tm.toNat none (partRV p) :: .top :: .top :: .fn 310 [.ptr 1 1 1 0 0] [] :: .sl 3 4 0 i none :: (List.replicate 59 .top ++ .ro 1 p.tm.toNat none (dueRV p) :: .int .i64 p.tm.toNat :: .int .i64 i :: List.replicate 24 .top), [.lit 1 p.cells, makL p a inst (L i), bearL p (S i), .rows 4 i fun i => (lineRV p PP V L i).map RV.av]⟩, by decide, ⟨_, _, ?_, 0, rfl, Nat.zero_le _, rfl⟩, ?_⟩
  · rw [h0, h1]
    exact ⟨rfl, rfl, fun o ho => match o, ho with
      | 0, _ => rfl
      | 1, _ => rfl
      | 2, _ => rfl
      | 3, _ => ⟨rfl, rfl, fun i hi => absurd hi (by omega)⟩⟩
  rintro m s ⟨i, rfl, hi, rfl⟩
  conv => whnf
  refine bsplit (fun h => ?_) (fun h => ?_)
  · have hlt : i < p.tm.toNat := by have := of_decide_eq_true h; omega
    conv => whnf
    refine ⟨⟨by omega, by omega⟩, ?_⟩
    rw [show ((i : Int)).toNat = i from by omega]
    conv => whnf
    refine ⟨⟨by omega, by omega⟩, ?_⟩
    rw [show ((i : Int)).toNat = i from by omega]
    conv => whnf
    refine (linesK HL i hlt _ _).mono fun r h' ⟨e1, e2⟩ => ?_
    subst e1 e2
    conv => whnf
    refine ⟨⟨rfl, show (i + 1) * 32 ≤ 140737488355328 from by rcases hE with e | e <;> omega, fun i hi => ⟨rfl, rfl⟩⟩, ?_⟩
    conv => whnf
    refine ⟨p.tm.toNat - (i + 1), _, by omega, ?_, i + 1, rfl, by omega, rfl⟩
    rw [show ((i + 1 : Nat) : Int) = IntKind.i64.wrap ((i : Int) + 1) from by rw [w64 (by omega) (by rcases hE with e | e <;> omega)]; rfl]
    refine ⟨rfl, rfl, fun o ho => match o, ho with
      | 0, _ => rfl
      | 1, _ => rfl
      | 2, _ => rfl
      | 3, _ => ⟨rfl, rfl, fun r hr => ?_⟩⟩
    have key : ∀ b : Bool, b = decide (r < i) → merges b (((lineRV p PP V L r).map RV.av).map (kill0 3)) (([AV.int .i64 (dueF (p.ev * ((i : Int) + 1))), .int .i64 (PP i), .int .i64 (V i), .int .i64 (L (i + 1))]).map (kill0 3)) = (lineRV p PP V L r).map RV.av := fun b e => by
      by_cases h : r < i
      · rw [e, decide_eq_true h]; rfl
      · have : r = i := by omega
        subst this; rw [e, decide_eq_false h]; rfl
    exact key _ rfl
  · conv => whnf
    subst hK
    have hii : i = p.tm.toNat := by have := of_decide_eq_false h; omega
    subst hii
    refine told_of (show 0 + p.tm.toNat ≤ p.tm.toNat from by omega) ?_
    show AV.tup [AV.ro 4 p.tm.toNat none (fun i => ((lineRV p PP V L (0 + i)).map RV.av).map AV.rv), AV.int .i64 0] = _
    congr 3
    funext i
    rw [Nat.zero_add]; rfl
end Go.Proofs.YtnnoplgabnfdiaaGreatDoor.Sh
/- The shadow machine: what a call leaves whose result stays, where the other objects may be whatever they are. -/
namespace Go.Proofs.YtnnoplgabnfdiaaGreatDoor.Sh
open Go Go.RowKit
set_option linter.unusedVariables false
set_option linter.unusedSimpArgs false
section
variable {P : Program} {h : List AO}
/-- What is left of a call: its result stays, of its memory the first objects are kept, each as it was, or one that shows what it holds. -/
def Kept3 (n : Nat) (h1 : List AO) (r : AV) (r' : AR) (h' : List AO) : Prop := (∃ t, h' = h1 ++ t) ∧ match r' with
  | .ret r' => conj (frObR (lookN n h') r') ∧ Wk (freezeR (lookN n h') r') r
  | .pan _ => False
theorem kept_of3 {f : FuncId} {vs : List AV} {h1 : List AO} {r : AV} (hl : h1.length = h.length) (ho : ∀ o, o < h.length → nth .free h1 o = nth .free h o ∨ belowO h.length (nth .free h1 o) = nth .free h1 o)
    (H : SCall P f vs h (Kept3 h.length h1 r)) : SCall P f vs h fun r' h' => r' = .ret r ∧ h' = h1 := fun B0 w0 w Fz g args hH hlen hv => by
  refine (H B0 w0 w Fz g args hH hlen hv).mono fun e w' ⟨r', c, h', Fz', g', he, hk, hr, H', hon⟩ => ?_
  obtain ⟨⟨t, e2⟩, hk⟩ := hk
  cases r' with
  | pan v => exact hk.elim
  | ret r' =>
    subst e2
    obtain ⟨hk2, hk3⟩ := hk
    have hn : ∀ o, o < h.length → nth .free (h1 ++ t) o = nth .free h1 o := fun o ho => by rw [nth_append, if_pos (by omega)]
    have hHas : ∀ o b, o < h1.length → Has (cutG h.length g') o (nth .free h1 o) b → Has g' o (nth .free (h1 ++ t) o) b := fun o b ho hh => by
      rw [hn o (by omega)]
      exact (Has.eq (show cutG h.length g' o = g' o by unfold cutG; rw [if_pos (by omega)])).mp hh
    have hlt : ∀ o, o < h1.length → o < (h1 ++ t).length := fun o ho => by simp; omega
    have H2 : HR B0 w0 w' Fz' (cutG h.length g') h1 := ⟨H'.below, H'.base, H'.fz, fun o ho' => by unfold cutG; rw [if_neg (by omega)], fun o ho' => by
      have hoo : o < h.length := by omega
      have h1o := H'.objs o (hlt o ho')
      rw [hn o hoo] at h1o
      rcases ho o hoo with e | e
      · have h0 := hH.objs o hoo
        rw [← e] at h0
        exact or_cut (fun o ho => hH.free o ho) hoo h1o h0
      · exact or_below hoo e h1o, fun o b ho' hh => H'.own o b (hlt o ho') (hHas o b ho' hh), fun o o' b h1' h2' hh hh' => H'.sep o o' b (hlt o h1') (hlt o' h2') (hHas o b h1' hh) (hHas o' b h2' hh'), H'.gl⟩
    let F2 : Nat → Prop := fun b => Fz' b ∨ ∃ o, h.length ≤ o ∧ o < (h1 ++ t).length ∧ Has g' o (nth .free (h1 ++ t) o) b
    have hlk : ∀ o, lookN h.length (h1 ++ t) o = nth .free (h1 ++ t) o ∨ lookN h.length (h1 ++ t) o = .free := fun o => by
      unfold lookN
      cases Nat.blt o h.length with
      | true => exact .inr rfl
      | false => exact .inl rfl
    have hvr : VR w' F2 (cutG h.length g') (freezeR (lookN h.length (h1 ++ t)) r') c := freezeR_vr hlk H' (fun b hb => .inl hb) (fun o b ho hl hh => by
      rcases Nat.lt_or_ge o h.length with e | e
      · exfalso
        unfold lookN at hl
        rw [blt_t e, cond_true] at hl
        rw [← hl] at hh
        exact hh
      · exact .inr ⟨o, e, ho, hh⟩) hk2 hr
    have H3 : HR B0 w0 w' F2 (cutG h.length g') h1 := H2.more (fun b hb => .inl hb) (fun b hb => by
      rcases hb with hb | ⟨o, e1, e2, hh⟩
      · exact H'.fz b hb
      · exact (H'.own o b e2 hh).2.1) (fun o b ho hh hf => by
      rcases hf with hf | ⟨o2, e1, e2, hh2⟩
      · exact (H'.own o b (hlt o ho) (hHas o b ho hh)).2.2 hf
      · have := H'.sep o o2 b (hlt o ho) e2 (hHas o b ho hh) hh2; omega)
    refine ⟨.ret r, c, h1, F2, cutG h.length g', he, ⟨rfl, rfl⟩, ?_, H3, ⟨hon.same, fun b hb => .inl (hon.fz b hb), fun o x hx => ?_, fun b hb => ?_, hon.size, fun o b κ hb => ?_⟩⟩
    · exact hk3 _ _ _ _ hvr
    · have hoo : o < h.length := by
        rcases Nat.lt_or_ge o h.length with e | e
        · exact e
        · rw [hH.free o e] at hx; cases hx
      exact cut_at hoo (hon.gh o x hx)
    · rcases hb with hb | ⟨o, e1, e2, hh⟩
      · exact hon.new b hb
      · rcases hon.newg o b _ (Has.gh hh) with x | x | x
        · rw [hH.free o e1] at x; cases x
        · exact .inr x
        · have h1 := (H'.own o b e2 hh).1
          have h2 := H'.gl.1
          omega
    · unfold cutG at hb
      by_cases hoo : o < h.length
      · rw [if_pos hoo] at hb; exact hon.newg o b κ hb
      · rw [if_neg hoo] at hb; cases hb
end
end Go.Proofs.YtnnoplgabnfdiaaGreatDoor.Sh
/- The shadow machine: texts whose drawn regions end in operations that wait for all ahead of them. -/
namespace Go.Proofs.YtnnoplgabnfdiaaGreatDoor.Sh
open Go Go.RowKit
set_option linter.unusedVariables false
set_option linter.unusedSimpArgs false
def bitsTo (b : Nat) : Nat → Bool
  | 0 => true
  | i + 1 => hasBit b i && bitsTo b i
def tailRows (bs : List Nat) : Nat → Nat → Bool
  | 0, _ => true
  | k + 1, j => bitsTo (nth 0 bs j) j && tailRows bs k (j + 1)
/-- From the n-th on each waits for all ahead of it. -/
def tailOk (ops : Array Oper) (n : Nat) : Bool := Nat.blt n ops.size && ((ops.toList.take n).all (fun o => o.guard.isNone) && (staticFast (ops.toList.take n).toArray [] && (edgeRows ops.toList 0 && befMasks ops.toList [] fun bs => tailRows bs (ops.size - n) n)))
/-- Such a region may stand in a row of texts; all else goes its way as ever. -/
def awpU (c : Cfg) : Code → (EX → AState → Prop) → AState → Prop
  | .seq a b, K, s => awpU c a (fun e s' => match e with | .normal => awpU c b K s' | e => K e s') s
  | .region i ops d, K, s => match d with
    | false => awp c (.region i ops false) K s
    | true => (∃ n, tailOk ops n = true ∧ match s with
      | ⟨ts, h⟩ => fL fU1 ts fun ts => runDraw0 c (ops.toList.take n) (ops.toList.take n) h.length [] ts (h ++ List.replicate (allocs (ops.toList.take n)) .free) fun s' => match s' with
        | ⟨ts, h⟩ => runOps c (fun v s' => K (.panic v) s') ops.toList (ops.toList.drop n) [] ts h fun s' => K .normal s') ∨ awp c (.region i ops true) K s
  | code, K, s => awp c code K s
def afnU (c : Cfg) (fn : Func) (args : List AV) (h : List AO) (K : AR → List AO → Prop) : Prop :=
  match fn.body with
  | some b => fL f2 (args ++ List.replicate (fn.ntmps - args.length) .top) fun ts => awpU c b (fun e s => match e with
    | .exit _ => False
    | .panic v => K (.pan v) s.heap
    | _ => match retVal c.T fn s with
      | some r => K (.ret r) s.heap
      | none => False) ⟨ts, h⟩
  | none => False
theorem bitsTo_spec {b : Nat} : ∀ {n : Nat}, bitsTo b n = true → ∀ i, i < n → b.testBit i = true
  | 0, _, i, hi => by omega
  | n + 1, h, i, hi => by
    simp only [bitsTo, Bool.and_eq_true] at h
    by_cases e : i = n
    · subst e; exact hasBit_true h.1
    · exact bitsTo_spec h.2 i (by omega)
theorem tailRows_spec {bs : List Nat} : ∀ {k j : Nat}, tailRows bs k j = true → ∀ q, j ≤ q → q < j + k → ∀ i, i < q → (nth 0 bs q).testBit i = true
  | 0, j, _, q, h1, h2 => by omega
  | k + 1, j, h, q, h1, h2 => by
    simp only [tailRows, Bool.and_eq_true] at h
    by_cases e : q = j
    · subst e; exact bitsTo_spec h.1
    · exact tailRows_spec h.2 q (by omega) (by omega)
section
variable {P : Program} {c : Cfg} {E : En} {Q : Exit → Act → World → Prop} {ops : Array Oper} {sts : Nat → AState} {rs ws : Nat → List Nat}
theorem bef_down2 (hedge : ∀ (j : Nat) (o : Oper), ops[j]? = some o → ∀ e ∈ o.after.toList, Region.binds .any e = true → e.on < j) {L : Nat → Prop} (hL : ∀ (i : Nat) (o : Oper), L i → ops[i]? = some o → ∀ e ∈ o.after.toList, Region.binds .any e = true → L e.on) :
    ∀ (i k : Nat) (o : Oper), ops[i]? = some o → (∀ e ∈ o.after.toList, Region.binds .any e = true → L e.on) → k ∈ (befores ops.toList []).getD i [] → L k := by
  intro i
  induction i using Nat.strongRecOn with
  | _ i ih =>
    intro k o ho hr hk
    obtain ⟨e, he, hb, hk⟩ := before_step (all := ops.toList) (by simpa using ho) (hedge i o ho) hk
    have hlt := hedge i o ho e he hb
    rcases hk with rfl | hk
    · exact hr e he hb
    · have hlt2 : e.on < ops.size := by have := lt_of_get ho; omega
      obtain ⟨o', ho'⟩ : ∃ o', ops[e.on]? = some o' := ⟨_, Array.getElem?_eq_getElem hlt2⟩
      exact ih e.on hlt k o' ho' (hL e.on o' (hr e he hb) ho') hk
theorem set_iff {listed : Array Bool} {j : Nat} (hsz : listed.size = ops.size) (hjl : j < ops.size) (i : Nat) : (listed.setIfInBounds j true).getD i false = true ↔ (listed.getD i false = true ∨ i = j) := by
  simp only [Array.getD_eq_getD_getElem?, Array.getElem?_setIfInBounds]
  by_cases e : j = i
  · subst e; simp [hsz, hjl]
  · rw [if_neg e]; constructor
    · exact .inl
    · rintro (h | h)
      · exact h
      · exact absurd h.symm e
theorem tail_any (hedge : ∀ (j : Nat) (o : Oper), ops[j]? = some o → ∀ e ∈ o.after.toList, Region.binds .any e = true → e.on < j) {n : Nat} (hT : ∀ j, n ≤ j → j < ops.size → ∀ i, i < j → i ∈ (befores ops.toList []).getD j []) :
    ∀ (k j : Nat) (listed : Array Bool) (a : Act) (w : World), j + k = ops.size → listed.size = ops.size → (∀ i, listed.getD i false = true ↔ i < j) → n ≤ j → wpOps P ops Q (List.range' j k) a w → wpAny P .any ops Q k listed a w
  | 0, j, listed, a, w, hjk, hsz, hl, hn, h => by
    refine ⟨?_, h⟩
    apply List.eq_nil_iff_forall_not_mem.mpr
    intro i hi
    obtain ⟨o, ho, hli, _⟩ := ready_mem hi
    have hlt := lt_of_get ho
    have : listed.getD i true = listed.getD i false := by simp [Array.getD, hsz, hlt]
    rw [this] at hli
    have := (hl i).mpr (by omega)
    rw [hli] at this
    cases this
  | k + 1, j, listed, a, w, hjk, hsz, hl, hn, h => by
    have hjl : j < ops.size := by omega
    have hoj : ops[j]? = some ops[j] := Array.getElem?_eq_getElem hjl
    have hd : ∀ i, i < ops.size → listed.getD i true = listed.getD i false := fun i hi => by simp [Array.getD, hsz, hi]
    have hjf : listed.getD j false = false := by
      cases hq : listed.getD j false with
      | false => rfl
      | true => have := (hl j).mp hq; omega
    have hjr : j ∈ Region.ready .any ops listed := mem_ready hoj (by rw [hd j hjl]; exact hjf) fun e he hb => (hl _).mpr (hedge j _ hoj e he hb)
    refine ⟨fun hr => (by rw [hr] at hjr; simp at hjr), fun i hi => ?_⟩
    obtain ⟨o, ho, hli, hre⟩ := ready_mem hi
    have hil := lt_of_get ho
    rw [hd i hil] at hli
    have hij : i = j := by
      by_cases e : i = j
      · exact e
      · exfalso
        have hge : j ≤ i := by
          rcases Nat.lt_or_ge i j with h' | h'
          · have := (hl i).mpr h'; rw [hli] at this; cases this
          · exact h'
        have hlt : j < i := by omega
        have := bef_down2 hedge (L := fun i => listed.getD i false = true) (fun q o' hq ho' e he hb => (hl _).mpr (by have h1 := hedge q o' ho' e he hb; have h2 := (hl q).mp hq; omega)) i j o ho hre (hT i (by omega) hil j hlt)
        rw [hjf] at this
        cases this
    subst hij
    rw [List.range'_succ, wpOps_cons] at h
    refine wpOp_mono (fun a' w' h' => ?_) h
    refine tail_any hedge hT k (i + 1) _ a' w' (by omega) (by simpa using hsz) (fun q => ?_) (by omega) h'
    rw [set_iff hsz hjl q, hl q]
    omega
theorem cnt_tail {f : Nat → Bool} {n : Nat} (h1 : ∀ i, i < n → f i = true) (h2 : ∀ i, n ≤ i → f i = false) : ∀ k, cnt f (n + k) = k
  | 0 => by
    have : ∀ m, m ≤ n → cnt f m = 0 := fun m => by
      induction m with
      | zero => intro _; rfl
      | succ m ih => intro hm; simp only [cnt]; rw [ih (by omega), h1 m (by omega)]; rfl
    exact this n (Nat.le_refl _)
  | k + 1 => by
    show cnt f (n + k) + (if f (n + k) then 0 else 1) = k + 1
    rw [cnt_tail h1 h2 k, h2 (n + k) (by omega)]
    rfl
theorem draw_tail (hc : CfgOK P c) (hb : E.base = c.base) {n : Nat} {pre : Array Oper} (hpre : ∀ i, i < n → pre[i]? = ops[i]?) (hps : pre.size = n) (hn : n < ops.size) (hst : Static pre []) (hng : ∀ (i : Nat) (o : Oper), pre[i]? = some o → o.guard = none)
    (hsteps : ∀ i, i < pre.size → ∃ o, pre[i]? = some o ∧ DStep c pre.toList o (sts i) (sts (i + 1)) (rs i) (ws i)) (h0 : ∀ x d b v, getTmp (sts 0) x ≠ .when d b v)
    (hedge : ∀ (j : Nat) (o : Oper), ops[j]? = some o → ∀ e ∈ o.after.toList, Region.binds .any e = true → e.on < j) (hT : ∀ j, n ≤ j → j < ops.size → ∀ i, i < j → i ∈ (befores ops.toList []).getD j [])
    (Kt : ∀ a w, St E ⟨(sts n).tmps.map AV.unguard, (sts n).heap⟩ a w → wpOps P ops Q (List.range' n (ops.size - n)) a w) :
    ∀ (fuel : Nat) (listed : Array Bool) (τ : AState) (a : Act) (w : World), listed.size = ops.size → cnt (fun i => listed.getD i false) ops.size = fuel → (∀ i, n ≤ i → listed.getD i false = false) → DInv pre sts ws (fun i => listed.getD i false = true) τ → St E τ a w → wpAny P .any ops Q fuel listed a w := by
  have hfl : ∀ i j, (i, j) ∈ ([] : List (Nat × Nat)) → (∀ x ∈ ws i, x ∉ rs j ∧ x ∉ ws j) ∧ ∀ x ∈ ws j, x ∉ rs i := fun i j h => by simp at h
  have getD_eq : ∀ {listed : Array Bool} {i : Nat}, listed.size = ops.size → i < ops.size → listed.getD i true = listed.getD i false := fun {l i} h hi => by
    simp [Array.getD, h, hi]
  intro fuel
  induction fuel with
  | zero =>
    intro listed τ a w hsz hcnt htl hI hs
    exfalso
    have := cnt_set (f := fun i => listed.getD i false) (g := fun k => listed.getD k false || k == n) (j := n) (htl n (Nat.le_refl _)) (by simp) (fun k hk => by simp [hk]) _ hn
    omega
  | succ fuel ih =>
    intro listed τ a w hsz hcnt htl hI hs
    have hdown : ∀ (i : Nat) (o : Oper), listed.getD i false = true → ops[i]? = some o → ∀ e ∈ o.after.toList, Region.binds .any e = true → listed.getD e.on false = true := fun i o hL ho => by
      have hin : i < n := by
        rcases Nat.lt_or_ge i n with h | h
        · exact h
        · rw [htl i h] at hL; cases hL
      exact hI.down i o hL (by rw [hpre i hin]; exact ho)
    refine ⟨fun hr => ?_, fun j hjr => ?_⟩
    · exfalso
      have hall : ∀ i, i < ops.size → listed.getD i false = true := by
        intro i
        induction i using Nat.strongRecOn with
        | _ i ih =>
          intro hi
          cases hl : listed.getD i false with
          | true => rfl
          | false =>
            exfalso
            have ho : ops[i]? = some ops[i] := Array.getElem?_eq_getElem hi
            have := mem_ready (listed := listed) ho (by rw [getD_eq hsz hi]; exact hl) (fun e he hbn => by
              have := hedge i _ ho e he hbn
              exact ih e.on this (by omega))
            rw [hr] at this; simp at this
      have := hall n hn
      rw [htl n (Nat.le_refl _)] at this
      cases this
    · obtain ⟨oj, hj, hl, hr⟩ := ready_mem hjr
      have hjl := lt_of_get hj
      rw [getD_eq hsz hjl] at hl
      have hnj : ¬ (listed.getD j false = true) := by rw [hl]; simp
      rcases Nat.lt_or_ge j n with hjn | hjn
      · have hjp : pre[j]? = some oj := by rw [hpre j hjn]; exact hj
        have next : ∀ τ' a' w', DInv pre sts ws (fun i => listed.getD i false = true ∨ i = j) τ' → St E τ' a' w' → wpAny P .any ops Q fuel (listed.setIfInBounds j true) a' w' := fun τ' a' w' hI' hs' => by
          refine ih _ τ' a' w' (by simpa using hsz) ?_ (fun i hi => ?_) ?_ hs'
          · have := cnt_set (f := fun i => listed.getD i false) (g := fun i => (listed.setIfInBounds j true).getD i false) (j := j) hl ((set_iff hsz hjl j).mpr (.inr rfl)) (fun i hi => by
              simp only [Array.getD_eq_getD_getElem?, Array.getElem?_setIfInBounds]
              rw [if_neg (fun e => hi e.symm)]) _ hjl
            omega
          · cases hq : (listed.setIfInBounds j true).getD i false with
            | false => rfl
            | true =>
              rcases (set_iff hsz hjl i).mp hq with h | h
              · rw [htl i hi] at h; cases h
              · omega
          · have : (fun i => (listed.setIfInBounds j true).getD i false = true) = (fun i => listed.getD i false = true ∨ i = j) := funext fun i => propext (set_iff hsz hjl i)
            rw [this]; exact hI'
        obtain ⟨oj', hj', hD⟩ := hsteps j (by omega)
        rw [hjp] at hj'; cases hj'
        obtain ⟨Fz, g, F, H, hon, hg⟩ := hs
        have agt : ∀ t, t ∈ usesOf pre.toList oj → getTmp τ t = getTmp (sts j) t := fun t ht => agree_tmp hst hsteps h0 hI hjp hnj hr (.inl ht)
        have agh : ∀ x, x ∈ rs j → nth .free τ.heap x = nth .free (sts j).heap x := fun x hx => agree_heap hst hsteps h0 hfl hI hjp hnj hr (.inl hx)
        have hlen : (sts j).heap.length = τ.heap.length := by rw [hI.hlen]; exact (can_len hst hsteps h0 j (by omega)).2
        have hgn := hng j oj hjp
        have hgs' : guardSlot ops.toList oj = some none := by unfold guardSlot; rw [hgn]
        unfold wpOp
        rw [hj]
        simp only
        rcases hD with ⟨hgs, nid, ob, val, upd, d1, d2, d3, d4, d5, d6, d7, d8⟩ | ⟨d, b, hgs, _⟩
        · rw [if_pos ((guard_wanted (a := a) hgs').1 rfl)]
          refine .inl ?_
          obtain ⟨k1, _⟩ := core_local (G := c.G) (T := c.T) (eqs := c.eqs) (base := c.base) (nid := nid) (ch := []) (s := sts j) (s' := τ) (op := oj.op) hlen (fun t ht => (agt t (List.mem_append.mpr (.inl ht))).symm) (fun x hx => (agh x (by rw [d6]; exact List.mem_append.mpr (.inr hx))).symm)
          have hcore : core c.G c.T c.eqs c.base oj.op [] τ nid = some ⟨ob, val, upd, none⟩ := by rw [← k1]; exact d1
          obtain ⟨nid', hcore', hnn, hf⟩ : ∃ nid', core c.G c.T c.eqs c.base oj.op [] τ nid' = some ⟨ob, val, upd, none⟩ ∧ nid' ≤ τ.heap.length ∧ nth .free τ.heap nid' = .free := by
            cases hal : isAlloc oj.op with
            | false => exact ⟨τ.heap.length, by rw [core_nid (m := nid) hal]; exact hcore, Nat.le_refl _, nth_length _⟩
            | true =>
              have hid : nid ∈ rs j := by rw [d6]; simp [idOf, hal]
              simp only [freeAt, hal, Bool.not_true, Bool.false_or, Bool.and_eq_true] at d2
              obtain ⟨f1, f2⟩ := d2
              refine ⟨nid, hcore, by have := blt_lt f1; omega, ?_⟩
              rw [agh nid hid]
              cases hq : nth .free (sts j).heap nid with
              | free => rfl
              | _ => rw [hq] at f2; simp at f2
          refine (core_goes hc.tab hc.eqs hc.st hc.env F H (Chained.nil a) hnn hf hcore' d5).1 rfl _ _ fun cc w' Fz' g' hv hH hon' => ?_
          have hvu : val.unguard = val := by
            have := vr_not_when hv
            cases val <;> first | rfl | exact absurd rfl (this _ _ _)
          rw [hvu] at d8
          exact next _ _ _ (DInv.step hst hsteps h0 hfl hI hjp hnj hr d8 d3 d7 (fun t d b v hvw => absurd hvw (unwhen_not (vr_not_when hv) d b v))) ⟨Fz', g', (hon'.fr F).put_vr oj.dst hv, hH, hon.trans hon', hg⟩
        · exfalso
          unfold guardSlot at hgs
          rw [hgn] at hgs
          cases hgs
      · have hbefore : ∀ i, i < j → listed.getD i false = true := fun i hi => bef_down2 hedge hdown j i oj hj hr (hT j hjn hjl i hi)
        have hjn' : j = n := by
          rcases Nat.lt_or_ge n j with h | h
          · have := hbefore n h
            rw [htl n (Nat.le_refl _)] at this
            cases this
          · omega
        subst hjn'
        have e1 : τ.tmps = (sts j).tmps := ext_nth .top _ _ (hI.len.trans (can_len hst hsteps h0 j (by omega)).1.symm) fun t => by
          obtain ⟨m, hm, he, hw⟩ := hI.tm t
          exact he.trans (can_tmp hst hsteps h0 hm (by omega) fun i o hi hd => by
            have h1 := hw i o hi hd
            have hip := lt_of_get hi
            have := h1.mp (hbefore i (by omega))
            omega)
        have e2 : τ.heap = (sts j).heap := ext_nth .free _ _ (hI.hlen.trans (can_len hst hsteps h0 j (by omega)).2.symm) fun t => by
          obtain ⟨m, hm, he, hw⟩ := hI.hp t
          exact he.trans (can_heap hst hsteps h0 hm (by omega) fun i hi hd => by
            have := (hw i hi hd).mp (hbefore i (by omega))
            omega)
        obtain ⟨Fz, g, F, H, hon, hg⟩ := hs
        have hK := Kt a w ⟨Fz, g, by rw [← e1]; exact F.unguard, by rw [← e2]; exact H, hon, hg⟩
        have hall : ∀ i, listed.getD i false = true ↔ i < j := fun i => ⟨fun h => by
          rcases Nat.lt_or_ge i j with h' | h'
          · exact h'
          · rw [htl i h'] at h; exact absurd h (by simp), hbefore i⟩
        have hfuel : fuel + 1 = ops.size - j := by
          have := cnt_tail (f := fun i => listed.getD i false) (n := j) (fun i hi => hbefore i hi) (fun i hi => htl i hi) (ops.size - j)
          rw [show j + (ops.size - j) = ops.size by omega] at this
          omega
        rw [← hfuel] at hK
        exact (tail_any hedge hT (fuel + 1) j listed a w (by omega) hsz hall (Nat.le_refl _) hK).2 j hjr
theorem awpU_sound {c : Cfg} (hc : CfgOK P c) (hb : E.base = c.base) : ∀ (code : Code) (K : EX → AState → Prop) (s : AState) (a : Act) (w : World) (Q : Exit → Act → World → Prop), awpU c code K s → St E s a w → (∀ e s' a' w' x, K e s' → StE E e s' a' w' x → Q x a' w') → code.wp P Q a w := by
  intro code
  induction code with
  | region id ops d =>
    intro K s a w Q h hs hk
    obtain ⟨ts, hp⟩ := s
    cases d with
    | false => exact awp_sound hc hb (.region id ops false) K ⟨ts, hp⟩ a w Q (by simpa only [awpU] using h) hs hk
    | true =>
      rcases h with ⟨n, htl, hr⟩ | h
      case inr => exact awp_sound hc hb (.region id ops true) K ⟨ts, hp⟩ a w Q h hs hk
      simp only [fL_map (g := AV.unguard) fU1_eq] at hr
      unfold tailOk at htl
      rw [Bool.and_eq_true, Bool.and_eq_true, Bool.and_eq_true, Bool.and_eq_true] at htl
      obtain ⟨t1, t2, t3, t4, t5⟩ := htl
      have hn := blt_lt t1
      have hpl : (ops.toList.take n).length = n := by simp; omega
      obtain ⟨bs, b1, b2⟩ := befMasks_spec _ [] [] _ rfl (fun j x hx => by simp [nth] at hx) t5
      refine wp_region_any hc.mixed ?_
      obtain ⟨sts, rs, ws, q1, q2, q3, q4, q5⟩ := runDraw_sts _ 0 _ _ [] _ _ _ (draw0 _ 0 _ _ [] _ _ _ hr)
      have hst' := static_of t3
      have hsteps : ∀ i, i < (ops.toList.take n).toArray.size → ∃ o, (ops.toList.take n).toArray[i]? = some o ∧ DStep c (ops.toList.take n).toArray.toList o (sts i) (sts (i + 1)) (rs i) (ws i) := fun i hi => by
        obtain ⟨o, a1, a2⟩ := q2 i (by simpa using hi)
        rw [Nat.zero_add] at a2
        exact ⟨o, by simpa using a1, a2⟩
      have h0 : ∀ x d b v, getTmp (sts 0) x ≠ .when d b v := fun x d b v e => by
        rw [q1] at e
        simp only [getTmp, map_top (f := AV.unguard) rfl] at e
        exact unguard_not _ d b v e
      rw [Nat.zero_add, hpl] at q5
      have hpre : ∀ i, i < n → (ops.toList.take n).toArray[i]? = ops[i]? := fun i hi => by
        simp [List.getElem?_take, hi]
      have hng : ∀ (i : Nat) (o : Oper), (ops.toList.take n).toArray[i]? = some o → o.guard = none := fun i o ho => by
        have hm : o ∈ ops.toList.take n := List.mem_of_getElem? (by simpa using ho)
        have := List.all_eq_true.mp t2 o hm
        simpa using this
      refine draw_tail (Q := Q) hc hb (sts := sts) (rs := rs) (ws := ws) hpre (by simpa using hpl) hn hst' hng hsteps h0 (fun j o hj e he hbn => by
          have := edgeRows_spec _ _ t4 j o (by simpa using hj) e he hbn
          omega) (fun j h1 h2 i hi => b2 j i (tailRows_spec b1 j h1 (by omega) i hi)) (fun a' w' hs' => ?_) ops.size _ (sts 0) a _ (by simp) ?_ (fun i hi => by simp [Array.getD]) ⟨rfl, rfl, fun t => ⟨0, by omega, rfl, fun i o hi hd => ?_⟩, fun x => ⟨0, by omega, rfl, fun i hi hx => ?_⟩, fun x d b v e => absurd e (h0 x d b v), fun i o hL ho => ?_⟩ ?_
      · exact runOps_sound (Q := Q) hc hb (KP := fun v s' => K (.panic v) s') (fun v s' a' w' x h' hs' => hk _ _ _ _ _ h' ⟨x, rfl, hs'⟩) ops (ops.toList.drop n) n rfl [] _ _ (fun s' => K .normal s') a' w' q5 hs' (fun s' a' w' h' hs' => hk _ _ _ _ _ h' ⟨rfl, hs'⟩)
      · have : ∀ n, n ≤ ops.size → cnt (fun i => (Array.replicate ops.size false).getD i false) n = n := fun n => by
          induction n with
          | zero => intro _; rfl
          | succ n ih => intro hn; simp only [cnt]; rw [ih (by omega)]; simp [Array.getD]
        exact this _ (Nat.le_refl _)
      · simp [Array.getD]
      · simp [Array.getD]
      · simp [Array.getD] at hL
      · rw [q1]
        obtain ⟨Fz, g, F, H, hon, hg⟩ := hs.drew
        exact ⟨Fz, g, F.unguard, H.reserve _, hon, hg⟩
  | seq x y ih1 ih2 =>
    intro K s a w Q h hs hk
    refine wp_seq (ih1 _ s a w _ h hs fun e s' a' w' x h' hs' => ?_)
    cases e with
    | normal => obtain ⟨rfl, hs'⟩ := hs'; exact ih2 K s' a' w' Q h' hs' hk
    | exit i => have := hs'.1; subst this; exact hk _ _ _ _ _ h' hs'
    | ret => have := hs'.1; subst this; exact hk _ _ _ _ _ h' hs'
    | panic v => obtain ⟨y, rfl, hs'⟩ := hs'; exact hk _ _ _ _ _ h' ⟨y, rfl, hs'⟩
  | _ => exact fun K s a w Q h hs hk => awp_sound hc hb _ K s a w Q h hs hk
theorem scall_ofU {h : List AO} {c : Cfg} (hc : CfgOK P c) {f : FuncId} {fn : Func} (hf : P.funcs[f]? = some fn) (hname : (fn.name == "runtime.NumGoroutine") = false) {args : List AV} {K : AR → List AO → Prop} (hbase : c.base = h.length) (H : afnU c fn args h K) : SCall P f args h K := by
  unfold afnU at H
  cases hb : fn.body with
  | none => rw [hb] at H; exact H.elim
  | some b =>
    rw [hb] at H
    simp only [fL_eq f2_eq] at H
    refine fun B0 w0 w Fz g xs hH hl hv => .inl ⟨⟨fn, hf, hname, by rw [hb]; rfl⟩, calls_of_wp hf hb ?_⟩
    let E : En := ⟨B0, w0, w, Fz, g, h.length, []⟩
    refine awpU_sound (E := E) hc hbase.symm b _ _ _ w _ H ⟨Fz, g, start_fr (h := h) hl hv, hH, On.refl _ _ _, fun o ho => hH.free o ho⟩ fun e s' a' w' x hk hs => ?_
    have fin : St E s' a' w' → (match retVal c.T fn s' with | some r => K (.ret r) s'.heap | none => False) → a'.defers = [] ∧ ∃ v, (results fn a'.tmps).run P w' = .ok v w' ∧ ∃ r cc h' Fz' g', Ending.returned v = r.end_ cc ∧ K r h' ∧ VR w' Fz' g' r.val cc ∧ HR B0 w0 w' Fz' g' h' ∧ On w w' Fz Fz' g g' := fun hs hk => by
      obtain ⟨Fz', g', F, H', hon, _⟩ := hs
      split at hk
      · rename_i r hr
        obtain ⟨cc, h1, h2⟩ := results_run (P := P) hc.tab F H' hr
        exact ⟨F.defers, cc, h1, .ret r, cc, s'.heap, Fz', g', rfl, hk, h2, H', hon⟩
      · exact hk.elim
    cases e with
    | normal => obtain ⟨rfl, hs⟩ := hs; exact fin hs hk
    | exit i => exact hk.elim
    | ret => obtain ⟨rfl, hs⟩ := hs; exact fin hs hk
    | panic v =>
      obtain ⟨y, rfl, Fz', g', F, H', hon, _, hv'⟩ := hs
      exact ⟨F.defers, .pan v, y, s'.heap, Fz', g', rfl, hk, hv', H', hon⟩
end
end Go.Proofs.YtnnoplgabnfdiaaGreatDoor.Sh
