/- Part 16 of a proof over the shadow machine. -/
import Derived.Test.YtnnoplgabnfdiaaGreatDoorN14
import Derived.Test.YtnnoplgabnfdiaaGreatDoorN15
import Derived.WalkKit
import Derived.Lib.Mul64
import Derived.Laws.Bits64b
import Derived.Laws.Externs
/- The shadow machine over this program: when instalments are due. -/
namespace Go.Proofs.YtnnoplgabnfdiaaGreatDoor.Sh
open Go Go.RowKit
set_option linter.unusedVariables false
set_option linter.unusedSimpArgs false
set_option maxRecDepth 100000
set_option maxHeartbeats 4000000
def dueF (m : Int) : Int := bif decide (m < 1) then 19723 else bif decide (m < 2) then 19754 else bif decide (m < 3) then 19783 else bif decide (m < 4) then 19814 else bif decide (m < 5) then 19844 else bif decide (m < 6) then 19875 else bif decide (m < 7) then 19905 else bif decide (m < 8) then 19936 else bif decide (m < 9) then 19967 else bif decide (m < 10) then 19997 else bif decide (m < 11) then 20028 else bif decide (m < 12) then 20058 else 20089
theorem dueF_b (m : Int) : 19723 ≤ dueF m ∧ dueF m ≤ 20089 := by
  unfold dueF
  simp only [Bool.cond_decide]
  repeat' split
  all_goals omega
theorem dueF_lt {a b : Int} (h0 : 0 ≤ a) (h : a < b) (h1 : b ≤ 12) : dueF a < dueF b := by
  obtain ⟨x, rfl⟩ : ∃ x : Nat, a = x := ⟨a.toNat, by omega⟩
  obtain ⟨y, rfl⟩ : ∃ y : Nat, b = y := ⟨b.toNat, by omega⟩
  have key : ∀ y : Fin 13, ∀ x : Fin 13, x.val < y.val → dueF (x.val : Int) < dueF (y.val : Int) := by decide
  exact key ⟨y, by omega⟩ ⟨x, by omega⟩ (by simpa using h)
def addQ : QSpec := fun vs => match vs with | [.agg [.int .i64 s], .int .i64 m] => some ([s = 19723 ∧ 1 ≤ m ∧ m ≤ 12], .tup [.int .i64 (dueF m), .int .i64 0]) | _ => none
theorem add186 : ∀ vs ob r, addQ vs = some (ob, r) → conj ob → SCall Tryz.prog 186 vs [] (Told r) := by
  intro vs ob q h hob
  unfold addQ at h
  split at h
  · rename_i s m
    simp only [Option.some.injEq, Prod.mk.injEq] at h
    obtain ⟨rfl, rfl⟩ := h
    obtain ⟨rfl, h1, h2⟩ : s = 19723 ∧ 1 ≤ m ∧ m ≤ 12 := hob
    have hm : m = 1 ∨ m = 2 ∨ m = 3 ∨ m = 4 ∨ m = 5 ∨ m = 6 ∨ m = 7 ∨ m = 8 ∨ m = 9 ∨ m = 10 ∨ m = 11 ∨ m = 12 := by omega
    rcases hm with rfl | rfl | rfl | rfl | rfl | rfl | rfl | rfl | rfl | rfl | rfl | rfl
    · exact add186_1
    · exact add186_2
    · exact add186_3
    · exact add186_4
    · exact add186_5
    · exact add186_6
    · exact add186_7
    · exact add186_8
    · exact add186_9
    · exact add186_10
    · exact add186_11
    · exact add186_12
  · simp at h
/-- A product whose instalments fill the year. -/
structure SHP (p : PR) : Prop where
  ok : OKP p
  sh : (p.ev = 1 ∧ p.tm = 12) ∨ (p.ev = 12 ∧ p.tm = 1)
def prQ1 (ob : PR → Int → Prop) (r : PR → Int → AV) : QSpec := fun vs => match vs with
  | [v, .int .i64 n] => match prOf v with
    | some (q, p) => some ([q ∧ ob p n], r p n)
    | none => none
  | _ => none
theorem prQ1_of {f : FuncId} {ob : PR → Int → Prop} {r : PR → Int → AV} (H : ∀ p n, ob p n → SCall Tryz.prog f [p.av, .int .i64 n] [] (Told (r p n))) : ∀ vs o q, prQ1 ob r vs = some (o, q) → conj o → SCall Tryz.prog f vs [] (Told q) := by
  intro vs o q h hob
  unfold prQ1 at h
  split at h
  · split at h
    · rename_i v n x q' p e
      simp only [Option.some.injEq, Prod.mk.injEq] at h
      obtain ⟨rfl, rfl⟩ := h
      obtain ⟨h1, h2⟩ : q' ∧ ob p n := hob
      rw [prOf_av e h1]
      exact H p n h2
    · simp at h
  · simp at h
def dueRow (p : PR) : Nat → List AV := fun i => [.int .i64 (dueF (p.ev * ((i : Int) + 1)))]
def dueRV (p : PR) : Nat → List RV := fun i => [.int .i64 (dueF (p.ev * ((i : Int) + 1)))]
def thereQ : QSpec := fun vs => match vs with | [.int .i64 n] => some ([True], .bool (inF n (-25567) 84370)) | _ => none
theorem there148 : ∀ vs ob r, thereQ vs = some (ob, r) → conj ob → SCall Tryz.prog 148 vs [] (Told r) := one_of (p := fun _ => True) fun n _ => by
  refine scall_of (cfg_ok env_nil 0) Tryz.func148 (by kernel_rfl) rfl ?_
  generalize hK : Told _ = K
  conv => whnf
  subst hK
  exact told_bool rfl
def envI1 : Env := [(186, addQ), (22, checkQ), (148, thereQ), (70, cloneQ 1 8)]
theorem envI1_ok : EnvOK Tryz.prog envI1 := env_cons add186 (env_cons check22 (env_cons there148 (env_cons clone70 env_nil)))
theorem dates168 (p : PR) (hp : SHP p) : SCall Tryz.prog 168 [.int .i64 19723, .int .i64 p.ev, .int .i64 p.tm] [.lit 1 p.cells] fun r h' => ∃ k : Nat, (k : Int) = p.tm ∧ r = .ret (.tup [.sl 1 1 0 k none, .cint .i64 0]) ∧ h' = [.lit 1 p.cells, .rows 1 k (dueRow p)] := by
  have hE := hp.sh
  refine scall_of (cfg_ok envI1_ok 1) Tryz.func168 (by kernel_rfl) rfl ?_
  generalize hK : (fun (r : AR) (h' : List AO) => ∃ k : Nat, (k : Int) = p.tm ∧ r = .ret (.tup [.sl 1 1 0 k none, .cint .i64 0]) ∧ h' = [.lit 1 p.cells, .rows 1 k (dueRow p)]) = K
  conv => whnf
  refine bf (by rcases hE with e | e <;> rw [e.1, e.2] <;> rfl) ?_
  conv => whnf
  refine .inr ⟨[(9, 1)], [1, 8, 9, 30, 31], 2, fun m s => ∃ k : Nat, m = p.tm.toNat - k ∧ k ≤ p.tm.toNat ∧ s = ⟨.top :: .int .i64 p.ev :: (List.replicate 6 .top ++ .fn 186 [.agg [.int .i64 19723]] [] :: .sl 1 1 0 k none :: (List.replicate 20 .top ++ .int .i64 p.tm :: .int .i64 k :: List.replicate 20 .top)), [.lit 1 p.cells, .rows 1 k (dueRow p)]⟩, by decide, ⟨_, _, ?_, 0, rfl, Nat.zero_le _, rfl⟩, ?_⟩
  · exact ⟨rfl, rfl, fun o ho => match o, ho with
      | 0, _ => rfl
      | 1, _ => ⟨rfl, rfl, fun i hi => absurd hi (by omega)⟩⟩
  rintro m s ⟨k, rfl, hk, rfl⟩
  conv => whnf
  refine bsplit (fun h => ?_) (fun h => ?_)
  · have hlt : k < p.tm.toNat := by have := of_decide_eq_true h; omega
    have hw : IntKind.i64.wrap (IntKind.i64.wrap ((k : Int) + 1) * p.ev) = p.ev * ((k : Int) + 1) := by
      rw [w64 (n := (k : Int) + 1) (by omega) (by omega)]
      rcases hE with e | e <;> rw [e.1] <;> rw [w64 (by omega) (by omega)] <;> omega
    have hb : 1 ≤ p.ev * ((k : Int) + 1) ∧ p.ev * ((k : Int) + 1) ≤ 12 := by
      rcases hE with e | e <;> rw [e.1] <;> omega
    conv => whnf
    rw [hw]
    refine ⟨⟨rfl, hb.1, hb.2⟩, ?_⟩
    conv => whnf
    refine ⟨⟨rfl, show (k + 1) * 8 ≤ 140737488355328 from by omega, fun i hi => ⟨rfl, rfl⟩⟩, ?_⟩
    conv => whnf
    refine ⟨p.tm.toNat - (k + 1), _, by omega, ?_, k + 1, rfl, by omega, rfl⟩
    rw [show ((k + 1 : Nat) : Int) = IntKind.i64.wrap ((k : Int) + 1) from by rw [w64 (by omega) (by omega)]; rfl]
    exact ⟨rfl, rfl, fun o ho => match o, ho with
      | 0, _ => rfl
      | 1, _ => ⟨rfl, rfl, fun i hi => by
        show [AV.int .i64 (bif decide (i < k) then dueF (p.ev * ((i : Int) + 1)) else dueF (p.ev * ((k : Int) + 1)))] = [AV.int .i64 (dueF (p.ev * ((i : Int) + 1)))]
        by_cases h : i < k
        · rw [bif_t h]
        · have : i = k := by omega
          subst this; rw [bif_f h]⟩⟩
  · have hkk : (k : Int) = p.tm := by have := of_decide_eq_false h; rcases hE with e | e <;> omega
    conv => whnf
    subst hK
    exact ⟨k, hkk, rfl, rfl⟩
theorem roll169 (p : PR) (hp : SHP p) (k : Nat) (d : Int) (h1 : 19723 ≤ d) (h2 : d ≤ 20089) : SCall Tryz.prog 169 [.agg [.ptr 2 1 1 0 0, .int .i64 p.rl], .int .i64 d] [.lit 1 p.cells, .rows 1 k (dueRow p), .lit 1 [.ro 1 0 none fun _ => []]] fun r h' => r = .ret (.tup [.int .i64 d, .int .i64 0]) ∧ h' = [.lit 1 p.cells, .rows 1 k (dueRow p), .lit 1 [.ro 1 0 none fun _ => []]] := by
  refine kept_of (h := [.lit 1 p.cells, .rows 1 k (dueRow p), .lit 1 [.ro 1 0 none fun _ => []]]) ?_
  refine scall_of (cfg_ok envI1_ok 3) Tryz.func169 (by kernel_rfl) rfl ?_
  generalize hK : Kept _ _ _ = K
  conv => whnf
  refine scall_of (cfg_ok envI1_ok 4) Tryz.func187 (by kernel_rfl) rfl ?_
  conv => whnf
  refine ⟨trivial, ?_⟩
  conv => whnf
  refine bf (by rw [show inF d (-25567) 84370 = true from inF_iff.mpr (by omega)]; rfl) ?_
  conv => whnf
  refine bf (by rw [hp.ok.rl]; rfl) ?_
  conv => whnf
  refine bt (by rw [hp.ok.rl]; rfl) ?_
  conv => whnf
  subst hK
  exact ⟨rfl, trivial, fun _ _ _ _ h => h⟩
theorem days144 : ∀ vs ob r, prQ1 (fun p n => SHP p ∧ n = 19723) (fun p n => .tup [.ro 1 p.tm.toNat none (dueRV p), .int .i64 0]) vs = some (ob, r) → conj ob → SCall Tryz.prog 144 vs [] (Told r) := prQ1_of fun p n ⟨hp, hn⟩ => by
  subst hn
  have hE := hp.sh
  refine scall_of (cfg_ok envI1_ok 0) Tryz.func144 (by kernel_rfl) rfl ?_
  generalize hK : Told _ = K
  conv => whnf
  refine ⟨⟨⟨rfl, rfl, rfl⟩, hp.ok⟩, ?_⟩
  conv => whnf
  refine (dates168 p hp).mono fun r h' ⟨k, hkk, e1, e2⟩ => ?_
  subst e1; subst e2
  conv => whnf
  refine scall_of (cfg_ok envI1_ok 2) Tryz.func119 (by kernel_rfl) rfl ?_
  conv => whnf
  refine .inl ⟨[()], unroll_step fun q hq => ?_⟩
  conv => whnf
  subst hq
  conv => whnf
  refine ⟨trivial, ?_⟩
  conv => whnf
  refine .inr ⟨[], [1, 7, 11, 44, 45, 46], 3, fun m s => ∃ i : Nat, m = k - i ∧ i ≤ k ∧ s = ⟨.top :: .int .i64 19723 :: (List.replicate 5 .top ++ .sl 1 1 0 k none :: .top :: .top :: .top :: .fn 169 [.agg [.ptr 2 1 1 0 0, .int .i64 p.rl]] [] :: (List.replicate 32 .top ++ .sl 1 1 0 k none :: .int .i64 k :: .int .i64 i :: List.replicate 46 .top)), [.lit 1 p.cells, .rows 1 k (dueRow p), .lit 1 [.ro 1 0 none fun _ => []]]⟩, by decide, ⟨_, _, ?_, 0, rfl, Nat.zero_le _, rfl⟩, ?_⟩
  · exact seq_rfl _
  rintro m s ⟨i, rfl, hi, rfl⟩
  conv => whnf
  refine bsplit (fun h => ?_) (fun h => ?_)
  · have hlt : i < k := by have := of_decide_eq_true h; omega
    have hd := dueF_b (p.ev * ((i : Int) + 1))
    conv => whnf
    refine ⟨⟨⟨by omega, by omega⟩, show 0 + ((i : Int)).toNat < k from by omega⟩, ?_⟩
    rw [show 0 + ((i : Int)).toNat = i from by omega]
    conv => whnf
    refine (roll169 p hp k _ hd.1 hd.2).mono fun r h' ⟨e1, e2⟩ => ?_
    subst e1; subst e2
    conv => whnf
    refine ⟨⟨⟨by omega, by omega⟩, show 0 + ((i : Int)).toNat < k from by omega⟩, ?_⟩
    rw [show 0 + ((i : Int)).toNat = i from by omega]
    conv => whnf
    refine ⟨k - (i + 1), _, by omega, ?_, i + 1, rfl, by omega, rfl⟩
    rw [show ((i + 1 : Nat) : Int) = IntKind.i64.wrap ((i : Int) + 1) from by rw [w64 (by omega) (by rcases hE with e | e <;> omega)]; rfl]
    exact ⟨rfl, rfl, fun o ho => match o, ho with
      | 0, _ => rfl
      | 2, _ => rfl
      | 1, _ => ⟨rfl, rfl, fun r hr => by
        show [AV.int .i64 (bif r == i then dueF (p.ev * ((i : Int) + 1)) else dueF (p.ev * ((r : Int) + 1)))] = [AV.int .i64 (dueF (p.ev * ((r : Int) + 1)))]
        by_cases h : r = i
        · subst h; simp
        · rw [show (r == i) = false from beq_eq_false_iff_ne.mpr h]; rfl⟩⟩
  · conv => whnf
    refine .inr ⟨[], [1, 7, 64, 65, 66], 2, fun m s => ∃ i : Nat, m = k - i ∧ i ≤ k ∧ s = ⟨.top :: .int .i64 19723 :: (List.replicate 5 .top ++ .sl 1 1 0 k none :: (List.replicate 56 .top ++ .sl 1 1 0 k none :: .int .i64 k :: .int .i64 i :: List.replicate 26 .top)), [.lit 1 p.cells, .rows 1 k (dueRow p)]⟩, by decide, ⟨_, _, ?_, 0, rfl, Nat.zero_le _, rfl⟩, ?_⟩
    · exact seq_rfl _
    rintro m s ⟨i, rfl, hi, rfl⟩
    conv => whnf
    refine bsplit (fun h => ?_) (fun h => ?_)
    · have hlt : i < k := by have := of_decide_eq_true h; omega
      have hd := dueF_b (p.ev * ((i : Int) + 1))
      conv => whnf
      refine ⟨⟨⟨by omega, by omega⟩, show 0 + ((i : Int)).toNat < k from by omega⟩, ?_⟩
      rw [show 0 + ((i : Int)).toNat = i from by omega]
      conv => whnf
      have hw : 0 < i → IntKind.i64.wrap ((i : Int) - 1) = ((i - 1 : Nat) : Int) := fun h0 => by rw [w64 (by omega) (by rcases hE with e | e <;> omega)]; omega
      have hlo : ∀ a b : Int, 0 ≤ a → a < b → b ≤ (k : Int) → dueF (p.ev * a) < dueF (p.ev * b) := fun a b h1 h2 h3 => by
        rcases hE with e | e <;> rw [e.1] <;> exact dueF_lt (by omega) (by omega) (by omega)
      refine ⟨⟨fun _ h2 => ?_, fun _ h2 => ?_⟩, ?_⟩
      · have h3 := of_decide_eq_true h2
        rw [hw (by omega)]; exact ⟨by omega, by omega⟩
      · have h3 := of_decide_eq_true h2
        rw [hw (by omega)]; exact (show 0 + (((i - 1 : Nat) : Int)).toNat < k from by omega)
      conv => whnf
      refine bf ?_ ?_
      · rcases Nat.eq_zero_or_pos i with h0 | h0
        · subst h0
          have h1 := hlo 0 1 (by omega) (by omega) (by omega)
          rw [Int.mul_zero, show dueF 0 = 19723 from rfl] at h1
          rw [show decide (dueF (p.ev * (((0 : Nat) : Int) + 1)) ≤ 19723) = false from decide_eq_false (by
            show ¬ dueF (p.ev * (0 + 1)) ≤ 19723
            rw [show (0 : Int) + 1 = 1 from rfl]; omega)]
          rfl
        · have h1 := hlo (i : Int) ((i : Int) + 1) (by omega) (by omega) (by omega)
          rw [show ((i : Int) == 0) = false from beq_nf (by omega), hw h0, show decide ((i : Int) > 0) = true from decide_eq_true (by omega)]
          rw [show 0 + (((i - 1 : Nat) : Int)).toNat = i - 1 from by omega, show ((i - 1 : Nat) : Int) + 1 = (i : Int) from by omega]
          rw [show decide (dueF (p.ev * ((i : Int) + 1)) ≤ dueF (p.ev * (i : Int))) = false from decide_eq_false (by omega)]
          rfl
      conv => whnf
      refine ⟨k - (i + 1), _, by omega, ?_, i + 1, rfl, by omega, rfl⟩
      rw [show ((i + 1 : Nat) : Int) = IntKind.i64.wrap ((i : Int) + 1) from by rw [w64 (by omega) (by rcases hE with e | e <;> omega)]; rfl]
      exact seq_rfl _
    · conv => whnf
      subst hK
      refine told_of (show 0 + k ≤ k from by omega) ?_
      rw [show p.tm.toNat = k from by omega]
      show AV.tup [AV.ro 1 k none (fun i => (dueRow p (0 + i)).map AV.rv), AV.int .i64 0] = _
      congr 3
      funext i
      rw [Nat.zero_add]; rfl
end Go.Proofs.YtnnoplgabnfdiaaGreatDoor.Sh
/- The shadow machine over this program: products of two words, as the library's own text has them. -/
namespace Go.Proofs.YtnnoplgabnfdiaaGreatDoor.Sh
open Go Go.RowKit
set_option linter.unusedVariables false
set_option linter.unusedSimpArgs false
set_option maxRecDepth 100000
set_option maxHeartbeats 4000000
theorem maskN (a : Nat) (ha : a < 18446744073709551616) : bits .and .u64 (a : Int) 4294967295 = ((a % 4294967296 : Nat) : Int) := by
  have h := bits_and_u64_nat a 4294967295 ha (by omega)
  have e : a &&& 4294967295 = a % 4294967296 := Nat.and_two_pow_sub_one_eq_mod a 32
  rw [e] at h
  exact h
theorem divN (a : Nat) : (a : Int) / 4294967296 = ((a / 4294967296 : Nat) : Int) := by omega
theorem mulN (a b : Nat) : (a : Int) * (b : Int) = ((a * b : Nat) : Int) := (Int.natCast_mul a b).symm
theorem addN (a b : Nat) : (a : Int) + (b : Int) = ((a + b : Nat) : Int) := (Int.natCast_add a b).symm
theorem wrapN (a : Nat) (ha : a < 18446744073709551616) : IntKind.u64.wrap (a : Int) = (a : Int) := by rw [IntKind.wrap_u64]; omega
theorem wrapM (a : Nat) : IntKind.u64.wrap (a : Int) = ((a % 18446744073709551616 : Nat) : Int) := by rw [IntKind.wrap_u64]; omega
theorem mul64_calls (x y : Nat) (hx : x < 18446744073709551616) (hy : y < 18446744073709551616) (w : World) :
    Calls Tryz.prog 247 #[.int .u64 x, .int .u64 y] w fun e w' => e = .returned (.tuple #[.int .u64 ((x * y / 18446744073709551616 : Nat) : Int), .int .u64 ((x * y % 18446744073709551616 : Nat) : Int)]) ∧ w' = w := by
  obtain ⟨bd, bt, bw, hhi⟩ := Lib.mul64_hi x y hx hy
  have ba := Lib.half_mul_le (a := x / 4294967296) (b := y / 4294967296) (by omega) (by omega)
  have bb := Lib.half_mul_le (a := x / 4294967296) (b := y % 4294967296) (by omega) (by omega)
  have bc := Lib.half_mul_le (a := x % 4294967296) (b := y / 4294967296) (by omega) (by omega)
  have ba' : x / 4294967296 * (y / 4294967296) < 18446744073709551616 := by omega
  have bb' : x / 4294967296 * (y % 4294967296) < 18446744073709551616 := by omega
  have bc' : x % 4294967296 * (y / 4294967296) < 18446744073709551616 := by omega
  have bh1 : x / 4294967296 * (y / 4294967296) + (x / 4294967296 * (y % 4294967296) + x % 4294967296 * (y % 4294967296) / 4294967296) / 4294967296 < 18446744073709551616 := by omega
  have bh : x / 4294967296 * (y / 4294967296) + (x / 4294967296 * (y % 4294967296) + x % 4294967296 * (y % 4294967296) / 4294967296) / 4294967296 + ((x / 4294967296 * (y % 4294967296) + x % 4294967296 * (y % 4294967296) / 4294967296) % 4294967296 + x % 4294967296 * (y / 4294967296)) / 4294967296 < 18446744073709551616 := by omega
  go_enter Tryz.func247, Tryz.ntmps247
  go_wp2
  simp only [maskN x hx, maskN y hy, divN, mulN, addN, wrapN _ bd, wrapN _ bb', wrapN _ bt, maskN _ bt, wrapN _ bc', wrapN _ bw, wrapN _ ba', wrapN _ bh1, wrapN _ bh, wrapM (x * y)]
  rw [hhi]
  go_ret2
  exact ⟨rfl, rfl⟩
theorem add64_run (x y : Nat) (hx : x + y < 18446744073709551616) (w : World) :
    (callFunc 312 #[.int .u64 x, .int .u64 y, .int .u64 0]).run Tryz.prog w = .ok (.value (.tuple #[.int .u64 ((x + y : Nat) : Int), .int .u64 0])) w := by
  rw [run_callFunc_extern Tryz.func312 (by kernel_rfl) (by kernel_rfl) (by kernel_rfl) (e := add64Entry) (by kernel_rfl), run_add64 x y 0 (by omega) (by omega) (by omega) (by omega)]
  simp only [Result.andThen]
  rw [show ((x : Int) + (y : Int) + 0) % 18446744073709551616 = ((x + y : Nat) : Int) from by omega, show ((x : Int) + (y : Int) + 0) / 18446744073709551616 = 0 from by omega]
theorem wu64 {n : Int} (h1 : 0 ≤ n) (h2 : n < 18446744073709551616) : IntKind.u64.wrap n = n := by
  rw [IntKind.wrap_u64]; omega
theorem two_args {w : World} {Fz : Nat → Prop} {g : Gh} {k l : IntKind} {x y : Int} {args : Array Value} (hl : ([.int k x, .int l y] : List AV).length = args.size) (hv : ∀ i, i < ([.int k x, .int l y] : List AV).length → VR w Fz g (nth .top [.int k x, .int l y] i) (args.getD i undef)) : args = #[.int k x, .int l y] := by
  have h0 := inv_int (hv 0 (by simp))
  have h1 := inv_int (hv 1 (by simp))
  have hs : args.size = 2 := hl.symm
  apply Array.ext (by simpa using hs)
  intro i hi1 hi2
  match i, hi1 with
  | 0, hi => simpa [Array.getD, hs] using h0
  | 1, hi => simpa [Array.getD, hs] using h1
theorem three_args {w : World} {Fz : Nat → Prop} {g : Gh} {k l m : IntKind} {x y z : Int} {args : Array Value} (hl : ([.int k x, .int l y, .int m z] : List AV).length = args.size) (hv : ∀ i, i < ([.int k x, .int l y, .int m z] : List AV).length → VR w Fz g (nth .top [.int k x, .int l y, .int m z] i) (args.getD i undef)) : args = #[.int k x, .int l y, .int m z] := by
  have h0 := inv_int (hv 0 (by simp))
  have h1 := inv_int (hv 1 (by simp))
  have h2 := inv_int (hv 2 (by simp))
  have hs : args.size = 3 := hl.symm
  apply Array.ext (by simpa using hs)
  intro i hi1 hi2
  match i, hi1 with
  | 0, hi => simpa [Array.getD, hs] using h0
  | 1, hi => simpa [Array.getD, hs] using h1
  | 2, hi => simpa [Array.getD, hs] using h2
theorem tup_ints {w : World} {Fz : Nat → Prop} {g : Gh} {k l : IntKind} {x y : Int} : VR w Fz g (.tup [.int k x, .int l y]) (.tuple #[.int k x, .int l y]) := .tup _ _ rfl fun i hi => by
  match i, hi with
  | 0, _ => exact .int _ _
  | 1, _ => exact .int _ _
def mulQ : QSpec := fun vs => match vs with | [.int .u64 x, .int .u64 y] => some ([0 ≤ x ∧ x < 18446744073709551616 ∧ 0 ≤ y ∧ y < 18446744073709551616 ∧ x * y < 18446744073709551616], .tup [.int .u64 0, .int .u64 (x * y)]) | _ => none
theorem mul247 : ∀ vs ob r, mulQ vs = some (ob, r) → conj ob → SCall Tryz.prog 247 vs [] (Told r) := by
  intro vs ob q h hob
  unfold mulQ at h
  split at h
  · rename_i x y
    simp only [Option.some.injEq, Prod.mk.injEq] at h
    obtain ⟨rfl, rfl⟩ := h
    obtain ⟨h1, h2, h3, h4, h5⟩ : 0 ≤ x ∧ x < 18446744073709551616 ∧ 0 ≤ y ∧ y < 18446744073709551616 ∧ x * y < 18446744073709551616 := hob
    obtain ⟨x, rfl⟩ := Int.eq_ofNat_of_zero_le h1
    obtain ⟨y, rfl⟩ := Int.eq_ofNat_of_zero_le h3
    intro B0 w0 w Fz g args hH hl hv
    have := two_args hl hv
    subst this
    refine .inl ⟨⟨_, Tryz.func247, by kernel_rfl, by kernel_rfl⟩, ?_⟩
    refine (mul64_calls x y (by omega) (by omega) w).mono ?_
    rintro e w' ⟨rfl, rfl⟩
    have hm : x * y < 18446744073709551616 := by rw [← Int.natCast_mul] at h5; omega
    refine ⟨.ret (.tup [.int .u64 0, .int .u64 ((x : Int) * (y : Int))]), _, [], Fz, g, rfl, told_of trivial rfl, ?_, hH, On.refl _ _ _⟩
    rw [Nat.div_eq_of_lt hm, Nat.mod_eq_of_lt hm, Int.natCast_mul]
    exact tup_ints
  · simp at h
def addUQ : QSpec := fun vs => match vs with | [.int .u64 x, .int .u64 y, .int .u64 z] => some ([z = 0 ∧ 0 ≤ x ∧ 0 ≤ y ∧ x + y < 18446744073709551616], .tup [.int .u64 (x + y), .int .u64 0]) | _ => none
theorem add312 : ∀ vs ob r, addUQ vs = some (ob, r) → conj ob → SCall Tryz.prog 312 vs [] (Told r) := by
  intro vs ob q h hob
  unfold addUQ at h
  split at h
  · rename_i x y z
    simp only [Option.some.injEq, Prod.mk.injEq] at h
    obtain ⟨rfl, rfl⟩ := h
    obtain ⟨rfl, h1, h2, h3⟩ : z = 0 ∧ 0 ≤ x ∧ 0 ≤ y ∧ x + y < 18446744073709551616 := hob
    obtain ⟨x, rfl⟩ := Int.eq_ofNat_of_zero_le h1
    obtain ⟨y, rfl⟩ := Int.eq_ofNat_of_zero_le h2
    intro B0 w0 w Fz g args hH hl hv
    have := three_args hl hv
    subst this
    refine .inr ⟨_, _, add64_run x y (by omega) w, .ret (.tup [.int .u64 ((x : Int) + (y : Int)), .int .u64 0]), _, [], Fz, g, rfl, told_of trivial rfl, ?_, hH, On.refl _ _ _⟩
    rw [Int.natCast_add]
    exact tup_ints
  · simp at h
def divQ : QSpec := fun vs => match vs with | [.int .u64 h, .int .u64 x, .int .u64 y] => some ([h = 0 ∧ 0 ≤ x ∧ 0 < y], .tup [.int .u64 (IntKind.u64.wrap (x.tdiv y)), .int .u64 (x.tmod y)]) | _ => none
theorem div313 : ∀ vs ob r, divQ vs = some (ob, r) → conj ob → SCall Tryz.prog 313 vs [] (Told r) := by
  intro vs ob q h hob
  unfold divQ at h
  split at h
  · rename_i z x y
    simp only [Option.some.injEq, Prod.mk.injEq] at h
    obtain ⟨rfl, rfl⟩ := h
    obtain ⟨rfl, h1, h2⟩ : z = 0 ∧ 0 ≤ x ∧ 0 < y := hob
    refine scall_of (cfg_ok env_nil 0) Tryz.func313 (by kernel_rfl) rfl ?_
    generalize hK : Told _ = K
    conv => whnf
    refine bf (beq_nf (by omega)) ?_
    conv => whnf
    refine bf (decide_eq_false (by omega)) ?_
    conv => whnf
    refine ⟨[], by kernel_rfl, ?_⟩
    conv => whnf
    refine ⟨⟨by omega, show y ≠ 0 from by omega⟩, ?_⟩
    conv => whnf
    subst hK
    exact told_of trivial rfl
  · simp at h
end Go.Proofs.YtnnoplgabnfdiaaGreatDoor.Sh
/- The shadow machine over this program: what a balance bears. -/
namespace Go.Proofs.YtnnoplgabnfdiaaGreatDoor.Sh
open Go Go.RowKit
set_option linter.unusedVariables false
set_option linter.unusedSimpArgs false
set_option maxRecDepth 100000
set_option maxHeartbeats 4000000
def wholeB (ct : Int) : Int := 1000000000 * wholeF ct
def halfB (ct rd : Int) : Int := bif rd == 1 then wholeB ct / 2 else 0
theorem wholeF_or {ct : Int} (h : 1 ≤ ct ∧ ct ≤ 3) : wholeF ct = 360 ∨ wholeF ct = 365 ∨ wholeF ct = 133590 := by
  rcases three h with e | e | e <;> subst e <;> decide
structure BC (W H s b r q : Int) : Prop where
  hW : 0 < W ∧ W ≤ 1000000000000000
  hH : 0 ≤ H ∧ H < W
  hs : -H ≤ s ∧ s < W - H
  hb : 0 ≤ b ∧ b ≤ 1000000000000000
  hr : 0 ≤ r ∧ r ≤ 1000000000
  hq : 0 ≤ q ∧ q ≤ 53436000
  br : 0 ≤ b * r ∧ b * r ≤ 1000000000000000000
  brq : 0 ≤ b * r * q ∧ b * r * q ≤ 8000000000000000000
  hv : (b * r * q + (s + H)) / W ≤ 1000000000000000
def bornV (W H s b r q : Int) : Int := (b * r * q + (s + H)) / W
def bornR (W H s b r q : Int) : Int := (b * r * q + (s + H)) % W - H
def envN1 : Env := [(247, mulQ), (312, addUQ), (313, divQ), (311, partsQ)]
theorem envN1_ok : EnvOK Tryz.prog envN1 := env_cons mul247 (env_cons add312 (env_cons div313 (env_cons parts311 env_nil)))
theorem new302_1 (x0 : AO) (ct rd : Int) (h1 : 1 ≤ ct ∧ ct ≤ 3) (h2 : rd = 1 ∨ rd = 3) : SCall Tryz.prog 302 [.int .i64 ct, .int .i64 rd] [x0] fun r h' => r = .ret (.tup [.ptr 1 1 1 0 0, .cint .i64 0]) ∧ h' = [x0, .lit 1 [.int .i64 (wholeB ct), .int .i64 (halfB ct rd), .int .i64 0]] := by
  have hw := wholeF_or h1
  refine scall_of (cfg_ok envN1_ok 1) Tryz.func302 (by kernel_rfl) rfl ?_
  generalize hK : (fun (r : AR) (h' : List AO) => r = .ret (.tup [.ptr 1 1 1 0 0, .cint .i64 0]) ∧ h' = [x0, .lit 1 [.int .i64 (wholeB ct), .int .i64 (halfB ct rd), .int .i64 0]]) = K
  conv => whnf
  refine ⟨h1, ?_⟩
  conv => whnf
  refine bf (by rcases h2 with e | e <;> rw [e] <;> rfl) ?_
  conv => whnf
  rw [show IntKind.i64.wrap (1000000000 * wholeF ct) = wholeB ct from w64 (by omega) (by omega)]
  refine bsplit (fun h => ?_) (fun h => ?_)
  · conv => whnf
    refine ⟨show (2 : Int) ≠ 0 from by decide, ?_⟩
    rw [show IntKind.i64.wrap ((wholeB ct).tdiv 2) = halfB ct rd from by
      unfold halfB; rw [h]
      have : wholeB ct = 1000000000 * wholeF ct := rfl
      rw [td_eq (by omega), w64 (by omega) (by omega)]; rfl]
    conv => whnf
    subst hK
    exact ⟨rfl, rfl⟩
  · conv => whnf
    subst hK
    exact ⟨rfl, by unfold halfB; rw [h]; rfl⟩
theorem new302_2 (x0 x1 : AO) (ct rd : Int) (h1 : 1 ≤ ct ∧ ct ≤ 3) (h2 : rd = 1 ∨ rd = 3) : SCall Tryz.prog 302 [.int .i64 ct, .int .i64 rd] [x0, x1] fun r h' => r = .ret (.tup [.ptr 2 1 1 0 0, .cint .i64 0]) ∧ h' = [x0, x1, .lit 1 [.int .i64 (wholeB ct), .int .i64 (halfB ct rd), .int .i64 0]] := by
  have hw := wholeF_or h1
  refine scall_of (cfg_ok envN1_ok 2) Tryz.func302 (by kernel_rfl) rfl ?_
  generalize hK : (fun (r : AR) (h' : List AO) => r = .ret (.tup [.ptr 2 1 1 0 0, .cint .i64 0]) ∧ h' = [x0, x1, .lit 1 [.int .i64 (wholeB ct), .int .i64 (halfB ct rd), .int .i64 0]]) = K
  conv => whnf
  refine ⟨h1, ?_⟩
  conv => whnf
  refine bf (by rcases h2 with e | e <;> rw [e] <;> rfl) ?_
  conv => whnf
  rw [show IntKind.i64.wrap (1000000000 * wholeF ct) = wholeB ct from w64 (by omega) (by omega)]
  refine bsplit (fun h => ?_) (fun h => ?_)
  · conv => whnf
    refine ⟨show (2 : Int) ≠ 0 from by decide, ?_⟩
    rw [show IntKind.i64.wrap ((wholeB ct).tdiv 2) = halfB ct rd from by
      unfold halfB; rw [h]
      have : wholeB ct = 1000000000 * wholeF ct := rfl
      rw [td_eq (by omega), w64 (by omega) (by omega)]; rfl]
    conv => whnf
    subst hK
    exact ⟨rfl, rfl⟩
  · conv => whnf
    subst hK
    exact ⟨rfl, by unfold halfB; rw [h]; rfl⟩
theorem bear287_1_2 (x0 : AO) (W H s b r q : Int) (hC : BC W H s b r q) : SCall Tryz.prog 287 [.ptr 1 1 1 0 0, .int .i64 b, .int .i64 r, .int .i64 q] [x0, .lit 1 [.int .i64 W, .int .i64 H, .int .i64 s]] fun r' h' => r' = .ret (.tup [.int .i64 (bornV W H s b r q), .cint .i64 0]) ∧ h' = [x0, .lit 1 [.int .i64 W, .int .i64 H, .int .i64 (bornR W H s b r q)], .lit 1 [.int .i64 (bornV W H s b r q)], .lit 1 [.cint .i64 0]] := by
  obtain ⟨hW, hH, hs, hb, hr, hq, br, brq, hv⟩ := hC
  have hv0 : 0 ≤ (b * r * q + (s + H)) / W := Int.ediv_nonneg (by omega) (by omega)
  have hm0 : 0 ≤ (b * r * q + (s + H)) % W := Int.emod_nonneg _ (by omega)
  have hm1 : (b * r * q + (s + H)) % W < W := Int.emod_lt_of_pos _ (by omega)
  refine scall_ofD (cfg_ok envN1_ok 2) Tryz.func287 (by kernel_rfl) rfl ?_
  generalize hK : (fun (r' : AR) (h' : List AO) => r' = .ret (.tup [.int .i64 (bornV W H s b r q), .cint .i64 0]) ∧ h' = [x0, .lit 1 [.int .i64 W, .int .i64 H, .int .i64 (bornR W H s b r q)], .lit 1 [.int .i64 (bornV W H s b r q)], .lit 1 [.cint .i64 0]]) = K
  conv => whnf
  refine bf (by simp; omega) ?_
  conv => whnf
  rw [wu64 (n := b) (by omega) (by omega), wu64 (n := r) (by omega) (by omega), wu64 (n := q) (by omega) (by omega)]
  refine scall_of (cfg_ok envN1_ok 4) Tryz.func304 (by kernel_rfl) rfl ?_
  conv => whnf
  refine ⟨⟨by omega, by omega, by omega, by omega, by omega⟩, ?_⟩
  conv => whnf
  refine ⟨⟨by omega, by omega, by omega, by omega, by omega⟩, ?_⟩
  refine ⟨[], by kernel_rfl, ?_⟩
  conv => whnf
  rw [show IntKind.u64.wrap (IntKind.i64.wrap (s + H)) = s + H from by rw [w64 (by omega) (by omega), wu64 (by omega) (by omega)]]
  refine ⟨⟨rfl, by omega, by omega, by omega⟩, ?_⟩
  conv => whnf
  rw [show IntKind.u64.wrap (IntKind.u64.wrap (IntKind.u64.wrap (0 * q) + 0) + 0) = 0 from by rw [Int.zero_mul]; rfl, wu64 (n := W) (by omega) (by omega)]
  refine bf (decide_eq_false (by omega)) ?_
  conv => whnf
  rw [wu64 (n := W) (by omega) (by omega)]
  refine ⟨⟨rfl, by omega, by omega⟩, ?_⟩
  rw [show IntKind.u64.wrap ((b * r * q + (s + H)).tdiv W) = bornV W H s b r q from by rw [td_eq (by omega), wu64 (by omega) (by omega)]; rfl]
  conv => whnf
  refine bf (decide_eq_false (by show ¬ ((b * r * q + (s + H)) / W > 1000000000000000); omega)) ?_
  refine ⟨[], by kernel_rfl, ?_⟩
  conv => whnf
  rw [show IntKind.i64.wrap (bornV W H s b r q) = bornV W H s b r q from w64 (by show _ ≤ (b * r * q + (s + H)) / W; omega) (by show (b * r * q + (s + H)) / W ≤ _; omega),
    show IntKind.i64.wrap (IntKind.i64.wrap ((b * r * q + (s + H)).tmod W) - H) = bornR W H s b r q from by rw [tm_eq (by omega), w64 (n := (b * r * q + (s + H)) % W) (by omega) (by omega), w64 (by omega) (by omega)]; rfl]
  refine dcall_of (cfg_ok env_nil 0) Tryz.func303 (by kernel_rfl) ?_
  conv => whnf
  subst hK
  exact ⟨rfl, rfl⟩
theorem bear287_2_5 (x0 x1 x3 x4 : AO) (W H s b r q : Int) (hC : BC W H s b r q) : SCall Tryz.prog 287 [.ptr 2 1 1 0 0, .int .i64 b, .int .i64 r, .int .i64 q] [x0, x1, .lit 1 [.int .i64 W, .int .i64 H, .int .i64 s], x3, x4] fun r' h' => r' = .ret (.tup [.int .i64 (bornV W H s b r q), .cint .i64 0]) ∧ h' = [x0, x1, .lit 1 [.int .i64 W, .int .i64 H, .int .i64 (bornR W H s b r q)], x3, x4, .lit 1 [.int .i64 (bornV W H s b r q)], .lit 1 [.cint .i64 0]] := by
  obtain ⟨hW, hH, hs, hb, hr, hq, br, brq, hv⟩ := hC
  have hv0 : 0 ≤ (b * r * q + (s + H)) / W := Int.ediv_nonneg (by omega) (by omega)
  have hm0 : 0 ≤ (b * r * q + (s + H)) % W := Int.emod_nonneg _ (by omega)
  have hm1 : (b * r * q + (s + H)) % W < W := Int.emod_lt_of_pos _ (by omega)
  refine scall_ofD (cfg_ok envN1_ok 5) Tryz.func287 (by kernel_rfl) rfl ?_
  generalize hK : (fun (r' : AR) (h' : List AO) => r' = .ret (.tup [.int .i64 (bornV W H s b r q), .cint .i64 0]) ∧ h' = [x0, x1, .lit 1 [.int .i64 W, .int .i64 H, .int .i64 (bornR W H s b r q)], x3, x4, .lit 1 [.int .i64 (bornV W H s b r q)], .lit 1 [.cint .i64 0]]) = K
  conv => whnf
  refine bf (by simp; omega) ?_
  conv => whnf
  rw [wu64 (n := b) (by omega) (by omega), wu64 (n := r) (by omega) (by omega), wu64 (n := q) (by omega) (by omega)]
  refine scall_of (cfg_ok envN1_ok 7) Tryz.func304 (by kernel_rfl) rfl ?_
  conv => whnf
  refine ⟨⟨by omega, by omega, by omega, by omega, by omega⟩, ?_⟩
  conv => whnf
  refine ⟨⟨by omega, by omega, by omega, by omega, by omega⟩, ?_⟩
  refine ⟨[], by kernel_rfl, ?_⟩
  conv => whnf
  rw [show IntKind.u64.wrap (IntKind.i64.wrap (s + H)) = s + H from by rw [w64 (by omega) (by omega), wu64 (by omega) (by omega)]]
  refine ⟨⟨rfl, by omega, by omega, by omega⟩, ?_⟩
  conv => whnf
  rw [show IntKind.u64.wrap (IntKind.u64.wrap (IntKind.u64.wrap (0 * q) + 0) + 0) = 0 from by rw [Int.zero_mul]; rfl, wu64 (n := W) (by omega) (by omega)]
  refine bf (decide_eq_false (by omega)) ?_
  conv => whnf
  rw [wu64 (n := W) (by omega) (by omega)]
  refine ⟨⟨rfl, by omega, by omega⟩, ?_⟩
  rw [show IntKind.u64.wrap ((b * r * q + (s + H)).tdiv W) = bornV W H s b r q from by rw [td_eq (by omega), wu64 (by omega) (by omega)]; rfl]
  conv => whnf
  refine bf (decide_eq_false (by show ¬ ((b * r * q + (s + H)) / W > 1000000000000000); omega)) ?_
  refine ⟨[], by kernel_rfl, ?_⟩
  conv => whnf
  rw [show IntKind.i64.wrap (bornV W H s b r q) = bornV W H s b r q from w64 (by show _ ≤ (b * r * q + (s + H)) / W; omega) (by show (b * r * q + (s + H)) / W ≤ _; omega),
    show IntKind.i64.wrap (IntKind.i64.wrap ((b * r * q + (s + H)).tmod W) - H) = bornR W H s b r q from by rw [tm_eq (by omega), w64 (n := (b * r * q + (s + H)) % W) (by omega) (by omega), w64 (by omega) (by omega)]; rfl]
  refine dcall_of (cfg_ok env_nil 0) Tryz.func303 (by kernel_rfl) ?_
  conv => whnf
  subst hK
  exact ⟨rfl, rfl⟩
end Go.Proofs.YtnnoplgabnfdiaaGreatDoor.Sh
/- The shadow machine over this program: what a night bears. -/
namespace Go.Proofs.YtnnoplgabnfdiaaGreatDoor.Sh
open Go Go.RowKit
set_option linter.unusedVariables false
set_option linter.unusedSimpArgs false
set_option maxRecDepth 100000
set_option maxHeartbeats 4000000
def must2Q : QSpec := fun vs => match vs with | [.bool b, .int .i64 n] => some ([b = true], .tup []) | _ => none
theorem must256 : ∀ vs ob r, must2Q vs = some (ob, r) → conj ob → SCall Tryz.prog 256 vs [] (Told r) := by
  intro vs ob q h hob
  unfold must2Q at h
  split at h
  · simp only [Option.some.injEq, Prod.mk.injEq] at h
    obtain ⟨rfl, rfl⟩ := h
    rename_i b n
    have hb : b = true := hob
    subst hb
    refine scall_of (cfg_ok env_nil 0) Tryz.func256 (by kernel_rfl) rfl ?_
    generalize hK : Told _ = K
    conv => whnf
    subst hK
    exact told_of trivial rfl
  · simp at h
def prQ4 (ob : PR → Int → Int → Int → Int → Prop) (r : PR → Int → Int → Int → Int → AV) : QSpec := fun vs => match vs with
  | [v, .int .i64 a, .int .i64 b, .int .i64 c, .int .i64 d] => match prOf v with
    | some (q, p) => some ([q ∧ ob p a b c d], r p a b c d)
    | none => none
  | _ => none
theorem prQ4_of {f : FuncId} {ob : PR → Int → Int → Int → Int → Prop} {r : PR → Int → Int → Int → Int → AV} (H : ∀ p a b c d, ob p a b c d → SCall Tryz.prog f [p.av, .int .i64 a, .int .i64 b, .int .i64 c, .int .i64 d] [] (Told (r p a b c d))) : ∀ vs o q, prQ4 ob r vs = some (o, q) → conj o → SCall Tryz.prog f vs [] (Told q) := by
  intro vs o q h hob
  unfold prQ4 at h
  split at h
  · split at h
    · rename_i v a b c d x q' p e
      simp only [Option.some.injEq, Prod.mk.injEq] at h
      obtain ⟨rfl, rfl⟩ := h
      obtain ⟨h1, h2⟩ : q' ∧ ob p a b c d := hob
      rw [prOf_av e h1]
      exact H p a b c d h2
    · simp at h
  · simp at h
def BCP (p : PR) (s b r q : Int) : Prop := BC (wholeB p.ct) (halfB p.ct p.rd) s b r q
def nbearQ : QSpec := prQ4 (fun p s b r q => OKP p ∧ BCP p s b r q) fun p s b r q => .tup [.int .i64 (bornV (wholeB p.ct) (halfB p.ct p.rd) s b r q), .int .i64 (bornR (wholeB p.ct) (halfB p.ct p.rd) s b r q)]
def envO1 : Env := [(256, must2Q)]
theorem envO1_ok : EnvOK Tryz.prog envO1 := env_cons must256 env_nil
theorem bear257 : ∀ vs ob r, nbearQ vs = some (ob, r) → conj ob → SCall Tryz.prog 257 vs [] (Told r) := prQ4_of fun p s b r q ⟨hp, hC⟩ => by
  obtain ⟨hW, hH, hs, hb, hr, hq, br, brq, hv⟩ := id hC
  refine scall_of (cfg_ok envO1_ok 0) Tryz.func257 (by kernel_rfl) rfl ?_
  generalize hK : Told _ = K
  conv => whnf
  refine scall_of (cfg_ok envO1_ok 1) Tryz.func286 (by kernel_rfl) rfl ?_
  conv => whnf
  refine (new302_1 (.lit 1 p.cells) p.ct p.rd hp.ct hp.rd).mono fun r1 h1 ⟨e1, e2⟩ => ?_
  subst e1; subst e2
  conv => whnf
  refine ⟨[], by kernel_rfl, ?_⟩
  conv => whnf
  refine bf (by rw [w64 (n := 0 - halfB p.ct p.rd) (by omega) (by omega), w64 (n := wholeB p.ct - halfB p.ct p.rd) (by omega) (by omega)]; simp; omega) ?_
  conv => whnf
  refine (bear287_1_2 (.lit 1 p.cells) _ _ _ _ _ _ hC).mono fun r1 h1 ⟨e1, e2⟩ => ?_
  subst e1; subst e2
  conv => whnf
  refine ⟨rfl, ?_⟩
  conv => whnf
  refine scall_of (cfg_ok envO1_ok 4) Tryz.func288 (by kernel_rfl) rfl ?_
  conv => whnf
  subst hK
  exact told_of trivial rfl
end Go.Proofs.YtnnoplgabnfdiaaGreatDoor.Sh
/- The shadow machine over this program: money that is right: a loan without dues, fees and fines. -/
namespace Go.Proofs.YtnnoplgabnfdiaaGreatDoor.Sh
open Go Go.RowKit
set_option linter.unusedVariables false
set_option linter.unusedSimpArgs false
set_option maxRecDepth 100000
set_option maxHeartbeats 4000000
def mayQ : QSpec := fun vs => match vs with | [.int .i64 n] => some ([True], .bool (inF n 0 1000000000000000)) | _ => none
theorem may162 : ∀ vs ob r, mayQ vs = some (ob, r) → conj ob → SCall Tryz.prog 162 vs [] (Told r) := one_of (p := fun _ => True) fun n _ => by
  refine scall_of (cfg_ok env_nil 0) Tryz.func162 (by kernel_rfl) rfl ?_
  generalize hK : Told _ = K
  conv => whnf
  subst hK
  exact told_bool rfl
/-- A list of dues without a due, in its two forms. -/
def noDue : AV → Bool
  | .ro 0 0 (some 0) _ => true
  | .ro 4 0 none _ => true
  | _ => false
/-- What a loan has: what is not paid back, and what is earned and not due. -/
structure MO where
  P : Int
  A : Int
  d : AV
def MO.cells (m : MO) : List AV := [.int .i64 m.P, .int .i64 m.A, m.d, .int .i64 0, .int .i64 0, .int .i64 0, .int .i64 (0 - m.P), .int .i64 m.A, .int .i64 0, .int .i64 0]
structure OKM (m : MO) : Prop where
  P : 0 ≤ m.P ∧ m.P ≤ 100000000000000
  A : 0 ≤ m.A ∧ m.A ≤ 100000000000000
  d : noDue m.d = true
def moOf : AV → Option (Prop × MO)
  | .agg [c0, c1, c2, c3, c4, c5, c6, c7, c8, c9] => (gI c0).bind fun P => (gI c1).bind fun A => (gI c3).bind fun pe => (gI c4).bind fun fe => (gI c5).bind fun un => (gI c6).bind fun ca => (gI c7).bind fun ea => (gI c8).bind fun fi => (gI c9).bind fun ch =>
    some (pe = 0 ∧ fe = 0 ∧ un = 0 ∧ ca = 0 - P ∧ ea = A ∧ fi = 0 ∧ ch = 0, ⟨P, A, c2⟩)
  | _ => none
theorem moOf_av {v : AV} {q : Prop} {m : MO} (h : moOf v = some (q, m)) (hq : q) : v = .agg m.cells := by
  unfold moOf at h
  split at h
  · simp only [Option.bind_eq_some_iff, Option.some.injEq, Prod.mk.injEq] at h
    obtain ⟨P, e0, A, e1, pe, e3, fe, e4, un, e5, ca, e6, ea, e7, fi, e8, ch, e9, rfl, rfl⟩ := h
    obtain ⟨rfl, rfl, rfl, rfl, rfl, rfl, rfl⟩ := hq
    rw [gI_some e0, gI_some e1, gI_some e3, gI_some e4, gI_some e5, gI_some e6, gI_some e7, gI_some e8, gI_some e9]
    rfl
  · simp at h
def moQ (r : MO → AV) : QSpec := fun vs => match vs with
  | [v] => match moOf v with
    | some (q, m) => some ([q ∧ OKM m], r m)
    | none => none
  | _ => none
theorem moQ_of {f : FuncId} {r : MO → AV} (H : ∀ m, OKM m → SCall Tryz.prog f [.agg m.cells] [] (Told (r m))) : ∀ vs o q, moQ r vs = some (o, q) → conj o → SCall Tryz.prog f vs [] (Told q) := by
  intro vs o q h hob
  unfold moQ at h
  split at h
  · split at h
    · rename_i v q' m e
      simp only [Option.some.injEq, Prod.mk.injEq] at h
      obtain ⟨rfl, rfl⟩ := h
      obtain ⟨h1, h2⟩ : q' ∧ OKM m := hob
      rw [moOf_av e h1]
      exact H m h2
    · simp at h
  · simp at h
theorem noDue_or {d : AV} (h : noDue d = true) : (∃ r, d = .ro 0 0 (some 0) r) ∨ ∃ r, d = .ro 4 0 none r := by
  unfold noDue at h
  split at h
  · exact .inl ⟨_, rfl⟩
  · exact .inr ⟨_, rfl⟩
  · simp at h
def dues0Q : QSpec := fun vs => match vs with
  | [v] => some ([noDue v = true], .tup [.agg [.int .i64 0, .int .i64 0], .bool true])
  | _ => none
theorem of163 : ∀ vs ob r, dues0Q vs = some (ob, r) → conj ob → SCall Tryz.prog 163 vs [] (Told r) := by
  intro vs ob q h hob
  unfold dues0Q at h
  split at h
  · rename_i v
    simp only [Option.some.injEq, Prod.mk.injEq] at h
    obtain ⟨rfl, rfl⟩ := h
    rcases noDue_or hob with ⟨r, rfl⟩ | ⟨r, rfl⟩
    all_goals
      refine scall_of (cfg_ok env_nil 0) Tryz.func163 (by kernel_rfl) rfl ?_
      generalize hK : Told _ = K
      conv => whnf
      refine .inl ⟨[()], unroll_step fun k hk => ?_⟩
      conv => whnf
      subst hk
      conv => whnf
      subst hK
      exact told_of trivial rfl
  · simp at h
def envP1 : Env := [(162, mayQ), (163, dues0Q)]
theorem envP1_ok : EnvOK Tryz.prog envP1 := env_cons may162 (env_cons of163 env_nil)
def readR : MO → AV := fun _ => .tup [.agg [.int .i64 0, .int .i64 0], .bool true]
theorem read135 : ∀ vs ob r, moQ readR vs = some (ob, r) → conj ob → SCall Tryz.prog 135 vs [] (Told r) := moQ_of fun m hm => by
  obtain ⟨P, A, d⟩ := m
  obtain ⟨hP, hA, hd⟩ := hm
  simp only at hP hA hd
  have hz : (0 : Int) ≤ 0 ∧ (0 : Int) ≤ 1000000000000000 := by omega
  have hP' : 0 ≤ P ∧ P ≤ 1000000000000000 := by omega
  have hA' : 0 ≤ A ∧ A ≤ 1000000000000000 := by omega
  rcases noDue_or hd with ⟨r, rfl⟩ | ⟨r, rfl⟩
  all_goals
    refine scall_of (cfg_ok envP1_ok 0) Tryz.func135 (by kernel_rfl) rfl ?_
    generalize hK : Told _ = K
    conv => whnf
    refine .inl ⟨[(), (), (), (), (), (), (), (), ()], ?_⟩
    refine unroll_step fun k hk => ?_
    conv => whnf
    refine ⟨⟨by decide, by decide⟩, ?_⟩
    conv => whnf
    refine ⟨trivial, ?_⟩
    conv => whnf
    refine bf (congrArg (!·) (inF_iff.mpr hP')) ?_
    conv => whnf
    subst hk
    refine unroll_step fun k hk => ?_
    conv => whnf
    refine ⟨⟨⟨by decide, by decide⟩, show _ + _ < 8 from by decide⟩, ?_⟩
    conv => whnf
    refine ⟨trivial, ?_⟩
    conv => whnf
    refine bf (congrArg (!·) (inF_iff.mpr hA')) ?_
    conv => whnf
    subst hk
    refine unroll_step fun k hk => ?_
    conv => whnf
    refine ⟨⟨⟨by decide, by decide⟩, show _ + _ < 8 from by decide⟩, ?_⟩
    conv => whnf
    refine ⟨trivial, ?_⟩
    conv => whnf
    subst hk
    refine unroll_step fun k hk => ?_
    conv => whnf
    refine ⟨⟨⟨by decide, by decide⟩, show _ + _ < 8 from by decide⟩, ?_⟩
    conv => whnf
    refine ⟨trivial, ?_⟩
    conv => whnf
    subst hk
    refine unroll_step fun k hk => ?_
    conv => whnf
    refine ⟨⟨⟨by decide, by decide⟩, show _ + _ < 8 from by decide⟩, ?_⟩
    conv => whnf
    refine ⟨trivial, ?_⟩
    conv => whnf
    subst hk
    refine unroll_step fun k hk => ?_
    conv => whnf
    refine ⟨⟨⟨by decide, by decide⟩, show _ + _ < 8 from by decide⟩, ?_⟩
    conv => whnf
    refine ⟨trivial, ?_⟩
    conv => whnf
    refine bf (congrArg (!·) (inF_iff.mpr hA')) ?_
    conv => whnf
    subst hk
    refine unroll_step fun k hk => ?_
    conv => whnf
    refine ⟨⟨⟨by decide, by decide⟩, show _ + _ < 8 from by decide⟩, ?_⟩
    conv => whnf
    refine ⟨trivial, ?_⟩
    conv => whnf
    subst hk
    refine unroll_step fun k hk => ?_
    conv => whnf
    refine ⟨⟨⟨by decide, by decide⟩, show _ + _ < 8 from by decide⟩, ?_⟩
    conv => whnf
    refine ⟨trivial, ?_⟩
    conv => whnf
    subst hk
    refine unroll_step fun k hk => ?_
    conv => whnf
    subst hk
    conv => whnf
    refine ⟨rfl, ?_⟩
    conv => whnf
    refine bf (by simp; omega) ?_
    conv => whnf
    refine ⟨[(3, 14), (5, 14), (8, 14), (11, 14)], by kernel_rfl, ?_⟩
    conv => whnf
    refine ⟨rfl, ?_⟩
    conv => whnf
    subst hK
    refine told_of trivial (congrArg (fun b => AV.tup [AV.agg [AV.int .i64 0, AV.int .i64 0], AV.bool b]) (?_ : _ = true))
    rw [beq_iff_eq]
    simp (disch := omega) only [w64]
    omega
def rightR : MO → AV := fun _ => .bool true
def owedQ : QSpec := fun vs => match vs with
  | [v, .int .i64 n] => match moOf v with
    | some (q, m) => some ([q ∧ OKM m ∧ (n = 3 ∨ n = 4)], .int .i64 0)
    | none => none
  | _ => none
def envP2 : Env := [(135, moQ readR)]
theorem envP2_ok : EnvOK Tryz.prog envP2 := env_cons read135 env_nil
theorem right90 : ∀ vs ob r, moQ rightR vs = some (ob, r) → conj ob → SCall Tryz.prog 90 vs [] (Told r) := moQ_of fun m hm => by
  obtain ⟨P, A, d⟩ := m
  obtain ⟨hP, hA, hd⟩ := hm
  simp only at hP hA hd
  rcases noDue_or hd with ⟨r, rfl⟩ | ⟨r, rfl⟩
  all_goals
    refine scall_of (cfg_ok envP2_ok 0) Tryz.func90 (by kernel_rfl) rfl ?_
    generalize hK : Told _ = K
    conv => whnf
    refine ⟨⟨⟨rfl, rfl, rfl, rfl, rfl, rfl, rfl⟩, hP, hA, hd⟩, ?_⟩
    conv => whnf
    subst hK
    exact told_of trivial rfl
theorem owed107 : ∀ vs ob r, owedQ vs = some (ob, r) → conj ob → SCall Tryz.prog 107 vs [] (Told r) := by
  intro vs ob q h hob
  unfold owedQ at h
  split at h
  · split at h
    · rename_i v n x q' m e
      simp only [Option.some.injEq, Prod.mk.injEq] at h
      obtain ⟨rfl, rfl⟩ := h
      obtain ⟨h1, hm, hn⟩ : q' ∧ OKM m ∧ (n = 3 ∨ n = 4) := hob
      rw [moOf_av e h1]
      clear e h1
      obtain ⟨P, A, d⟩ := m
      obtain ⟨hP, hA, hd⟩ := hm
      simp only at hP hA hd
      rcases noDue_or hd with ⟨r, rfl⟩ | ⟨r, rfl⟩ <;> rcases hn with rfl | rfl
      all_goals
        refine scall_of (cfg_ok envP2_ok 0) Tryz.func107 (by kernel_rfl) rfl ?_
        generalize hK : Told _ = K
        conv => whnf
        refine ⟨⟨⟨rfl, rfl, rfl, rfl, rfl, rfl, rfl⟩, hP, hA, hd⟩, ?_⟩
        conv => whnf
        refine scall_of (cfg_ok envP2_ok 2) Tryz.func143 (by kernel_rfl) rfl ?_
        conv => whnf
        subst hK
        exact told_of trivial rfl
    · simp at h
  · simp at h
end Go.Proofs.YtnnoplgabnfdiaaGreatDoor.Sh
