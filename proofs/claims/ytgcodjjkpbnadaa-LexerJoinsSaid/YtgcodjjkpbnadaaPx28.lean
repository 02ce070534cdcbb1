-- PRINTED by print.py (a twelfth state) out of the translation. Not trusted: Lean checks it.
import Derived.Test.YtgcodjjkpbnadaaPx0
import Derived.Test.YtgcodjjkpbnadaaPx1
import Derived.Test.YtgcodjjkpbnadaaPx15
import Derived.Test.YtgcodjjkpbnadaaPx16
namespace Go.Proofs.Ytgcodjjkpbnadaa.P
open Go.RowKit Go.Proofs.YtgcodjjkpbnadaaW.PrintWords Go.Proofs.YtgcodjjkpbnadaaW.PrintLast Go.Proofs.YtgcodjjkpbnadaaW.PrintMore
attribute [local go_sem] max2_int min2_int max_two min_two max_three min_three max_four min_four   -- for this text's walks alone
set_option linter.unusedVariables false
set_option linter.unusedSimpArgs false

attribute [local go_sem high] eqA29
/-! ### quittancelaw07_LexerJoins: function 7 -/
mutual
def quittancelaw07_LexerJoins.j0 : Nat → ByteArray → ByteArray → Bool → Option (Bool)
  | 0, _, _, _ => none
  | k + 1, x0, x1, x23 => if x23 = true then ((quittancelaw07_awake.f k).bind fun t191 => (some t191)) else ((lexer_All.f k x0).bind fun bt192 => ((lexer_All.f k x1).bind fun bt197 => (if x0.size + 1 ≤ 9223372036854775807 then (if (x0 ++ (⟨#[10]⟩ : ByteArray)).size + x1.size ≤ 9223372036854775807 then ((lexer_All.f k ((x0 ++ (⟨#[10]⟩ : ByteArray)) ++ x1)).bind fun bt202 => ((quittancelaw07_awake.f k).bind fun t207 => (if t207 = true then (quittancelaw07_LexerJoins.j1 k x0 bt192.1 bt197.1 bt197.2.1 bt197.2.2 bt202.1 bt202.2.1 bt202.2.2 (bt192.2.2 != 0)) else (quittancelaw07_LexerJoins.j1 k x0 bt192.1 bt197.1 bt197.2.1 bt197.2.2 bt202.1 bt202.2.1 bt202.2.2 true)))) else (none)) else (none))))
def quittancelaw07_LexerJoins.j1 : Nat → ByteArray → List (S29) → List (S29) → Int → Int → List (S29) → Int → Int → Bool → Option (Bool)
  | 0, _, _, _, _, _, _, _, _, _ => none
  | k + 1, x0, x5, x8, x9, x10, x11, x12, x13, x51 => if x51 = true then ((quittancelaw07_awake.f k).bind fun t208 => (if t208 = true then (some (x13 == 6)) else (some false))) else (if x10 = 0 then (if (x5.length : Int) = 0 then (quittancelaw07_LexerJoins.j2 k x0 x5 x8 x11 true) else (if x13 = 0 then (quittancelaw07_LexerJoins.j2 k x0 x5 x8 x11 ((x11.length : Int) != (wrap64 ((wrap64 ((x5.length : Int) - 1)) + (x8.length : Int))))) else (quittancelaw07_LexerJoins.j2 k x0 x5 x8 x11 true))) else (if x13 = 6 then (if x12 = (wrap64 ((wrap64 (x9 + (x0.size : Int))) + 1)) then (some ((x11.length : Int) == 0)) else (some false)) else (some false)))
def quittancelaw07_LexerJoins.j2 : Nat → ByteArray → List (S29) → List (S29) → List (S29) → Bool → Option (Bool)
  | 0, _, _, _, _, _ => none
  | k + 1, x0, x5, x8, x11, x92 => if x92 = true then (some false) else (quittancelaw07_LexerJoins.l0 k x0 x5 x8 x11 0)
def quittancelaw07_LexerJoins.l0 : Nat → ByteArray → List (S29) → List (S29) → List (S29) → Int → Option (Bool)
  | 0, _, _, _, _, _ => none
  | k + 1, x0, x5, x8, x11, x14 => if x14 < (x11.length : Int) then (if x14 < (wrap64 ((x5.length : Int) - 1)) then (if 0 ≤ x14 then (if x14 < (x5.length : Int) then (if (!(((rd_T29 x11 x14).f0) == ((rd_T29 x5 x14).f0)) || (!(((rd_T29 x11 x14).f1) == ((rd_T29 x5 x14).f1)) || (!((((rd_T29 x11 x14).f2).toList) == (((rd_T29 x5 x14).f2).toList))))) = true then (some false) else (quittancelaw07_LexerJoins.l0 k x0 x5 x8 x11 (wrap64 (x14 + 1)))) else (none)) else (none)) else (if 0 ≤ (wrap64 ((wrap64 (x14 - (x5.length : Int))) + 1)) then (if (wrap64 ((wrap64 (x14 - (x5.length : Int))) + 1)) < (x8.length : Int) then (if 0 ≤ x14 then (if (!(((rd_T29 x11 x14).f0) == ((rd_T29 x8 (wrap64 ((wrap64 (x14 - (x5.length : Int))) + 1))).f0)) || (!(((rd_T29 x11 x14).f1) == (wrap64 ((wrap64 (((rd_T29 x8 (wrap64 ((wrap64 (x14 - (x5.length : Int))) + 1))).f1) + (x0.size : Int))) + 1))) || (!((((rd_T29 x11 x14).f2).toList) == (((rd_T29 x8 (wrap64 ((wrap64 (x14 - (x5.length : Int))) + 1))).f2).toList))))) = true then (some false) else (quittancelaw07_LexerJoins.l0 k x0 x5 x8 x11 (wrap64 (x14 + 1)))) else (none)) else (none)) else (none))) else (some true)
end
def quittancelaw07_LexerJoins.f (k : Nat) (a0 : ByteArray) (a1 : ByteArray) : Option (Bool) := if (a0.size : Int) > 1000 then (quittancelaw07_LexerJoins.j0 k a0 a1 true) else (quittancelaw07_LexerJoins.j0 k a0 a1 (decide ((a1.size : Int) > 1000)))
theorem quittancelaw07_LexerJoins.mono_l : ∀ k, (∀ y0 y1 y2, LeO (quittancelaw07_LexerJoins.j0 k y0 y1 y2) (quittancelaw07_LexerJoins.j0 (k + 1) y0 y1 y2)) ∧ (∀ y0 y1 y2 y3 y4 y5 y6 y7 y8, LeO (quittancelaw07_LexerJoins.j1 k y0 y1 y2 y3 y4 y5 y6 y7 y8) (quittancelaw07_LexerJoins.j1 (k + 1) y0 y1 y2 y3 y4 y5 y6 y7 y8)) ∧ (∀ y0 y1 y2 y3 y4, LeO (quittancelaw07_LexerJoins.j2 k y0 y1 y2 y3 y4) (quittancelaw07_LexerJoins.j2 (k + 1) y0 y1 y2 y3 y4)) ∧ (∀ y0 y1 y2 y3 y4, LeO (quittancelaw07_LexerJoins.l0 k y0 y1 y2 y3 y4) (quittancelaw07_LexerJoins.l0 (k + 1) y0 y1 y2 y3 y4))
  | 0 => ⟨fun _ _ _ r h => by simp [quittancelaw07_LexerJoins.j0] at h, fun _ _ _ _ _ _ _ _ _ r h => by simp [quittancelaw07_LexerJoins.j1] at h, fun _ _ _ _ _ r h => by simp [quittancelaw07_LexerJoins.j2] at h, fun _ _ _ _ _ r h => by simp [quittancelaw07_LexerJoins.l0] at h⟩
  | k + 1 => by
    obtain ⟨ih0, ih1, ih2, ih3⟩ := quittancelaw07_LexerJoins.mono_l k
    refine ⟨?_, ?_, ?_, ?_⟩
    · intro y0 y1 y2
      unfold quittancelaw07_LexerJoins.j0
      repeat' first
      | (with_reducible exact ih0 _ _ _)
      | (with_reducible exact ih1 _ _ _ _ _ _ _ _ _)
      | (with_reducible exact ih2 _ _ _ _ _)
      | (with_reducible exact ih3 _ _ _ _ _)
      | (with_reducible exact lexer_All.mono _ _)
      | (with_reducible exact quittancelaw07_awake.mono _)
      | (with_reducible exact LeO.refl _)
      | (with_reducible exact LeO.none _)
      | (with_reducible refine LeO.ite ?_ ?_)
      | (with_reducible refine LeO.bind ?_ (fun _ => ?_))
      | exact ih0 _ _ _
      | exact ih1 _ _ _ _ _ _ _ _ _
      | exact ih2 _ _ _ _ _
      | exact ih3 _ _ _ _ _
      | exact lexer_All.mono _ _
      | exact quittancelaw07_awake.mono _
      | exact LeO.none _
      | refine LeO.ite ?_ ?_
      | refine LeO.bind ?_ (fun _ => ?_)
    · intro y0 y1 y2 y3 y4 y5 y6 y7 y8
      unfold quittancelaw07_LexerJoins.j1
      repeat' first
      | (with_reducible exact ih0 _ _ _)
      | (with_reducible exact ih1 _ _ _ _ _ _ _ _ _)
      | (with_reducible exact ih2 _ _ _ _ _)
      | (with_reducible exact ih3 _ _ _ _ _)
      | (with_reducible exact lexer_All.mono _ _)
      | (with_reducible exact quittancelaw07_awake.mono _)
      | (with_reducible exact LeO.refl _)
      | (with_reducible exact LeO.none _)
      | (with_reducible refine LeO.ite ?_ ?_)
      | (with_reducible refine LeO.bind ?_ (fun _ => ?_))
      | exact ih0 _ _ _
      | exact ih1 _ _ _ _ _ _ _ _ _
      | exact ih2 _ _ _ _ _
      | exact ih3 _ _ _ _ _
      | exact lexer_All.mono _ _
      | exact quittancelaw07_awake.mono _
      | exact LeO.none _
      | refine LeO.ite ?_ ?_
      | refine LeO.bind ?_ (fun _ => ?_)
    · intro y0 y1 y2 y3 y4
      unfold quittancelaw07_LexerJoins.j2
      repeat' first
      | (with_reducible exact ih0 _ _ _)
      | (with_reducible exact ih1 _ _ _ _ _ _ _ _ _)
      | (with_reducible exact ih2 _ _ _ _ _)
      | (with_reducible exact ih3 _ _ _ _ _)
      | (with_reducible exact lexer_All.mono _ _)
      | (with_reducible exact quittancelaw07_awake.mono _)
      | (with_reducible exact LeO.refl _)
      | (with_reducible exact LeO.none _)
      | (with_reducible refine LeO.ite ?_ ?_)
      | (with_reducible refine LeO.bind ?_ (fun _ => ?_))
      | exact ih0 _ _ _
      | exact ih1 _ _ _ _ _ _ _ _ _
      | exact ih2 _ _ _ _ _
      | exact ih3 _ _ _ _ _
      | exact lexer_All.mono _ _
      | exact quittancelaw07_awake.mono _
      | exact LeO.none _
      | refine LeO.ite ?_ ?_
      | refine LeO.bind ?_ (fun _ => ?_)
    · intro y0 y1 y2 y3 y4
      unfold quittancelaw07_LexerJoins.l0
      repeat' first
      | (with_reducible exact ih0 _ _ _)
      | (with_reducible exact ih1 _ _ _ _ _ _ _ _ _)
      | (with_reducible exact ih2 _ _ _ _ _)
      | (with_reducible exact ih3 _ _ _ _ _)
      | (with_reducible exact lexer_All.mono _ _)
      | (with_reducible exact quittancelaw07_awake.mono _)
      | (with_reducible exact LeO.refl _)
      | (with_reducible exact LeO.none _)
      | (with_reducible refine LeO.ite ?_ ?_)
      | (with_reducible refine LeO.bind ?_ (fun _ => ?_))
      | exact ih0 _ _ _
      | exact ih1 _ _ _ _ _ _ _ _ _
      | exact ih2 _ _ _ _ _
      | exact ih3 _ _ _ _ _
      | exact lexer_All.mono _ _
      | exact quittancelaw07_awake.mono _
      | exact LeO.none _
      | refine LeO.ite ?_ ?_
      | refine LeO.bind ?_ (fun _ => ?_)
theorem quittancelaw07_LexerJoins.mono : ∀ a0 a1 k, LeO (quittancelaw07_LexerJoins.f k a0 a1) (quittancelaw07_LexerJoins.f (k + 1) a0 a1) := by
  intro a0 a1 k
  obtain ⟨ih0, ih1, ih2, ih3⟩ := quittancelaw07_LexerJoins.mono_l k
  unfold quittancelaw07_LexerJoins.f
  repeat' first
      | (with_reducible exact ih0 _ _ _)
      | (with_reducible exact ih1 _ _ _ _ _ _ _ _ _)
      | (with_reducible exact ih2 _ _ _ _ _)
      | (with_reducible exact ih3 _ _ _ _ _)
      | (with_reducible exact lexer_All.mono _ _)
      | (with_reducible exact quittancelaw07_awake.mono _)
      | (with_reducible exact LeO.refl _)
      | (with_reducible exact LeO.none _)
      | (with_reducible refine LeO.ite ?_ ?_)
      | (with_reducible refine LeO.bind ?_ (fun _ => ?_))
      | exact ih0 _ _ _
      | exact ih1 _ _ _ _ _ _ _ _ _
      | exact ih2 _ _ _ _ _
      | exact ih3 _ _ _ _ _
      | exact lexer_All.mono _ _
      | exact quittancelaw07_awake.mono _
      | exact LeO.none _
      | refine LeO.ite ?_ ?_
      | refine LeO.bind ?_ (fun _ => ?_)
set_option maxHeartbeats 8000000 in
set_option maxRecDepth 100000 in
theorem quittancelaw07_LexerJoins.calls (k : Nat) (a0 : ByteArray) (a1 : ByteArray) (r : Bool) (w : World) (h : quittancelaw07_LexerJoins.f k a0 a1 = some r) :
    Calls Try.prog 7 #[.string a0, .string a1] w fun e w' => e = .returned (.bool r) ∧ Below w.heap.size w w' := by
  have hu29 := Try.underlying29
  have HB := Aside0.mk (Below.refl w.heap.size w)
  have H : (if (a0.size : Int) > 1000 then (quittancelaw07_LexerJoins.j0 k a0 a1 true) else (quittancelaw07_LexerJoins.j0 k a0 a1 (decide ((a1.size : Int) > 1000)))) = some r := h
  clear h
  have HC3 := Aside0.mk H
  clear H
  go_enter Try.func7, Try.ntmps7
  go_upto_region 1 with (fail)
  repeat (go_quiet (fail); go_upto_region 1 with (fail))
  go_cut [23] (fun v23 wc => ∃ (kq : Nat) (x23_2 : Bool), v23 = .bool x23_2 ∧ Aside0 (quittancelaw07_LexerJoins.j0 kq a0 a1 x23_2 = some r) ∧ Aside0 (kq ≤ k) ∧ Aside0 (Below w.heap.size w wc))
  case first =>
    have H := HC3.out
    clear HC3
    by_cases c4 : (a0.size : Int) > 1000
    · rw [if_pos c4] at H
      have c4b0 : decide (1000 < (a0.size : Int)) = true := decide_eq_true c4
      have c4b1 : decide (1000 < a0.size) = true := decide_eq_true (by omega)
      clear c4
      (first | rw [c4b0] | (simp only [i64_w, i32_w]; rw [c4b0]) | skip)
      have H' := Aside0.mk H
      clear H
      go_wp2
      repeat (go_quiet (fail); try go_wp2)
      go_meet
      case rel => exact ⟨_, (true), (by first | rfl | (simp; done) | (simp [*]; done)), H', ⟨by first | omega | exact Nat.le_refl _⟩, ⟨by repeat (first | (with_reducible first | exact HB.out | apply below_alloc | apply pw_below_drewN | apply below_drew1) | exact HB.out)⟩⟩
    · rw [if_neg c4] at H
      have c4b0 : decide (1000 < (a0.size : Int)) = false := decide_eq_false c4
      have c4b1 : decide (1000 < a0.size) = false := decide_eq_false (by omega)
      clear c4
      (first | rw [c4b0] | (simp only [i64_w, i32_w]; rw [c4b0]) | skip)
      have H' := Aside0.mk H
      clear H
      go_wp2
      repeat (go_quiet (fail); try go_wp2)
      go_meet
      case rel => exact ⟨_, (decide ((a1.size : Int) > 1000)), (by first | rfl | (simp; done) | (simp [*]; done)), H', ⟨by first | omega | exact Nat.le_refl _⟩, ⟨by repeat (first | (with_reducible first | exact HB.out | apply below_alloc | apply pw_below_drewN | apply below_drew1) | exact HB.out)⟩⟩
  case rest =>
    clear HC3
    try clear p2
    try clear c4
    try clear c4b0
    try clear c4b1
    obtain ⟨kq, x23_2, rfl, HA, HJ2, HB⟩ := hcut
    cases kq with
    | zero => exact absurd HA.out (by simp [quittancelaw07_LexerJoins.j0])
    | succ kj2 =>
      have H := HA.out
      clear HA
      simp only [quittancelaw07_LexerJoins.j0] at H
      by_cases c5 : x23_2 = true
      · subst c5
        have H1 : ((quittancelaw07_awake.f kj2).bind fun t191 => (some t191)) = some r := by rw [if_pos rfl] at H; exact H
        clear H
        have H := H1
        clear H1
        replace H := Option.bind_eq_some_iff.mp H
        obtain ⟨t191, A60, H⟩ := H
        replace H : (some t191) = some r := H
        have A6 := Aside0.mk A60
        clear A60
        obtain rfl := Option.some.inj H
        go_wp2_with (first | (go_at_call 8; (with_reducible refine (quittancelaw07_awake.calls kj2  t191 _ A6.out).mono ?_); rintro e w7 ⟨rfl, hb⟩; have n0_ := Aside0.mk (below_step (by repeat (first | (with_reducible first | exact HB.out | apply below_alloc | apply pw_below_drewN | apply below_drew1) | exact HB.out)) hb); clear HB; have HB := n0_; clear n0_; (try clear hb); (try clear hb2); (try clear hk); (try clear hi)))
        repeat (go_quiet (first | (go_at_call 8; (with_reducible refine (quittancelaw07_awake.calls kj2  t191 _ A6.out).mono ?_); rintro e w7 ⟨rfl, hb⟩; have n0_ := Aside0.mk (below_step (by repeat (first | (with_reducible first | exact HB.out | apply below_alloc | apply pw_below_drewN | apply below_drew1) | exact HB.out)) hb); clear HB; have HB := n0_; clear n0_; (try clear hb); (try clear hb2); (try clear hk); (try clear hi))); try go_wp2_with (first | (go_at_call 8; (with_reducible refine (quittancelaw07_awake.calls kj2  t191 _ A6.out).mono ?_); rintro e w7 ⟨rfl, hb⟩; have n0_ := Aside0.mk (below_step (by repeat (first | (with_reducible first | exact HB.out | apply below_alloc | apply pw_below_drewN | apply below_drew1) | exact HB.out)) hb); clear HB; have HB := n0_; clear n0_; (try clear hb); (try clear hb2); (try clear hk); (try clear hi))))
        go_ret
        exact ⟨by first | rfl | (simp [errW_none, errW_some] <;> rfl) | (simp [*, errW_none, errW_some] <;> rfl), by repeat (first | (with_reducible first | exact HB.out | apply below_alloc | apply pw_below_drewN | apply below_drew1) | exact HB.out)⟩
      · replace c5 := Bool.eq_false_iff.mpr c5
        subst c5
        have H1 : ((lexer_All.f kj2 a0).bind fun bt192 => ((lexer_All.f kj2 a1).bind fun bt197 => (if a0.size + 1 ≤ 9223372036854775807 then (if (a0 ++ (⟨#[10]⟩ : ByteArray)).size + a1.size ≤ 9223372036854775807 then ((lexer_All.f kj2 ((a0 ++ (⟨#[10]⟩ : ByteArray)) ++ a1)).bind fun bt202 => ((quittancelaw07_awake.f kj2).bind fun t207 => (if t207 = true then (quittancelaw07_LexerJoins.j1 kj2 a0 bt192.1 bt197.1 bt197.2.1 bt197.2.2 bt202.1 bt202.2.1 bt202.2.2 (bt192.2.2 != 0)) else (quittancelaw07_LexerJoins.j1 kj2 a0 bt192.1 bt197.1 bt197.2.1 bt197.2.2 bt202.1 bt202.2.1 bt202.2.2 true)))) else (none)) else (none)))) = some r := by rw [if_neg (show ¬ (false = true) by decide)] at H; exact H
        clear H
        have H := H1
        clear H1
        replace H := Option.bind_eq_some_iff.mp H
        obtain ⟨⟨t192, t193, t194⟩, A80, H⟩ := H
        replace H : ((lexer_All.f kj2 a1).bind fun bt197 => (if a0.size + 1 ≤ 9223372036854775807 then (if (a0 ++ (⟨#[10]⟩ : ByteArray)).size + a1.size ≤ 9223372036854775807 then ((lexer_All.f kj2 ((a0 ++ (⟨#[10]⟩ : ByteArray)) ++ a1)).bind fun bt202 => ((quittancelaw07_awake.f kj2).bind fun t207 => (if t207 = true then (quittancelaw07_LexerJoins.j1 kj2 a0 t192 bt197.1 bt197.2.1 bt197.2.2 bt202.1 bt202.2.1 bt202.2.2 (t194 != 0)) else (quittancelaw07_LexerJoins.j1 kj2 a0 t192 bt197.1 bt197.2.1 bt197.2.2 bt202.1 bt202.2.1 bt202.2.2 true)))) else (none)) else (none))) = some r := H
        have A8 := Aside0.mk A80
        clear A80
        replace H := Option.bind_eq_some_iff.mp H
        obtain ⟨⟨t197, t198, t199⟩, A90, H⟩ := H
        replace H : (if a0.size + 1 ≤ 9223372036854775807 then (if (a0 ++ (⟨#[10]⟩ : ByteArray)).size + a1.size ≤ 9223372036854775807 then ((lexer_All.f kj2 ((a0 ++ (⟨#[10]⟩ : ByteArray)) ++ a1)).bind fun bt202 => ((quittancelaw07_awake.f kj2).bind fun t207 => (if t207 = true then (quittancelaw07_LexerJoins.j1 kj2 a0 t192 t197 t198 t199 bt202.1 bt202.2.1 bt202.2.2 (t194 != 0)) else (quittancelaw07_LexerJoins.j1 kj2 a0 t192 t197 t198 t199 bt202.1 bt202.2.1 bt202.2.2 true)))) else (none)) else (none)) = some r := H
        have A9 := Aside0.mk A90
        clear A90
        by_cases c10 : a0.size + 1 ≤ 9223372036854775807
        · rw [if_pos c10] at H
          have c10b0 := eq_true c10
          have c10b1 : decide (a0.size + 1 ≤ 9223372036854775807) = true := decide_eq_true c10
          try have c10b2 : (9223372036854775807 < a0.size + 1) = False := eq_false (Nat.not_lt.2 c10)
          by_cases c11 : (a0 ++ (⟨#[10]⟩ : ByteArray)).size + a1.size ≤ 9223372036854775807
          · rw [if_pos c11] at H
            have c11b0 := eq_true c11
            have c11b1 : decide ((a0 ++ (⟨#[10]⟩ : ByteArray)).size + a1.size ≤ 9223372036854775807) = true := decide_eq_true c11
            try have c11b2 : (9223372036854775807 < (a0 ++ (⟨#[10]⟩ : ByteArray)).size + a1.size) = False := eq_false (Nat.not_lt.2 c11)
            replace H := Option.bind_eq_some_iff.mp H
            obtain ⟨⟨t202, t203, t204⟩, A120, H⟩ := H
            replace H : ((quittancelaw07_awake.f kj2).bind fun t207 => (if t207 = true then (quittancelaw07_LexerJoins.j1 kj2 a0 t192 t197 t198 t199 t202 t203 t204 (t194 != 0)) else (quittancelaw07_LexerJoins.j1 kj2 a0 t192 t197 t198 t199 t202 t203 t204 true))) = some r := H
            have A12 := Aside0.mk A120
            clear A120
            have HC13 := Aside0.mk H
            clear H
            go_upto_region 6 with (first | (go_at_call 9; (with_reducible refine (lexer_All.calls kj2 a0 t192 t193 t194 _ A8.out).mono ?_); rintro e w14 ⟨v195, rfl, ho0, hb⟩; have n0_ := Aside0.mk (Kd.R_lower ho0 (below_size (by repeat (first | (with_reducible first | exact HB.out | apply below_alloc | apply pw_below_drewN | apply below_drew1) | exact HB.out)))); have n1_ := Aside0.mk (below_step (by repeat (first | (with_reducible first | exact HB.out | apply below_alloc | apply pw_below_drewN | apply below_drew1) | exact HB.out)) hb); clear HB; have HO196 := n0_; have HB := n1_; clear n0_ n1_; (try clear hb); (try clear hb2); (try clear hk); (try clear hi); (try clear ho0)) | (go_at_call 9; (with_reducible refine (lexer_All.calls kj2 a1 t197 t198 t199 _ A9.out).mono ?_); rintro e w15 ⟨v200, rfl, ho0, hb⟩; have n0_ := Aside0.mk (Kd.R_elder' (by (with_reducible repeat (first | apply Kd.R_alloc | apply Kd.R_drewN | apply Kd.R_drew)); exact HO196.out) (Kd.R_base ho0) hb); have n1_ := Aside0.mk (Kd.R_lower (Kd.R_new' ho0 (Kd.R_lt (by (with_reducible repeat (first | apply Kd.R_alloc | apply Kd.R_drewN | apply Kd.R_drew)); exact HO196.out))) (below_size (by repeat (first | (with_reducible first | exact HB.out | apply below_alloc | apply pw_below_drewN | apply below_drew1) | exact HB.out)))); have n2_ := Aside0.mk (below_step (by repeat (first | (with_reducible first | exact HB.out | apply below_alloc | apply pw_below_drewN | apply below_drew1) | exact HB.out)) hb); clear HO196; clear HB; have HO196 := n0_; have HO201 := n1_; have HB := n2_; clear n0_ n1_ n2_; (try clear hb); (try clear hb2); (try clear hk); (try clear hi); (try clear ho0)) | (go_at_call 9; (with_reducible refine (lexer_All.calls kj2 ((a0 ++ (⟨#[10]⟩ : ByteArray)) ++ a1) t202 t203 t204 _ A12.out).mono ?_); rintro e w16 ⟨v205, rfl, ho0, hb⟩; have n0_ := Aside0.mk (Kd.R_elder' (by (with_reducible repeat (first | apply Kd.R_alloc | apply Kd.R_drewN | apply Kd.R_drew)); exact HO196.out) (Kd.R_base ho0) hb); have n1_ := Aside0.mk (Kd.R_elder' (by (with_reducible repeat (first | apply Kd.R_alloc | apply Kd.R_drewN | apply Kd.R_drew)); exact HO201.out) (Kd.R_base ho0) hb); have n2_ := Aside0.mk (Kd.R_lower (Kd.R_new' (Kd.R_new' ho0 (Kd.R_lt (by (with_reducible repeat (first | apply Kd.R_alloc | apply Kd.R_drewN | apply Kd.R_drew)); exact HO196.out))) (Kd.R_lt (by (with_reducible repeat (first | apply Kd.R_alloc | apply Kd.R_drewN | apply Kd.R_drew)); exact HO201.out))) (below_size (by repeat (first | (with_reducible first | exact HB.out | apply below_alloc | apply pw_below_drewN | apply below_drew1) | exact HB.out)))); have n3_ := Aside0.mk (below_step (by repeat (first | (with_reducible first | exact HB.out | apply below_alloc | apply pw_below_drewN | apply below_drew1) | exact HB.out)) hb); clear HO196; clear HO201; clear HB; have HO196 := n0_; have HO201 := n1_; have HO206 := n2_; have HB := n3_; clear n0_ n1_ n2_ n3_; (try clear hb); (try clear hb2); (try clear hk); (try clear hi); (try clear ho0)))
            repeat (go_quiet (first | (go_at_call 9; (with_reducible refine (lexer_All.calls kj2 a0 t192 t193 t194 _ A8.out).mono ?_); rintro e w14 ⟨v195, rfl, ho0, hb⟩; have n0_ := Aside0.mk (Kd.R_lower ho0 (below_size (by repeat (first | (with_reducible first | exact HB.out | apply below_alloc | apply pw_below_drewN | apply below_drew1) | exact HB.out)))); have n1_ := Aside0.mk (below_step (by repeat (first | (with_reducible first | exact HB.out | apply below_alloc | apply pw_below_drewN | apply below_drew1) | exact HB.out)) hb); clear HB; have HO196 := n0_; have HB := n1_; clear n0_ n1_; (try clear hb); (try clear hb2); (try clear hk); (try clear hi); (try clear ho0)) | (go_at_call 9; (with_reducible refine (lexer_All.calls kj2 a1 t197 t198 t199 _ A9.out).mono ?_); rintro e w15 ⟨v200, rfl, ho0, hb⟩; have n0_ := Aside0.mk (Kd.R_elder' (by (with_reducible repeat (first | apply Kd.R_alloc | apply Kd.R_drewN | apply Kd.R_drew)); exact HO196.out) (Kd.R_base ho0) hb); have n1_ := Aside0.mk (Kd.R_lower (Kd.R_new' ho0 (Kd.R_lt (by (with_reducible repeat (first | apply Kd.R_alloc | apply Kd.R_drewN | apply Kd.R_drew)); exact HO196.out))) (below_size (by repeat (first | (with_reducible first | exact HB.out | apply below_alloc | apply pw_below_drewN | apply below_drew1) | exact HB.out)))); have n2_ := Aside0.mk (below_step (by repeat (first | (with_reducible first | exact HB.out | apply below_alloc | apply pw_below_drewN | apply below_drew1) | exact HB.out)) hb); clear HO196; clear HB; have HO196 := n0_; have HO201 := n1_; have HB := n2_; clear n0_ n1_ n2_; (try clear hb); (try clear hb2); (try clear hk); (try clear hi); (try clear ho0)) | (go_at_call 9; (with_reducible refine (lexer_All.calls kj2 ((a0 ++ (⟨#[10]⟩ : ByteArray)) ++ a1) t202 t203 t204 _ A12.out).mono ?_); rintro e w16 ⟨v205, rfl, ho0, hb⟩; have n0_ := Aside0.mk (Kd.R_elder' (by (with_reducible repeat (first | apply Kd.R_alloc | apply Kd.R_drewN | apply Kd.R_drew)); exact HO196.out) (Kd.R_base ho0) hb); have n1_ := Aside0.mk (Kd.R_elder' (by (with_reducible repeat (first | apply Kd.R_alloc | apply Kd.R_drewN | apply Kd.R_drew)); exact HO201.out) (Kd.R_base ho0) hb); have n2_ := Aside0.mk (Kd.R_lower (Kd.R_new' (Kd.R_new' ho0 (Kd.R_lt (by (with_reducible repeat (first | apply Kd.R_alloc | apply Kd.R_drewN | apply Kd.R_drew)); exact HO196.out))) (Kd.R_lt (by (with_reducible repeat (first | apply Kd.R_alloc | apply Kd.R_drewN | apply Kd.R_drew)); exact HO201.out))) (below_size (by repeat (first | (with_reducible first | exact HB.out | apply below_alloc | apply pw_below_drewN | apply below_drew1) | exact HB.out)))); have n3_ := Aside0.mk (below_step (by repeat (first | (with_reducible first | exact HB.out | apply below_alloc | apply pw_below_drewN | apply below_drew1) | exact HB.out)) hb); clear HO196; clear HO201; clear HB; have HO196 := n0_; have HO201 := n1_; have HO206 := n2_; have HB := n3_; clear n0_ n1_ n2_ n3_; (try clear hb); (try clear hb2); (try clear hk); (try clear hi); (try clear ho0))); go_upto_region 6 with (first | (go_at_call 9; (with_reducible refine (lexer_All.calls kj2 a0 t192 t193 t194 _ A8.out).mono ?_); rintro e w14 ⟨v195, rfl, ho0, hb⟩; have n0_ := Aside0.mk (Kd.R_lower ho0 (below_size (by repeat (first | (with_reducible first | exact HB.out | apply below_alloc | apply pw_below_drewN | apply below_drew1) | exact HB.out)))); have n1_ := Aside0.mk (below_step (by repeat (first | (with_reducible first | exact HB.out | apply below_alloc | apply pw_below_drewN | apply below_drew1) | exact HB.out)) hb); clear HB; have HO196 := n0_; have HB := n1_; clear n0_ n1_; (try clear hb); (try clear hb2); (try clear hk); (try clear hi); (try clear ho0)) | (go_at_call 9; (with_reducible refine (lexer_All.calls kj2 a1 t197 t198 t199 _ A9.out).mono ?_); rintro e w15 ⟨v200, rfl, ho0, hb⟩; have n0_ := Aside0.mk (Kd.R_elder' (by (with_reducible repeat (first | apply Kd.R_alloc | apply Kd.R_drewN | apply Kd.R_drew)); exact HO196.out) (Kd.R_base ho0) hb); have n1_ := Aside0.mk (Kd.R_lower (Kd.R_new' ho0 (Kd.R_lt (by (with_reducible repeat (first | apply Kd.R_alloc | apply Kd.R_drewN | apply Kd.R_drew)); exact HO196.out))) (below_size (by repeat (first | (with_reducible first | exact HB.out | apply below_alloc | apply pw_below_drewN | apply below_drew1) | exact HB.out)))); have n2_ := Aside0.mk (below_step (by repeat (first | (with_reducible first | exact HB.out | apply below_alloc | apply pw_below_drewN | apply below_drew1) | exact HB.out)) hb); clear HO196; clear HB; have HO196 := n0_; have HO201 := n1_; have HB := n2_; clear n0_ n1_ n2_; (try clear hb); (try clear hb2); (try clear hk); (try clear hi); (try clear ho0)) | (go_at_call 9; (with_reducible refine (lexer_All.calls kj2 ((a0 ++ (⟨#[10]⟩ : ByteArray)) ++ a1) t202 t203 t204 _ A12.out).mono ?_); rintro e w16 ⟨v205, rfl, ho0, hb⟩; have n0_ := Aside0.mk (Kd.R_elder' (by (with_reducible repeat (first | apply Kd.R_alloc | apply Kd.R_drewN | apply Kd.R_drew)); exact HO196.out) (Kd.R_base ho0) hb); have n1_ := Aside0.mk (Kd.R_elder' (by (with_reducible repeat (first | apply Kd.R_alloc | apply Kd.R_drewN | apply Kd.R_drew)); exact HO201.out) (Kd.R_base ho0) hb); have n2_ := Aside0.mk (Kd.R_lower (Kd.R_new' (Kd.R_new' ho0 (Kd.R_lt (by (with_reducible repeat (first | apply Kd.R_alloc | apply Kd.R_drewN | apply Kd.R_drew)); exact HO196.out))) (Kd.R_lt (by (with_reducible repeat (first | apply Kd.R_alloc | apply Kd.R_drewN | apply Kd.R_drew)); exact HO201.out))) (below_size (by repeat (first | (with_reducible first | exact HB.out | apply below_alloc | apply pw_below_drewN | apply below_drew1) | exact HB.out)))); have n3_ := Aside0.mk (below_step (by repeat (first | (with_reducible first | exact HB.out | apply below_alloc | apply pw_below_drewN | apply below_drew1) | exact HB.out)) hb); clear HO196; clear HO201; clear HB; have HO196 := n0_; have HO201 := n1_; have HO206 := n2_; have HB := n3_; clear n0_ n1_ n2_ n3_; (try clear hb); (try clear hb2); (try clear hk); (try clear hi); (try clear ho0))))
            (try simp only [Act.put, List.setIfInBounds_toArray, List.set_cons_zero, List.set_cons_succ])
            go_cut [51] (fun v51 wc => ∃ (kq : Nat) (x51_12 : Bool), v51 = .bool x51_12 ∧ Aside0 (quittancelaw07_LexerJoins.j1 kq a0 t192 t197 t198 t199 t202 t203 t204 x51_12 = some r) ∧ Aside0 (kq ≤ kj2) ∧ Aside0 (Kd.R k29 29 wc w.heap.size (fun k_ => some k_ ≠ (v200 : Value).ownBlock ∧ some k_ ≠ (v205 : Value).ownBlock) v195 t192) ∧ Aside0 (Kd.R k29 29 wc w.heap.size (fun k_ => some k_ ≠ (v195 : Value).ownBlock ∧ some k_ ≠ (v205 : Value).ownBlock) v200 t197) ∧ Aside0 (Kd.R k29 29 wc w.heap.size (fun k_ => some k_ ≠ (v195 : Value).ownBlock ∧ some k_ ≠ (v200 : Value).ownBlock) v205 t202) ∧ Aside0 (Below w.heap.size w wc))
            case first =>
              have H := HC13.out
              clear HC13
              replace H := Option.bind_eq_some_iff.mp H
              obtain ⟨t207, A170, H⟩ := H
              replace H : (if t207 = true then (quittancelaw07_LexerJoins.j1 kj2 a0 t192 t197 t198 t199 t202 t203 t204 (t194 != 0)) else (quittancelaw07_LexerJoins.j1 kj2 a0 t192 t197 t198 t199 t202 t203 t204 true)) = some r := H
              have A17 := Aside0.mk A170
              clear A170
              by_cases c18 : t207 = true
              · subst c18
                have H1 : (quittancelaw07_LexerJoins.j1 kj2 a0 t192 t197 t198 t199 t202 t203 t204 (t194 != 0)) = some r := by rw [if_pos rfl] at H; exact H
                clear H
                have H := H1
                clear H1
                have H' := Aside0.mk H
                clear H
                go_wp2_with (first | (go_at_call 8; (with_reducible refine (quittancelaw07_awake.calls kj2  true _ A17.out).mono ?_); rintro e w19 ⟨rfl, hb⟩; have n0_ := Aside0.mk (Kd.R_below (by (with_reducible repeat (first | apply Kd.R_alloc | apply Kd.R_drewN | apply Kd.R_drew)); exact HO196.out) hb); have n1_ := Aside0.mk (Kd.R_below (by (with_reducible repeat (first | apply Kd.R_alloc | apply Kd.R_drewN | apply Kd.R_drew)); exact HO201.out) hb); have n2_ := Aside0.mk (Kd.R_below (by (with_reducible repeat (first | apply Kd.R_alloc | apply Kd.R_drewN | apply Kd.R_drew)); exact HO206.out) hb); have n3_ := Aside0.mk (below_step (by repeat (first | (with_reducible first | exact HB.out | apply below_alloc | apply pw_below_drewN | apply below_drew1) | exact HB.out)) hb); clear HO196; clear HO201; clear HO206; clear HB; have HO196 := n0_; have HO201 := n1_; have HO206 := n2_; have HB := n3_; clear n0_ n1_ n2_ n3_; (try clear hb); (try clear hb2); (try clear hk); (try clear hi)))
                repeat (go_quiet (first | (go_at_call 8; (with_reducible refine (quittancelaw07_awake.calls kj2  true _ A17.out).mono ?_); rintro e w19 ⟨rfl, hb⟩; have n0_ := Aside0.mk (Kd.R_below (by (with_reducible repeat (first | apply Kd.R_alloc | apply Kd.R_drewN | apply Kd.R_drew)); exact HO196.out) hb); have n1_ := Aside0.mk (Kd.R_below (by (with_reducible repeat (first | apply Kd.R_alloc | apply Kd.R_drewN | apply Kd.R_drew)); exact HO201.out) hb); have n2_ := Aside0.mk (Kd.R_below (by (with_reducible repeat (first | apply Kd.R_alloc | apply Kd.R_drewN | apply Kd.R_drew)); exact HO206.out) hb); have n3_ := Aside0.mk (below_step (by repeat (first | (with_reducible first | exact HB.out | apply below_alloc | apply pw_below_drewN | apply below_drew1) | exact HB.out)) hb); clear HO196; clear HO201; clear HO206; clear HB; have HO196 := n0_; have HO201 := n1_; have HO206 := n2_; have HB := n3_; clear n0_ n1_ n2_ n3_; (try clear hb); (try clear hb2); (try clear hk); (try clear hi))); try go_wp2_with (first | (go_at_call 8; (with_reducible refine (quittancelaw07_awake.calls kj2  true _ A17.out).mono ?_); rintro e w19 ⟨rfl, hb⟩; have n0_ := Aside0.mk (Kd.R_below (by (with_reducible repeat (first | apply Kd.R_alloc | apply Kd.R_drewN | apply Kd.R_drew)); exact HO196.out) hb); have n1_ := Aside0.mk (Kd.R_below (by (with_reducible repeat (first | apply Kd.R_alloc | apply Kd.R_drewN | apply Kd.R_drew)); exact HO201.out) hb); have n2_ := Aside0.mk (Kd.R_below (by (with_reducible repeat (first | apply Kd.R_alloc | apply Kd.R_drewN | apply Kd.R_drew)); exact HO206.out) hb); have n3_ := Aside0.mk (below_step (by repeat (first | (with_reducible first | exact HB.out | apply below_alloc | apply pw_below_drewN | apply below_drew1) | exact HB.out)) hb); clear HO196; clear HO201; clear HO206; clear HB; have HO196 := n0_; have HO201 := n1_; have HO206 := n2_; have HB := n3_; clear n0_ n1_ n2_ n3_; (try clear hb); (try clear hb2); (try clear hk); (try clear hi))))
                go_meet
                case rel => exact ⟨_, ((t194 != 0)), (by first | rfl | (simp; done) | (simp [*]; done)), H', ⟨by have := HJ2.out; first | omega | exact Nat.le_refl _⟩, ⟨by (with_reducible repeat (first | apply Kd.R_alloc | apply Kd.R_drewN | apply Kd.R_drew)); exact Kd.R_mono HO196.out (fun _ hk => ⟨hk.1.2, hk.2⟩)⟩, ⟨by (with_reducible repeat (first | apply Kd.R_alloc | apply Kd.R_drewN | apply Kd.R_drew)); exact Kd.R_mono HO201.out (fun _ hk => ⟨hk.1.2, hk.2⟩)⟩, ⟨by (with_reducible repeat (first | apply Kd.R_alloc | apply Kd.R_drewN | apply Kd.R_drew)); exact Kd.R_mono HO206.out (fun _ hk => ⟨hk.1.2, hk.2⟩)⟩, ⟨by repeat (first | (with_reducible first | exact HB.out | apply below_alloc | apply pw_below_drewN | apply below_drew1) | exact HB.out)⟩⟩
              · replace c18 := Bool.eq_false_iff.mpr c18
                subst c18
                have H1 : (quittancelaw07_LexerJoins.j1 kj2 a0 t192 t197 t198 t199 t202 t203 t204 true) = some r := by rw [if_neg (show ¬ (false = true) by decide)] at H; exact H
                clear H
                have H := H1
                clear H1
                have H' := Aside0.mk H
                clear H
                go_wp2_with (first | (go_at_call 8; (with_reducible refine (quittancelaw07_awake.calls kj2  false _ A17.out).mono ?_); rintro e w20 ⟨rfl, hb⟩; have n0_ := Aside0.mk (Kd.R_below (by (with_reducible repeat (first | apply Kd.R_alloc | apply Kd.R_drewN | apply Kd.R_drew)); exact HO196.out) hb); have n1_ := Aside0.mk (Kd.R_below (by (with_reducible repeat (first | apply Kd.R_alloc | apply Kd.R_drewN | apply Kd.R_drew)); exact HO201.out) hb); have n2_ := Aside0.mk (Kd.R_below (by (with_reducible repeat (first | apply Kd.R_alloc | apply Kd.R_drewN | apply Kd.R_drew)); exact HO206.out) hb); have n3_ := Aside0.mk (below_step (by repeat (first | (with_reducible first | exact HB.out | apply below_alloc | apply pw_below_drewN | apply below_drew1) | exact HB.out)) hb); clear HO196; clear HO201; clear HO206; clear HB; have HO196 := n0_; have HO201 := n1_; have HO206 := n2_; have HB := n3_; clear n0_ n1_ n2_ n3_; (try clear hb); (try clear hb2); (try clear hk); (try clear hi)))
                repeat (go_quiet (first | (go_at_call 8; (with_reducible refine (quittancelaw07_awake.calls kj2  false _ A17.out).mono ?_); rintro e w20 ⟨rfl, hb⟩; have n0_ := Aside0.mk (Kd.R_below (by (with_reducible repeat (first | apply Kd.R_alloc | apply Kd.R_drewN | apply Kd.R_drew)); exact HO196.out) hb); have n1_ := Aside0.mk (Kd.R_below (by (with_reducible repeat (first | apply Kd.R_alloc | apply Kd.R_drewN | apply Kd.R_drew)); exact HO201.out) hb); have n2_ := Aside0.mk (Kd.R_below (by (with_reducible repeat (first | apply Kd.R_alloc | apply Kd.R_drewN | apply Kd.R_drew)); exact HO206.out) hb); have n3_ := Aside0.mk (below_step (by repeat (first | (with_reducible first | exact HB.out | apply below_alloc | apply pw_below_drewN | apply below_drew1) | exact HB.out)) hb); clear HO196; clear HO201; clear HO206; clear HB; have HO196 := n0_; have HO201 := n1_; have HO206 := n2_; have HB := n3_; clear n0_ n1_ n2_ n3_; (try clear hb); (try clear hb2); (try clear hk); (try clear hi))); try go_wp2_with (first | (go_at_call 8; (with_reducible refine (quittancelaw07_awake.calls kj2  false _ A17.out).mono ?_); rintro e w20 ⟨rfl, hb⟩; have n0_ := Aside0.mk (Kd.R_below (by (with_reducible repeat (first | apply Kd.R_alloc | apply Kd.R_drewN | apply Kd.R_drew)); exact HO196.out) hb); have n1_ := Aside0.mk (Kd.R_below (by (with_reducible repeat (first | apply Kd.R_alloc | apply Kd.R_drewN | apply Kd.R_drew)); exact HO201.out) hb); have n2_ := Aside0.mk (Kd.R_below (by (with_reducible repeat (first | apply Kd.R_alloc | apply Kd.R_drewN | apply Kd.R_drew)); exact HO206.out) hb); have n3_ := Aside0.mk (below_step (by repeat (first | (with_reducible first | exact HB.out | apply below_alloc | apply pw_below_drewN | apply below_drew1) | exact HB.out)) hb); clear HO196; clear HO201; clear HO206; clear HB; have HO196 := n0_; have HO201 := n1_; have HO206 := n2_; have HB := n3_; clear n0_ n1_ n2_ n3_; (try clear hb); (try clear hb2); (try clear hk); (try clear hi))))
                go_meet
                case rel => exact ⟨_, (true), (by first | rfl | (simp; done) | (simp [*]; done)), H', ⟨by have := HJ2.out; first | omega | exact Nat.le_refl _⟩, ⟨by (with_reducible repeat (first | apply Kd.R_alloc | apply Kd.R_drewN | apply Kd.R_drew)); exact Kd.R_mono HO196.out (fun _ hk => ⟨hk.1.2, hk.2⟩)⟩, ⟨by (with_reducible repeat (first | apply Kd.R_alloc | apply Kd.R_drewN | apply Kd.R_drew)); exact Kd.R_mono HO201.out (fun _ hk => ⟨hk.1.2, hk.2⟩)⟩, ⟨by (with_reducible repeat (first | apply Kd.R_alloc | apply Kd.R_drewN | apply Kd.R_drew)); exact Kd.R_mono HO206.out (fun _ hk => ⟨hk.1.2, hk.2⟩)⟩, ⟨by repeat (first | (with_reducible first | exact HB.out | apply below_alloc | apply pw_below_drewN | apply below_drew1) | exact HB.out)⟩⟩
            case rest =>
              clear HC13
              try clear c1
              try clear p2
              try clear c4
              try clear c4b0
              try clear c4b1
              try clear c5
              try clear c7
              try clear c10
              try clear c10b0
              try clear c10b1
              try clear c10b2
              try clear c11
              try clear c11b0
              try clear c11b1
              try clear c11b2
              try clear c18
              try clear p2
              obtain ⟨kq, x51_12, rfl, HA, HJ12, HO_5, HO_8, HO_11, HB⟩ := hcut
              cases kq with
              | zero => exact absurd HA.out (by simp [quittancelaw07_LexerJoins.j1])
              | succ kj12 =>
                have H := HA.out
                clear HA
                simp only [quittancelaw07_LexerJoins.j1] at H
                by_cases c21 : x51_12 = true
                · subst c21
                  have H1 : ((quittancelaw07_awake.f kj12).bind fun t208 => (if t208 = true then (some (t204 == 6)) else (some false))) = some r := by rw [if_pos rfl] at H; exact H
                  clear H
                  have H := H1
                  clear H1
                  replace H := Option.bind_eq_some_iff.mp H
                  obtain ⟨t208, A220, H⟩ := H
                  replace H : (if t208 = true then (some (t204 == 6)) else (some false)) = some r := H
                  have A22 := Aside0.mk A220
                  clear A220
                  by_cases c23 : t208 = true
                  · subst c23
                    have H1 : (some (t204 == 6)) = some r := by rw [if_pos rfl] at H; exact H
                    clear H
                    have H := H1
                    clear H1
                    obtain rfl := Option.some.inj H
                    go_wp2_with (first | (go_at_call 8; (with_reducible refine (quittancelaw07_awake.calls kj12  true _ A22.out).mono ?_); rintro e w24 ⟨rfl, hb⟩; have n0_ := Aside0.mk (Kd.R_below (by (with_reducible repeat (first | apply Kd.R_alloc | apply Kd.R_drewN | apply Kd.R_drew)); exact HO_5.out) hb); have n1_ := Aside0.mk (Kd.R_below (by (with_reducible repeat (first | apply Kd.R_alloc | apply Kd.R_drewN | apply Kd.R_drew)); exact HO_8.out) hb); have n2_ := Aside0.mk (Kd.R_below (by (with_reducible repeat (first | apply Kd.R_alloc | apply Kd.R_drewN | apply Kd.R_drew)); exact HO_11.out) hb); have n3_ := Aside0.mk (below_step (by repeat (first | (with_reducible first | exact HB.out | apply below_alloc | apply pw_below_drewN | apply below_drew1) | exact HB.out)) hb); clear HO_5; clear HO_8; clear HO_11; clear HB; have HO_5 := n0_; have HO_8 := n1_; have HO_11 := n2_; have HB := n3_; clear n0_ n1_ n2_ n3_; (try clear hb); (try clear hb2); (try clear hk); (try clear hi)))
                    repeat (go_quiet (first | (go_at_call 8; (with_reducible refine (quittancelaw07_awake.calls kj12  true _ A22.out).mono ?_); rintro e w24 ⟨rfl, hb⟩; have n0_ := Aside0.mk (Kd.R_below (by (with_reducible repeat (first | apply Kd.R_alloc | apply Kd.R_drewN | apply Kd.R_drew)); exact HO_5.out) hb); have n1_ := Aside0.mk (Kd.R_below (by (with_reducible repeat (first | apply Kd.R_alloc | apply Kd.R_drewN | apply Kd.R_drew)); exact HO_8.out) hb); have n2_ := Aside0.mk (Kd.R_below (by (with_reducible repeat (first | apply Kd.R_alloc | apply Kd.R_drewN | apply Kd.R_drew)); exact HO_11.out) hb); have n3_ := Aside0.mk (below_step (by repeat (first | (with_reducible first | exact HB.out | apply below_alloc | apply pw_below_drewN | apply below_drew1) | exact HB.out)) hb); clear HO_5; clear HO_8; clear HO_11; clear HB; have HO_5 := n0_; have HO_8 := n1_; have HO_11 := n2_; have HB := n3_; clear n0_ n1_ n2_ n3_; (try clear hb); (try clear hb2); (try clear hk); (try clear hi))); try go_wp2_with (first | (go_at_call 8; (with_reducible refine (quittancelaw07_awake.calls kj12  true _ A22.out).mono ?_); rintro e w24 ⟨rfl, hb⟩; have n0_ := Aside0.mk (Kd.R_below (by (with_reducible repeat (first | apply Kd.R_alloc | apply Kd.R_drewN | apply Kd.R_drew)); exact HO_5.out) hb); have n1_ := Aside0.mk (Kd.R_below (by (with_reducible repeat (first | apply Kd.R_alloc | apply Kd.R_drewN | apply Kd.R_drew)); exact HO_8.out) hb); have n2_ := Aside0.mk (Kd.R_below (by (with_reducible repeat (first | apply Kd.R_alloc | apply Kd.R_drewN | apply Kd.R_drew)); exact HO_11.out) hb); have n3_ := Aside0.mk (below_step (by repeat (first | (with_reducible first | exact HB.out | apply below_alloc | apply pw_below_drewN | apply below_drew1) | exact HB.out)) hb); clear HO_5; clear HO_8; clear HO_11; clear HB; have HO_5 := n0_; have HO_8 := n1_; have HO_11 := n2_; have HB := n3_; clear n0_ n1_ n2_ n3_; (try clear hb); (try clear hb2); (try clear hk); (try clear hi))))
                    go_ret
                    exact ⟨by first | rfl | (simp [errW_none, errW_some] <;> rfl) | (simp [*, errW_none, errW_some] <;> rfl), by repeat (first | (with_reducible first | exact HB.out | apply below_alloc | apply pw_below_drewN | apply below_drew1) | exact HB.out)⟩
                  · replace c23 := Bool.eq_false_iff.mpr c23
                    subst c23
                    have H1 : (some false) = some r := by rw [if_neg (show ¬ (false = true) by decide)] at H; exact H
                    clear H
                    have H := H1
                    clear H1
                    obtain rfl := Option.some.inj H
                    go_wp2_with (first | (go_at_call 8; (with_reducible refine (quittancelaw07_awake.calls kj12  false _ A22.out).mono ?_); rintro e w25 ⟨rfl, hb⟩; have n0_ := Aside0.mk (Kd.R_below (by (with_reducible repeat (first | apply Kd.R_alloc | apply Kd.R_drewN | apply Kd.R_drew)); exact HO_5.out) hb); have n1_ := Aside0.mk (Kd.R_below (by (with_reducible repeat (first | apply Kd.R_alloc | apply Kd.R_drewN | apply Kd.R_drew)); exact HO_8.out) hb); have n2_ := Aside0.mk (Kd.R_below (by (with_reducible repeat (first | apply Kd.R_alloc | apply Kd.R_drewN | apply Kd.R_drew)); exact HO_11.out) hb); have n3_ := Aside0.mk (below_step (by repeat (first | (with_reducible first | exact HB.out | apply below_alloc | apply pw_below_drewN | apply below_drew1) | exact HB.out)) hb); clear HO_5; clear HO_8; clear HO_11; clear HB; have HO_5 := n0_; have HO_8 := n1_; have HO_11 := n2_; have HB := n3_; clear n0_ n1_ n2_ n3_; (try clear hb); (try clear hb2); (try clear hk); (try clear hi)))
                    repeat (go_quiet (first | (go_at_call 8; (with_reducible refine (quittancelaw07_awake.calls kj12  false _ A22.out).mono ?_); rintro e w25 ⟨rfl, hb⟩; have n0_ := Aside0.mk (Kd.R_below (by (with_reducible repeat (first | apply Kd.R_alloc | apply Kd.R_drewN | apply Kd.R_drew)); exact HO_5.out) hb); have n1_ := Aside0.mk (Kd.R_below (by (with_reducible repeat (first | apply Kd.R_alloc | apply Kd.R_drewN | apply Kd.R_drew)); exact HO_8.out) hb); have n2_ := Aside0.mk (Kd.R_below (by (with_reducible repeat (first | apply Kd.R_alloc | apply Kd.R_drewN | apply Kd.R_drew)); exact HO_11.out) hb); have n3_ := Aside0.mk (below_step (by repeat (first | (with_reducible first | exact HB.out | apply below_alloc | apply pw_below_drewN | apply below_drew1) | exact HB.out)) hb); clear HO_5; clear HO_8; clear HO_11; clear HB; have HO_5 := n0_; have HO_8 := n1_; have HO_11 := n2_; have HB := n3_; clear n0_ n1_ n2_ n3_; (try clear hb); (try clear hb2); (try clear hk); (try clear hi))); try go_wp2_with (first | (go_at_call 8; (with_reducible refine (quittancelaw07_awake.calls kj12  false _ A22.out).mono ?_); rintro e w25 ⟨rfl, hb⟩; have n0_ := Aside0.mk (Kd.R_below (by (with_reducible repeat (first | apply Kd.R_alloc | apply Kd.R_drewN | apply Kd.R_drew)); exact HO_5.out) hb); have n1_ := Aside0.mk (Kd.R_below (by (with_reducible repeat (first | apply Kd.R_alloc | apply Kd.R_drewN | apply Kd.R_drew)); exact HO_8.out) hb); have n2_ := Aside0.mk (Kd.R_below (by (with_reducible repeat (first | apply Kd.R_alloc | apply Kd.R_drewN | apply Kd.R_drew)); exact HO_11.out) hb); have n3_ := Aside0.mk (below_step (by repeat (first | (with_reducible first | exact HB.out | apply below_alloc | apply pw_below_drewN | apply below_drew1) | exact HB.out)) hb); clear HO_5; clear HO_8; clear HO_11; clear HB; have HO_5 := n0_; have HO_8 := n1_; have HO_11 := n2_; have HB := n3_; clear n0_ n1_ n2_ n3_; (try clear hb); (try clear hb2); (try clear hk); (try clear hi))))
                    go_ret
                    exact ⟨by first | rfl | (simp [errW_none, errW_some] <;> rfl) | (simp [*, errW_none, errW_some] <;> rfl), by repeat (first | (with_reducible first | exact HB.out | apply below_alloc | apply pw_below_drewN | apply below_drew1) | exact HB.out)⟩
                · replace c21 := Bool.eq_false_iff.mpr c21
                  subst c21
                  have H1 : (if t199 = 0 then (if (t192.length : Int) = 0 then (quittancelaw07_LexerJoins.j2 kj12 a0 t192 t197 t202 true) else (if t204 = 0 then (quittancelaw07_LexerJoins.j2 kj12 a0 t192 t197 t202 ((t202.length : Int) != (wrap64 ((wrap64 ((t192.length : Int) - 1)) + (t197.length : Int))))) else (quittancelaw07_LexerJoins.j2 kj12 a0 t192 t197 t202 true))) else (if t204 = 6 then (if t203 = (wrap64 ((wrap64 (t198 + (a0.size : Int))) + 1)) then (some ((t202.length : Int) == 0)) else (some false)) else (some false))) = some r := by rw [if_neg (show ¬ (false = true) by decide)] at H; exact H
                  clear H
                  have H := H1
                  clear H1
                  by_cases c26 : t199 = 0
                  · rw [if_pos c26] at H
                    have c26b0 : (t199 == 0) = true := beq_iff_eq.mpr c26
                    have c26b1 : (t199 != 0) = false := bne_eq_false_iff_eq.mpr c26
                    clear c26
                    have HC27 := Aside0.mk H
                    clear H
                    go_upto_region 10 with (fail)
                    repeat (go_quiet (fail); go_upto_region 10 with (fail))
                    go_cut [92] (fun v92 wc => ∃ (kq : Nat) (x92_26 : Bool), v92 = .bool x92_26 ∧ Aside0 (quittancelaw07_LexerJoins.j2 kq a0 t192 t197 t202 x92_26 = some r) ∧ Aside0 (kq ≤ kj12) ∧ Aside0 (Kd.R k29 29 wc w.heap.size (fun k_ => some k_ ≠ (v200 : Value).ownBlock ∧ some k_ ≠ (v205 : Value).ownBlock) v195 t192) ∧ Aside0 (Kd.R k29 29 wc w.heap.size (fun k_ => some k_ ≠ (v195 : Value).ownBlock ∧ some k_ ≠ (v205 : Value).ownBlock) v200 t197) ∧ Aside0 (Kd.R k29 29 wc w.heap.size (fun k_ => some k_ ≠ (v195 : Value).ownBlock ∧ some k_ ≠ (v200 : Value).ownBlock) v205 t202) ∧ Aside0 (Below w.heap.size w wc))
                    case first =>
                      have H := HC27.out
                      clear HC27
                      by_cases c28 : (t192.length : Int) = 0
                      · rw [if_pos c28] at H
                        have c28b0 : ((t192.length : Int) == 0) = true := beq_iff_eq.mpr c28
                        have c28b1 : ((t192.length : Int) != 0) = false := bne_eq_false_iff_eq.mpr c28
                        clear c28
                        (first | rw [c28b0] | (simp only [i64_w, i32_w]; rw [c28b0]) | skip)
                        have H' := Aside0.mk H
                        clear H
                        obtain ⟨Ao29, co29, eo29⟩ := Kd.R_slice HO_5.out
                        subst eo29
                        go_wp2
                        repeat (go_quiet (fail); try go_wp2)
                        go_meet
                        case rel => exact ⟨_, (true), (by first | rfl | (simp; done) | (simp [*]; done)), H', ⟨by have := HJ2.out; have := HJ12.out; first | omega | exact Nat.le_refl _⟩, ⟨by (with_reducible repeat (first | apply Kd.R_alloc | apply Kd.R_drewN | apply Kd.R_drew)); exact HO_5.out⟩, ⟨by (with_reducible repeat (first | apply Kd.R_alloc | apply Kd.R_drewN | apply Kd.R_drew)); exact HO_8.out⟩, ⟨by (with_reducible repeat (first | apply Kd.R_alloc | apply Kd.R_drewN | apply Kd.R_drew)); exact HO_11.out⟩, ⟨by repeat (first | (with_reducible first | exact HB.out | apply below_alloc | apply pw_below_drewN | apply below_drew1) | exact HB.out)⟩⟩
                      · rw [if_neg c28] at H
                        have c28b0 : ((t192.length : Int) == 0) = false := beq_eq_false_iff_ne.mpr c28
                        have c28b1 : ((t192.length : Int) != 0) = true := bne_iff_ne.mpr c28
                        have c28b2 : ¬ (t192 = []) := fun h_ => c28 (by rw [h_]; rfl)
                        (first | rw [c28b0] | (simp only [i64_w, i32_w]; rw [c28b0]) | skip)
                        by_cases c30 : t204 = 0
                        · rw [if_pos c30] at H
                          have c30b0 : (t204 == 0) = true := beq_iff_eq.mpr c30
                          have c30b1 : (t204 != 0) = false := bne_eq_false_iff_eq.mpr c30
                          clear c30
                          have H' := Aside0.mk H
                          clear H
                          obtain ⟨Ao31, co31, eo31⟩ := Kd.R_slice HO_5.out
                          subst eo31
                          obtain ⟨Ao32, co32, eo32⟩ := Kd.R_slice HO_11.out
                          subst eo32
                          obtain ⟨Ao33, co33, eo33⟩ := Kd.R_slice HO_8.out
                          subst eo33
                          go_wp2
                          repeat (go_quiet (fail); try go_wp2)
                          go_meet
                          case rel => exact ⟨_, (((t202.length : Int) != (wrap64 ((wrap64 ((t192.length : Int) - 1)) + (t197.length : Int))))), (by first | rfl | (simp; done) | (simp [*]; done)), H', ⟨by have := HJ2.out; have := HJ12.out; first | omega | exact Nat.le_refl _⟩, ⟨by (with_reducible repeat (first | apply Kd.R_alloc | apply Kd.R_drewN | apply Kd.R_drew)); exact HO_5.out⟩, ⟨by (with_reducible repeat (first | apply Kd.R_alloc | apply Kd.R_drewN | apply Kd.R_drew)); exact HO_8.out⟩, ⟨by (with_reducible repeat (first | apply Kd.R_alloc | apply Kd.R_drewN | apply Kd.R_drew)); exact HO_11.out⟩, ⟨by repeat (first | (with_reducible first | exact HB.out | apply below_alloc | apply pw_below_drewN | apply below_drew1) | exact HB.out)⟩⟩
                        · rw [if_neg c30] at H
                          have c30b0 : (t204 == 0) = false := beq_eq_false_iff_ne.mpr c30
                          have c30b1 : (t204 != 0) = true := bne_iff_ne.mpr c30
                          have H' := Aside0.mk H
                          clear H
                          obtain ⟨Ao34, co34, eo34⟩ := Kd.R_slice HO_5.out
                          subst eo34
                          go_wp2
                          repeat (go_quiet (fail); try go_wp2)
                          go_meet
                          case rel => exact ⟨_, (true), (by first | rfl | (simp; done) | (simp [*]; done)), H', ⟨by have := HJ2.out; have := HJ12.out; first | omega | exact Nat.le_refl _⟩, ⟨by (with_reducible repeat (first | apply Kd.R_alloc | apply Kd.R_drewN | apply Kd.R_drew)); exact HO_5.out⟩, ⟨by (with_reducible repeat (first | apply Kd.R_alloc | apply Kd.R_drewN | apply Kd.R_drew)); exact HO_8.out⟩, ⟨by (with_reducible repeat (first | apply Kd.R_alloc | apply Kd.R_drewN | apply Kd.R_drew)); exact HO_11.out⟩, ⟨by repeat (first | (with_reducible first | exact HB.out | apply below_alloc | apply pw_below_drewN | apply below_drew1) | exact HB.out)⟩⟩
                    case rest =>
                      clear HC27
                      try clear c1
                      try clear c2
                      try clear p2
                      try clear c3
                      try clear c4
                      try clear c4b0
                      try clear c4b1
                      try clear c5
                      try clear p6
                      try clear c7
                      try clear c10
                      try clear c10b0
                      try clear c10b1
                      try clear c10b2
                      try clear c11
                      try clear c11b0
                      try clear c11b1
                      try clear c11b2
                      try clear c18
                      try clear c21
                      try clear c23
                      try clear c26
                      try clear c26b0
                      try clear c26b1
                      try clear c28
                      try clear c28b0
                      try clear c28b1
                      try clear c28b2
                      try clear c30
                      try clear c30b0
                      try clear c30b1
                      try clear p2
                      obtain ⟨kq, x92_26, rfl, HA, HJ26, HO_5, HO_8, HO_11, HB⟩ := hcut
                      cases kq with
                      | zero => exact absurd HA.out (by simp [quittancelaw07_LexerJoins.j2])
                      | succ kj26 =>
                        have H := HA.out
                        clear HA
                        simp only [quittancelaw07_LexerJoins.j2] at H
                        by_cases c35 : x92_26 = true
                        · subst c35
                          have H1 : (some false) = some r := by rw [if_pos rfl] at H; exact H
                          clear H
                          have H := H1
                          clear H1
                          obtain rfl := Option.some.inj H
                          go_wp2
                          repeat (go_quiet (fail); try go_wp2)
                          go_ret
                          exact ⟨by first | rfl | (simp [errW_none, errW_some] <;> rfl) | (simp [*, errW_none, errW_some] <;> rfl), by repeat (first | (with_reducible first | exact HB.out | apply below_alloc | apply pw_below_drewN | apply below_drew1) | exact HB.out)⟩
                        · replace c35 := Bool.eq_false_iff.mpr c35
                          subst c35
                          have H1 : (quittancelaw07_LexerJoins.l0 kj26 a0 t192 t197 t202 0) = some r := by rw [if_neg (show ¬ (false = true) by decide)] at H; exact H
                          clear H
                          have H := H1
                          clear H1
                          have H' := Aside0.mk H
                          clear H
                          go_wp2
                          repeat (go_quiet (fail); try go_wp2)
                          go_loopg [14] kj26 (fun kq v14 w' => ∃ (x14_4 : Int), v14 = .int .i64 x14_4 ∧ Aside0 (quittancelaw07_LexerJoins.l0 kq a0 t192 t197 t202 x14_4 = some r) ∧ Aside0 (kq ≤ kj26) ∧ Aside0 (Kd.R k29 29 w' w.heap.size (fun k_ => some k_ ≠ (v200 : Value).ownBlock ∧ some k_ ≠ (v205 : Value).ownBlock) v195 t192) ∧ Aside0 (Kd.R k29 29 w' w.heap.size (fun k_ => some k_ ≠ (v195 : Value).ownBlock ∧ some k_ ≠ (v205 : Value).ownBlock) v200 t197) ∧ Aside0 (Kd.R k29 29 w' w.heap.size (fun k_ => some k_ ≠ (v195 : Value).ownBlock ∧ some k_ ≠ (v200 : Value).ownBlock) v205 t202) ∧ Aside0 (Below w.heap.size w w'))
                          case atStart => exact ⟨(0), (by first | rfl | (simp; done) | (simp [*]; done)), H', ⟨Nat.le_refl _⟩, ⟨by (with_reducible repeat (first | apply Kd.R_alloc | apply Kd.R_drewN | apply Kd.R_drew)); exact HO_5.out⟩, ⟨by (with_reducible repeat (first | apply Kd.R_alloc | apply Kd.R_drewN | apply Kd.R_drew)); exact HO_8.out⟩, ⟨by (with_reducible repeat (first | apply Kd.R_alloc | apply Kd.R_drewN | apply Kd.R_drew)); exact HO_11.out⟩, ⟨by repeat (first | (with_reducible first | exact HB.out | apply below_alloc | apply pw_below_drewN | apply below_drew1) | exact HB.out)⟩⟩
                          case round =>
                            clear H'
                            try clear c1
                            try clear c2
                            try clear p2
                            try clear c3
                            try clear c4
                            try clear c4b0
                            try clear c4b1
                            try clear c5
                            try clear p6
                            try clear c7
                            try clear c10
                            try clear c10b0
                            try clear c10b1
                            try clear c10b2
                            try clear c11
                            try clear c11b0
                            try clear c11b1
                            try clear c11b2
                            try clear c18
                            try clear c21
                            try clear c23
                            try clear c26
                            try clear c26b0
                            try clear c26b1
                            try clear c28
                            try clear c28b0
                            try clear c28b1
                            try clear c28b2
                            try clear c30
                            try clear c30b0
                            try clear c30b1
                            try clear c35
                            try clear p2
                            try clear p6
                            obtain ⟨x14_4, rfl, HA, HK4, HO_5, HO_8, HO_11, HB⟩ := hrel
                            cases gk with
                            | zero => exact absurd HA.out (by simp [quittancelaw07_LexerJoins.l0])
                            | succ k4 =>
                              have H := HA.out
                              clear HA
                              simp only [quittancelaw07_LexerJoins.l0] at H
                              by_cases c36 : x14_4 < (t202.length : Int)
                              · rw [if_pos c36] at H
                                have c36b0 : decide (x14_4 < (t202.length : Int)) = true := decide_eq_true c36
                                clear c36
                                by_cases c37 : x14_4 < (wrap64 ((t192.length : Int) - 1))
                                · rw [if_pos c37] at H
                                  have c37b0 : decide (x14_4 < (wrap64 ((t192.length : Int) - 1))) = true := decide_eq_true c37
                                  clear c37
                                  by_cases c38 : 0 ≤ x14_4
                                  · rw [if_pos c38] at H
                                    have c38b0 : decide (0 ≤ x14_4) = true := decide_eq_true c38
                                    clear c38
                                    by_cases c39 : x14_4 < (t192.length : Int)
                                    · rw [if_pos c39] at H
                                      have c39b0 : decide (x14_4 < (t192.length : Int)) = true := decide_eq_true c39
                                      clear c39
                                      by_cases c40 : (!(((rd_T29 t202 x14_4).f0) == ((rd_T29 t192 x14_4).f0)) || (!(((rd_T29 t202 x14_4).f1) == ((rd_T29 t192 x14_4).f1)) || (!((((rd_T29 t202 x14_4).f2).toList) == (((rd_T29 t192 x14_4).f2).toList))))) = true
                                      · rw [if_pos c40] at H
                                        have c40b0 : (!(((rd_T29 t202 x14_4).f0) == ((rd_T29 t192 x14_4).f0)) || (!(((rd_T29 t202 x14_4).f1) == ((rd_T29 t192 x14_4).f1)) || (!((((rd_T29 t202 x14_4).f2).toList) == (((rd_T29 t192 x14_4).f2).toList))))) = true := c40
                                        clear c40
                                        obtain rfl := Option.some.inj H
                                        obtain ⟨AoC, coC, eoC⟩ := Kd.R_slice HO_11.out
                                        subst eoC
                                        obtain ⟨AoA, coA, eoA⟩ := Kd.R_slice HO_5.out
                                        subst eoA
                                        obtain ⟨AoB, coB, eoB⟩ := Kd.R_slice HO_8.out
                                        subst eoB
                                        go_upto_region 16 with (first | ((with_reducible refine gate_dst (N := 15) rfl ?_); refine box_event ?hg (N := 15) ?hd (cs := #[.int .i64 0, .int .i64 0, .string (⟨#[]⟩ : ByteArray)]) (t := 29) ?hr ?_; (case hd => rfl); (case hg => rfl); (case hr => first | (go_simp; done) | (go_simp; rfl)); intro gb hg w42 hbox hb; have m5 := Aside0.mk (Kd.R_below (Kd.R_elderB HO_5.out gb (Nat.le_of_eq hg.symm)) hb); have m8 := Aside0.mk (Kd.R_below (Kd.R_elderB HO_8.out gb (Nat.le_of_eq hg.symm)) hb); have m11 := Aside0.mk (Kd.R_below (Kd.R_elderB HO_11.out gb (Nat.le_of_eq hg.symm)) hb); have mB := Aside0.mk (below_step HB.out hb); have GE := Aside0.mk (show w.heap.size ≤ gb by rw [hg]; exact HB.out.size); have BK := Aside0.mk hbox; clear HO_5 HO_8 HO_11 HB hg hbox hb; have HO_5 := m5; have HO_8 := m8; have HO_11 := m11; have HB := mB; clear m5 m8 m11 mB; have f0 := blk_frozen BK.out 0; have f1 := blk_frozen BK.out 1; have f2 := blk_frozen BK.out 2; have c0 : w42.cell? ⟨gb, 0, none⟩ = some (.int .i64 0) := (blk_cell BK.out 0).trans rfl; have c1 : w42.cell? ⟨gb, 1, none⟩ = some (.int .i64 0) := (blk_cell BK.out 1).trans rfl; have c2 : w42.cell? ⟨gb, 2, none⟩ = some (.string (⟨#[]⟩ : ByteArray)) := (blk_cell BK.out 2).trans rfl))
                                        have m5 := Aside0.mk (Kd.R_far (p := ⟨gb, 2, none⟩) (Kd.R_far (p := ⟨gb, 1, none⟩) (Kd.R_far (p := ⟨gb, 0, none⟩) HO_5.out (fun _ hk => hk.2) (.int .i64 0)) (fun _ hk => hk.2) (.int .i64 0)) (fun _ hk => hk.2) (.string (⟨#[]⟩ : ByteArray)))
                                        have m8 := Aside0.mk (Kd.R_far (p := ⟨gb, 2, none⟩) (Kd.R_far (p := ⟨gb, 1, none⟩) (Kd.R_far (p := ⟨gb, 0, none⟩) HO_8.out (fun _ hk => hk.2) (.int .i64 0)) (fun _ hk => hk.2) (.int .i64 0)) (fun _ hk => hk.2) (.string (⟨#[]⟩ : ByteArray)))
                                        have m11 := Aside0.mk (Kd.R_far (p := ⟨gb, 2, none⟩) (Kd.R_far (p := ⟨gb, 1, none⟩) (Kd.R_far (p := ⟨gb, 0, none⟩) HO_11.out (fun _ hk => hk.2) (.int .i64 0)) (fun _ hk => hk.2) (.int .i64 0)) (fun _ hk => hk.2) (.string (⟨#[]⟩ : ByteArray)))
                                        have mK := Aside0.mk (blk_put (cs := #[.int .i64 0, .int .i64 0, .string (⟨#[]⟩ : ByteArray)]) (blk_put (cs := #[.int .i64 0, .int .i64 0, .string (⟨#[]⟩ : ByteArray)]) (blk_put (cs := #[.int .i64 0, .int .i64 0, .string (⟨#[]⟩ : ByteArray)]) BK.out 0 (.int .i64 0) rfl) 1 (.int .i64 0) rfl) 2 (.string (⟨#[]⟩ : ByteArray)) rfl)
                                        have mB := Aside0.mk (below_set (j := 2) (v := .string (⟨#[]⟩ : ByteArray)) (below_set (j := 1) (v := .int .i64 0) (below_set (j := 0) (v := .int .i64 0) HB.out GE.out) GE.out) GE.out)
                                        clear HO_5 HO_8 HO_11 HB BK c0 c1 c2 f0 f1 f2
                                        have HO_5 := m5; have HO_8 := m8; have HO_11 := m11; have HB := mB; have BK := mK; clear m5 m8 m11 mB mK
                                        generalize (((w42.setCell ⟨gb, 0, none⟩ (.int .i64 0)).setCell ⟨gb, 1, none⟩ (.int .i64 0)).setCell ⟨gb, 2, none⟩ (.string (⟨#[]⟩ : ByteArray))) = w43 at HO_5 HO_8 HO_11 HB BK ⊢
                                        have f0 := blk_frozen BK.out 0
                                        have f1 := blk_frozen BK.out 1
                                        have f2 := blk_frozen BK.out 2
                                        have c0 : w43.cell? ⟨gb, 0, none⟩ = some (.int .i64 0) := (blk_cell BK.out 0).trans rfl
                                        have c1 : w43.cell? ⟨gb, 1, none⟩ = some (.int .i64 0) := (blk_cell BK.out 1).trans rfl
                                        have c2 : w43.cell? ⟨gb, 2, none⟩ = some (.string (⟨#[]⟩ : ByteArray)) := (blk_cell BK.out 2).trans rfl
                                        have pa : 0 ≤ x14_4 := of_decide_eq_true c38b0
                                        have qa : x14_4 < (t192.length : Int) := of_decide_eq_true c39b0
                                        obtain ⟨ada, ea, hxa_0, hxa_1, hxa_2⟩ := at_T29 (Kd.R_reads' HO_5.out).2.2 x14_4 pa qa
                                        cases ea
                                        replace pa := eq_true pa
                                        replace qa := eq_true qa
                                        go_upto_region 20 with (fail)
                                        clear hxa_0 hxa_1 hxa_2
                                        have m5 := Aside0.mk (Kd.R_far (p := ⟨gb, 2, none⟩) (Kd.R_far (p := ⟨gb, 1, none⟩) (Kd.R_far (p := ⟨gb, 0, none⟩) HO_5.out (fun _ hk => hk.2) (.int .i64 ((rd_T29 t192 x14_4).f0))) (fun _ hk => hk.2) (.int .i64 ((rd_T29 t192 x14_4).f1))) (fun _ hk => hk.2) (.string ((rd_T29 t192 x14_4).f2)))
                                        have m8 := Aside0.mk (Kd.R_far (p := ⟨gb, 2, none⟩) (Kd.R_far (p := ⟨gb, 1, none⟩) (Kd.R_far (p := ⟨gb, 0, none⟩) HO_8.out (fun _ hk => hk.2) (.int .i64 ((rd_T29 t192 x14_4).f0))) (fun _ hk => hk.2) (.int .i64 ((rd_T29 t192 x14_4).f1))) (fun _ hk => hk.2) (.string ((rd_T29 t192 x14_4).f2)))
                                        have m11 := Aside0.mk (Kd.R_far (p := ⟨gb, 2, none⟩) (Kd.R_far (p := ⟨gb, 1, none⟩) (Kd.R_far (p := ⟨gb, 0, none⟩) HO_11.out (fun _ hk => hk.2) (.int .i64 ((rd_T29 t192 x14_4).f0))) (fun _ hk => hk.2) (.int .i64 ((rd_T29 t192 x14_4).f1))) (fun _ hk => hk.2) (.string ((rd_T29 t192 x14_4).f2)))
                                        have mK := Aside0.mk (blk_put (cs := #[.int .i64 ((rd_T29 t192 x14_4).f0), .int .i64 ((rd_T29 t192 x14_4).f1), .string (⟨#[]⟩ : ByteArray)]) (blk_put (cs := #[.int .i64 ((rd_T29 t192 x14_4).f0), .int .i64 0, .string (⟨#[]⟩ : ByteArray)]) (blk_put (cs := #[.int .i64 0, .int .i64 0, .string (⟨#[]⟩ : ByteArray)]) BK.out 0 (.int .i64 ((rd_T29 t192 x14_4).f0)) rfl) 1 (.int .i64 ((rd_T29 t192 x14_4).f1)) rfl) 2 (.string ((rd_T29 t192 x14_4).f2)) rfl)
                                        have mB := Aside0.mk (below_set (j := 2) (v := .string ((rd_T29 t192 x14_4).f2)) (below_set (j := 1) (v := .int .i64 ((rd_T29 t192 x14_4).f1)) (below_set (j := 0) (v := .int .i64 ((rd_T29 t192 x14_4).f0)) HB.out GE.out) GE.out) GE.out)
                                        clear HO_5 HO_8 HO_11 HB BK c0 c1 c2 f0 f1 f2
                                        have HO_5 := m5; have HO_8 := m8; have HO_11 := m11; have HB := mB; have BK := mK; clear m5 m8 m11 mB mK
                                        generalize (((w43.setCell ⟨gb, 0, none⟩ (.int .i64 ((rd_T29 t192 x14_4).f0))).setCell ⟨gb, 1, none⟩ (.int .i64 ((rd_T29 t192 x14_4).f1))).setCell ⟨gb, 2, none⟩ (.string ((rd_T29 t192 x14_4).f2))) = w44 at HO_5 HO_8 HO_11 HB BK ⊢
                                        have f0 := blk_frozen BK.out 0
                                        have f1 := blk_frozen BK.out 1
                                        have f2 := blk_frozen BK.out 2
                                        have c0 : w44.cell? ⟨gb, 0, none⟩ = some (.int .i64 ((rd_T29 t192 x14_4).f0)) := (blk_cell BK.out 0).trans rfl
                                        have c1 : w44.cell? ⟨gb, 1, none⟩ = some (.int .i64 ((rd_T29 t192 x14_4).f1)) := (blk_cell BK.out 1).trans rfl
                                        have c2 : w44.cell? ⟨gb, 2, none⟩ = some (.string ((rd_T29 t192 x14_4).f2)) := (blk_cell BK.out 2).trans rfl
                                        have pc : 0 ≤ x14_4 := of_decide_eq_true c38b0
                                        have qc : x14_4 < (t202.length : Int) := of_decide_eq_true c36b0
                                        obtain ⟨adc, ec, hxc_0, hxc_1, hxc_2⟩ := at_T29 (Kd.R_reads' HO_11.out).2.2 x14_4 pc qc
                                        cases ec
                                        replace pc := eq_true pc
                                        replace qc := eq_true qc
                                        go_wp2
                                        repeat (go_quiet (fail); try go_wp2)
                                        go_ret
                                        exact ⟨by first | rfl | (simp; done) | (simp [*]; done), by repeat (first | exact HB.out | apply pw_below_drewN | apply below_drew1)⟩
                                      · rw [if_neg c40] at H
                                        have c40b0 : (!(((rd_T29 t202 x14_4).f0) == ((rd_T29 t192 x14_4).f0)) || (!(((rd_T29 t202 x14_4).f1) == ((rd_T29 t192 x14_4).f1)) || (!((((rd_T29 t202 x14_4).f2).toList) == (((rd_T29 t192 x14_4).f2).toList))))) = false := by simpa using c40
                                        clear c40
                                        have H' := Aside0.mk H
                                        clear H
                                        obtain ⟨AoC, coC, eoC⟩ := Kd.R_slice HO_11.out
                                        subst eoC
                                        obtain ⟨AoA, coA, eoA⟩ := Kd.R_slice HO_5.out
                                        subst eoA
                                        obtain ⟨AoB, coB, eoB⟩ := Kd.R_slice HO_8.out
                                        subst eoB
                                        go_upto_region 16 with (first | ((with_reducible refine gate_dst (N := 15) rfl ?_); refine box_event ?hg (N := 15) ?hd (cs := #[.int .i64 0, .int .i64 0, .string (⟨#[]⟩ : ByteArray)]) (t := 29) ?hr ?_; (case hd => rfl); (case hg => rfl); (case hr => first | (go_simp; done) | (go_simp; rfl)); intro gb hg w42 hbox hb; have m5 := Aside0.mk (Kd.R_below (Kd.R_elderB HO_5.out gb (Nat.le_of_eq hg.symm)) hb); have m8 := Aside0.mk (Kd.R_below (Kd.R_elderB HO_8.out gb (Nat.le_of_eq hg.symm)) hb); have m11 := Aside0.mk (Kd.R_below (Kd.R_elderB HO_11.out gb (Nat.le_of_eq hg.symm)) hb); have mB := Aside0.mk (below_step HB.out hb); have GE := Aside0.mk (show w.heap.size ≤ gb by rw [hg]; exact HB.out.size); have BK := Aside0.mk hbox; clear HO_5 HO_8 HO_11 HB hg hbox hb; have HO_5 := m5; have HO_8 := m8; have HO_11 := m11; have HB := mB; clear m5 m8 m11 mB; have f0 := blk_frozen BK.out 0; have f1 := blk_frozen BK.out 1; have f2 := blk_frozen BK.out 2; have c0 : w42.cell? ⟨gb, 0, none⟩ = some (.int .i64 0) := (blk_cell BK.out 0).trans rfl; have c1 : w42.cell? ⟨gb, 1, none⟩ = some (.int .i64 0) := (blk_cell BK.out 1).trans rfl; have c2 : w42.cell? ⟨gb, 2, none⟩ = some (.string (⟨#[]⟩ : ByteArray)) := (blk_cell BK.out 2).trans rfl))
                                        have m5 := Aside0.mk (Kd.R_far (p := ⟨gb, 2, none⟩) (Kd.R_far (p := ⟨gb, 1, none⟩) (Kd.R_far (p := ⟨gb, 0, none⟩) HO_5.out (fun _ hk => hk.2) (.int .i64 0)) (fun _ hk => hk.2) (.int .i64 0)) (fun _ hk => hk.2) (.string (⟨#[]⟩ : ByteArray)))
                                        have m8 := Aside0.mk (Kd.R_far (p := ⟨gb, 2, none⟩) (Kd.R_far (p := ⟨gb, 1, none⟩) (Kd.R_far (p := ⟨gb, 0, none⟩) HO_8.out (fun _ hk => hk.2) (.int .i64 0)) (fun _ hk => hk.2) (.int .i64 0)) (fun _ hk => hk.2) (.string (⟨#[]⟩ : ByteArray)))
                                        have m11 := Aside0.mk (Kd.R_far (p := ⟨gb, 2, none⟩) (Kd.R_far (p := ⟨gb, 1, none⟩) (Kd.R_far (p := ⟨gb, 0, none⟩) HO_11.out (fun _ hk => hk.2) (.int .i64 0)) (fun _ hk => hk.2) (.int .i64 0)) (fun _ hk => hk.2) (.string (⟨#[]⟩ : ByteArray)))
                                        have mK := Aside0.mk (blk_put (cs := #[.int .i64 0, .int .i64 0, .string (⟨#[]⟩ : ByteArray)]) (blk_put (cs := #[.int .i64 0, .int .i64 0, .string (⟨#[]⟩ : ByteArray)]) (blk_put (cs := #[.int .i64 0, .int .i64 0, .string (⟨#[]⟩ : ByteArray)]) BK.out 0 (.int .i64 0) rfl) 1 (.int .i64 0) rfl) 2 (.string (⟨#[]⟩ : ByteArray)) rfl)
                                        have mB := Aside0.mk (below_set (j := 2) (v := .string (⟨#[]⟩ : ByteArray)) (below_set (j := 1) (v := .int .i64 0) (below_set (j := 0) (v := .int .i64 0) HB.out GE.out) GE.out) GE.out)
                                        clear HO_5 HO_8 HO_11 HB BK c0 c1 c2 f0 f1 f2
                                        have HO_5 := m5; have HO_8 := m8; have HO_11 := m11; have HB := mB; have BK := mK; clear m5 m8 m11 mB mK
                                        generalize (((w42.setCell ⟨gb, 0, none⟩ (.int .i64 0)).setCell ⟨gb, 1, none⟩ (.int .i64 0)).setCell ⟨gb, 2, none⟩ (.string (⟨#[]⟩ : ByteArray))) = w43 at HO_5 HO_8 HO_11 HB BK ⊢
                                        have f0 := blk_frozen BK.out 0
                                        have f1 := blk_frozen BK.out 1
                                        have f2 := blk_frozen BK.out 2
                                        have c0 : w43.cell? ⟨gb, 0, none⟩ = some (.int .i64 0) := (blk_cell BK.out 0).trans rfl
                                        have c1 : w43.cell? ⟨gb, 1, none⟩ = some (.int .i64 0) := (blk_cell BK.out 1).trans rfl
                                        have c2 : w43.cell? ⟨gb, 2, none⟩ = some (.string (⟨#[]⟩ : ByteArray)) := (blk_cell BK.out 2).trans rfl
                                        have pa : 0 ≤ x14_4 := of_decide_eq_true c38b0
                                        have qa : x14_4 < (t192.length : Int) := of_decide_eq_true c39b0
                                        obtain ⟨ada, ea, hxa_0, hxa_1, hxa_2⟩ := at_T29 (Kd.R_reads' HO_5.out).2.2 x14_4 pa qa
                                        cases ea
                                        replace pa := eq_true pa
                                        replace qa := eq_true qa
                                        go_upto_region 20 with (fail)
                                        clear hxa_0 hxa_1 hxa_2
                                        have m5 := Aside0.mk (Kd.R_far (p := ⟨gb, 2, none⟩) (Kd.R_far (p := ⟨gb, 1, none⟩) (Kd.R_far (p := ⟨gb, 0, none⟩) HO_5.out (fun _ hk => hk.2) (.int .i64 ((rd_T29 t192 x14_4).f0))) (fun _ hk => hk.2) (.int .i64 ((rd_T29 t192 x14_4).f1))) (fun _ hk => hk.2) (.string ((rd_T29 t192 x14_4).f2)))
                                        have m8 := Aside0.mk (Kd.R_far (p := ⟨gb, 2, none⟩) (Kd.R_far (p := ⟨gb, 1, none⟩) (Kd.R_far (p := ⟨gb, 0, none⟩) HO_8.out (fun _ hk => hk.2) (.int .i64 ((rd_T29 t192 x14_4).f0))) (fun _ hk => hk.2) (.int .i64 ((rd_T29 t192 x14_4).f1))) (fun _ hk => hk.2) (.string ((rd_T29 t192 x14_4).f2)))
                                        have m11 := Aside0.mk (Kd.R_far (p := ⟨gb, 2, none⟩) (Kd.R_far (p := ⟨gb, 1, none⟩) (Kd.R_far (p := ⟨gb, 0, none⟩) HO_11.out (fun _ hk => hk.2) (.int .i64 ((rd_T29 t192 x14_4).f0))) (fun _ hk => hk.2) (.int .i64 ((rd_T29 t192 x14_4).f1))) (fun _ hk => hk.2) (.string ((rd_T29 t192 x14_4).f2)))
                                        have mK := Aside0.mk (blk_put (cs := #[.int .i64 ((rd_T29 t192 x14_4).f0), .int .i64 ((rd_T29 t192 x14_4).f1), .string (⟨#[]⟩ : ByteArray)]) (blk_put (cs := #[.int .i64 ((rd_T29 t192 x14_4).f0), .int .i64 0, .string (⟨#[]⟩ : ByteArray)]) (blk_put (cs := #[.int .i64 0, .int .i64 0, .string (⟨#[]⟩ : ByteArray)]) BK.out 0 (.int .i64 ((rd_T29 t192 x14_4).f0)) rfl) 1 (.int .i64 ((rd_T29 t192 x14_4).f1)) rfl) 2 (.string ((rd_T29 t192 x14_4).f2)) rfl)
                                        have mB := Aside0.mk (below_set (j := 2) (v := .string ((rd_T29 t192 x14_4).f2)) (below_set (j := 1) (v := .int .i64 ((rd_T29 t192 x14_4).f1)) (below_set (j := 0) (v := .int .i64 ((rd_T29 t192 x14_4).f0)) HB.out GE.out) GE.out) GE.out)
                                        clear HO_5 HO_8 HO_11 HB BK c0 c1 c2 f0 f1 f2
                                        have HO_5 := m5; have HO_8 := m8; have HO_11 := m11; have HB := mB; have BK := mK; clear m5 m8 m11 mB mK
                                        generalize (((w43.setCell ⟨gb, 0, none⟩ (.int .i64 ((rd_T29 t192 x14_4).f0))).setCell ⟨gb, 1, none⟩ (.int .i64 ((rd_T29 t192 x14_4).f1))).setCell ⟨gb, 2, none⟩ (.string ((rd_T29 t192 x14_4).f2))) = w44 at HO_5 HO_8 HO_11 HB BK ⊢
                                        have f0 := blk_frozen BK.out 0
                                        have f1 := blk_frozen BK.out 1
                                        have f2 := blk_frozen BK.out 2
                                        have c0 : w44.cell? ⟨gb, 0, none⟩ = some (.int .i64 ((rd_T29 t192 x14_4).f0)) := (blk_cell BK.out 0).trans rfl
                                        have c1 : w44.cell? ⟨gb, 1, none⟩ = some (.int .i64 ((rd_T29 t192 x14_4).f1)) := (blk_cell BK.out 1).trans rfl
                                        have c2 : w44.cell? ⟨gb, 2, none⟩ = some (.string ((rd_T29 t192 x14_4).f2)) := (blk_cell BK.out 2).trans rfl
                                        have pc : 0 ≤ x14_4 := of_decide_eq_true c38b0
                                        have qc : x14_4 < (t202.length : Int) := of_decide_eq_true c36b0
                                        obtain ⟨adc, ec, hxc_0, hxc_1, hxc_2⟩ := at_T29 (Kd.R_reads' HO_11.out).2.2 x14_4 pc qc
                                        cases ec
                                        replace pc := eq_true pc
                                        replace qc := eq_true qc
                                        go_wp2
                                        repeat (go_quiet (fail); try go_wp2)
                                        go_roundg k4
                                        case measure => have := HK4.out; omega
                                        case rel => exact ⟨(wrap64 (x14_4 + 1)), (by first | rfl | (simp; done) | (simp [*]; done)), H', ⟨by have := HK4.out; omega⟩, ⟨by (with_reducible repeat (first | apply Kd.R_drewN | apply Kd.R_drew)); exact Kd.R_mono HO_5.out (fun _ hk => hk.1)⟩, ⟨by (with_reducible repeat (first | apply Kd.R_drewN | apply Kd.R_drew)); exact Kd.R_mono HO_8.out (fun _ hk => hk.1)⟩, ⟨by (with_reducible repeat (first | apply Kd.R_drewN | apply Kd.R_drew)); exact Kd.R_mono HO_11.out (fun _ hk => hk.1)⟩, ⟨by repeat (first | exact HB.out | apply pw_below_drewN | apply below_drew1)⟩⟩
                                    · rw [if_neg c39] at H
                                      exact absurd H (by simp)
                                  · rw [if_neg c38] at H
                                    exact absurd H (by simp)
                                · rw [if_neg c37] at H
                                  have c37b0 : decide (x14_4 < (wrap64 ((t192.length : Int) - 1))) = false := decide_eq_false c37
                                  clear c37
                                  obtain ⟨ji49, hji49⟩ : ∃ j_ : Int, (wrap64 ((wrap64 (x14_4 - (t192.length : Int))) + 1)) = j_ := ⟨_, rfl⟩
                                  replace H : (if 0 ≤ (ji49) then (if (ji49) < (t197.length : Int) then (if 0 ≤ x14_4 then (if (!(((rd_T29 t202 x14_4).f0) == ((rd_T29 t197 (ji49)).f0)) || (!(((rd_T29 t202 x14_4).f1) == (wrap64 ((wrap64 (((rd_T29 t197 (ji49)).f1) + (a0.size : Int))) + 1))) || (!((((rd_T29 t202 x14_4).f2).toList) == (((rd_T29 t197 (ji49)).f2).toList))))) = true then (some false) else (quittancelaw07_LexerJoins.l0 k4 a0 t192 t197 t202 (wrap64 (x14_4 + 1)))) else (none)) else (none)) else (none)) = some r := by first | (rw [hji49] at H; exact H) | (simp only [hji49] at H ⊢; exact H)
                                  have hji49w : (IntKind.i64.wrap ((wrap64 (x14_4 - (t192.length : Int))) + 1)) = ji49 := (i64_w _).trans hji49
                                  by_cases c50 : 0 ≤ (ji49)
                                  · rw [if_pos c50] at H
                                    have c50b0 : decide (0 ≤ (ji49)) = true := decide_eq_true c50
                                    clear c50
                                    by_cases c51 : (ji49) < (t197.length : Int)
                                    · rw [if_pos c51] at H
                                      have c51b0 : decide ((ji49) < (t197.length : Int)) = true := decide_eq_true c51
                                      clear c51
                                      by_cases c52 : 0 ≤ x14_4
                                      · rw [if_pos c52] at H
                                        have c52b0 : decide (0 ≤ x14_4) = true := decide_eq_true c52
                                        clear c52
                                        by_cases c53 : (!(((rd_T29 t202 x14_4).f0) == ((rd_T29 t197 (ji49)).f0)) || (!(((rd_T29 t202 x14_4).f1) == (wrap64 ((wrap64 (((rd_T29 t197 (ji49)).f1) + (a0.size : Int))) + 1))) || (!((((rd_T29 t202 x14_4).f2).toList) == (((rd_T29 t197 (ji49)).f2).toList))))) = true
                                        · rw [if_pos c53] at H
                                          have c53b0 : (!(((rd_T29 t202 x14_4).f0) == ((rd_T29 t197 (ji49)).f0)) || (!(((rd_T29 t202 x14_4).f1) == (wrap64 ((wrap64 (((rd_T29 t197 (ji49)).f1) + (a0.size : Int))) + 1))) || (!((((rd_T29 t202 x14_4).f2).toList) == (((rd_T29 t197 (ji49)).f2).toList))))) = true := c53
                                          clear c53
                                          obtain rfl := Option.some.inj H
                                          obtain ⟨AoC, coC, eoC⟩ := Kd.R_slice HO_11.out
                                          subst eoC
                                          obtain ⟨AoA, coA, eoA⟩ := Kd.R_slice HO_5.out
                                          subst eoA
                                          obtain ⟨AoB, coB, eoB⟩ := Kd.R_slice HO_8.out
                                          subst eoB
                                          go_upto_region 16 with (first | ((with_reducible refine gate_dst (N := 15) rfl ?_); refine box_event ?hg (N := 15) ?hd (cs := #[.int .i64 0, .int .i64 0, .string (⟨#[]⟩ : ByteArray)]) (t := 29) ?hr ?_; (case hd => rfl); (case hg => rfl); (case hr => first | (go_simp; done) | (go_simp; rfl)); intro gb hg w42 hbox hb; have m5 := Aside0.mk (Kd.R_below (Kd.R_elderB HO_5.out gb (Nat.le_of_eq hg.symm)) hb); have m8 := Aside0.mk (Kd.R_below (Kd.R_elderB HO_8.out gb (Nat.le_of_eq hg.symm)) hb); have m11 := Aside0.mk (Kd.R_below (Kd.R_elderB HO_11.out gb (Nat.le_of_eq hg.symm)) hb); have mB := Aside0.mk (below_step HB.out hb); have GE := Aside0.mk (show w.heap.size ≤ gb by rw [hg]; exact HB.out.size); have BK := Aside0.mk hbox; clear HO_5 HO_8 HO_11 HB hg hbox hb; have HO_5 := m5; have HO_8 := m8; have HO_11 := m11; have HB := mB; clear m5 m8 m11 mB; have f0 := blk_frozen BK.out 0; have f1 := blk_frozen BK.out 1; have f2 := blk_frozen BK.out 2; have c0 : w42.cell? ⟨gb, 0, none⟩ = some (.int .i64 0) := (blk_cell BK.out 0).trans rfl; have c1 : w42.cell? ⟨gb, 1, none⟩ = some (.int .i64 0) := (blk_cell BK.out 1).trans rfl; have c2 : w42.cell? ⟨gb, 2, none⟩ = some (.string (⟨#[]⟩ : ByteArray)) := (blk_cell BK.out 2).trans rfl))
                                          have m5 := Aside0.mk (Kd.R_far (p := ⟨gb, 2, none⟩) (Kd.R_far (p := ⟨gb, 1, none⟩) (Kd.R_far (p := ⟨gb, 0, none⟩) HO_5.out (fun _ hk => hk.2) (.int .i64 0)) (fun _ hk => hk.2) (.int .i64 0)) (fun _ hk => hk.2) (.string (⟨#[]⟩ : ByteArray)))
                                          have m8 := Aside0.mk (Kd.R_far (p := ⟨gb, 2, none⟩) (Kd.R_far (p := ⟨gb, 1, none⟩) (Kd.R_far (p := ⟨gb, 0, none⟩) HO_8.out (fun _ hk => hk.2) (.int .i64 0)) (fun _ hk => hk.2) (.int .i64 0)) (fun _ hk => hk.2) (.string (⟨#[]⟩ : ByteArray)))
                                          have m11 := Aside0.mk (Kd.R_far (p := ⟨gb, 2, none⟩) (Kd.R_far (p := ⟨gb, 1, none⟩) (Kd.R_far (p := ⟨gb, 0, none⟩) HO_11.out (fun _ hk => hk.2) (.int .i64 0)) (fun _ hk => hk.2) (.int .i64 0)) (fun _ hk => hk.2) (.string (⟨#[]⟩ : ByteArray)))
                                          have mK := Aside0.mk (blk_put (cs := #[.int .i64 0, .int .i64 0, .string (⟨#[]⟩ : ByteArray)]) (blk_put (cs := #[.int .i64 0, .int .i64 0, .string (⟨#[]⟩ : ByteArray)]) (blk_put (cs := #[.int .i64 0, .int .i64 0, .string (⟨#[]⟩ : ByteArray)]) BK.out 0 (.int .i64 0) rfl) 1 (.int .i64 0) rfl) 2 (.string (⟨#[]⟩ : ByteArray)) rfl)
                                          have mB := Aside0.mk (below_set (j := 2) (v := .string (⟨#[]⟩ : ByteArray)) (below_set (j := 1) (v := .int .i64 0) (below_set (j := 0) (v := .int .i64 0) HB.out GE.out) GE.out) GE.out)
                                          clear HO_5 HO_8 HO_11 HB BK c0 c1 c2 f0 f1 f2
                                          have HO_5 := m5; have HO_8 := m8; have HO_11 := m11; have HB := mB; have BK := mK; clear m5 m8 m11 mB mK
                                          generalize (((w42.setCell ⟨gb, 0, none⟩ (.int .i64 0)).setCell ⟨gb, 1, none⟩ (.int .i64 0)).setCell ⟨gb, 2, none⟩ (.string (⟨#[]⟩ : ByteArray))) = w43 at HO_5 HO_8 HO_11 HB BK ⊢
                                          have f0 := blk_frozen BK.out 0
                                          have f1 := blk_frozen BK.out 1
                                          have f2 := blk_frozen BK.out 2
                                          have c0 : w43.cell? ⟨gb, 0, none⟩ = some (.int .i64 0) := (blk_cell BK.out 0).trans rfl
                                          have c1 : w43.cell? ⟨gb, 1, none⟩ = some (.int .i64 0) := (blk_cell BK.out 1).trans rfl
                                          have c2 : w43.cell? ⟨gb, 2, none⟩ = some (.string (⟨#[]⟩ : ByteArray)) := (blk_cell BK.out 2).trans rfl
                                          have pa : 0 ≤ ji49 := of_decide_eq_true c50b0
                                          have qa : ji49 < (t197.length : Int) := of_decide_eq_true c51b0
                                          obtain ⟨ada, ea, hxa_0, hxa_1, hxa_2⟩ := at_T29 (Kd.R_reads' HO_8.out).2.2 ji49 pa qa
                                          cases ea
                                          replace pa := eq_true pa
                                          replace qa := eq_true qa
                                          go_upto_region 20 with (fail)
                                          clear hxa_0 hxa_1 hxa_2
                                          have m5 := Aside0.mk (Kd.R_far (p := ⟨gb, 1, none⟩) (Kd.R_far (p := ⟨gb, 2, none⟩) (Kd.R_far (p := ⟨gb, 1, none⟩) (Kd.R_far (p := ⟨gb, 0, none⟩) HO_5.out (fun _ hk => hk.2) (.int .i64 ((rd_T29 t197 ji49).f0))) (fun _ hk => hk.2) (.int .i64 ((rd_T29 t197 ji49).f1))) (fun _ hk => hk.2) (.string ((rd_T29 t197 ji49).f2))) (fun _ hk => hk.2) (.int .i64 (wrap64 ((wrap64 ((rd_T29 t197 ji49).f1 + (a0.size : Int))) + 1))))
                                          have m8 := Aside0.mk (Kd.R_far (p := ⟨gb, 1, none⟩) (Kd.R_far (p := ⟨gb, 2, none⟩) (Kd.R_far (p := ⟨gb, 1, none⟩) (Kd.R_far (p := ⟨gb, 0, none⟩) HO_8.out (fun _ hk => hk.2) (.int .i64 ((rd_T29 t197 ji49).f0))) (fun _ hk => hk.2) (.int .i64 ((rd_T29 t197 ji49).f1))) (fun _ hk => hk.2) (.string ((rd_T29 t197 ji49).f2))) (fun _ hk => hk.2) (.int .i64 (wrap64 ((wrap64 ((rd_T29 t197 ji49).f1 + (a0.size : Int))) + 1))))
                                          have m11 := Aside0.mk (Kd.R_far (p := ⟨gb, 1, none⟩) (Kd.R_far (p := ⟨gb, 2, none⟩) (Kd.R_far (p := ⟨gb, 1, none⟩) (Kd.R_far (p := ⟨gb, 0, none⟩) HO_11.out (fun _ hk => hk.2) (.int .i64 ((rd_T29 t197 ji49).f0))) (fun _ hk => hk.2) (.int .i64 ((rd_T29 t197 ji49).f1))) (fun _ hk => hk.2) (.string ((rd_T29 t197 ji49).f2))) (fun _ hk => hk.2) (.int .i64 (wrap64 ((wrap64 ((rd_T29 t197 ji49).f1 + (a0.size : Int))) + 1))))
                                          have mK := Aside0.mk (blk_put (cs := #[.int .i64 ((rd_T29 t197 ji49).f0), .int .i64 ((rd_T29 t197 ji49).f1), .string ((rd_T29 t197 ji49).f2)]) (blk_put (cs := #[.int .i64 ((rd_T29 t197 ji49).f0), .int .i64 ((rd_T29 t197 ji49).f1), .string (⟨#[]⟩ : ByteArray)]) (blk_put (cs := #[.int .i64 ((rd_T29 t197 ji49).f0), .int .i64 0, .string (⟨#[]⟩ : ByteArray)]) (blk_put (cs := #[.int .i64 0, .int .i64 0, .string (⟨#[]⟩ : ByteArray)]) BK.out 0 (.int .i64 ((rd_T29 t197 ji49).f0)) rfl) 1 (.int .i64 ((rd_T29 t197 ji49).f1)) rfl) 2 (.string ((rd_T29 t197 ji49).f2)) rfl) 1 (.int .i64 (wrap64 ((wrap64 ((rd_T29 t197 ji49).f1 + (a0.size : Int))) + 1))) rfl)
                                          have mB := Aside0.mk (below_set (j := 1) (v := .int .i64 (wrap64 ((wrap64 ((rd_T29 t197 ji49).f1 + (a0.size : Int))) + 1))) (below_set (j := 2) (v := .string ((rd_T29 t197 ji49).f2)) (below_set (j := 1) (v := .int .i64 ((rd_T29 t197 ji49).f1)) (below_set (j := 0) (v := .int .i64 ((rd_T29 t197 ji49).f0)) HB.out GE.out) GE.out) GE.out) GE.out)
                                          clear HO_5 HO_8 HO_11 HB BK c0 c1 c2 f0 f1 f2
                                          have HO_5 := m5; have HO_8 := m8; have HO_11 := m11; have HB := mB; have BK := mK; clear m5 m8 m11 mB mK
                                          generalize ((((w43.setCell ⟨gb, 0, none⟩ (.int .i64 ((rd_T29 t197 ji49).f0))).setCell ⟨gb, 1, none⟩ (.int .i64 ((rd_T29 t197 ji49).f1))).setCell ⟨gb, 2, none⟩ (.string ((rd_T29 t197 ji49).f2))).setCell ⟨gb, 1, none⟩ (.int .i64 (wrap64 ((wrap64 ((rd_T29 t197 ji49).f1 + (a0.size : Int))) + 1)))) = w44 at HO_5 HO_8 HO_11 HB BK ⊢
                                          have f0 := blk_frozen BK.out 0
                                          have f1 := blk_frozen BK.out 1
                                          have f2 := blk_frozen BK.out 2
                                          have c0 : w44.cell? ⟨gb, 0, none⟩ = some (.int .i64 ((rd_T29 t197 ji49).f0)) := (blk_cell BK.out 0).trans rfl
                                          have c1 : w44.cell? ⟨gb, 1, none⟩ = some (.int .i64 (wrap64 ((wrap64 ((rd_T29 t197 ji49).f1 + (a0.size : Int))) + 1))) := (blk_cell BK.out 1).trans rfl
                                          have c2 : w44.cell? ⟨gb, 2, none⟩ = some (.string ((rd_T29 t197 ji49).f2)) := (blk_cell BK.out 2).trans rfl
                                          have pc : 0 ≤ x14_4 := of_decide_eq_true c52b0
                                          have qc : x14_4 < (t202.length : Int) := of_decide_eq_true c36b0
                                          obtain ⟨adc, ec, hxc_0, hxc_1, hxc_2⟩ := at_T29 (Kd.R_reads' HO_11.out).2.2 x14_4 pc qc
                                          cases ec
                                          replace pc := eq_true pc
                                          replace qc := eq_true qc
                                          go_wp2
                                          repeat (go_quiet (fail); try go_wp2)
                                          go_ret
                                          exact ⟨by first | rfl | (simp; done) | (simp [*]; done), by repeat (first | exact HB.out | apply pw_below_drewN | apply below_drew1)⟩
                                        · rw [if_neg c53] at H
                                          have c53b0 : (!(((rd_T29 t202 x14_4).f0) == ((rd_T29 t197 (ji49)).f0)) || (!(((rd_T29 t202 x14_4).f1) == (wrap64 ((wrap64 (((rd_T29 t197 (ji49)).f1) + (a0.size : Int))) + 1))) || (!((((rd_T29 t202 x14_4).f2).toList) == (((rd_T29 t197 (ji49)).f2).toList))))) = false := by simpa using c53
                                          clear c53
                                          have H' := Aside0.mk H
                                          clear H
                                          obtain ⟨AoC, coC, eoC⟩ := Kd.R_slice HO_11.out
                                          subst eoC
                                          obtain ⟨AoA, coA, eoA⟩ := Kd.R_slice HO_5.out
                                          subst eoA
                                          obtain ⟨AoB, coB, eoB⟩ := Kd.R_slice HO_8.out
                                          subst eoB
                                          go_upto_region 16 with (first | ((with_reducible refine gate_dst (N := 15) rfl ?_); refine box_event ?hg (N := 15) ?hd (cs := #[.int .i64 0, .int .i64 0, .string (⟨#[]⟩ : ByteArray)]) (t := 29) ?hr ?_; (case hd => rfl); (case hg => rfl); (case hr => first | (go_simp; done) | (go_simp; rfl)); intro gb hg w42 hbox hb; have m5 := Aside0.mk (Kd.R_below (Kd.R_elderB HO_5.out gb (Nat.le_of_eq hg.symm)) hb); have m8 := Aside0.mk (Kd.R_below (Kd.R_elderB HO_8.out gb (Nat.le_of_eq hg.symm)) hb); have m11 := Aside0.mk (Kd.R_below (Kd.R_elderB HO_11.out gb (Nat.le_of_eq hg.symm)) hb); have mB := Aside0.mk (below_step HB.out hb); have GE := Aside0.mk (show w.heap.size ≤ gb by rw [hg]; exact HB.out.size); have BK := Aside0.mk hbox; clear HO_5 HO_8 HO_11 HB hg hbox hb; have HO_5 := m5; have HO_8 := m8; have HO_11 := m11; have HB := mB; clear m5 m8 m11 mB; have f0 := blk_frozen BK.out 0; have f1 := blk_frozen BK.out 1; have f2 := blk_frozen BK.out 2; have c0 : w42.cell? ⟨gb, 0, none⟩ = some (.int .i64 0) := (blk_cell BK.out 0).trans rfl; have c1 : w42.cell? ⟨gb, 1, none⟩ = some (.int .i64 0) := (blk_cell BK.out 1).trans rfl; have c2 : w42.cell? ⟨gb, 2, none⟩ = some (.string (⟨#[]⟩ : ByteArray)) := (blk_cell BK.out 2).trans rfl))
                                          have m5 := Aside0.mk (Kd.R_far (p := ⟨gb, 2, none⟩) (Kd.R_far (p := ⟨gb, 1, none⟩) (Kd.R_far (p := ⟨gb, 0, none⟩) HO_5.out (fun _ hk => hk.2) (.int .i64 0)) (fun _ hk => hk.2) (.int .i64 0)) (fun _ hk => hk.2) (.string (⟨#[]⟩ : ByteArray)))
                                          have m8 := Aside0.mk (Kd.R_far (p := ⟨gb, 2, none⟩) (Kd.R_far (p := ⟨gb, 1, none⟩) (Kd.R_far (p := ⟨gb, 0, none⟩) HO_8.out (fun _ hk => hk.2) (.int .i64 0)) (fun _ hk => hk.2) (.int .i64 0)) (fun _ hk => hk.2) (.string (⟨#[]⟩ : ByteArray)))
                                          have m11 := Aside0.mk (Kd.R_far (p := ⟨gb, 2, none⟩) (Kd.R_far (p := ⟨gb, 1, none⟩) (Kd.R_far (p := ⟨gb, 0, none⟩) HO_11.out (fun _ hk => hk.2) (.int .i64 0)) (fun _ hk => hk.2) (.int .i64 0)) (fun _ hk => hk.2) (.string (⟨#[]⟩ : ByteArray)))
                                          have mK := Aside0.mk (blk_put (cs := #[.int .i64 0, .int .i64 0, .string (⟨#[]⟩ : ByteArray)]) (blk_put (cs := #[.int .i64 0, .int .i64 0, .string (⟨#[]⟩ : ByteArray)]) (blk_put (cs := #[.int .i64 0, .int .i64 0, .string (⟨#[]⟩ : ByteArray)]) BK.out 0 (.int .i64 0) rfl) 1 (.int .i64 0) rfl) 2 (.string (⟨#[]⟩ : ByteArray)) rfl)
                                          have mB := Aside0.mk (below_set (j := 2) (v := .string (⟨#[]⟩ : ByteArray)) (below_set (j := 1) (v := .int .i64 0) (below_set (j := 0) (v := .int .i64 0) HB.out GE.out) GE.out) GE.out)
                                          clear HO_5 HO_8 HO_11 HB BK c0 c1 c2 f0 f1 f2
                                          have HO_5 := m5; have HO_8 := m8; have HO_11 := m11; have HB := mB; have BK := mK; clear m5 m8 m11 mB mK
                                          generalize (((w42.setCell ⟨gb, 0, none⟩ (.int .i64 0)).setCell ⟨gb, 1, none⟩ (.int .i64 0)).setCell ⟨gb, 2, none⟩ (.string (⟨#[]⟩ : ByteArray))) = w43 at HO_5 HO_8 HO_11 HB BK ⊢
                                          have f0 := blk_frozen BK.out 0
                                          have f1 := blk_frozen BK.out 1
                                          have f2 := blk_frozen BK.out 2
                                          have c0 : w43.cell? ⟨gb, 0, none⟩ = some (.int .i64 0) := (blk_cell BK.out 0).trans rfl
                                          have c1 : w43.cell? ⟨gb, 1, none⟩ = some (.int .i64 0) := (blk_cell BK.out 1).trans rfl
                                          have c2 : w43.cell? ⟨gb, 2, none⟩ = some (.string (⟨#[]⟩ : ByteArray)) := (blk_cell BK.out 2).trans rfl
                                          have pa : 0 ≤ ji49 := of_decide_eq_true c50b0
                                          have qa : ji49 < (t197.length : Int) := of_decide_eq_true c51b0
                                          obtain ⟨ada, ea, hxa_0, hxa_1, hxa_2⟩ := at_T29 (Kd.R_reads' HO_8.out).2.2 ji49 pa qa
                                          cases ea
                                          replace pa := eq_true pa
                                          replace qa := eq_true qa
                                          go_upto_region 20 with (fail)
                                          clear hxa_0 hxa_1 hxa_2
                                          have m5 := Aside0.mk (Kd.R_far (p := ⟨gb, 1, none⟩) (Kd.R_far (p := ⟨gb, 2, none⟩) (Kd.R_far (p := ⟨gb, 1, none⟩) (Kd.R_far (p := ⟨gb, 0, none⟩) HO_5.out (fun _ hk => hk.2) (.int .i64 ((rd_T29 t197 ji49).f0))) (fun _ hk => hk.2) (.int .i64 ((rd_T29 t197 ji49).f1))) (fun _ hk => hk.2) (.string ((rd_T29 t197 ji49).f2))) (fun _ hk => hk.2) (.int .i64 (wrap64 ((wrap64 ((rd_T29 t197 ji49).f1 + (a0.size : Int))) + 1))))
                                          have m8 := Aside0.mk (Kd.R_far (p := ⟨gb, 1, none⟩) (Kd.R_far (p := ⟨gb, 2, none⟩) (Kd.R_far (p := ⟨gb, 1, none⟩) (Kd.R_far (p := ⟨gb, 0, none⟩) HO_8.out (fun _ hk => hk.2) (.int .i64 ((rd_T29 t197 ji49).f0))) (fun _ hk => hk.2) (.int .i64 ((rd_T29 t197 ji49).f1))) (fun _ hk => hk.2) (.string ((rd_T29 t197 ji49).f2))) (fun _ hk => hk.2) (.int .i64 (wrap64 ((wrap64 ((rd_T29 t197 ji49).f1 + (a0.size : Int))) + 1))))
                                          have m11 := Aside0.mk (Kd.R_far (p := ⟨gb, 1, none⟩) (Kd.R_far (p := ⟨gb, 2, none⟩) (Kd.R_far (p := ⟨gb, 1, none⟩) (Kd.R_far (p := ⟨gb, 0, none⟩) HO_11.out (fun _ hk => hk.2) (.int .i64 ((rd_T29 t197 ji49).f0))) (fun _ hk => hk.2) (.int .i64 ((rd_T29 t197 ji49).f1))) (fun _ hk => hk.2) (.string ((rd_T29 t197 ji49).f2))) (fun _ hk => hk.2) (.int .i64 (wrap64 ((wrap64 ((rd_T29 t197 ji49).f1 + (a0.size : Int))) + 1))))
                                          have mK := Aside0.mk (blk_put (cs := #[.int .i64 ((rd_T29 t197 ji49).f0), .int .i64 ((rd_T29 t197 ji49).f1), .string ((rd_T29 t197 ji49).f2)]) (blk_put (cs := #[.int .i64 ((rd_T29 t197 ji49).f0), .int .i64 ((rd_T29 t197 ji49).f1), .string (⟨#[]⟩ : ByteArray)]) (blk_put (cs := #[.int .i64 ((rd_T29 t197 ji49).f0), .int .i64 0, .string (⟨#[]⟩ : ByteArray)]) (blk_put (cs := #[.int .i64 0, .int .i64 0, .string (⟨#[]⟩ : ByteArray)]) BK.out 0 (.int .i64 ((rd_T29 t197 ji49).f0)) rfl) 1 (.int .i64 ((rd_T29 t197 ji49).f1)) rfl) 2 (.string ((rd_T29 t197 ji49).f2)) rfl) 1 (.int .i64 (wrap64 ((wrap64 ((rd_T29 t197 ji49).f1 + (a0.size : Int))) + 1))) rfl)
                                          have mB := Aside0.mk (below_set (j := 1) (v := .int .i64 (wrap64 ((wrap64 ((rd_T29 t197 ji49).f1 + (a0.size : Int))) + 1))) (below_set (j := 2) (v := .string ((rd_T29 t197 ji49).f2)) (below_set (j := 1) (v := .int .i64 ((rd_T29 t197 ji49).f1)) (below_set (j := 0) (v := .int .i64 ((rd_T29 t197 ji49).f0)) HB.out GE.out) GE.out) GE.out) GE.out)
                                          clear HO_5 HO_8 HO_11 HB BK c0 c1 c2 f0 f1 f2
                                          have HO_5 := m5; have HO_8 := m8; have HO_11 := m11; have HB := mB; have BK := mK; clear m5 m8 m11 mB mK
                                          generalize ((((w43.setCell ⟨gb, 0, none⟩ (.int .i64 ((rd_T29 t197 ji49).f0))).setCell ⟨gb, 1, none⟩ (.int .i64 ((rd_T29 t197 ji49).f1))).setCell ⟨gb, 2, none⟩ (.string ((rd_T29 t197 ji49).f2))).setCell ⟨gb, 1, none⟩ (.int .i64 (wrap64 ((wrap64 ((rd_T29 t197 ji49).f1 + (a0.size : Int))) + 1)))) = w44 at HO_5 HO_8 HO_11 HB BK ⊢
                                          have f0 := blk_frozen BK.out 0
                                          have f1 := blk_frozen BK.out 1
                                          have f2 := blk_frozen BK.out 2
                                          have c0 : w44.cell? ⟨gb, 0, none⟩ = some (.int .i64 ((rd_T29 t197 ji49).f0)) := (blk_cell BK.out 0).trans rfl
                                          have c1 : w44.cell? ⟨gb, 1, none⟩ = some (.int .i64 (wrap64 ((wrap64 ((rd_T29 t197 ji49).f1 + (a0.size : Int))) + 1))) := (blk_cell BK.out 1).trans rfl
                                          have c2 : w44.cell? ⟨gb, 2, none⟩ = some (.string ((rd_T29 t197 ji49).f2)) := (blk_cell BK.out 2).trans rfl
                                          have pc : 0 ≤ x14_4 := of_decide_eq_true c52b0
                                          have qc : x14_4 < (t202.length : Int) := of_decide_eq_true c36b0
                                          obtain ⟨adc, ec, hxc_0, hxc_1, hxc_2⟩ := at_T29 (Kd.R_reads' HO_11.out).2.2 x14_4 pc qc
                                          cases ec
                                          replace pc := eq_true pc
                                          replace qc := eq_true qc
                                          go_wp2
                                          repeat (go_quiet (fail); try go_wp2)
                                          go_roundg k4
                                          case measure => have := HK4.out; omega
                                          case rel => exact ⟨(wrap64 (x14_4 + 1)), (by first | rfl | (simp; done) | (simp [*]; done)), H', ⟨by have := HK4.out; omega⟩, ⟨by (with_reducible repeat (first | apply Kd.R_drewN | apply Kd.R_drew)); exact Kd.R_mono HO_5.out (fun _ hk => hk.1)⟩, ⟨by (with_reducible repeat (first | apply Kd.R_drewN | apply Kd.R_drew)); exact Kd.R_mono HO_8.out (fun _ hk => hk.1)⟩, ⟨by (with_reducible repeat (first | apply Kd.R_drewN | apply Kd.R_drew)); exact Kd.R_mono HO_11.out (fun _ hk => hk.1)⟩, ⟨by repeat (first | exact HB.out | apply pw_below_drewN | apply below_drew1)⟩⟩
                                      · rw [if_neg c52] at H
                                        exact absurd H (by simp)
                                    · rw [if_neg c51] at H
                                      exact absurd H (by simp)
                                  · rw [if_neg c50] at H
                                    exact absurd H (by simp)
                              · rw [if_neg c36] at H
                                have c36b0 : decide (x14_4 < (t202.length : Int)) = false := decide_eq_false c36
                                clear c36
                                obtain rfl := Option.some.inj H
                                obtain ⟨Ao64, co64, eo64⟩ := Kd.R_slice HO_11.out
                                subst eo64
                                go_wp2
                                repeat (go_quiet (fail); try go_wp2)
                                go_ret
                                exact ⟨by first | rfl | (simp [errW_none, errW_some] <;> rfl) | (simp [*, errW_none, errW_some] <;> rfl), by repeat (first | (with_reducible first | exact HB.out | apply below_alloc | apply pw_below_drewN | apply below_drew1) | exact HB.out)⟩
                  · rw [if_neg c26] at H
                    have c26b0 : (t199 == 0) = false := beq_eq_false_iff_ne.mpr c26
                    have c26b1 : (t199 != 0) = true := bne_iff_ne.mpr c26
                    by_cases c65 : t204 = 6
                    · rw [if_pos c65] at H
                      have c65b0 : (t204 == 6) = true := beq_iff_eq.mpr c65
                      have c65b1 : (t204 != 6) = false := bne_eq_false_iff_eq.mpr c65
                      clear c65
                      by_cases c66 : t203 = (wrap64 ((wrap64 (t198 + (a0.size : Int))) + 1))
                      · rw [if_pos c66] at H
                        have c66b0 : (t203 == (wrap64 ((wrap64 (t198 + (a0.size : Int))) + 1))) = true := beq_iff_eq.mpr c66
                        have c66b1 : (t203 != (wrap64 ((wrap64 (t198 + (a0.size : Int))) + 1))) = false := bne_eq_false_iff_eq.mpr c66
                        clear c66
                        obtain rfl := Option.some.inj H
                        obtain ⟨Ao67, co67, eo67⟩ := Kd.R_slice HO_11.out
                        subst eo67
                        go_wp2
                        repeat (go_quiet (fail); try go_wp2)
                        go_ret
                        exact ⟨by first | rfl | (simp [errW_none, errW_some] <;> rfl) | (simp [*, errW_none, errW_some] <;> rfl), by repeat (first | (with_reducible first | exact HB.out | apply below_alloc | apply pw_below_drewN | apply below_drew1) | exact HB.out)⟩
                      · rw [if_neg c66] at H
                        have c66b0 : (t203 == (wrap64 ((wrap64 (t198 + (a0.size : Int))) + 1))) = false := beq_eq_false_iff_ne.mpr c66
                        have c66b1 : (t203 != (wrap64 ((wrap64 (t198 + (a0.size : Int))) + 1))) = true := bne_iff_ne.mpr c66
                        obtain rfl := Option.some.inj H
                        go_wp2
                        repeat (go_quiet (fail); try go_wp2)
                        go_ret
                        exact ⟨by first | rfl | (simp [errW_none, errW_some] <;> rfl) | (simp [*, errW_none, errW_some] <;> rfl), by repeat (first | (with_reducible first | exact HB.out | apply below_alloc | apply pw_below_drewN | apply below_drew1) | exact HB.out)⟩
                    · rw [if_neg c65] at H
                      have c65b0 : (t204 == 6) = false := beq_eq_false_iff_ne.mpr c65
                      have c65b1 : (t204 != 6) = true := bne_iff_ne.mpr c65
                      obtain rfl := Option.some.inj H
                      go_wp2
                      repeat (go_quiet (fail); try go_wp2)
                      go_ret
                      exact ⟨by first | rfl | (simp [errW_none, errW_some] <;> rfl) | (simp [*, errW_none, errW_some] <;> rfl), by repeat (first | (with_reducible first | exact HB.out | apply below_alloc | apply pw_below_drewN | apply below_drew1) | exact HB.out)⟩
          · rw [if_neg c11] at H
            exact absurd H (by simp)
        · rw [if_neg c10] at H
          exact absurd H (by simp)

/-- THE ONE PURE STATEMENT of quittancelaw07_LexerJoins: yours. -/
def quittancelaw07_LexerJoins.Pure : Prop := ∀ (a0 : ByteArray) (a1 : ByteArray), a0.size ≤ 140737488351232 → a1.size ≤ 140737488351232 → ∃ k, quittancelaw07_LexerJoins.f k a0 a1 = some true
theorem quittancelaw07_LexerJoins.walk (P : quittancelaw07_LexerJoins.Pure) (a0 : ByteArray) (a1 : ByteArray) (w : World) (w0 : a0.size ≤ 140737488351232) (w1 : a1.size ≤ 140737488351232) :
    Calls Try.prog 7 #[.string a0, .string a1] w fun e w' => e = .returned (.bool true) ∧ Below w.heap.size w w' := by
  obtain ⟨k, h⟩ := P a0 a1 w0 w1
  refine (quittancelaw07_LexerJoins.calls k a0 a1 true w h).mono ?_
  rintro e w' ⟨rfl, hd⟩
  exact ⟨rfl, hd⟩

end Go.Proofs.Ytgcodjjkpbnadaa.P
