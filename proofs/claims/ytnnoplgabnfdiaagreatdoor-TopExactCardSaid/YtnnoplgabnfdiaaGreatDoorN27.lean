/- Part 27 of a proof over the shadow machine. -/
import Derived.Test.YtnnoplgabnfdiaaGreatDoorN26
import Derived.Shelf.Strings.Builder1
import Derived.Handy
import Derived.StillTailTactics
import Derived.Lib.OthersKept
import Derived.Lib.OwnKind
import Derived.Lib.ConvBytes
import Derived.Test.YtnnoplgabnfdiaaGreatDoorRows
import Derived.WalkKit
import Derived.ProofKit
import Derived.OpenShut
import Derived.ChangeOld
import Derived.Below
import Derived.LaidLaws
import Derived.LaidHandle
import Derived.JoinedOf
import Derived.ChangeSame
import Derived.ChangeVars
/- The shadow machine over this program: a text is written: the library's builder, within the program's own writer. -/
namespace Go.Proofs.YtnnoplgabnfdiaaGreatDoor.Sh
open Go Go.RowKit
set_option linter.unusedVariables false
set_option linter.unusedSimpArgs false
set_option maxRecDepth 100000
set_option maxHeartbeats 4000000
theorem info139 : ∃ j, Tryz.prog.info? 139 = some j ∧ j.size = 2 := Option.map_eq_some_iff.1 (by kernel_rfl : (Tryz.prog.info? 139).map (·.size) = some 2)
theorem lies141 : liesAt Tryz.prog Tryz.prog.depth 141 (2 / Tryz.prog.cellsOf 141) 0 139 1 = true := by kernel_rfl
theorem used123 (b : Nat) (w : World) (h0 : w.cell? ⟨b, 0, none⟩ = some (.pointer (some ⟨b, 0, none⟩))) : Calls Tryz.prog 123 #[.pointer (some ⟨b, 0, none⟩)] w fun e w' => e = .returned (.tuple #[]) ∧ w' = w := by
  obtain ⟨j, hj, _⟩ := info139
  go_enter Tryz.func123, Tryz.ntmps123
  go_wp2
  rw [Lib.run_neq_ptr_same w _ Tryz.underlying137 hj]
  go_wp2
  go_end0
  exact ⟨rfl, rfl⟩
theorem fresh123 (b : Nat) (w : World) (h0 : w.cell? ⟨b, 0, none⟩ = some (.pointer none)) (hsh : w.shape? b = some (141, 2)) (hfz : w.frozen? ⟨b, 0, none⟩ = false) : Calls Tryz.prog 123 #[.pointer (some ⟨b, 0, none⟩)] w fun e w' => e = .returned (.tuple #[]) ∧ w' = w.setCell ⟨b, 0, none⟩ (.pointer (some ⟨b, 0, none⟩)) := by
  obtain ⟨j, hj, hjs⟩ := info139
  go_enter Tryz.func123, Tryz.ntmps123
  go_wp2
  rw [Lib.run_to_unsafe w ⟨b, 0, none⟩ Tryz.underlying137 Tryz.underlying248 hj (by rw [hjs]; decide) hsh (Nat.zero_lt_succ 1)]
  simp only [Result.andThen]
  rw [Oper.upon_value]
  go_wp2
  rw [run_callFunc_extern Tryz.func154 (by kernel_rfl) (by kernel_rfl) (by kernel_rfl) (e := Extern.AbiNoEscape.same) (by kernel_rfl)]
  rw [Lib.run_noEscape]
  simp only [Result.andThen]
  rw [Oper.upon_value]
  go_wp2
  rw [Lib.run_from_unsafe w ⟨b, 0, none⟩ Tryz.underlying248 Tryz.underlying137 hj hsh lies141]
  simp only [Result.andThen]
  rw [Oper.upon_value]
  go_wp2
  go_end0
  exact ⟨rfl, rfl⟩
/-- A builder within a writer that a call has made itself. -/
def Wr (B b : Nat) (bs : List Value) (w : World) : Prop := Lib.IsBuilder 141 5 B b bs w
theorem copy123 (B b : Nat) (bs : List Value) (w : World) (h : Wr B b bs w) : Calls Tryz.prog 123 #[.pointer (some ⟨b, 0, none⟩)] w fun e w' => e = .returned (.tuple #[]) ∧ Lib.BuilderAt 141 5 B b (.pointer (some ⟨b, 0, none⟩)) bs w' ∧ Below B w w' ∧ Lib.OthersKept 5 (some b) w w' := by
  rcases h with h | h
  · refine (fresh123 b w h.cell0 h.shape h.frozen0).mono ?_
    rintro e w' ⟨rfl, rfl⟩
    exact ⟨rfl, h.used _, (Below.refl B w).setCell (p := ⟨b, 0, none⟩) h.1 _, (Lib.OthersKept.refl _ _ w).setCell ⟨b, 0, none⟩ rfl _⟩
  · refine (used123 b w h.cell0).mono ?_
    rintro e w' ⟨rfl, rfl⟩
    exact ⟨rfl, h, Below.refl B _, Lib.OthersKept.refl _ _ _⟩
theorem write76 (B b : Nat) (bs : List Value) (s : ByteArray) (w : World) (h : Wr B b bs w) (hlen : bs.length + s.size ≤ 140737488355328) (hBw : B ≤ w.heap.size) : Calls Tryz.prog 76 #[.pointer (some ⟨b, 0, none⟩), .string s] w fun e w' => e = .returned (.tuple #[.int .i64 s.size, .nilIface]) ∧ Wr B b (bs ++ Lib.strCells s) w' ∧ Below B w w' ∧ Lib.OthersKept 5 (some b) w w' := by
  obtain ⟨i0, hi, hz0, hz1, hz2⟩ := info_parts (show (Tryz.prog.info? 5).map (fun i => (i.zero, i.size, i.bytes)) = some (some (.int .u8 0), 1, 1) by kernel_rfl)
  have e123 : ∀ args w, (callFunc 123 args).run Tryz.prog w = .ok (.enter 123 args) w := enters_of Tryz.func123 (by kernel_rfl) rfl
  go_enter Tryz.func76, Tryz.ntmps76
  go_wp2_with (go_at_fn 123; refine (copy123 B b bs _ h).mono ?_)
  rintro e w1 ⟨rfl, h1, hb1, hk1⟩
  obtain ⟨hB, v, hbk, hown, hne⟩ := h1
  have c0 : w1.cell? ⟨b, 0, none⟩ = some (.pointer (some ⟨b, 0, none⟩)) := by rw [Lib.cell_of_heap hbk]; rfl
  have c1 : w1.cell? ⟨b, 1, none⟩ = some v := by rw [Lib.cell_of_heap hbk]; rfl
  go_wp2_with (at_builtin; refine Lib.wpList_append_own_string _ rfl _ _ 80 9 rfl B 5 i0 Tryz.underlying80 Tryz.underlying9 hi hz0 hz1 hz2 _ _ _ rfl hown s rfl ?c3 ?c4 ?c5 ?_)
  case c3 => unfold maxLen; omega
  case c4 => omega
  case c5 => have := hb1.size; omega
  intro v' w2 hown' hgrow _
  have hlt : b < w1.heap.size := by
    rcases Nat.lt_or_ge b w1.heap.size with h' | h'
    · exact h'
    · simp [Array.getElem?_eq_none h'] at hbk
  have hb2 : w2.heap[b]? = some (.cells #[.pointer (some ⟨b, 0, none⟩), v] 141 (0, 0)) := by
    rw [hgrow.block b hlt (fun e => hne e.symm)]
    exact hbk
  have d0 : w2.cell? ⟨b, 0, none⟩ = some (.pointer (some ⟨b, 0, none⟩)) := by rw [Lib.cell_of_heap hb2]; rfl
  have d1 : w2.cell? ⟨b, 1, none⟩ = some v := by rw [Lib.cell_of_heap hb2]; rfl
  have f1 : w2.frozen? ⟨b, 1, none⟩ = false := Lib.frozen_of_heap hb2 1
  obtain ⟨ao, n', cap, rfl⟩ : ∃ ao n' cap, v' = .slice ao n' cap := by
    rcases hown'.2 with ⟨hv, _⟩ | ⟨g, cap, cur, hv, _⟩
    · exact ⟨_, _, _, hv⟩
    · exact ⟨_, _, _, hv⟩
  go_wp2
  go_ret2
  refine ⟨rfl, .inr ?_, ?_, (hk1.grown hgrow (Lib.ownsRow_kind hown)).setCell ⟨b, 1, none⟩ rfl _⟩
  · exact Lib.BuilderAt.put (T := 141) (e := 5) hB hb2 (bs' := bs ++ Lib.strCells s) (by simpa [Lib.strCells_length] using hown') (by decide)
  · exact (hb1.grown hgrow (by have := hb1.size; omega) (fun k hk => (hown.lt k hk).1)).setCell (p := ⟨b, 1, none⟩) hB _
theorem text73 (B b : Nat) (l : List UInt8) (w : World) (h : Wr B b (Lib.byteCells l) w) (h0 : l ≠ []) : Calls Tryz.prog 73 #[.pointer (some ⟨b, 0, none⟩)] w fun e w' => e = .returned (.string ⟨l.toArray⟩) ∧ Below B w w' := by
  obtain ⟨p, hB, v, hbk, hown, hne⟩ : ∃ p, Lib.BuilderAt 141 5 B b p (Lib.byteCells l) w := by
    rcases h with h | h
    · exact ⟨_, h⟩
    · exact ⟨_, h⟩
  have hl0 : l.length ≠ 0 := by simpa using h0
  rw [Lib.byteCells_length] at hown
  obtain ⟨g, cap, cur, rfl, hbg, hg, hnc, hcm, hcs, htake⟩ : ∃ g cap cur, v = .slice (some ⟨g, 0, none⟩) l.length cap ∧ B ≤ g ∧ w.heap[g]? = some (.cells cur 5 (0, 0)) ∧ l.length ≤ cap ∧ cap ≤ maxLen ∧ cur.size = cap * 1 ∧ cur.toList.take (l.length * 1) = Lib.byteCells l := by
    rcases hown.2 with ⟨_, hz⟩ | ⟨g, cap, cur, hv, r⟩
    · exact absurd hz hl0
    · exact ⟨g, cap, cur, hv, r⟩
  have c1 : w.drew.cell? ⟨b, 1, none⟩ = some (.slice (some ⟨g, 0, none⟩) l.length cap) := by
    have : w.drew.heap[b]? = some (.cells #[p, .slice (some ⟨g, 0, none⟩) l.length cap] 141 (0, 0)) := hbk
    rw [Lib.cell_of_heap this]; rfl
  have hSD : (Builtin.unsafeSliceData_ #[80] 204 #[.slice (some ⟨g, 0, none⟩) l.length cap]).run Tryz.prog w.drew = .ok (.pointer (some ⟨g, 0, none⟩)) w.drew :=
    Lib.run_unsafeSliceData_row _ _ _ _ _ _ (by omega)
  have hUS : (Builtin.unsafeString_ #[204, 3] 9 #[.pointer (some ⟨g, 0, none⟩), .int .i64 l.length]).run Tryz.prog w.drew = .ok (.string ⟨l.toArray⟩) (w.drew.freeze ⟨g, 0, none⟩ l.length) := by
    refine Lib.run_unsafeString_row w.drew 204 3 9 5 Tryz.underlying204 (by kernel_rfl) g cur.size (by have hg' : w.drew.heap[g]? = some (.cells cur 5 (0, 0)) := hg; simp [World.shape?, hg']) l h0 (by omega) (by unfold maxLen at hcm; omega) ?_
    intro j x hx
    have := hown.cells (g := g) rfl j (.int .u8 x.toNat) (by simp [Lib.byteCells, hx])
    exact this
  go_enter Tryz.func73, Tryz.ntmps73
  go_wp2
  go_region
  all_goals (go_wp2; go_ret; exact ⟨rfl, Lib.below_freeze (Below.drew (Below.refl B w)) (p := ⟨g, 0, none⟩) hbg _⟩)
theorem told_kept {f : FuncId} {vs : List AV} {r : AV} (H : SCall Tryz.prog f vs [] (Told r)) : SCall Tryz.prog f vs [] fun r' h' => r' = .ret r ∧ h' = [] := kept_of (H.mono fun r' h' hk => by
  cases r' with
  | pan v => exact hk.elim
  | ret r' =>
    refine ⟨rfl, ?_⟩
    rw [show lookN ([] : List AO).length h' = fun o => nth .free h' o from funext fun o => by unfold lookN; rw [show Nat.blt o ([] : List AO).length = false from by cases o <;> rfl]; rfl]
    exact hk)
/-- A quiet function, in a world. -/
theorem calls_of {f : FuncId} {fn : Func} (hf : Tryz.prog.funcs[f]? = some fn) (hn : (fn.name == "runtime.NumGoroutine") = false) {cc : Code} (hb : fn.body = some cc) {vs : List AV} {r : AV} (H : SCall Tryz.prog f vs [] (Told r)) (w : World) (hg : Gl w.heap.size w) (args : Array Value) (hl : vs.length = args.size) (hv : ∀ i, i < vs.length → VR w (fun _ => False) (fun _ => none) (nth .top vs i) (args.getD i undef)) : Calls Tryz.prog f args w fun e w' => ∃ c Fz g, e = .returned c ∧ VR w' Fz g r c ∧ Below w.heap.size w w' := by
  have hH : HR w.heap.size w w (fun _ => False) (fun _ => none) [] := ⟨Below.refl _ _, Nat.le_refl _, fun b h => h.elim, fun o _ => rfl, fun o h => absurd h (by simp), fun o b h => absurd h (by simp), fun o o' b h => absurd h (by simp), hg⟩
  rcases told_kept H w.heap.size w w _ _ args hH hl hv with ⟨_, h⟩ | ⟨v, w', h, _⟩
  · refine h.mono ?_
    rintro e w' ⟨r', c, h', Fz', g', e1, ⟨e2, e3⟩, h4, h5, _⟩
    subst e2 e3
    exact ⟨c, Fz', g', e1, h4, h5.below⟩
  · have := enters_of hf hn hb args w
    rw [this] at h
    exact absurd h (by simp)
theorem itoa_7 (w : World) : Calls Tryz.prog 120 #[.int .i64 7] w fun e w' => e = .returned (.string ⟨#[55]⟩) ∧ w' = w := by
  go_enter Tryz.func120, Tryz.ntmps120
  go_wp2
  go_ret
  exact ⟨rfl, rfl⟩
theorem itoa_0 (w : World) : Calls Tryz.prog 120 #[.int .i64 0] w fun e w' => e = .returned (.string ⟨#[48]⟩) ∧ w' = w := by
  go_enter Tryz.func120, Tryz.ntmps120
  go_wp2
  go_ret
  exact ⟨rfl, rfl⟩
theorem below_size {B : Nat} {w w' : World} (h : Below B w w') : w.heap.size ≤ w'.heap.size := h.size
theorem Wr.below {B b : Nat} {bs : List Value} {W W' : World} (h : Wr B b bs W) (hb : Below W.heap.size W W') : Wr B b bs W' := by
  have one : ∀ p, Lib.BuilderAt 141 5 B b p bs W → Lib.BuilderAt 141 5 B b p bs W' := fun p ⟨h1, v, h2, h3, h4⟩ => by
    refine ⟨h1, v, by rw [hb.block b (Array.getElem?_eq_some_iff.mp h2).1]; exact h2, ?_, h4⟩
    refine ⟨h3.1, ?_⟩
    rcases h3.2 with h | ⟨g, cap, cur, e1, e2, e3, e4⟩
    · exact .inl h
    · exact .inr ⟨g, cap, cur, e1, e2, by rw [hb.block g (Array.getElem?_eq_some_iff.mp e3).1]; exact e3, e4⟩
  exact h.imp (one _) (one _)
theorem Gl.below {b : Nat} {w W : World} (hg : Gl w.heap.size w) (h0 : 0 < b) (hb : Below b w W) : Gl W.heap.size W := by
  obtain ⟨h1, m, h2⟩ := hg
  refine ⟨Nat.lt_of_lt_of_le h1 hb.size, m, ?_⟩
  rw [← h2]
  exact cell_same (hb.block 0 h0)
theorem Wr.cat {B b : Nat} {l : List UInt8} {s : ByteArray} {l' : List UInt8} {w : World} (h : Wr B b (Lib.byteCells l ++ Lib.strCells s) w) (e : l ++ s.data.toList = l') : Wr B b (Lib.byteCells l') w := by
  rw [Lib.strCells_eq, ← Lib.byteCells_append, e] at h
  exact h
theorem len_ok (l : List UInt8) (a b : UInt8) (h : l.length ≤ 100) : (Lib.byteCells l).length + ((⟨#[a]⟩ : ByteArray) ++ ⟨#[b]⟩).size ≤ 140737488355328 := by
  rw [Lib.byteCells_length, ByteArray.size_append]
  have e1 : (⟨#[a]⟩ : ByteArray).size = 1 := rfl
  have e2 : (⟨#[b]⟩ : ByteArray).size = 1 := rfl
  omega
set_option maxHeartbeats 600000 in
theorem line71 (b gs : Nat) (w : World) (h0 : 0 < b) (hg : Gl w.heap.size w) (h : Wr b b [] w) (hr : w.heap[gs]? = some (.cells #[.int .i64 7, .int .i64 0] 3 (0, 0))) (hne : gs ≠ b) : Calls Tryz.prog 71 #[.pointer (some ⟨b, 0, none⟩), .string ⟨#[101, 114, 114, 111, 114]⟩, .slice (some ⟨gs, 0, none⟩) 2 2] w fun e w' => e = .returned (.tuple #[]) ∧ Wr b b (Lib.byteCells [101, 114, 114, 111, 114, 32, 55, 32, 48, 10]) w' ∧ Below b w w' := by
  have hbw : b < w.heap.size := by
    rcases h with ⟨_, v, hb, _⟩ | ⟨_, v, hb, _⟩ <;> exact (Array.getElem?_eq_some_iff.mp hb).1
  go_enter Tryz.func71, Tryz.ntmps71
  go_wp2_with (go_at_call 76; refine (write76 b b [] ⟨#[101, 114, 114, 111, 114]⟩ w h (by decide) (by omega)).mono ?_)
  rintro e W1 ⟨rfl, h1, b1, k1⟩
  have r1 : W1.heap[gs]? = some (.cells #[.int .i64 7, .int .i64 0] 3 (0, 0)) := k1 gs _ hr (by simpa using hne) (fun c fz e => by simp at e)
  have g1 : Gl W1.heap.size W1 := hg.below h0 b1
  have c10 : W1.cell? ⟨gs, 0, none⟩ = some (.int .i64 7) := by rw [Lib.cell_of_heap r1]; rfl
  have c11 : W1.cell? ⟨gs, 1, none⟩ = some (.int .i64 0) := by rw [Lib.cell_of_heap r1]; rfl
  have z1 : W1.heap.size ≥ b := by have := b1.size; omega
  replace h1 : Wr b b (Lib.byteCells [101, 114, 114, 111, 114]) W1 := Wr.cat (l := []) h1 (by simp)
  go_wp2
  refine wp_loop_rounds 3 ?_
  rw [rounds_succ]
  go_wp2
  go_still_tail 6, (by kernel_rfl)
  still_call (itoa_7 _)
  repeat still_step
  try refine wpStill_nil ?_
  change wpList _ _ _ _ _ W1.drew
  have h1d : Wr b b (Lib.byteCells [101, 114, 114, 111, 114]) W1.drew := h1
  have z1d : b ≤ W1.drew.heap.size := z1
  have b1d : Below b w W1.drew := b1.drew
  have r1d : W1.drew.heap[gs]? = some (.cells #[.int .i64 7, .int .i64 0] 3 (0, 0)) := r1
  generalize W1.drew = V1 at *
  go_wp2_with (go_at_call 76; refine (write76 b b _ _ V1 h1d (len_ok _ _ _ (by decide)) z1d).mono ?_)
  rintro e W2 ⟨rfl, h2, b2', k2⟩
  have b2 : Below b w W2 := b1d.trans b2'
  have r2 : W2.heap[gs]? = some (.cells #[.int .i64 7, .int .i64 0] 3 (0, 0)) := k2 gs _ r1d (by simpa using hne) (fun c fz e => by simp at e)
  have c20 : W2.cell? ⟨gs, 0, none⟩ = some (.int .i64 7) := by rw [Lib.cell_of_heap r2]; rfl
  have c21 : W2.cell? ⟨gs, 1, none⟩ = some (.int .i64 0) := by rw [Lib.cell_of_heap r2]; rfl
  have z2 : W2.heap.size ≥ b := Nat.le_trans z1d b2'.size
  replace h2 : Wr b b (Lib.byteCells [101, 114, 114, 111, 114, 32, 55]) W2 := Wr.cat (l := [101, 114, 114, 111, 114]) h2 (by simp)
  go_wp2
  rw [rounds_succ]
  go_wp2
  go_still_tail 6, (by kernel_rfl)
  still_call (itoa_0 _)
  repeat still_step
  try refine wpStill_nil ?_
  change wpList _ _ _ _ _ W2.drew
  have h2d : Wr b b (Lib.byteCells [101, 114, 114, 111, 114, 32, 55]) W2.drew := h2
  have z2d : b ≤ W2.drew.heap.size := z2
  have b2d : Below b w W2.drew := b2.drew
  have r2d : W2.drew.heap[gs]? = some (.cells #[.int .i64 7, .int .i64 0] 3 (0, 0)) := r2
  generalize W2.drew = V2 at *
  go_wp2_with (go_at_call 76; refine (write76 b b _ _ V2 h2d (len_ok _ _ _ (by decide)) z2d).mono ?_)
  rintro e W3 ⟨rfl, h3, b3', k3⟩
  have b3 : Below b w W3 := b2d.trans b3'
  have r3 : W3.heap[gs]? = some (.cells #[.int .i64 7, .int .i64 0] 3 (0, 0)) := k3 gs _ r2d (by simpa using hne) (fun c fz e => by simp at e)
  have c30 : W3.cell? ⟨gs, 0, none⟩ = some (.int .i64 7) := by rw [Lib.cell_of_heap r3]; rfl
  have c31 : W3.cell? ⟨gs, 1, none⟩ = some (.int .i64 0) := by rw [Lib.cell_of_heap r3]; rfl
  have z3 : W3.heap.size ≥ b := Nat.le_trans z2d b3'.size
  replace h3 : Wr b b (Lib.byteCells [101, 114, 114, 111, 114, 32, 55, 32, 48]) W3 := Wr.cat (l := [101, 114, 114, 111, 114, 32, 55]) h3 (by simp)
  go_wp2
  rw [rounds_succ]
  go_wp2_with (go_at_call 76; refine (write76 b b _ ⟨#[10]⟩ W3 h3 (by decide) z3).mono ?_)
  rintro e W4 ⟨rfl, h4, b4, k4⟩
  go_wp2
  go_end0
  exact ⟨rfl, Wr.cat h4 (by simp), b3.trans b4⟩
end Go.Proofs.YtnnoplgabnfdiaaGreatDoor.Sh
/- The shadow machine over this program: the script of nothing answers more than five bytes. -/
namespace Go.Proofs.YtnnoplgabnfdiaaGreatDoor.Sh
open Go Go.RowKit
set_option linter.unusedVariables false
set_option linter.unusedSimpArgs false
set_option maxRecDepth 100000
set_option maxHeartbeats 4000000
theorem bytes_below (w : World) (e : TypeId) (bs : ByteArray) : Below w.heap.size w (Lib.bytesWorld w e bs) := ((Below.refl _ w).drew.alloc (Nat.le_refl _) (.cells (Lib.bytesCells w e bs) e)).trans ⟨rfl, rfl, rfl, by simp [World.freeze, Lib.bytesWorld], fun k hk => by
  have : w.heap.size ≠ k := by have : k < w.heap.size := hk; omega
  simp [Lib.bytesWorld, World.freeze, Array.getElem?_modify, this]⟩
theorem open_calls (w : World) (hg : Gl w.heap.size w) : Calls Tryz.prog 72 #[.string ⟨#[]⟩] w fun e w' => e = .returned (.tuple #[.pointer none, .int .i64 0, .int .i64 7]) ∧ Below w.heap.size w w' := by
  refine (calls_of Tryz.func72 (by kernel_rfl) (by rfl) open72 w hg #[.string ⟨#[]⟩] rfl fun i hi => ?_).mono ?_
  · match i, hi with
    | 0, _ => exact .str _
  · rintro e w' ⟨c, Fz, g, rfl, hv, hb⟩
    cases hv with
    | tup _ vs hl h =>
      refine ⟨congrArg (fun v => Ending.returned (.tuple v)) (Array.ext (by simpa using hl.symm) fun i h1 h2 => ?_), hb⟩
      replace h2 : i < 3 := h2
      have h1' : i < [AV.nilp, AV.int .i64 0, AV.int .i64 7].length := h2
      have hx := h i h1'
      rw [show vs.getD i undef = vs[i] from by simp [Array.getD, h1]] at hx
      generalize vs[i] = x at hx ⊢
      match i, h2 with
      | 0, _ => cases hx; rfl
      | 1, _ => cases hx; rfl
      | 2, _ => cases hx; rfl
theorem run25 (w : World) (hg : Gl w.heap.size w) : Calls Tryz.prog 25 #[.string ⟨#[]⟩, .slice none 0 0] w fun e w' => (∃ a c, e = .returned (.slice a 10 c) ∧ 10 ≤ c) ∧ Below w.heap.size w w' := by
  go_enter Tryz.func25, Tryz.ntmps25
  have A0 : Below w.heap.size w (w.alloc (.cells #[.pointer none, .slice none 0 0] 141)) := (Below.refl _ w).alloc (Nat.le_refl _) _
  have f0 : Wr w.heap.size w.heap.size [] (w.alloc (.cells #[.pointer none, .slice none 0 0] 141)) := Lib.fresh_isBuilder 141 5 w
  have g0 : Gl (w.alloc (.cells #[.pointer none, .slice none 0 0] 141)).heap.size (w.alloc (.cells #[.pointer none, .slice none 0 0] 141)) := hg.below hg.1 A0
  go_wp2_with (go_at_call 72; refine (open_calls _ g0).mono ?_)
  rintro e W1 ⟨rfl, b1⟩
  have f1 : Wr w.heap.size w.heap.size [] W1 := f0.below b1
  have g1 : Gl W1.heap.size W1 := g0.below g0.1 b1
  have A1 : Below w.heap.size w W1 := A0.trans (b1.mono A0.size)
  clear f0 g0 b1
  have A2 : Below W1.heap.size W1 (W1.alloc (.cells #[.int .i64 7, .int .i64 0] 3)) := (Below.refl _ W1).alloc (Nat.le_refl _) _
  have f2 : Wr w.heap.size w.heap.size [] (W1.alloc (.cells #[.int .i64 7, .int .i64 0] 3)) := f1.below A2
  have g2 : Gl (W1.alloc (.cells #[.int .i64 7, .int .i64 0] 3)).heap.size (W1.alloc (.cells #[.int .i64 7, .int .i64 0] 3)) := g1.below g1.1 A2
  have r2 : (W1.alloc (.cells #[.int .i64 7, .int .i64 0] 3)).heap[W1.heap.size]? = some (.cells #[.int .i64 7, .int .i64 0] 3 (0, 0)) := by
    show (W1.heap.push _)[W1.heap.size]? = _
    rw [Array.getElem?_push_size]
  have n2 : W1.heap.size ≠ w.heap.size := by have := A1.size; have := f1; rcases f1 with ⟨_, v, hb, _⟩ | ⟨_, v, hb, _⟩ <;> (have := (Array.getElem?_eq_some_iff.mp hb).1; omega)
  have A3 : Below w.heap.size w (W1.alloc (.cells #[.int .i64 7, .int .i64 0] 3)) := A1.trans (A2.mono A1.size)
  go_wp2_with (go_at_call 71; refine (line71 _ _ _ hg.1 g2 f2 r2 n2).mono ?_)
  rintro e W3 ⟨rfl, f3, b3⟩
  have A4 : Below w.heap.size w W3 := A3.trans b3
  go_wp2_with (go_at_call 73; refine (text73 _ _ _ _ f3 (by decide)).mono ?_)
  rintro e W4 ⟨rfl, b4⟩
  have A5 : Below w.heap.size w W4 := A4.trans b4
  go_wp2
  have hc := Lib.run_convert_string_bytes (P := Tryz.prog) W4 9 80 5 ⟨#[101, 114, 114, 111, 114, 32, 55, 32, 48, 10]⟩ Tryz.underlying9 Tryz.underlying80 Tryz.underlying5
  have hg10 : 10 ≤ grownCap W4 (ByteArray.mk #[101, 114, 114, 111, 114, 32, 55, 32, 48, 10]).size 0 5 := grownCap_ge _ 10 _ _
  have hb5 := bytes_below W4 5 ⟨#[101, 114, 114, 111, 114, 32, 55, 32, 48, 10]⟩
  have A6 := A5.trans (hb5.mono A5.size)
  generalize grownCap W4 (ByteArray.mk #[101, 114, 114, 111, 114, 32, 55, 32, 48, 10]).size 0 5 = c at hc hg10
  generalize Lib.bytesWorld W4 5 ⟨#[101, 114, 114, 111, 114, 32, 55, 32, 48, 10]⟩ = W5 at hc hb5 A6
  rw [hc]
  simp only [Result.andThen]
  rw [Oper.upon_value]
  go_wp2
  go_ret
  exact ⟨⟨_, c, rfl, hg10⟩, A6⟩
/-- More than five bytes. -/
theorem srun25 : SCall Tryz.prog 25 [.str noB, .nilsl] [] (Told (.ro 0 10 none fun _ => [])) := fun B0 w0 w Fz g args hH hl hv => by
  have e : args = #[.string ⟨#[]⟩, .slice none 0 0] := by
    have h2 : args.size = 2 := by simpa using hl.symm
    have h0 := hv 0 (by simp)
    have h1 := hv 1 (by simp)
    rw [show args.getD 0 undef = args[0] from by simp [Array.getD, h2]] at h0
    rw [show args.getD 1 undef = args[1] from by simp [Array.getD, h2]] at h1
    refine Array.ext h2 fun i hi1 hi2 => ?_
    match i, hi2 with
    | 0, _ =>
      generalize args[0] = x at h0 ⊢
      cases h0
      rfl
    | 1, _ =>
      generalize args[1] = x at h1 ⊢
      cases h1
      rfl
    | n + 2, h => exact absurd h (by simp)
  subst e
  refine .inl ⟨⟨Tryz.f25, Tryz.func25, by kernel_rfl, rfl⟩, (run25 w hH.gl_up).mono fun e w' ⟨⟨a, c, e1, hc⟩, hb⟩ => ?_⟩
  subst e1
  refine ⟨.ret (.ro 0 10 none fun _ => []), _, [], Fz, g, rfl, ⟨trivial, Wk.refl _⟩, .ro _ _ _ _ _ (.ro _ _ _ _ _ _ (fun _ _ => undef) hc (fun n hn => by cases hn) (fun i _ j hj => absurd hj (by omega)) (fun i _ j hj => absurd hj (by omega))), hH.still (hH.below.trans (hb.mono hH.base)) hb.size (fun b hlt => hb.block b hlt), ⟨fun b hlt => hb.block b (hH.fz b hlt), fun _ x => x, fun _ _ x => x, fun _ x => .inl x, hb.size, fun _ _ _ x => .inl x⟩⟩
end Go.Proofs.YtnnoplgabnfdiaaGreatDoor.Sh
/- The shadow machine over this program: a program that does something. -/
namespace Go.Proofs.YtnnoplgabnfdiaaGreatDoor.Sh
open Go Go.RowKit
set_option linter.unusedVariables false
set_option linter.unusedSimpArgs false
set_option maxRecDepth 100000
set_option maxHeartbeats 4000000
def plainN : List AV := [.str homeB, .cint .i64 2, .cint .i64 1, .cint .i64 1, .cint .i64 1, .cint .i64 12, .int .i64 0, .cint .i64 60000000, .nilsl, .cint .i64 100000000, .cint .i64 1, .cint .i64 2, .cint .i64 3, .cint .i64 4, .cint .i64 1, .nilsl, .int .i64 0, .cint .i64 1, .nilsl]
theorem plain20n : SCall Tryz.prog 20 [] [] fun r h' => r = .ret (.agg plainN) ∧ h' = [] := by
  refine kept_of2 rfl (.inl rfl) (fun o ho => .inl rfl) ?_
  refine scall_of (cfg_ok env_nil 0) Tryz.func20 (by kernel_rfl) rfl ?_
  generalize hK : Kept2 _ _ _ = K
  conv => whnf
  subst hK
  exact ⟨rfl, _, rfl⟩
theorem wk_nil_ro {s : Nat} {r : Nat → List RV} : Wk .nilsl (.ro s 0 none r) := fun w Fz g c hv => by
  cases hv
  exact .ro _ _ _ _ _ (.ro _ _ _ _ _ _ (fun _ _ => undef) (Nat.le_refl _) (fun n hn => by cases hn) (fun i hi => absurd hi (by simp)) (fun i hi => absurd hi (by simp)))
theorem clone38 (x0 x1 x2 x3 x4 x5 x6 x7 x8 x9 x10 x11 x12 : AO) (r : Nat → List AV) : SCall Tryz.prog 38 [.sl 13 3 0 1 none] [x0, x1, x2, x3, x4, x5, x6, x7, x8, x9, x10, x11, x12, .rows 3 1 r] fun r' h' => r' = .ret (.sl 15 3 0 1 none) ∧ h' = [x0, x1, x2, x3, x4, x5, x6, x7, x8, x9, x10, x11, x12, .rows 3 1 r, .dead, .rows 3 1 fun i => r (0 + i)] := by
  refine scall_of (cfg_ok env_nil 14) Tryz.func38 (by kernel_rfl) rfl ?_
  generalize hK : (fun (r' : AR) (h' : List AO) => _) = K
  conv => whnf
  refine ⟨fun h => absurd h (by decide), ?_⟩
  conv => whnf
  refine ⟨⟨show 0 + 1 ≤ 1 by decide, show 1 * 40 ≤ 140737488355328 by decide⟩, ?_⟩
  conv => whnf
  subst hK
  exact ⟨rfl, rfl⟩
theorem clone39 (r : Nat → List RV) : SCall Tryz.prog 39 [.ro 2 2 none r] [] (Told (.ro 2 2 none r)) := by
  refine scall_of (cfg_ok env_nil 0) Tryz.func39 (by kernel_rfl) rfl ?_
  generalize hK : Told _ = K
  conv => whnf
  refine ⟨fun h => absurd h (by decide), ?_⟩
  conv => whnf
  refine ⟨show 2 * 16 ≤ 140737488355328 by decide, ?_⟩
  conv => whnf
  subst hK
  refine told_wk (show 0 + 2 ≤ 2 by decide) (ro_congr fun i hi => ?_)
  show ((r (0 + i)).map RV.av).map AV.rv = r i
  rw [map_rv_av, Nat.zero_add]
theorem journal11 (x0 x1 x2 x3 x5 x6 x7 x8 x9 x10 x11 x12 : AO) : SCall Tryz.prog 11 [.ptr 4 1 1 0 0] [x0, x1, x2, x3, engO plP (.ptr 10 1 1 0 0) 19723 (.ro 19 1 none (mkR (s1 plP 10000 ppA))) (.sl 13 3 0 1 none), x5, x6, x7, x8, x9, x10, x11, x12, .rows 3 1 (batA 10000)] fun r h' => r = .ret (.sl 15 3 0 1 none) ∧ ∃ t, h' = [x0, x1, x2, x3, engO plP (.ptr 10 1 1 0 0) 19723 (.ro 19 1 none (mkR (s1 plP 10000 ppA))) (.sl 13 3 0 1 none), x5, x6, x7, x8, x9, x10, x11, x12, .rows 3 1 (batA 10000)] ++ t := by
  refine scall_of (cfg_ok env_nil 14) Tryz.func11 (by kernel_rfl) rfl ?_
  generalize hK : (fun (r' : AR) (h' : List AO) => _) = K
  conv => whnf
  refine (clone38 _ _ _ _ _ _ _ _ _ _ _ _ _ _).mono fun r h' ⟨e1, e2⟩ => ?_
  subst e1 e2
  conv => whnf
  refine .inl ⟨[(), ()], ?_⟩
  refine unroll_step fun k hk => ?_
  conv => whnf
  refine ⟨⟨by decide, show 0 + Int.toNat 0 < 1 by decide⟩, ?_⟩
  conv => whnf
  refine (quiet_h (clone39 _) rfl _).mono fun r h' ⟨e1, e2⟩ => ?_
  subst e1 e2
  conv => whnf
  refine ⟨⟨by decide, show 0 + Int.toNat 0 < 1 by decide⟩, ?_⟩
  conv => whnf
  subst hk
  refine unroll_step fun k hk => ?_
  conv => whnf
  subst hk
  conv => whnf
  subst hK
  exact ⟨rfl, _, rfl⟩
theorem awake9 : Awake := by
  refine scall_of (cfg_ok env_nil 0) Tryz.func9 (by kernel_rfl) rfl ?_
  generalize hK : Told _ = K
  conv => whnf
  refine plain20n.mono fun r h' ⟨e1, e2⟩ => ?_
  subst e1 e2
  conv => whnf
  refine scall_args (vs' := [.agg (pN plP)]) rfl (fun i hi => ?_) ((new8_0 plP plP_ok).mono fun r h' ⟨e1, e2⟩ => ?_)
  · match i, hi with
    | 0, _ =>
      refine wk_agg rfl fun i hi => ?_
      replace hi : i < 19 := hi
      match i, hi with
      | 1, _ | 2, _ | 3, _ | 4, _ | 5, _ | 7, _ | 9, _ | 10, _ | 11, _ | 12, _ | 13, _ | 14, _ | 17, _ => exact wk_cint
      | 15, _ => exact wk_nil_ro
      | 0, _ | 6, _ | 8, _ | 16, _ | 18, _ => exact Wk.refl _
      | n + 19, h => exact absurd h (by omega)
  subst e1 e2
  conv => whnf
  refine scall_args (vs' := [.ptr 4 1 1 0 0, .agg (evA 10000)]) rfl (fun i hi => ?_) ((do10_0 plP 10000 ppA vA lA plP_sh (by decide) planA _).mono fun r h' ⟨e1, e2⟩ => ?_)
  · match i, hi with
    | 0, _ => exact Wk.refl _
    | 1, _ =>
      refine wk_agg rfl fun i hi => ?_
      replace hi : i < 5 := hi
      match i, hi with
      | 0, _ | 1, _ | 2, _ | 3, _ => exact wk_cint
      | 4, _ => exact Wk.refl _
  subst e1 e2
  conv => whnf
  refine (journal11 _ _ _ _ _ _ _ _ _ _ _ _).mono fun r h' ⟨e1, t, e2⟩ => ?_
  subst e1 e2
  conv => whnf
  refine (quiet_h srun25 rfl _).mono fun r h' ⟨e1, e2⟩ => ?_
  subst e1 e2
  conv => whnf
  subst hK
  exact told_of trivial rfl
end Go.Proofs.YtnnoplgabnfdiaaGreatDoor.Sh
/- The shadow machine over this program: what the great laws are handed. -/
namespace Go.Proofs.YtnnoplgabnfdiaaGreatDoor.Sh
open Go Go.RowKit Go.ChangeShapes Go.WideShapes Go.ChangeAt
set_option linter.unusedVariables false
set_option linter.unusedSimpArgs false
set_option maxRecDepth 100000
theorem own : ownKnob Tryz.prog.godebug = none := by kernel_rfl
theorem laidOut : laidOutB Tryz.prog = true := by kernel_rfl
/-- A law, called with what reads as it should, is true and leaves all old memory. -/
theorem law_call {f : FuncId} {fn : Func} (hf : Tryz.prog.funcs[f]? = some fn) (hn : (fn.name == "runtime.NumGoroutine") = false) {cc : Code} (hb : fn.body = some cc) {vs : List AV} (H : SCall Tryz.prog f vs [] (Told (.bool true))) {W : World} (hg : Gl W.heap.size W) {args : Array Value} (hl : vs.length = args.size) (hv : ∀ i, i < vs.length → VR W (fun b => b < W.heap.size) (fun _ => none) (nth .top vs i) (args.getD i undef)) :
    Calls Tryz.prog f args W fun e W' => e = .returned (.bool true) ∧ Below W.heap.size W W' := by
  have H0 : HR W.heap.size W W (fun b => b < W.heap.size) (fun _ => none) [] := ⟨Below.refl _ _, Nat.le_refl _, fun _ h => h, fun _ _ => rfl, fun o ho => absurd ho (by simp), fun o b ho => absurd ho (by simp), fun o _ b ho => absurd ho (by simp), hg⟩
  rcases H _ _ _ _ _ args H0 hl hv with ⟨_, h⟩ | ⟨v, w', h, _⟩
  · refine h.mono fun e w' ⟨r, c, h', Fz', g', h1, h2, h3, h4, h5⟩ => ?_
    obtain ⟨r', rfl⟩ : ∃ q, r = .ret q := by
      cases r with
      | ret q => exact ⟨q, rfl⟩
      | pan q => exact h2.elim
    have hr := h2.2 _ _ _ _ (freezeR_vr (g' := g') (F2 := fun _ => True) (fun _ => .inl rfl) h4 (fun _ _ => trivial) (fun _ _ _ _ _ => trivial) h2.1 h3)
    have h1' : e = .returned c := h1
    rw [inv_bool hr] at h1'
    exact ⟨h1', h4.below⟩
  · have := enters_of hf hn hb args W
    rw [this] at h
    exact absurd h (by simp)
/-- The one variable of the library that is looked at holds a number. -/
theorem gl_of {W : World} (h : W.ShapedOpen Tryz.prog) : Gl W.heap.size W := by
  obtain ⟨h1, _⟩ := h
  obtain ⟨cs, e1, e2, e3⟩ := h1 0 #[.int .i64 0] 3 (by rw [show Tryz.prog.globals.size = 6 by kernel_rfl]; decide) (by kernel_rfl)
  obtain ⟨ts, q1, _, q3⟩ := e3 (by kernel_rfl)
  rw [show Tryz.prog.cellTypes Tryz.prog.depth 3 = some [3] by kernel_rfl] at q1
  obtain rfl := Option.some.inj q1
  have hs : 0 < cs.size := by rw [e2]; decide
  have hc : cs[0]? = some cs[0] := Array.getElem?_eq_getElem hs
  obtain ⟨u, r1, r2⟩ := q3 0 _ hc
  obtain rfl : u = 3 := by simpa using r1.symm
  refine ⟨(Array.getElem?_eq_some_iff.mp e1).1, ?_⟩
  have : ∃ m, cs[0] = .int .i64 m := by
    unfold Cell.ok at r2
    rw [Tryz.underlying3] at r2
    generalize cs[0] = v at r2
    cases v <;> simp at r2
    exact ⟨_, by rw [r2.1]⟩
  obtain ⟨m, hm⟩ := this
  refine ⟨m, ?_⟩
  unfold World.cell?
  rw [e1]
  show cs[0]? = _
  rw [hc, hm]
section
variable {H : Type} {enc : TypeId × Value → H} {W : World} {base b0 : Nat} {spare : Nat → Bool} {held : Bool} {fuel : Nat} {cs : List Value} {x : DataW H × List MemPlace} {r : Go.Reach} {v : Value} {d : DataW H} {p : List MemPlace}
abbrev Got (W : World) := VR W (fun b => b < W.heap.size) (fun _ => none)
theorem int_read {t : TypeId} {k : IntKind} (ht : Tryz.prog.underlying t = some (.int k)) (h : DataW.trod enc Tryz.prog W base spare held fuel t cs = some x) : ∃ n, cs = [.int k n] := by
  obtain ⟨n, h1, _⟩ := DataW.trod_int ht h
  exact ⟨n, h1⟩
theorem some_at {α : Type} {l : List α} {n i : Nat} (h : l.length = n) (hi : i < n) : ∃ y, l[i]? = some y := ⟨l[i]'(by omega), List.getElem?_eq_getElem (by omega)⟩
theorem len2 {cs : List Value} (h : cs.length = 2) : ∃ a b, cs = [a, b] := by
  match cs, h with
  | [a, b], _ => exact ⟨a, b, rfl⟩
theorem len4 {cs : List Value} (h : cs.length = 4) : ∃ a b c d, cs = [a, b, c, d] := by
  match cs, h with
  | [a, b, c, d], _ => exact ⟨a, b, c, d, rfl⟩
/-- A list of rows. -/
theorem rows_read {α : Type} [Inhabited α] {t e z : Nat} (ht : Tryz.prog.underlying t = some (.slice e)) (hz : Tryz.prog.cellsOf e = z) (hz0 : 0 < z) (val : α → List Value) (rv : α → List RV)
    (hr : ∀ (W : World) (F : Nat → Prop) a j, j < z → RR W F (nth .top (rv a) j) ((val a).getD j undef)) (hl : ∀ a, (val a).length = z)
    (hread : ∀ fuel cs x, DataW.trod enc Tryz.prog W base spare held fuel e cs = some x → ∃ a, cs = val a) {v : Value} (h : DataW.trod enc Tryz.prog W base spare held fuel t [v] = some x) :
    ∃ (n : Nat) (f : Nat → α), n < 9223372036854775808 ∧ Got W (.ro z n none fun i => rv (f i)) v := by
  rcases DataW.trod_slice ht h with ⟨e, _⟩ | ⟨a, len, cap, elems, rest, n, _, e, _, hb, hlc, hcap, hel, hi, _⟩
  · simp only [List.cons.injEq, and_true] at e
    subst e
    exact ⟨0, fun _ => default, by decide, .ro _ _ _ _ _ (.ro _ _ _ _ none 0 (fun _ _ => undef) (Nat.le_refl _) (fun n hn => by cases hn) (fun i hi => absurd hi (by simp)) (fun i hi => absurd hi (by simp)))⟩
  · simp only [List.cons.injEq, and_true] at e
    subst e
    rw [hz] at hi
    have hd : ∀ i, i < len → ∃ d : α, W.cells? base (a.add (i * z)) z = some (val d) := fun i hlt => by
      obtain ⟨y, hy⟩ := some_at hel hlt
      have := hi i hlt
      rw [hy, Option.bind_eq_some_iff] at this
      obtain ⟨cs, h1, h2⟩ := this
      obtain ⟨d, rfl⟩ := hread _ _ _ h2
      exact ⟨d, h1⟩
    have hch : ∃ f : Nat → α, ∀ i, i < len → W.cells? base (a.add (i * z)) z = some (val (f i)) := ⟨fun i => if h : i < len then (hd i h).choose else default, fun i hlt => by simp only [dif_pos hlt]; exact (hd i hlt).choose_spec⟩
    obtain ⟨f, hf⟩ := hch
    refine ⟨len, f, by unfold maxLen at hcap; omega, ?_⟩
    refine .ro _ _ _ _ _ (RR.ro z len none _ (some a) cap (fun i j => (val (f i)).getD j undef) hlc (fun n hn => nomatch hn) (fun i hlt j hj => ?_) (fun i hlt j hj => hr _ _ _ _ hj))
    have hlt' : i < len := by simpa using hlt
    obtain ⟨_, c1, c2⟩ := World.cells?_some (hf i hlt')
    have hblk := World.cells?_block (hf i hlt') hz0
    refine ⟨a, rfl, by rwa [add_block] at hblk, ?_⟩
    have hjl : j < (val (f i)).length := by rw [hl]; exact hj
    have := c2 j hj
    rw [Addr.add_add] at this
    rw [this, List.getElem?_eq_getElem hjl]
    simp [List.getD_eq_getElem?_getD, List.getElem?_eq_getElem hjl]
theorem cells3 : Tryz.prog.cellsOf 3 = 1 := by kernel_rfl
theorem cells2 : Tryz.prog.cellsOf 2 = 1 := by kernel_rfl
theorem pair127_read (h : DataW.trod enc Tryz.prog W base spare held fuel 127 cs = some x) : ∃ d : Int × Int, cs = [.int .i64 d.1, .int .i64 d.2] := by
  obtain ⟨xs, n, _, _, hl, hlen, hf⟩ := DataW.trod_struct Tryz.underlying127 h
  rw [show Tryz.prog.cellsOf 127 = 2 by kernel_rfl] at hl
  obtain ⟨a, b, rfl⟩ := len2 hl
  obtain ⟨y0, g0⟩ := some_at hlen (show 0 < 2 by decide)
  obtain ⟨y1, g1⟩ := some_at hlen (show 1 < 2 by decide)
  obtain ⟨n0, q0⟩ := int_read Tryz.underlying3 ((hf 0 _ rfl).trans g0)
  obtain ⟨n1, q1⟩ := int_read Tryz.underlying2 ((hf 1 _ rfl).trans g1)
  simp [cells3, cells2] at q0 q1
  exact ⟨(n0, n1), by simp [q0, q1]⟩
theorem pair130_read (h : DataW.trod enc Tryz.prog W base spare held fuel 130 cs = some x) : ∃ d : Int × Int, cs = [.int .i64 d.1, .int .i64 d.2] := by
  obtain ⟨xs, n, _, _, hl, hlen, hf⟩ := DataW.trod_struct Tryz.underlying130 h
  rw [show Tryz.prog.cellsOf 130 = 2 by kernel_rfl] at hl
  obtain ⟨a, b, rfl⟩ := len2 hl
  obtain ⟨y0, g0⟩ := some_at hlen (show 0 < 2 by decide)
  obtain ⟨y1, g1⟩ := some_at hlen (show 1 < 2 by decide)
  obtain ⟨n0, q0⟩ := int_read Tryz.underlying3 ((hf 0 _ rfl).trans g0)
  obtain ⟨n1, q1⟩ := int_read Tryz.underlying2 ((hf 1 _ rfl).trans g1)
  simp [cells3, cells2] at q0 q1
  exact ⟨(n0, n1), by simp [q0, q1]⟩
theorem order_read (h : DataW.trod enc Tryz.prog W base spare held fuel 23 cs = some x) : ∃ a b c d : Int, cs = [.int .i64 a, .int .i64 b, .int .i64 c, .int .i64 d] := by
  obtain ⟨xs, n, _, _, hl, hlen, hf⟩ := DataW.trod_array Tryz.underlying23 h
  rw [show Tryz.prog.cellsOf 23 = 4 by kernel_rfl] at hl
  rw [cells3] at hf
  obtain ⟨a, b, c, d, rfl⟩ := len4 hl
  obtain ⟨y0, g0⟩ := some_at hlen (show 0 < 4 by decide)
  obtain ⟨y1, g1⟩ := some_at hlen (show 1 < 4 by decide)
  obtain ⟨y2, g2⟩ := some_at hlen (show 2 < 4 by decide)
  obtain ⟨y3, g3⟩ := some_at hlen (show 3 < 4 by decide)
  obtain ⟨n0, q0⟩ := int_read Tryz.underlying3 ((hf 0 (by decide)).trans g0)
  obtain ⟨n1, q1⟩ := int_read Tryz.underlying3 ((hf 1 (by decide)).trans g1)
  obtain ⟨n2, q2⟩ := int_read Tryz.underlying3 ((hf 2 (by decide)).trans g2)
  obtain ⟨n3, q3⟩ := int_read Tryz.underlying3 ((hf 3 (by decide)).trans g3)
  simp at q0 q1 q2 q3
  exact ⟨n0, n1, n2, n3, by simp [q0, q1, q2, q3]⟩
theorem len19 {cs : List Value} (h : cs.length = 19) : ∃ c0 c1 c2 c3 c4 c5 c6 c7 c8 c9 c10 c11 c12 c13 c14 c15 c16 c17 c18, cs = [c0, c1, c2, c3, c4, c5, c6, c7, c8, c9, c10, c11, c12, c13, c14, c15, c16, c17, c18] := by
  match cs, h with
  | [c0, c1, c2, c3, c4, c5, c6, c7, c8, c9, c10, c11, c12, c13, c14, c15, c16, c17, c18], _ => exact ⟨c0, c1, c2, c3, c4, c5, c6, c7, c8, c9, c10, c11, c12, c13, c14, c15, c16, c17, c18, rfl⟩
theorem prod_read (h : DataW.trod enc Tryz.prog W base spare held fuel 27 cs = some x) : ∃ u : PX, Small u ∧ Got W (.agg u.pa.cells) (.agg cs.toArray) := by
  obtain ⟨xs, n, _, _, hl, hlen, hf⟩ := DataW.trod_struct Tryz.underlying27 h
  rw [show Tryz.prog.cellsOf 27 = 19 by kernel_rfl] at hl
  have e9 : Tryz.prog.cellsOf 9 = 1 := by kernel_rfl
  have e22 : Tryz.prog.cellsOf 22 = 1 := by kernel_rfl
  have e23 : Tryz.prog.cellsOf 23 = 4 := by kernel_rfl
  have e24 : Tryz.prog.cellsOf 24 = 1 := by kernel_rfl
  have e25 : Tryz.prog.cellsOf 25 = 1 := by kernel_rfl
  obtain ⟨c0, c1, c2, c3, c4, c5, c6, c7, c8, c9, c10, c11, c12, c13, c14, c15, c16, c17, c18, rfl⟩ := len19 hl
  have at_ : ∀ i, i < 16 → ∃ y, xs[i]? = some y := fun i hi => some_at hlen hi
  obtain ⟨y0, g0⟩ := at_ 0 (by decide)
  obtain ⟨y1, g1⟩ := at_ 1 (by decide)
  obtain ⟨y2, g2⟩ := at_ 2 (by decide)
  obtain ⟨y3, g3⟩ := at_ 3 (by decide)
  obtain ⟨y4, g4⟩ := at_ 4 (by decide)
  obtain ⟨y5, g5⟩ := at_ 5 (by decide)
  obtain ⟨y6, g6⟩ := at_ 6 (by decide)
  obtain ⟨y7, g7⟩ := at_ 7 (by decide)
  obtain ⟨y8, g8⟩ := at_ 8 (by decide)
  obtain ⟨y9, g9⟩ := at_ 9 (by decide)
  obtain ⟨y10, g10⟩ := at_ 10 (by decide)
  obtain ⟨y11, g11⟩ := at_ 11 (by decide)
  obtain ⟨y12, g12⟩ := at_ 12 (by decide)
  obtain ⟨y13, g13⟩ := at_ 13 (by decide)
  obtain ⟨y14, g14⟩ := at_ 14 (by decide)
  obtain ⟨y15, g15⟩ := at_ 15 (by decide)
  obtain ⟨n1, q1⟩ := int_read Tryz.underlying3 ((hf 1 _ rfl).trans g1)
  obtain ⟨n2, q2⟩ := int_read Tryz.underlying3 ((hf 2 _ rfl).trans g2)
  obtain ⟨n3, q3⟩ := int_read Tryz.underlying3 ((hf 3 _ rfl).trans g3)
  obtain ⟨n4, q4⟩ := int_read Tryz.underlying3 ((hf 4 _ rfl).trans g4)
  obtain ⟨n5, q5⟩ := int_read Tryz.underlying3 ((hf 5 _ rfl).trans g5)
  obtain ⟨n6, q6⟩ := int_read Tryz.underlying3 ((hf 6 _ rfl).trans g6)
  obtain ⟨n7, q7⟩ := int_read Tryz.underlying2 ((hf 7 _ rfl).trans g7)
  obtain ⟨n9, q9⟩ := int_read Tryz.underlying2 ((hf 9 _ rfl).trans g9)
  obtain ⟨n11, q11⟩ := int_read Tryz.underlying3 ((hf 11 _ rfl).trans g11)
  obtain ⟨n13, q13⟩ := int_read Tryz.underlying2 ((hf 13 _ rfl).trans g13)
  obtain ⟨n14, q14⟩ := int_read Tryz.underlying3 ((hf 14 _ rfl).trans g14)
  simp [cells2, cells3] at q1 q2 q3 q4 q5 q6 q7 q9 q11 q13 q14
  have h0 := (hf 0 _ rfl).trans g0
  have h8 := (hf 8 _ rfl).trans g8
  have h10 := (hf 10 _ rfl).trans g10
  have h12 := (hf 12 _ rfl).trans g12
  have h15 := (hf 15 _ rfl).trans g15
  simp [e9] at h0
  simp [e22] at h8
  simp [e23] at h10
  simp [e24] at h12
  simp [e25] at h15
  obtain ⟨s, s1, _, s2⟩ := DataW.trod_string Tryz.underlying9 h0
  simp at s1
  obtain ⟨o0, o1, o2, o3, hod⟩ := order_read h10
  simp at hod
  obtain ⟨rfl, rfl, rfl, rfl⟩ := hod
  obtain ⟨n8, f8, b8, v8⟩ := rows_read (α := Int × Int) Tryz.underlying22 (by kernel_rfl : Tryz.prog.cellsOf 127 = 2) (by decide) (fun d => [.int .i64 d.1, .int .i64 d.2]) (fun d => [.int .i64 d.1, .int .i64 d.2]) (fun W F a j hj => match j, hj with | 0, _ => .int _ _ | 1, _ => .int _ _) (fun _ => rfl) (fun fuel cs x h => pair127_read h) h8
  obtain ⟨n15, f15, b15, v15⟩ := rows_read (α := Int × Int) Tryz.underlying24 (by kernel_rfl : Tryz.prog.cellsOf 130 = 2) (by decide) (fun d => [.int .i64 d.1, .int .i64 d.2]) (fun d => [.int .i64 d.1, .int .i64 d.2]) (fun W F a j hj => match j, hj with | 0, _ => .int _ _ | 1, _ => .int _ _) (fun _ => rfl) (fun fuel cs x h => pair130_read h) h12
  obtain ⟨n18, f18, b18, v18⟩ := rows_read (α := Int) Tryz.underlying25 (by kernel_rfl : Tryz.prog.cellsOf 3 = 1) (by decide) (fun d => [.int .i64 d]) (fun d => [.int .i64 d]) (fun W F a j hj => match j, hj with | 0, _ => .int _ _) (fun _ => rfl) (fun fuel cs x h => int_read Tryz.underlying3 h) h15
  subst s1 q1 q2 q3 q4 q5 q6 q7 q9 q11 q13 q14
  refine ⟨⟨⟨s, n1, n2, n3, n4, n5, n6, n7, n9, o0, o1, o2, o3, n11, n15, fun i => (f15 i).1, fun i => (f15 i).2, n13, n14⟩, n8, fun i => (f8 i).1, fun i => (f8 i).2, n18, f18⟩, ⟨by unfold maxLen at s2; show s.size < _; omega, b8, b15, b18⟩, .agg _ _ rfl fun i hi => ?_⟩
  replace hi : i < 19 := hi
  match i, hi with
  | 0, _ => exact .str _
  | 8, _ => exact v8
  | 15, _ => exact v15
  | 18, _ => exact v18
  | 1, _ | 2, _ | 3, _ | 4, _ | 5, _ | 6, _ | 7, _ | 9, _ | 10, _ | 11, _ | 12, _ | 13, _ | 14, _ | 16, _ | 17, _ => exact .int _ _
  | k + 19, h => exact absurd h (by omega)
theorem prod_arg (hval : Value.okWide Tryz.prog W r b0 27 v) (h : DataW.Trod enc Tryz.prog W base spare held 27 v d p) : ∃ u : PX, Small u ∧ Got W (.agg u.pa.cells) v := by
  obtain ⟨cs, rfl, _⟩ := okWide_struct Tryz.underlying27 hval
  obtain ⟨fuel, hd⟩ := h
  exact prod_read hd
theorem int_arg {t : TypeId} {k : IntKind} (ht : Tryz.prog.underlying t = some (.int k)) (hval : Value.okWide Tryz.prog W r b0 t v) (h : DataW.Trod enc Tryz.prog W base spare held t v d p) : ∃ n : Int, (Lit.int k n).wf = true ∧ Got W (.int k n) v := by
  obtain ⟨n, rfl, _, _, hw⟩ := open_int ht hval h
  exact ⟨n, hw, .int _ _⟩
end
end Go.Proofs.YtnnoplgabnfdiaaGreatDoor.Sh
/- The great laws: what their conditions give, and a world that meets them. -/
namespace Go.Proofs.YtnnoplgabnfdiaaGreatDoor.Sh
open Go Go.RowKit Go.ChangeShapes Go.WideShapes Go.ChangeAt
set_option linter.unusedVariables false
set_option linter.unusedSimpArgs false
set_option maxRecDepth 100000
/-- The listed variables, and what they read as. -/
def laidL : List (String × DataW Unit) := [("math/bits.deBruijn32tab", Rows.laid_math_bits_deBruijn32tab), ("math/bits.deBruijn64tab", Rows.laid_math_bits_deBruijn64tab), ("internal/strconv.uint64pow10", Rows.laid_internal_strconv_uint64pow10)]
/-- The cells of a table. -/
def tabCells : DataW Unit → Array Value
  | .agg l => (l.map fun d => match d with | .lit (.int k n) => Value.int k n | _ => undef).toArray
  | _ => #[]
def layAt (g : Nat) (cs : Array Value) (w : World) : World := { w with heap := w.heap.modify g fun o => match o with
  | .cells _ t frozen => .cells cs t frozen
  | o => o }
/-- A world that meets the condition: the settled one, the tables laid. -/
noncomputable def laidWorld (os : Os) : World := layAt 1 (tabCells Rows.laid_internal_strconv_uint64pow10) (layAt 2 (tabCells Rows.laid_math_bits_deBruijn32tab) (layAt 3 (tabCells Rows.laid_math_bits_deBruijn64tab) (World.holding Tryz.prog os ⟨#[], #[], []⟩)))
theorem laidWorld_met (os : Os) (args : Array Value) : laidMetH Tryz.prog laidL ((laidWorld os).forCall (fun _ _ => 0) ⟨#[], args, []⟩).memory :=
  (laidMet_of_run' 8 (by kernel_rfl) (by kernel_rfl) : laidMet Tryz.prog laidL _)
section
variable {H : Type} {enc : TypeId × Value → H}
/-- As the library's builder, and the world's shape is handed on. -/
theorem ret_shaped {a : Assume} {C : Checked} {os : Os} {f : FuncId} {fn : Func} {s : ChangeSpec} {conds : List PathCond} {apart fresh handsOn again : Bool} {X : World → Array Value → Prop}
    (own : ownKnob C.prog.godebug = none) (started : os.Started) (noInit : C.prog.inits.idxOf? f = none) (hfn : C.prog.funcs[f]? = some fn)
    (witness : ∃ (w : World) (tape : Tape) (i : Input), w.os = os ∧ (w.forCall tape i).Shaped C.prog ∧ i.vars = [] ∧ Input.okWide C.prog (w.forCall tape i) .any w.heap.size f i ∧
      ((s.pre enc C.prog fn conds apart (w.forCall tape i).memory i.args ∧ X (w.forCall tape i).memory i.args) ∧ sizedMet enc C.prog fn (OpenSpec.ofChange s) apart (w.forCall tape i).memory i.args) ∧ a.holds C.prog (lone (Frame.enter C.prog f i.args .normal) [] (w.forCall tape i)))
    (contract : ∀ (W : World) (base : Nat) (args : Array Value) (ds gs : List (DataW H)) (before : List MemPlace), W.ShapedOpen C.prog →
      (∀ (j : Nat) t v, fn.params[j]? = some t → args[j]? = some v → Value.okWide C.prog W .any base t v) →
      DataW.Whole enc C.prog fn.params.toList s.vars apart W args.toList ds gs before →
      Calls C.prog f args W fun e W' => ∃ v, e = .returned v ∧ s.post enc C.prog fn apart fresh handsOn again W args v W') :
    ReturnsInHanded a C os f .any (fun w args => (s.pre enc C.prog fn conds apart w args ∧ X w args) ∧ sizedMet enc C.prog fn (OpenSpec.ofChange s) apart w args) (s.post enc C.prog fn apart fresh handsOn again) := by
  refine returnsInHanded_of_calls own started noInit witness ?_
  intro w tape i _ hsh _ hok hpre hholds
  obtain ⟨_, _, _, fn', hfn', _, _, _, _, hval⟩ := hok
  obtain rfl := Option.some.inj (hfn'.symm.trans hfn)
  obtain ⟨⟨⟨ds, gs, before, hw, hc⟩, hx⟩, hz⟩ := hpre
  have hw' := DataW.Whole.of_heap (w' := w.forCall tape i) (by rfl) hw
  refine (contract (w.forCall tape i) w.heap.size i.args ds gs before hsh hval hw').mono fun e W' ⟨v, he, hp⟩ => ?_
  subst he
  exact ChangeSpec.post_blind hp
end
end Go.Proofs.YtnnoplgabnfdiaaGreatDoor.Sh
