/- Part 2 of a proof over the shadow machine. -/
import Derived.Test.YtnnoplgabnfdiaaGreatDoorN01
/- The shadow machine: operations on values, loads and stores. -/
namespace Go.Proofs.YtnnoplgabnfdiaaGreatDoor.Sh
open Go Go.RowKit
set_option linter.unusedVariables false
set_option linter.unusedSimpArgs false
/-- Structs and arrays that are held against each other. -/
def EqOK (P : Program) (T : Tab) (eqs : List Nat) : Prop := ∀ t, eqs.elem t = true → ∀ (x y : Operand) (cs ds : List AV) (vs us : Array Value) (r : Bool) (w : World) (Fz : Nat → Prop) (g : Gh),
  lenAs T t cs = true → lenAs T t ds = true → eqCells cs ds = some r → VR w Fz g (.agg cs) (.agg vs) → VR w Fz g (.agg ds) (.agg us) →
    (do eqGuard .eql t x y (.agg vs) (.agg us); binOp .eql t (.agg vs) (.agg us) : Sem Value).run P w = .ok (.bool r) w ∧ (do eqGuard .neq t x y (.agg vs) (.agg us); binOp .neq t (.agg vs) (.agg us) : Sem Value).run P w = .ok (.bool (!r)) w
section
variable {D : List Deferred} {P : Program} {T : Tab} {B0 : Nat} {w0 w : World} {Fz : Nat → Prop} {g : Gh} {h : List AO} {a : Act} {o : Oper} {ob : List Prop} {val : AV} {upd : List (Nat × AO)}

theorem inv_bool {b : Bool} {c : Value} (hv : VR w Fz g (.bool b) c) : c = .bool b := by cases hv; rfl
theorem inv_int {k : IntKind} {n : Int} {c : Value} (hv : VR w Fz g (.int k n) c) : c = .int k n := by cases hv; rfl
theorem inv_cint {k : IntKind} {n : Int} {c : Value} (hv : VR w Fz g (.cint k n) c) : c = .int k n := by cases hv; rfl
theorem inv_agg {cs : List AV} {c : Value} (hv : VR w Fz g (.agg cs) c) : ∃ vs : Array Value, c = .agg vs ∧ cs.length = vs.size ∧ ∀ i, i < cs.length → VR w Fz g (nth .top cs i) (vs.getD i undef) := by
  cases hv with | agg _ vs hl h => exact ⟨vs, rfl, hl, h⟩
theorem inv_tup {cs : List AV} {c : Value} (hv : VR w Fz g (.tup cs) c) : ∃ vs : Array Value, c = .tuple vs ∧ cs.length = vs.size ∧ ∀ i, i < cs.length → VR w Fz g (nth .top cs i) (vs.getD i undef) := by
  cases hv with | tup _ vs hl h => exact ⟨vs, rfl, hl, h⟩
theorem intOf_vr {v : AV} {k : IntKind} {n : Int} {c : Value} (h : intOf? v = some (k, n)) (hv : VR w Fz g v c) : c = .int k n := by
  cases hv <;> simp [intOf?] at h
  · obtain ⟨rfl, rfl⟩ := h; rfl
  · obtain ⟨rfl, rfl⟩ := h; rfl
theorem arith_run {op : BinOp} {k : IntKind} {x y : Int} {t : TypeId} {r : Out} (X Y : Operand) (h : arith op k x y = some r) (hob : conj r.ob) :
    ∃ c, (do eqGuard op t X Y (.int k x) (.int k y); binOp op t (.int k x) (.int k y) : Sem Value).run P w = .ok c w ∧ VR w Fz g r.val c ∧ r.upd = [] ∧ r.kill = none := by
  cases op <;> simp [arith] at h <;> subst h
  case quo =>
    have hy : ¬ (y = 0) := hob
    exact ⟨.int k (k.wrap (x.tdiv y)), by simp [eqGuard, binOp, Op.intDiv, hy], .int _ _, rfl, rfl⟩
  case rem =>
    have hy : ¬ (y = 0) := hob
    exact ⟨.int k (x.tmod y), by simp [eqGuard, binOp, Op.intDiv, hy], .int _ _, rfl, rfl⟩
  all_goals first
    | exact ⟨_, by simp [eqGuard, binOp, Op.intArith, Op.intCmp]; rfl, by constructor, rfl, rfl⟩
    | exact ⟨_, by simp [eqGuard, binOp, Op.intArith, Op.intCmp], by constructor, rfl, rfl⟩
theorem arith2_run {op : BinOp} {k k' : IntKind} {x y : Int} {t : TypeId} {r : Out} (X Y : Operand) (h : (bif k == k' then arith op k x y else none) = some r) (hob : conj r.ob) :
    ∃ c, (do eqGuard op t X Y (.int k x) (.int k' y); binOp op t (.int k x) (.int k' y) : Sem Value).run P w = .ok c w ∧ VR w Fz g r.val c ∧ r.upd = [] ∧ r.kill = none := by
  cases e : (k == k') with
  | false => rw [e] at h; simp at h
  | true =>
    rw [e] at h
    have e' : k = k' := by simpa using e
    subst e'
    exact arith_run X Y h hob
theorem equalIn_bool (n : Nat) {t : TypeId} (hd : (underlying t).run P w = .ok .bool w) (a b : Bool) : (Op.equalIn (n + 1) t (.bool a) (.bool b)).run P w = .ok (a == b) w := by
  simp only [Op.equalIn, Sem.run_bind, hd, Result.andThen_ok, Sem.run_pure]
theorem equalIn_nilsl (n : Nat) {t e : TypeId} (hd : (underlying t).run P w = .ok (.slice e) w) : (Op.equalIn (n + 1) t (.slice none 0 0) (.slice none 0 0)).run P w = .ok true w := by
  simp only [Op.equalIn, Sem.run_bind, hd, Result.andThen_ok, Sem.run_pure, Option.isNone_none]
theorem equal_bool {t : TypeId} (hd : (underlying t).run P w = .ok .bool w) (a b : Bool) : (Op.equal t (.bool a) (.bool b)).run P w = .ok (a == b) w := equalIn_bool 9999 hd a b
theorem equal_nilsl {t e : TypeId} (hd : (underlying t).run P w = .ok (.slice e) w) : (Op.equal t (.slice none 0 0) (.slice none 0 0)).run P w = .ok true w := equalIn_nilsl 9999 hd
theorem binop_run {eqs : List Nat} (hT : TabOK P T) (hE : EqOK P T eqs) {op : BinOp} {t : TypeId} {x y : AV} {r : Out} {c d : Value} (X Y : Operand) (h : binop T eqs op t x y = some r) (hob : conj r.ob) (hx : VR w Fz g x c) (hy : VR w Fz g y d) :
    ∃ e, (do eqGuard op t X Y c d; binOp op t c d : Sem Value).run P w = .ok e w ∧ VR w Fz g r.val e ∧ r.upd = [] ∧ r.kill = none := by
  unfold binop at h
  split at h
  · split at h
    · rename_i sz by_ z heq
      obtain ⟨d, hd, hk⟩ := hT.und (w := w) heq
      simp only [kOK] at hk; subst hk
      cases hx; cases hy
      cases op <;> simp at h <;> subst h
      · exact ⟨_, by first | ( simp only [eqGuard, binOp, Sem.run_bind, Sem.run_pure, Result.andThen_ok, Bool.not_true, Bool.false_eq_true, if_false, equal_bool hd]; rfl) | skip, by constructor, rfl, rfl⟩
      · exact ⟨_, by first | ( simp only [eqGuard, binOp, Sem.run_bind, Sem.run_pure, Result.andThen_ok, Bool.not_true, Bool.false_eq_true, if_false, equal_bool hd]; rfl) | skip, by constructor, rfl, rfl⟩
    · simp at h
  · rename_i xs ys
    cases hel' : (eqs.elem t && (lenAs T t xs && lenAs T t ys)) with
    | false => rw [hel'] at h; simp at h
    | true =>
      rw [hel'] at h
      rw [Bool.and_eq_true, Bool.and_eq_true] at hel'
      obtain ⟨hel, hla, hlb⟩ := hel'
      simp only [cond_true] at h
      cases hx with | agg _ vs hl1 h1 => cases hy with | agg _ us hl2 h2 =>
      cases hq : eqCells xs ys with
      | none => rw [hq] at h; cases op <;> simp at h
      | some b =>
        have := hE t hel X Y xs ys vs us b w Fz g hla hlb hq (.agg _ _ hl1 h1) (.agg _ _ hl2 h2)
        rw [hq] at h
        cases op <;> simp at h <;> subst h
        · exact ⟨_, this.1, .bool _, rfl, rfl⟩
        · exact ⟨_, this.2, .bool _, rfl, rfl⟩
  · split at h
    · rename_i e sz by_ z heq
      obtain ⟨d, hd, hk⟩ := hT.und (w := w) heq
      simp only [kOK] at hk; subst hk
      cases hx; cases hy
      cases op <;> simp at h <;> subst h
      · exact ⟨_, by first | ( simp only [eqGuard, binOp, Sem.run_bind, Sem.run_pure, Result.andThen_ok, Bool.not_true, Bool.false_eq_true, if_false, equal_nilsl hd]; rfl) | skip, by constructor, rfl, rfl⟩
      · exact ⟨_, by first | ( simp only [eqGuard, binOp, Sem.run_bind, Sem.run_pure, Result.andThen_ok, Bool.not_true, Bool.false_eq_true, if_false, equal_nilsl hd]; rfl) | skip, by constructor, rfl, rfl⟩
    · simp at h
  · cases hx; cases hy; exact arith2_run X Y h hob
  · cases hx; cases hy; exact arith2_run X Y h hob
  · cases hx; cases hy; exact arith2_run X Y h hob
  · cases hx; cases hy; exact arith2_run X Y h hob
  · simp at h

/-- An operation that yields a value, and leaves all as it is. -/
theorem goes_sem {e : Sem Value} {c : Value} (hx : execOp a.eval o = (do pure (Next.value (← e)))) (hr : e.run P w = .ok c w) (hv : VR w Fz g val c) (H : HR B0 w0 w Fz g h) : Goes P B0 w0 w Fz g a o val h := by
  refine goes_value (c := c) ?_ hv H
  rw [hx]
  simp [hr]
theorem goes_semTo {e : Sem Value} {c : Value} {w' : World} {g' : Gh} {h' : List AO} (hx : execOp a.eval o = (do pure (Next.value (← e)))) (hr : e.run P w = .ok c w') (hv : VR w' Fz g' val c) (H : HR B0 w0 w' Fz g' h') (hon : On w w' Fz Fz g g') : Goes P B0 w0 w Fz g a o val h' := by
  refine goes_to (c := c) ?_ hv H hon
  rw [hx]
  simp [hr]
theorem fieldOf_ok (hT : TabOK P T) {t f off n : Nat} {b : Bool} (h : fieldOf T t f = some (off, n, b)) : ∃ (F : Array Field) (fd : Field) (ti : TI), (underlying t).run P w = .ok (.struct F) w ∧ F[f]? = some fd ∧ fd.offset = off ∧ T.get fd.type = some ti ∧ ti.size = n ∧ ti.agg = b ∧ 0 < n := by
  unfold fieldOf at h
  split at h
  · rename_i fs sz by_ z e
    split at h
    · rename_i off' ft e2
      split at h
      · rename_i ti e3
        cases hb : Nat.blt 0 ti.size with
        | false => rw [hb] at h; simp at h
        | true =>
          rw [hb] at h
          simp only [cond_true, Option.some.injEq, Prod.mk.injEq] at h
          obtain ⟨rfl, rfl, rfl⟩ := h
          obtain ⟨d, hd, hk⟩ := hT.und (w := w) e
          simp only [kOK] at hk
          obtain ⟨F, rfl, hF⟩ := hk
          have : (F.toList.map (fun f => (f.offset, f.type)))[f]? = some (off', ft) := by rw [hF]; exact e2
          simp only [List.getElem?_map, Option.map_eq_some_iff] at this
          obtain ⟨fd, h1, h2⟩ := this
          simp only [Prod.mk.injEq] at h2
          refine ⟨F, fd, ti, hd, by simpa using h1, h2.1, by rw [h2.2]; exact e3, rfl, rfl, blt_lt hb⟩
      · simp at h
    · simp at h
  · simp at h
theorem part_run (hT : TabOK P T) {t off : Nat} {ti : TI} {cs : List AV} {vs : Array Value} (ht : T.get t = some ti) (hl : cs.length = vs.size) (hv : ∀ i, i < cs.length → VR w Fz g (nth .top cs i) (vs.getD i undef)) (hoff : off + ti.size ≤ cs.length) (hpos : 0 < ti.size) :
    ∃ c, (part t vs off).run P w = .ok c w ∧ ∀ ds : List AV, ds.length = ti.size → (∀ q, q < ti.size → nth .top ds q = nth .top cs (off + q)) → VR w Fz g (pack ti.agg ds) c := by
  have hag := hT.agg (w := w) ht
  have hsz := hT.size (w := w) ht
  cases hb : ti.agg with
  | true =>
    rw [hb] at hag
    refine ⟨.agg (vs.extract off (off + ti.size)), by simp [part, hag, hsz], fun ds h1 h2 => ?_⟩
    refine .agg _ _ (by rw [h1]; simp; omega) fun i hi => ?_
    rw [h1] at hi
    rw [h2 i hi]
    have : (vs.extract off (off + ti.size)).getD i undef = vs.getD (off + i) undef := by
      simp only [Array.getD_eq_getD_getElem?, Array.getElem?_extract]
      rw [if_pos (by omega)]
    rw [this]
    exact hv _ (by omega)
  | false =>
    rw [hb] at hag
    have hlt : off < vs.size := by omega
    refine ⟨vs[off], by simp [part, hag, hlt], fun ds h1 h2 => ?_⟩
    have := hv off (by omega)
    simp only [Array.getD, hlt, dif_pos] at this
    show VR w Fz g (nth .top ds 0) _
    rw [h2 0 hpos]
    exact this
section ops
variable {G : Env} {eqs : List Nat} {base nid : Nat} {ch : List (Nat × Bool)} {s : AState} {kl : Option Nat}
variable (F : FR D w Fz g s.tmps a) (H : HR B0 w0 w Fz g s.heap) (hch : Chained ch a)
include F H hch
theorem go_move {x : Operand} (hop : o.op = .move x ∨ o.op = .assign x) : Goes P B0 w0 w Fz g a o (ev ch s x) s.heap := by
  refine goes_value (c := a.eval x) ?_ (ev_vr F hch x) H
  rcases hop with hop | hop <;> simp [execOp, hop]
theorem go_pick {c x y : Operand} (hop : o.op = .pick c x y) (hc : core1 G T eqs base (.pick c x y) ch s nid = some ⟨ob, val, upd, kl⟩) : Goes P B0 w0 w Fz g a o val (apply upd s.heap) ∧ kl = none := by
  have hcv := ev_vr F hch c
  simp only [core1] at hc
  cases hec : ev ch s c with
  | bool b =>
    rw [hec] at hc hcv
    have hb : a.eval c = .bool b := inv_bool hcv
    have hrun : (execOp a.eval o).run P w = .ok (.value (if b then a.eval x else a.eval y)) w := by simp [execOp, hop, hb, asBool]
    have done : ∀ v : AV, VR w Fz g v (if b then a.eval x else a.eval y) → Goes P B0 w0 w Fz g a o v s.heap := fun v hv => goes_value hrun hv H
    cases c with
    | tmp d =>
      have hx : b = true → VR w Fz g (ev ((d, true) :: ch) s x) (a.eval x) := fun e => ev_vr F (hch.cons (by subst e; exact hb)) x
      have hy : b = false → VR w Fz g (ev ((d, false) :: ch) s y) (a.eval y) := fun e => ev_vr F (hch.cons (by subst e; exact hb)) y
      simp only at hc
      split at hc
      · rename_i p q hp hq
        simp only [Option.some.injEq, Out.mk.injEq] at hc
        obtain ⟨_, rfl, rfl, rfl⟩ := hc
        refine ⟨done _ ?_, rfl⟩
        rw [hp] at hx; rw [hq] at hy
        cases b with
        | true => simp only [if_true]; rw [inv_bool (hx rfl)]; exact .bool _
        | false => simp only [Bool.false_eq_true, if_false]; rw [inv_bool (hy rfl)]; exact .bool _
      · simp only [Option.some.injEq, Out.mk.injEq] at hc
        obtain ⟨_, rfl, rfl, rfl⟩ := hc
        refine ⟨done _ ?_, rfl⟩
        cases b with
        | true => exact merge_vr (fun _ => hx rfl) (fun e => by cases e)
        | false => exact merge_vr (fun e => by cases e) (fun _ => hy rfl)
    | _ =>
      simp only [Option.some.injEq, Out.mk.injEq] at hc
      obtain ⟨_, rfl, rfl, rfl⟩ := hc
      refine ⟨done _ ?_, rfl⟩
      cases b with
      | true => exact merge_vr (fun _ => ev_vr F hch x) (fun e => by cases e)
      | false => exact merge_vr (fun e => by cases e) (fun _ => ev_vr F hch y)
  | _ => rw [hec] at hc; simp at hc
theorem go_binOp {op : BinOp} {t u : TypeId} {x y : Operand} (hob : conj ob) (hT : TabOK P T) (hE : EqOK P T eqs) (hop : o.op = .binOp op t x y u) (hc : core1 G T eqs base (.binOp op t x y u) ch s nid = some ⟨ob, val, upd, kl⟩) : Goes P B0 w0 w Fz g a o val (apply upd s.heap) ∧ kl = none := by
  simp only [core1] at hc
  obtain ⟨e, hr, hv, hu, hk⟩ := binop_run (P := P) (w := w) (Fz := Fz) (g := g) hT hE x y hc hob (ev_vr F hch x) (ev_vr F hch y)
  simp only at hu hk hv
  subst hu; subst hk
  exact ⟨goes_sem (by simp only [execOp, hop]) hr hv H, rfl⟩
theorem go_unOp {op : UnOp} {t : TypeId} {x : Operand} (hop : o.op = .unOp op t x) (hc : core1 G T eqs base (.unOp op t x) ch s nid = some ⟨ob, val, upd, kl⟩) : Goes P B0 w0 w Fz g a o val (apply upd s.heap) ∧ kl = none := by
  have hx := ev_vr F hch x
  simp only [core1] at hc
  split at hc
  · rename_i k n e
    simp only [Option.some.injEq, Out.mk.injEq] at hc; obtain ⟨_, rfl, rfl, rfl⟩ := hc
    rw [e] at hx; have hX := inv_int hx
    exact ⟨goes_sem (e := Op.unary .neg (a.eval x)) (c := .int k (k.wrap (0 - n))) (by simp only [execOp, hop]) (by simp [hX, Op.unary, Op.intArith]) (.int _ _) H, rfl⟩
  · rename_i k n e
    simp only [Option.some.injEq, Out.mk.injEq] at hc; obtain ⟨_, rfl, rfl, rfl⟩ := hc
    rw [e] at hx; have hX := inv_cint hx
    exact ⟨goes_sem (e := Op.unary .neg (a.eval x)) (c := .int k (k.wrap (0 - n))) (by simp only [execOp, hop]) (by simp [hX, Op.unary, Op.intArith]) (.int _ _) H, rfl⟩
  · rename_i b e
    simp only [Option.some.injEq, Out.mk.injEq] at hc; obtain ⟨_, rfl, rfl, rfl⟩ := hc
    rw [e] at hx; have hX := inv_bool hx
    exact ⟨goes_sem (e := Op.unary .not (a.eval x)) (c := .bool !b) (by simp only [execOp, hop]) (by simp [hX, Op.unary]) (.bool _) H, rfl⟩
  · simp at hc
theorem go_convert {t u : TypeId} {x : Operand} (hT : TabOK P T) (hop : o.op = .convert t u x) (hc : core1 G T eqs base (.convert t u x) ch s nid = some ⟨ob, val, upd, kl⟩) : Goes P B0 w0 w Fz g a o val (apply upd s.heap) ∧ kl = none := by
  have hx := ev_vr F hch x
  simp only [core1] at hc
  split at hc
  · rename_i ti k sz by_ z k' n e0 e1 e2
    simp only [Option.some.injEq, Out.mk.injEq] at hc; obtain ⟨_, rfl, rfl, rfl⟩ := hc
    have hX := intOf_vr e2 hx
    obtain ⟨d, hd, hk⟩ := hT.und (w := w) e1
    obtain ⟨d0, hd0, hk0⟩ := hT.und (w := w) e0
    simp only [kOK] at hk; subst hk
    exact ⟨goes_sem (e := convert t u (a.eval x)) (c := .int k (k.wrap n)) (by simp only [execOp, hop]) (by simp [convert, hd, hd0, hX, Conv.intToInt]) (.int _ _) H, rfl⟩
  · simp at hc
theorem go_makeFunc {f : Fn} {first caps : Array Operand} (hop : o.op = .makeFunc f first caps) (hc : core1 G T eqs base (.makeFunc f first caps) ch s nid = some ⟨ob, val, upd, kl⟩) : Goes P B0 w0 w Fz g a o val (apply upd s.heap) ∧ kl = none := by
  simp only [core1] at hc
  split at hc
  · rename_i n
    simp only [Option.some.injEq, Out.mk.injEq] at hc; obtain ⟨_, rfl, rfl, rfl⟩ := hc
    refine ⟨goes_sem (e := Instr.makeFunc (.func n) (first.map a.eval) (caps.map a.eval)) (c := .func (.func n) (first.map a.eval) (caps.map a.eval)) (by simp only [execOp, hop]) (by simp [Instr.makeFunc]) (.fn _ _ _ _ _ (by simp) (by simp) (fun i hi => ?_) (fun i hi => ?_)) H, rfl⟩
    · have hi' : i < first.size := by simpa using hi
      have : nth .top (first.toList.map (ev ch s)) i = ev ch s first[i] := by rw [nth_get]; simp [List.getD_eq_getElem?_getD, hi']
      rw [this]; simp [Array.getD, hi']; exact ev_vr F hch _
    · have hi' : i < caps.size := by simpa using hi
      have : nth .top (caps.toList.map (ev ch s)) i = ev ch s caps[i] := by rw [nth_get]; simp [List.getD_eq_getElem?_getD, hi']
      rw [this]; simp [Array.getD, hi']; exact ev_vr F hch _
  · simp at hc
theorem go_makeInterface {t : TypeId} {x : Operand} (hT : TabOK P T) (hop : o.op = .makeInterface t x) (hc : core1 G T eqs base (.makeInterface t x) ch s nid = some ⟨ob, val, upd, kl⟩) : Goes P B0 w0 w Fz g a o val (apply upd s.heap) ∧ kl = none := by
  simp only [core1] at hc
  split at hc
  · simp at hc
  · rename_i ti e0 hne
    simp only [Option.some.injEq, Out.mk.injEq] at hc; obtain ⟨_, rfl, rfl, rfl⟩ := hc
    obtain ⟨d, hd, hk⟩ := hT.und (w := w) hne
    refine ⟨goes_sem (e := Instr.makeInterface t (a.eval x)) (c := .iface t (a.eval x)) (by simp only [execOp, hop]) ?_ (.iface _ _ _ (ev_vr F hch x)) H, rfl⟩
    simp only [Instr.makeInterface, Sem.run_bind, hd, Result.andThen_ok]
    obtain ⟨k, sz, by_, z⟩ := ti
    cases d <;> first | rfl | skip
    cases k <;> simp [kOK] at hk
    exact (e0 _ _ _ rfl).elim
  · simp at hc
theorem go_nilCheck {x : Operand} (hop : o.op = .nilCheck x) (hc : core1 G T eqs base (.nilCheck x) ch s nid = some ⟨ob, val, upd, kl⟩) : Goes P B0 w0 w Fz g a o val (apply upd s.heap) ∧ kl = none := by
  have hx := ev_vr F hch x
  simp only [core1] at hc
  split at hc
  · rename_i st row i j e
    simp only [Option.some.injEq, Out.mk.injEq] at hc; obtain ⟨_, rfl, rfl, rfl⟩ := hc
    rw [e] at hx
    refine ⟨goes_value (c := a.eval x) ?_ hx H, rfl⟩
    obtain ⟨ad, hX⟩ : ∃ ad, a.eval x = .pointer (some ad) := by generalize a.eval x = c at hx; cases hx; exact ⟨_, rfl⟩
    simp [execOp, hop, hX]
  · rename_i o' N st i j e
    simp only [Option.some.injEq, Out.mk.injEq] at hc; obtain ⟨_, rfl, rfl, rfl⟩ := hc
    rw [e] at hx
    refine ⟨goes_value (c := a.eval x) ?_ hx H, rfl⟩
    obtain ⟨ad, hX⟩ : ∃ ad, a.eval x = .pointer (some ad) := by generalize a.eval x = c at hx; cases hx; exact ⟨_, rfl⟩
    simp [execOp, hop, hX]
  · rename_i f xs ys e
    simp only [Option.some.injEq, Out.mk.injEq] at hc; obtain ⟨_, rfl, rfl, rfl⟩ := hc
    rw [e] at hx
    refine ⟨goes_value (c := a.eval x) ?_ hx H, rfl⟩
    obtain ⟨us, vs, hX⟩ : ∃ us vs, a.eval x = .func (.func f) us vs := by generalize a.eval x = c at hx; cases hx; exact ⟨_, _, rfl⟩
    simp [execOp, hop, hX]
  · simp at hc
theorem go_fieldAddr {t : TypeId} {x : Operand} {f : Nat} (hT : TabOK P T) (hop : o.op = .fieldAddr t x f) (hc : core1 G T eqs base (.fieldAddr t x f) ch s nid = some ⟨ob, val, upd, kl⟩) : Goes P B0 w0 w Fz g a o val (apply upd s.heap) ∧ kl = none := by
  have hx := ev_vr F hch x
  simp only [core1] at hc
  have run : ∀ {off n : Nat} {b : Bool} {ad : Addr}, fieldOf T t f = some (off, n, b) → a.eval x = .pointer (some ad) → (Instr.fieldAt t (a.eval x) f).run P w = .ok (.pointer (some (ad.add off))) w := by
    intro off n b ad hf hX
    obtain ⟨Fs, fd, ti, h1, h2, h3, h4, h5, h6, h7⟩ := fieldOf_ok (w := w) hT hf
    have hsz := hT.size (w := w) h4
    have hne : ¬ (ti.size = 0) := by omega
    simp [Instr.fieldAt, h1, h2, hX, Instr.sureAddr, fieldPlace, hsz, hne, h3]
  split at hc
  · rename_i o' N st i j off n b e1 e2
    simp only [Option.some.injEq, Out.mk.injEq] at hc; obtain ⟨_, rfl, rfl, rfl⟩ := hc
    rw [e1] at hx
    generalize hX : a.eval x = c at hx
    cases hx with | ptr _ _ _ _ _ b' κ hg =>
    refine ⟨goes_sem (e := Instr.fieldAt t (a.eval x) f) (by simp only [execOp, hop]) (run e2 hX) ?_ H, rfl⟩
    rw [add_mk, Nat.add_assoc]
    exact .ptr _ _ _ _ _ _ _ hg
  · rename_i st row i j off n b e1 e2
    simp only [Option.some.injEq, Out.mk.injEq] at hc; obtain ⟨_, rfl, rfl, rfl⟩ := hc
    rw [e1] at hx
    generalize hX : a.eval x = c at hx
    cases hx with | rp _ _ _ _ ad hm =>
    refine ⟨goes_sem (e := Instr.fieldAt t (a.eval x) f) (by simp only [execOp, hop]) (run e2 hX) (.rp _ _ _ _ _ fun m hm' => ?_) H, rfl⟩
    obtain ⟨h1, c, h2, h3⟩ := hm (off + m) (by omega)
    exact ⟨by rw [add_block]; exact h1, c, by rw [add_add]; exact h2, by rw [Nat.add_assoc]; exact h3⟩
  · simp at hc
theorem go_field {t : TypeId} {x : Operand} {f : Nat} (hT : TabOK P T) (hop : o.op = .field t x f) (hc : core1 G T eqs base (.field t x f) ch s nid = some ⟨ob, val, upd, kl⟩) : Goes P B0 w0 w Fz g a o val (apply upd s.heap) ∧ kl = none := by
  have hx := ev_vr F hch x
  simp only [core1] at hc
  split at hc
  · rename_i cs off n b e1 e2
    cases hb : Nat.ble (off + n) cs.length with
    | false => rw [hb] at hc; simp at hc
    | true =>
      rw [hb] at hc
      simp only [cond_true, Option.some.injEq, Out.mk.injEq] at hc; obtain ⟨_, rfl, rfl, rfl⟩ := hc
      rw [e1] at hx
      obtain ⟨vs, hX, hl, hv⟩ := inv_agg hx
      obtain ⟨Fs, fd, ti, h1, h2, h3, h4, h5, h6, h7⟩ := fieldOf_ok (w := w) hT e2
      subst h5; subst h6
      obtain ⟨c, hr, hpv⟩ := part_run (P := P) hT (off := off) h4 hl hv (ble_le hb) h7
      refine ⟨goes_sem (e := Instr.field t (a.eval x) f) (c := c) (by simp only [execOp, hop]) (by simp [Instr.field, h1, h2, hX, asAgg, h3, hr]) (hpv _ (cut_length _ _ _ _) fun q hq => nth_cut _ _ _ _ _ hq) H, rfl⟩
  · simp at hc
theorem go_extract {x : Operand} {i : Nat} (hop : o.op = .extract x i) (hc : core1 G T eqs base (.extract x i) ch s nid = some ⟨ob, val, upd, kl⟩) : Goes P B0 w0 w Fz g a o val (apply upd s.heap) ∧ kl = none := by
  have hx := ev_vr F hch x
  simp only [core1] at hc
  split at hc
  · rename_i vs e
    cases hb : Nat.blt i vs.length with
    | false => rw [hb] at hc; simp at hc
    | true =>
      rw [hb] at hc
      simp only [cond_true, Option.some.injEq, Out.mk.injEq] at hc; obtain ⟨_, rfl, rfl, rfl⟩ := hc
      rw [e] at hx
      obtain ⟨us, hX, hl, hv⟩ := inv_tup hx
      have hi := blt_lt hb
      have hlt : i < us.size := by omega
      have := hv i hi
      simp only [Array.getD, hlt, dif_pos] at this
      exact ⟨goes_sem (e := Instr.extract (a.eval x) i) (c := us[i]) (by simp only [execOp, hop]) (by simp [Instr.extract, hX, hlt]) this H, rfl⟩
  · simp at hc
end ops
end
end Go.Proofs.YtnnoplgabnfdiaaGreatDoor.Sh
