/- Part 9 of a proof over the shadow machine. -/
import Derived.Test.YtnnoplgabnfdiaaGreatDoorN08
import Derived.Orders
/- The shadow machine: an operation depends on what it names alone. -/
namespace Go.Proofs.YtnnoplgabnfdiaaGreatDoor.Sh
open Go Go.RowKit
set_option linter.unusedVariables false
set_option linter.unusedSimpArgs false
section
variable {G : Env} {T : Tab} {eqs : List Nat} {base nid : Nat} {ch : List (Nat × Bool)} {s s' : AState} {look look' : Nat → AO}

theorem ev_local {ch : List (Nat × Bool)} {x : Operand} (h : ∀ t, x = .tmp t → getTmp s t = getTmp s' t) : ev ch s x = ev ch s' x := by
  cases x with
  | tmp t => simp only [ev, h t rfl]
  | _ => rfl
theorem tmpsOf_mem {op : Op} {x : Operand} {t : Nat} (hx : x ∈ op.operands) (ht : x = .tmp t) : t ∈ tmpsOf op := by
  subst ht
  exact List.mem_filterMap.mpr ⟨_, by simpa using hx, rfl⟩
theorem rd_local {v : AV} {m : Nat} (h : ∀ o ∈ touch0 v, look o = look' o) : rd look v m = rd look' v m := by
  cases v <;> simp only [rd]
  rename_i o N s i j
  rw [h o (by simp [touch0])]
theorem freeze1_local {v : AV} (h : ∀ o ∈ touch0 v, look o = look' o) : freeze1 look v = freeze1 look' v ∧ frOb1 look v = frOb1 look' v := by
  cases v <;> try exact ⟨rfl, rfl⟩
  · rename_i o s off len cap
    have e := h o (by simp [touch0])
    exact ⟨by simp only [freeze1, e], by simp only [frOb1, e]⟩
  · rename_i f a b
    cases a <;> cases b <;> exact ⟨rfl, rfl⟩
theorem freeze_local {v : AV} (h : ∀ o ∈ touch v, look o = look' o) : freeze look v = freeze look' v ∧ frOb look v = frOb look' v := by
  by_cases hag : ∃ cs, v = .agg cs
  · obtain ⟨cs, rfl⟩ := hag
    have hx : ∀ x ∈ cs, ∀ o ∈ touch0 x, look o = look' o := fun x hx o ho => h o (List.mem_flatMap.mpr ⟨x, hx, ho⟩)
    refine ⟨?_, ?_⟩
    · simp only [freeze]
      congr 1
      exact List.map_congr_left fun x hx' => (freeze1_local (hx x hx')).1
    · simp only [frOb, List.flatMap]
      congr 1
      exact List.map_congr_left fun x hx' => (freeze1_local (hx x hx')).2
  · have e0 : touch v = touch0 v := by cases v <;> first | rfl | exact absurd ⟨_, rfl⟩ hag
    have e1 : ∀ l : Nat → AO, freeze l v = freeze1 l v := fun l => by cases v <;> first | rfl | exact absurd ⟨_, rfl⟩ hag
    have e2 : ∀ l : Nat → AO, frOb l v = frOb1 l v := fun l => by cases v <;> first | rfl | exact absurd ⟨_, rfl⟩ hag
    rw [e0] at h
    rw [e1, e1, e2, e2]
    exact freeze1_local h
theorem quiet_local {f : FuncId} {vs : List AV} (h : ∀ o ∈ vs.flatMap touch, look o = look' o) : quiet G look f vs = quiet G look' f vs := by
  have hx : ∀ v ∈ vs, ∀ o ∈ touch v, look o = look' o := fun v hv o ho => h o (List.mem_flatMap.mpr ⟨v, hv, ho⟩)
  have e1 : vs.map (freeze look) = vs.map (freeze look') := List.map_congr_left fun v hv => (freeze_local (hx v hv)).1
  have e2 : vs.flatMap (frOb look) = vs.flatMap (frOb look') := by
    simp only [List.flatMap]
    congr 1
    exact List.map_congr_left fun v hv => (freeze_local (hx v hv)).2
  simp only [quiet, e1, e2]
theorem srcRows_local {z : Nat} {y : AV} (h : ∀ o ∈ touch y, look o = look' o) : srcRows look z y = srcRows look' z y := by
  unfold srcRows
  split <;> first | rfl | skip
  rename_i o s off len cap
  rw [h o (by simp [touch, touch0])]
theorem appendOp_local {t : TypeId} {x y : AV} (h : ∀ o ∈ [x, y].flatMap touch, look o = look' o) : appendOp T base look t x y nid = appendOp T base look' t x y nid := by
  have hx : ∀ o ∈ touch x, look o = look' o := fun o ho => h o (by simp [ho])
  have hy : ∀ o ∈ touch y, look o = look' o := fun o ho => h o (by simp [ho])
  unfold appendOp
  split
  · split
    · rw [srcRows_local hy]
      cases hb : (Nat.blt 0 _ && Nat.blt 0 _) with
      | false => rfl
      | true =>
        simp only [cond_true]
        split
        · split
          · rfl
          · rfl
          · rename_i o s len c; rw [hx o (by simp [touch, touch0])]
          · rename_i o s len; rw [hx o (by simp [touch, touch0])]
          · rfl
        · rfl
    · rfl
  · rfl
theorem clearOp_local {t : TypeId} {x : AV} (h : ∀ o ∈ touch x, look o = look' o) : clearOp T look t x = clearOp T look' t x := by
  unfold clearOp
  split
  · rename_i o s off len cap _; rw [h o (by simp [touch, touch0])]
  · rfl
theorem sliceOp_local {t : TypeId} {x : AV} {lo hi : Option AV} (h : ∀ o ∈ touch0 x, look o = look' o) : sliceOp T look t x lo hi = sliceOp T look' t x lo hi := by
  unfold sliceOp
  split
  · rfl
  · rfl
  · rfl
  · rename_i o _; rw [h o (by simp [touch0])]
  · rfl
theorem indexAddrOp_local {t : TypeId} {x y : AV} (h : ∀ o ∈ touch0 x, look o = look' o) : indexAddrOp T look t x y = indexAddrOp T look' t x y := by
  unfold indexAddrOp
  split
  · simp only [touch0, List.mem_singleton, forall_eq] at h; rw [h]
  · simp only [touch0, List.mem_singleton, forall_eq] at h; rw [h]
  · rfl
  · rfl
  · rfl
  · rfl
  · rfl
theorem core1_local {op : Op} (hT : ∀ t ∈ tmpsOf op, getTmp s t = getTmp s' t) (hH : ∀ o ∈ heapReads ch s op, nth .free s.heap o = nth .free s'.heap o) :
    core1 G T eqs base op ch s nid = core1 G T eqs base op ch s' nid ∧ heapReads ch s op = heapReads ch s' op := by
  have hev : ∀ ch, ∀ x ∈ op.operands, ev ch s x = ev ch s' x := fun ch x hx => ev_local fun t ht => hT t (tmpsOf_mem hx ht)
  cases op with
  | move x => exact ⟨by simp only [core1, hev ch x (by simp [Op.operands])], rfl⟩
  | assign x => exact ⟨by simp only [core1, hev ch x (by simp [Op.operands])], rfl⟩
  | pick c x y =>
    have h1 := fun ch => hev ch c (by simp [Op.operands])
    have h2 := fun ch => hev ch x (by simp [Op.operands])
    have h3 := fun ch => hev ch y (by simp [Op.operands])
    exact ⟨by simp only [core1, h1, h2, h3], rfl⟩
  | alloc t => exact ⟨rfl, rfl⟩
  | box t x => exact ⟨by simp only [core1, hev ch x (by simp [Op.operands])], rfl⟩
  | build t ps =>
    have hp : ps.toList.map (fun p => (p.1, ev ch s p.2)) = ps.toList.map (fun p => (p.1, ev ch s' p.2)) := List.map_congr_left fun p hp => by
      rw [hev ch p.2 (by simp only [Op.operands, List.mem_toArray, List.mem_map]; exact ⟨p, hp, rfl⟩)]
    exact ⟨by simp only [core1, hp], rfl⟩
  | buildSlice t n ps =>
    have hp : ps.toList.map (fun p => (p.1, ev ch s p.2)) = ps.toList.map (fun p => (p.1, ev ch s' p.2)) := List.map_congr_left fun p hp => by
      rw [hev ch p.2 (by simp only [Op.operands, List.mem_toArray, List.mem_map]; exact ⟨p, hp, rfl⟩)]
    exact ⟨by simp only [core1, hp], rfl⟩
  | load t x =>
    have h1 := hev ch x (by simp [Op.operands])
    have h2 : ∀ m, rd (fun o => nth .free s.heap o) (ev ch s x) m = rd (fun o => nth .free s'.heap o) (ev ch s x) m := fun m => rd_local hH
    exact ⟨by simp only [core1, ← h1, h2], by simp only [heapReads, h1]⟩
  | store t x y =>
    have h1 := hev ch x (by simp [Op.operands])
    have h2 := hev ch y (by simp [Op.operands])
    refine ⟨?_, by simp only [heapReads, h1]⟩
    simp only [core1]
    rw [← h1, ← h2]
    simp only [heapReads] at hH
    cases hx : ev ch s x <;> simp only
    rename_i o N st i j
    rw [hx] at hH
    rw [hH o (by simp [touch0])]
  | nilCheck x => exact ⟨by simp only [core1, hev ch x (by simp [Op.operands])], rfl⟩
  | binOp b t x y u => exact ⟨by simp only [core1, hev ch x (by simp [Op.operands]), hev ch y (by simp [Op.operands])], rfl⟩
  | unOp b t x => exact ⟨by simp only [core1, hev ch x (by simp [Op.operands])], rfl⟩
  | convert t u x => exact ⟨by simp only [core1, hev ch x (by simp [Op.operands])], rfl⟩
  | makeInterface t x => exact ⟨by simp only [core1, hev ch x (by simp [Op.operands])], rfl⟩
  | makeFunc f xs ys =>
    have h1 : xs.toList.map (ev ch s) = xs.toList.map (ev ch s') := List.map_congr_left fun x hx => hev ch x (by simp only [Op.operands, Array.mem_append]; exact .inl (by simpa using hx))
    have h2 : ys.toList.map (ev ch s) = ys.toList.map (ev ch s') := List.map_congr_left fun x hx => hev ch x (by simp only [Op.operands, Array.mem_append]; exact .inr (by simpa using hx))
    exact ⟨by simp only [core1, h1, h2], rfl⟩
  | makeSlice t x y => exact ⟨by simp only [core1, hev ch x (by simp [Op.operands]), hev ch y (by simp [Op.operands])], rfl⟩
  | slice t x lo hi mx =>
    have h1 := hev ch x (by simp [Op.operands])
    have ho : ∀ q : Option Operand, (∀ y, q = some y → y ∈ (Op.slice t x lo hi mx).operands) → q.map (ev ch s) = q.map (ev ch s') := fun q hq => by
      cases q with
      | none => rfl
      | some y => simp only [Option.map_some, hev ch y (hq y rfl)]
    have h2 := ho lo (fun y e => by subst e; simp [Op.operands])
    have h3 := ho hi (fun y e => by subst e; simp [Op.operands])
    have h4 := ho mx (fun y e => by subst e; simp [Op.operands])
    refine ⟨?_, by simp only [heapReads, h1]⟩
    simp only [core1]
    rw [← h1, ← h2, ← h3, ← h4, sliceOp_local (look := fun o => nth .free s.heap o) (look' := fun o => nth .free s'.heap o) hH]
  | fieldAddr t x f => exact ⟨by simp only [core1, hev ch x (by simp [Op.operands])], rfl⟩
  | field t x f => exact ⟨by simp only [core1, hev ch x (by simp [Op.operands])], rfl⟩
  | indexAddr t x y =>
    have h1 := hev ch x (by simp [Op.operands])
    have h2 := hev ch y (by simp [Op.operands])
    exact ⟨by simp only [core1]; rw [← h1, ← h2, indexAddrOp_local (look := fun o => nth .free s.heap o) (look' := fun o => nth .free s'.heap o) hH], by simp only [heapReads, h1]⟩
  | index t x y => exact ⟨by simp only [core1, hev ch x (by simp [Op.operands]), hev ch y (by simp [Op.operands])], rfl⟩
  | extract x i => exact ⟨by simp only [core1, hev ch x (by simp [Op.operands])], rfl⟩
  | call c =>
    have ha : c.args.toList.map (ev ch s) = c.args.toList.map (ev ch s') := List.map_congr_left fun x hx => hev ch x (by simp only [Op.operands, Call.operands, Array.mem_append]; exact .inr (by simpa using hx))
    cases hcal : c.callee with
    | value f =>
      have hf := hev ch f (by simp [Op.operands, Call.operands, hcal])
      simp only [heapReads, hcal] at hH ⊢
      refine ⟨?_, by rw [hf, ha]⟩
      simp only [core1, hcal]
      rw [← hf, ← ha]
      cases hfv : ev ch s f with
      | fn g first caps =>
        simp only [hfv] at hH
        exact quiet_local (fun o ho => hH o (List.mem_append.mpr (.inr ho)))
      | _ => rfl
    | invoke r m =>
      simp only [heapReads, hcal] at hH ⊢
      exact ⟨by simp only [core1, hcal], trivial⟩
    | builtin b =>
      refine ⟨?_, by cases b <;> simp only [heapReads, hcal, ha]⟩
      simp only [heapReads, hcal] at hH
      simp only [core1, hcal]
      rw [← ha]
      cases b with
      | append =>
        simp only at hH ⊢
        split
        · rename_i hargs hty
          rw [hargs] at hH
          rw [appendOp_local (look := fun o => nth .free s.heap o) (look' := fun o => nth .free s'.heap o) hH]
        · rfl
      | clear =>
        simp only at hH ⊢
        split
        · rename_i hargs hty
          rw [hargs] at hH
          rw [clearOp_local (look := fun o => nth .free s.heap o) (look' := fun o => nth .free s'.heap o) (fun o ho => hH o (by simpa using ho))]
        · rfl
      | _ => rfl
  | lookup t x y ok =>
    have h1 := hev ch x (by simp [Op.operands])
    exact ⟨rfl, by simp only [heapReads, h1]⟩
  | mapUpdate t x y z =>
    have h1 := hev ch x (by simp [Op.operands])
    exact ⟨rfl, by simp only [heapReads, h1]⟩
  | _ => exact ⟨rfl, rfl⟩

theorem core2_local {op : Op} (hT : ∀ t ∈ tmpsOf op, getTmp s t = getTmp s' t) (hH : ∀ o ∈ heapReads ch s op, nth .free s.heap o = nth .free s'.heap o) :
    core2 T op ch s nid = core2 T op ch s' nid ∧ heapReads ch s op = heapReads ch s' op := by
  have hev : ∀ ch, ∀ x ∈ op.operands, ev ch s x = ev ch s' x := fun ch x hx => ev_local fun t ht => hT t (tmpsOf_mem hx ht)
  have h1 := (core1_local (G := []) (T := T) (eqs := []) (base := 0) (nid := nid) hT hH).2
  refine ⟨?_, h1⟩
  cases op with
  | binOp b t x y u => simp only [core2, hev ch x (by simp [Op.operands]), hev ch y (by simp [Op.operands])]
  | index t x y => simp only [core2, hev ch x (by simp [Op.operands]), hev ch y (by simp [Op.operands])]
  | convert t u x => simp only [core2, hev ch x (by simp [Op.operands])]
  | typeAssert x t u ok => simp only [core2, hev ch x (by simp [Op.operands])]
  | slice t x lo hi mx =>
    have hx := hev ch x (by simp [Op.operands])
    have ho : ∀ q : Option Operand, (∀ y, q = some y → y ∈ (Op.slice t x lo hi mx).operands) → q.map (ev ch s) = q.map (ev ch s') := fun q hq => by
      cases q with
      | none => rfl
      | some y => simp only [Option.map_some, hev ch y (hq y rfl)]
    have h2 := ho lo (fun y e => by subst e; simp [Op.operands])
    have h3 := ho hi (fun y e => by subst e; simp [Op.operands])
    cases mx with
    | none => simp only [core2, hx, h2, h3]
    | some m => rfl
  | makeMap t r => cases r <;> rfl
  | lookup t x ix ok =>
    have hx := hev ch x (by simp [Op.operands])
    simp only [core2]
    simp only [heapReads] at hH
    rw [← hx]
    split
    · rename_i k e sz by_ z o e0 e1
      rw [e1] at hH
      rw [hH o (by simp [touch0])]
    · rfl
  | mapUpdate t m k x =>
    have hx := hev ch m (by simp [Op.operands])
    simp only [core2]
    simp only [heapReads] at hH
    rw [← hx]
    split
    · rename_i kt e sz by_ z o e0 e1
      rw [e1] at hH
      rw [hH o (by simp [touch0])]
    · rfl
  | _ => rfl
theorem core3_local {S : SEnv} {op : Op} (hT : ∀ t ∈ tmpsOf op, getTmp s t = getTmp s' t) (hH : ∀ o ∈ heapReads ch s op, nth .free s.heap o = nth .free s'.heap o) (hl : s.heap.length = s'.heap.length) : core3 S op ch s nid = core3 S op ch s' nid := by
  have hev : ∀ ch, ∀ x ∈ op.operands, ev ch s x = ev ch s' x := fun ch x hx => ev_local fun t ht => hT t (tmpsOf_mem hx ht)
  cases op with
  | call c =>
    have ha : c.args.toList.map (ev ch s) = c.args.toList.map (ev ch s') := List.map_congr_left fun x hx => hev ch x (by simp only [Op.operands, Call.operands, Array.mem_append]; exact .inr (by simpa using hx))
    cases hcal : c.callee with
    | value f =>
      cases f with
      | func f =>
        simp only [core3, hcal]
        cases hS : S.get f with
        | none =>
          simp only
          cases hm : mkF.elem f with
          | false => rfl
          | true =>
            simp only [cond_true]
            rw [← ha]
            split
            · rename_i k harg
              have := hH k (by simp only [heapReads, hcal]; show k ∈ exR f ++ ([] ++ c.args.toList.map (ev ch s) ++ []).flatMap touch; rw [harg]; simp [touch, touch0])
              rw [this]
            · rfl
        | some q =>
          obtain ⟨N, k, wf, run⟩ := q
          simp only
          rw [← ha, ← hl]
          cases h0 : Nat.beq N 0 with
          | true => rfl
          | false =>
          simp only [cond_false]
          cases hb : (Nat.beq s.heap.length N && (Nat.blt k N && ((c.args.toList.map (ev ch s)).flatMap touch).elem k)) with
          | false => rfl
          | true =>
            rw [Bool.and_eq_true, Bool.and_eq_true] at hb
            have hk : k ∈ (c.args.toList.map (ev ch s)).flatMap touch := by simpa using hb.2.2
            have := hH k (by simp only [heapReads, hcal]; show k ∈ exR f ++ ([] ++ c.args.toList.map (ev ch s) ++ []).flatMap touch; exact List.mem_append.mpr (.inr (by simpa using hk)))
            have h2 : ((exR f).map fun q => nth .free s.heap q) = (exR f).map fun q => nth .free s'.heap q := List.map_congr_left fun q hq => hH q (by simp only [heapReads, hcal]; show q ∈ exR f ++ ([] ++ c.args.toList.map (ev ch s) ++ []).flatMap touch; exact List.mem_append.mpr (.inl hq))
            rw [this, h2]
      | _ => simp only [core3, hcal]
    | _ => simp only [core3, hcal]
  | _ => rfl
theorem core_local {eqs : XE} {op : Op} (hl : s.heap.length = s'.heap.length) (hT : ∀ t ∈ tmpsOf op, getTmp s t = getTmp s' t) (hH : ∀ o ∈ heapReads ch s op, nth .free s.heap o = nth .free s'.heap o) :
    core G T eqs base op ch s nid = core G T eqs base op ch s' nid ∧ heapReads ch s op = heapReads ch s' op := by
  have h1 := core1_local (G := G) (T := T) (eqs := eqs.l) (base := base) (nid := nid) hT hH
  have h2 := core2_local (T := T) (nid := nid) hT hH
  have h3 := core3_local (S := eqs.S) (nid := nid) hT hH hl
  exact ⟨by unfold core; rw [h1.1, h2.1, h3], h1.2⟩
theorem core1_nid {op : Op} {n m : Nat} (h : isAlloc op = false) : core1 G T eqs base op ch s n = core1 G T eqs base op ch s m := by
  cases op with
  | call c =>
    cases hcal : c.callee with
    | builtin b => cases b <;> first | (simp only [core1, hcal]; done) | (simp [isAlloc, hcal] at h; done) | simp only [core1, hcal]
    | _ => simp only [core1, hcal]
  | _ => first | rfl | (simp [isAlloc] at h; done)
theorem core2_nid {op : Op} {n m : Nat} (h : isAlloc op = false) : core2 T op ch s n = core2 T op ch s m := by
  cases op <;> first | rfl | (simp [isAlloc] at h; done) | (rename_i m; cases m <;> rfl)
theorem core3_nid {S : SEnv} {op : Op} {n m : Nat} (h : isAlloc op = false) : core3 S op ch s n = core3 S op ch s m := by
  cases op with
  | call c =>
    cases hcal : c.callee with
    | value f =>
      cases f with
      | func f =>
        simp only [isAlloc, hcal] at h
        simp only [core3, hcal, h]
        cases S.get f <;> rfl
      | _ => simp only [core3, hcal]
    | _ => simp only [core3, hcal]
  | _ => rfl
theorem core_nid {eqs : XE} {op : Op} {n m : Nat} (h : isAlloc op = false) : core G T eqs base op ch s n = core G T eqs base op ch s m := by
  unfold core
  rw [core1_nid h, core2_nid h, core3_nid h]
end
end Go.Proofs.YtnnoplgabnfdiaaGreatDoor.Sh
/- The shadow machine: regions that draw their order. -/
namespace Go.Proofs.YtnnoplgabnfdiaaGreatDoor.Sh
open Go Go.RowKit
set_option linter.unusedVariables false
set_option linter.unusedSimpArgs false

/-! ### What comes ahead of what -/
theorem befores_spec : ∀ (os : List Oper) (acc : List (List Nat)), (befores os acc).length = acc.length + os.length ∧ (∀ q, q < acc.length → (befores os acc).getD q [] = acc.getD q []) ∧
    ∀ q o, os[q]? = some o → ∃ pre : List (List Nat), (∀ x, x < acc.length + q → pre.getD x [] = (befores os acc).getD x []) ∧ (befores os acc).getD (acc.length + q) [] = beforeOf o.after.toList pre
  | [], acc => ⟨by simp [befores], fun q hq => rfl, fun q o h => by simp at h⟩
  | o :: os, acc => by
    obtain ⟨h1, h2, h3⟩ := befores_spec os (acc ++ [beforeOf o.after.toList acc])
    simp only [befores]
    have hacc : ∀ q, q < acc.length → (acc ++ [beforeOf o.after.toList acc]).getD q [] = acc.getD q [] := fun q hq => by
      simp only [List.getD_eq_getElem?_getD]; rw [List.getElem?_append_left hq]
    refine ⟨by rw [h1]; simp; omega, fun q hq => by rw [h2 q (by simp; omega)]; exact hacc q hq, fun q o' hq => ?_⟩
    cases q with
    | zero =>
      simp only [List.getElem?_cons_zero, Option.some.injEq] at hq
      subst hq
      refine ⟨acc, fun x hx => ?_, ?_⟩
      · rw [h2 x (by simp; omega), hacc x (by omega)]
      · rw [Nat.add_zero, h2 _ (by simp)]
        simp [List.getD_eq_getElem?_getD]
    | succ q =>
      simp only [List.getElem?_cons_succ] at hq
      obtain ⟨pre, e1, e2⟩ := h3 q o' hq
      refine ⟨pre, fun x hx => e1 x (by simp; omega), ?_⟩
      have : acc.length + (q + 1) = (acc ++ [beforeOf o.after.toList acc]).length + q := by simp; omega
      rw [this]; exact e2
/-- Of what is known ahead of j: it is ahead of j by an edge, or ahead of such. -/
theorem before_step {all : List Oper} {j k : Nat} {o : Oper} (ho : all[j]? = some o) (hedge : ∀ e ∈ o.after.toList, Region.binds .any e = true → e.on < j) (hk : k ∈ (befores all []).getD j []) : ∃ e ∈ o.after.toList, Region.binds .any e = true ∧ (k = e.on ∨ k ∈ (befores all []).getD e.on []) := by
  obtain ⟨_, _, h3⟩ := befores_spec all []
  obtain ⟨pre, e1, e2⟩ := h3 j o ho
  simp only [List.length_nil, Nat.zero_add] at e1 e2
  rw [e2] at hk
  simp only [beforeOf, List.mem_flatMap] at hk
  obtain ⟨e, he, hk⟩ := hk
  by_cases hb : Region.binds .any e = true
  · rw [if_pos hb] at hk
    refine ⟨e, he, hb, ?_⟩
    rcases List.mem_cons.mp hk with h | h
    · exact .inl h
    · rw [e1 _ (hedge e he hb)] at h; exact .inr h
  · rw [if_neg hb] at hk; simp at hk
structure Static (ops : Array Oper) (flags : List (Nat × Nat)) : Prop where
  edge : ∀ (j : Nat) (o : Oper), ops[j]? = some o → ∀ e ∈ o.after.toList, Region.binds .any e = true → e.on < j
  late : ∀ (j i : Nat) (oj oi : Oper), ops[j]? = some oj → ops[i]? = some oi → j ≤ i → dstIn oi.dst (gslots ops.toList 8 oj) = false
  pair : ∀ (i j : Nat) (oi oj : Oper), i < j → ops[i]? = some oi → ops[j]? = some oj → i ∈ (befores ops.toList []).getD j [] ∨ apartOps ops.toList flags i j oi oj = true
theorem bit_iff (x y : Nat) : (Nat.shiftLeft 1 x).testBit y = true ↔ y = x := by
  show (1 <<< x).testBit y = true ↔ y = x
  rw [Nat.one_shiftLeft, Nat.testBit_two_pow]; simp [eq_comm]
theorem lor_iff (a b y : Nat) : (Nat.lor a b).testBit y = true ↔ a.testBit y = true ∨ b.testBit y = true := by
  show (a ||| b).testBit y = true ↔ _
  rw [Nat.testBit_or]; simp
theorem mask_iff : ∀ (l : List Nat) (y : Nat), (maskOf l).testBit y = true ↔ y ∈ l
  | [], y => by simp [maskOf]
  | x :: r, y => by simp only [maskOf, lor_iff, bit_iff, mask_iff r, List.mem_cons]
theorem land_zero {a b : Nat} (h : Nat.beq (Nat.land a b) 0 = true) (y : Nat) (ha : a.testBit y = true) (hb : b.testBit y = true) : False := by
  have h' : a &&& b = 0 := Nat.eq_of_beq_eq_true h
  have := congrArg (fun n => n.testBit y) h'
  simp [Nat.testBit_and, ha, hb] at this
theorem hasBit_true {m x : Nat} (h : hasBit m x = true) : m.testBit x = true := by
  unfold hasBit at h
  unfold Nat.testBit
  cases hb : (1 &&& (m >>> x)) with
  | zero => exact absurd h (by show ¬ (!Nat.beq (1 &&& (m >>> x)) 0) = true; rw [hb]; simp)
  | succ n => rfl
theorem fBig_eq {R : Sort _} (n : Nat) (k : Nat → R) : fBig n k = k n := by cases n <;> rfl
theorem fApp_eq {α : Type} {R : Sort _} : ∀ (l : List α) (x : α) (k : List α → R), fApp l x k = k (l ++ [x])
  | [], x, k => rfl
  | y :: r, x, k => by simp only [fApp, fApp_eq r, List.cons_append]
theorem nth_getD {α : Type} (d : α) : ∀ (l : List α) (i : Nat), nth d l i = l.getD i d
  | [], i => by simp [nth]
  | x :: r, 0 => rfl
  | x :: r, i + 1 => by simpa [nth] using nth_getD d r i
theorem befMask_spec {acc : List Nat} {accB : List (List Nat)} (hR : ∀ j x, (nth 0 acc j).testBit x = true → x ∈ accB.getD j []) : ∀ (l : List Edge) (x : Nat), (befMask l acc).testBit x = true → x ∈ beforeOf l accB
  | [], x, h => by simp [befMask] at h
  | e :: r, x, h => by
    simp only [befMask] at h
    simp only [beforeOf, List.flatMap_cons, List.mem_append]
    cases hb : Region.binds .any e with
    | false => rw [hb] at h; exact .inr (befMask_spec hR r x h)
    | true =>
      rw [hb] at h
      simp only [cond_true, lor_iff, bit_iff] at h
      rw [if_pos rfl]
      rcases h with (h | h) | h
      · exact .inl (by simp [h])
      · exact .inl (List.mem_cons_of_mem _ (hR _ _ h))
      · exact .inr (befMask_spec hR r x h)
theorem befMasks_spec : ∀ (os : List Oper) (acc : List Nat) (accB : List (List Nat)) (k : List Nat → Bool), acc.length = accB.length → (∀ j x, (nth 0 acc j).testBit x = true → x ∈ accB.getD j []) → befMasks os acc k = true → ∃ bs, k bs = true ∧ ∀ j x, (nth 0 bs j).testBit x = true → x ∈ (befores os accB).getD j []
  | [], acc, accB, k, hl, hR, h => ⟨acc, h, hR⟩
  | o :: os, acc, accB, k, hl, hR, h => by
    simp only [befMasks, fBig_eq, fApp_eq] at h
    refine befMasks_spec os _ (accB ++ [beforeOf o.after.toList accB]) k (by simp [hl]) (fun j x hx => ?_) h
    rw [nth_getD] at hx
    simp only [List.getD_eq_getElem?_getD] at hx ⊢
    rcases Nat.lt_trichotomy j acc.length with e | e | e
    · rw [List.getElem?_append_left e] at hx
      rw [List.getElem?_append_left (by omega)]
      have := hR j x (by rw [nth_getD, List.getD_eq_getElem?_getD]; exact hx)
      rwa [List.getD_eq_getElem?_getD] at this
    · subst e
      rw [List.getElem?_append_right (Nat.le_refl _), Nat.sub_self] at hx
      rw [hl, List.getElem?_append_right (Nat.le_refl _), Nat.sub_self]
      exact befMask_spec hR _ _ hx
    · rw [List.getElem?_eq_none (by simp; omega)] at hx
      simp at hx
def siOf (all : List Oper) (o : Oper) : SI := ⟨maskOf o.dst.toList, Nat.lor (maskOf (tmpsOf o.op)) (maskOf (gslots all 8 o)), maskOf (gslots all 8 o), memClass o.op⟩
theorem siMasks_eq (all : List Oper) : ∀ (os : List Oper) (k : List SI → Bool), siMasks all os k = k (os.map (siOf all))
  | [], k => rfl
  | o :: os, k => by simp only [siMasks, fBig_eq, siMasks_eq all os]; rfl
theorem dstIn_false {d : Option Nat} {l : List Nat} (h : ∀ t, d = some t → t ∈ l → False) : dstIn d l = false := by
  unfold dstIn
  split
  · rename_i t
    cases hb : l.elem t with
    | false => rfl
    | true => exact (h t rfl (by simpa using hb)).elim
  · rfl
theorem apart_of {all : List Oper} {flags : List (Nat × Nat)} {i j : Nat} {oi oj : Oper} (h : apart3 flags i j (siOf all oi) (siOf all oj) = true) : apartOps all flags i j oi oj = true := by
  simp only [apart3, Bool.and_eq_true] at h
  obtain ⟨h1, h2, h3, h4⟩ := h
  have hu : ∀ {o : Oper} {t : Nat}, t ∈ usesOf all o → (siOf all o).u.testBit t = true := fun {o t} ht => by
    simp only [siOf, lor_iff, mask_iff]
    simpa [usesOf] using ht
  have hd : ∀ {o : Oper} {t : Nat}, o.dst = some t → (siOf all o).d.testBit t = true := fun {o t} ht => by simp [siOf, mask_iff, ht]
  simp only [apartOps, Bool.and_eq_true]
  refine ⟨⟨⟨?_, ?_⟩, ?_⟩, ?_⟩
  · rw [dstIn_false fun t e m => land_zero h1 t (hd e) (hu m)]; rfl
  · rw [dstIn_false fun t e m => land_zero h2 t (hd e) (hu m)]; rfl
  · split
    · rename_i t ht
      cases hb : (oj.dst == some t) with
      | false => rfl
      | true => exact (land_zero h3 t (hd ht) (hd (by simpa using hb))).elim
    · rfl
  · simp only [Bool.or_eq_true, Bool.and_eq_true] at h4 ⊢
    simp only [beq_iff_eq]
    rcases h4 with h | h | ⟨h, h'⟩ | h
    · exact .inl (.inl (.inl (Nat.eq_of_beq_eq_true h)))
    · exact .inl (.inl (.inr (Nat.eq_of_beq_eq_true h)))
    · exact .inl (.inr ⟨Nat.eq_of_beq_eq_true h, Nat.eq_of_beq_eq_true h'⟩)
    · exact .inr h
theorem rowOk_spec {flags : List (Nat × Nat)} {sj : SI} {b j : Nat} : ∀ (l : List SI) (i : Nat), rowOk flags sj b j l i = true → ∀ k si, l[k]? = some si → (i + k < j → (hasBit b (i + k) || apart3 flags (i + k) j si sj) = true) ∧ (j ≤ i + k → Nat.beq (Nat.land si.d sj.g) 0 = true)
  | [], i, h, k, si, hk => by simp at hk
  | s :: r, i, h, k, si, hk => by
    simp only [rowOk] at h
    have h2 : rowOk flags sj b j r (i + 1) = true := by
      cases hb : Nat.blt i j <;> rw [hb] at h <;> simp only [cond_true, cond_false, Bool.and_eq_true] at h <;> exact h.2
    cases k with
    | zero =>
      simp only [List.getElem?_cons_zero, Option.some.injEq] at hk
      subst hk
      refine ⟨fun hlt => ?_, fun hle => ?_⟩
      · rw [show Nat.blt i j = true from Nat.ble_eq_true_of_le (by omega)] at h
        simp only [cond_true, Bool.and_eq_true] at h
        exact h.1
      · rw [blt_f (by omega)] at h
        simp only [cond_false, Bool.and_eq_true] at h
        exact h.1
    | succ k =>
      have := rowOk_spec r (i + 1) h2 k si (by simpa using hk)
      rwa [show i + 1 + k = i + (k + 1) by omega] at this
theorem rowsOk_spec {flags : List (Nat × Nat)} {all : List SI} : ∀ (l : List SI) (bs : List Nat) (j : Nat), rowsOk flags all l bs j = true → ∀ k sj, l[k]? = some sj → rowOk flags sj (nth 0 bs k) (j + k) all 0 = true
  | [], bs, j, h, k, sj, hk => by simp at hk
  | s :: r, [], j, h, k, sj, hk => by simp [rowsOk] at h
  | s :: r, b :: bs, j, h, k, sj, hk => by
    simp only [rowsOk, Bool.and_eq_true] at h
    cases k with
    | zero =>
      simp only [List.getElem?_cons_zero, Option.some.injEq] at hk
      subst hk
      exact h.1
    | succ k =>
      have := rowsOk_spec r bs (j + 1) h.2 k sj (by simpa using hk)
      rwa [show j + 1 + k = j + (k + 1) by omega] at this
theorem edgeRows_spec : ∀ (l : List Oper) (j : Nat), edgeRows l j = true → ∀ k o, l[k]? = some o → ∀ e ∈ o.after.toList, Region.binds .any e = true → e.on < j + k
  | [], j, h, k, o, hk => by simp at hk
  | s :: r, j, h, k, o, hk => by
    simp only [edgeRows, Bool.and_eq_true] at h
    cases k with
    | zero =>
      simp only [List.getElem?_cons_zero, Option.some.injEq] at hk
      subst hk
      intro e he hb
      have := List.all_eq_true.mp h.1 e he
      rw [hb] at this
      exact blt_lt (by simpa using this)
    | succ k =>
      have := edgeRows_spec r (j + 1) h.2 k o (by simpa using hk)
      rwa [show j + 1 + k = j + (k + 1) by omega] at this
theorem static_of {ops : Array Oper} {flags : List (Nat × Nat)} (h : staticFast ops flags = true) : Static ops flags := by
  unfold staticFast at h
  rw [Bool.and_eq_true] at h
  obtain ⟨h1, h2⟩ := h
  obtain ⟨bs, h2, h3⟩ := befMasks_spec _ [] [] _ rfl (fun j x hx => by simp [nth] at hx) h2
  rw [siMasks_eq] at h2
  have hl : ∀ {j : Nat} {o : Oper}, ops[j]? = some o → ops.toList[j]? = some o ∧ (ops.toList.map (siOf ops.toList))[j]? = some (siOf ops.toList o) := fun {j o} hj => by
    have : ops.toList[j]? = some o := by simpa using hj
    exact ⟨this, by rw [List.getElem?_map, this]; rfl⟩
  have row : ∀ {i j : Nat} {oi oj : Oper}, ops[i]? = some oi → ops[j]? = some oj → _ := fun {i j oi oj} hi hj => rowOk_spec _ _ (rowsOk_spec _ _ _ h2 j _ (hl hj).2) i _ (hl hi).2
  refine ⟨fun j o hj e he hb => ?_, fun j i oj oi hj hi hji => ?_, fun i j oi oj hij hi hj => ?_⟩
  · have := edgeRows_spec _ _ h1 j o (hl hj).1 e he hb
    omega
  · have := (row hi hj).2 (by omega)
    exact dstIn_false fun t e m => land_zero this t (by simp [siOf, mask_iff, e]) (by simpa [siOf, mask_iff] using m)
  · have := (row hi hj).1 (by omega)
    rw [Nat.zero_add, Nat.zero_add, Bool.or_eq_true] at this
    rcases this with h | h
    · exact .inl (h3 _ _ (hasBit_true h))
    · exact .inr (apart_of h)

/-! ### The run in the text's order -/
def DStep (c : Cfg) (all : List Oper) (o : Oper) (s s' : AState) (rs ws : List Nat) : Prop :=
  (guardSlot all o = some none ∧ ∃ nid ob val upd, core c.G c.T c.eqs c.base o.op [] s nid = some ⟨ob, val, upd, none⟩ ∧ freeAt o.op s.heap nid = true ∧ (∀ p ∈ upd, p.1 < s.heap.length) ∧ classOk o.op rs upd = true ∧ conj ob ∧ rs = idOf o.op nid ++ heapReads [] s o.op ∧ ws = upd.map Prod.fst ∧
    s' = ⟨(AState.put s o.dst val.unguard).tmps, apply upd s.heap⟩) ∨
  (∃ d w, guardSlot all o = some (some (d, w)) ∧ (∀ p ∈ chain s 8 d w, p.1 ∈ gslots all 8 o) ∧ isAlloc o.op = false ∧ ∃ nid ob val, core c.G c.T c.eqs c.base o.op (chain s 8 d w) s nid = some ⟨ob, val, [], none⟩ ∧ classOk o.op rs [] = true ∧ chainCond s (chain s 8 d w) (conj ob) (fun q => q) ∧
    rs = heapReads (chain s 8 d w) s o.op ∧ ws = [] ∧ s' = ⟨(AState.put s o.dst (.when d w val)).tmps, s.heap⟩)
theorem chainCond_both {s : AState} : ∀ (ch : List (Nat × Bool)) (p : Prop) (R : Prop → Prop), chainCond s ch p R → (∀ q, R q → q) → chainCond s ch p (fun q => q) ∧ ∃ q, R q
  | [], p, R, h, hR => ⟨hR _ h, p, h⟩
  | (d, b) :: r, p, R, h, hR => by
    unfold chainCond at h ⊢
    split at h
    · split at h <;> exact chainCond_both r _ R h hR
    · split at h <;> exact chainCond_both r _ R h hR
    · exact chainCond_both r _ R h hR
theorem chainCond_some {s : AState} : ∀ (ch : List (Nat × Bool)) (p : Prop) (R : Prop → Prop), chainCond s ch p R → ∃ q, R q
  | [], p, R, h => ⟨p, h⟩
  | (d, b) :: r, p, R, h => by
    unfold chainCond at h
    split at h
    · split at h <;> exact chainCond_some r _ R h
    · split at h <;> exact chainCond_some r _ R h
    · exact chainCond_some r _ R h
theorem chainCond_true {s : AState} : ∀ (ch : List (Nat × Bool)) (p : Prop), p → chainCond s ch p (fun q => q)
  | [], p, h => h
  | (d, b) :: r, p, h => by
    unfold chainCond
    split
    · split <;> exact chainCond_true r _ fun _ => h
    · split <;> exact chainCond_true r _ fun _ => h
    · exact chainCond_true r _ h
theorem fNs_eq {R : Sort _} : ∀ (l : List Nat) (k : List Nat → R), fNs l k = k l
  | [], k => rfl
  | n :: r, k => by simp only [fNs, fNat_eq, fNs_eq r]
theorem runDraw_sts {c : Cfg} {all : List Oper} {flags : List (Nat × Nat)} : ∀ (os : List Oper) (i nid : Nat) (obs : List Prop) (fs : Foots) (ts : List AV) (h : List AO) (K : AState → Prop), runDraw c all flags os i nid obs fs ts h K →
    ∃ (sts : Nat → AState) (rs ws : Nat → List Nat), sts i = ⟨ts, h⟩ ∧ (∀ q, q < os.length → ∃ o, os[q]? = some o ∧ DStep c all o (sts (i + q)) (sts (i + q + 1)) (rs (i + q)) (ws (i + q))) ∧ conj obs ∧
      flagsOk (fs ++ (List.range os.length).map fun q => (i + q, rs (i + q), ws (i + q))) flags = true ∧ K ⟨(sts (i + os.length)).tmps.map AV.unguard, (sts (i + os.length)).heap⟩
  | [], i, nid, obs, fs, ts, h, K, hr => by
    simp only [runDraw, fL_map (g := AV.unguard) fU1_eq] at hr
    obtain ⟨h1, h2, h3⟩ := need_iff.mp hr
    exact ⟨fun _ => ⟨ts, h⟩, fun _ => [], fun _ => [], rfl, fun q hq => absurd hq (by simp), h1, by simpa using h2, h3⟩
  | o :: os, i, nid, obs, fs, ts, h, K, hr => by
    simp only [runDraw, fP_eq, fA_eq, fL_eq f3_eq, f3_eq, fH_eq, fNs_eq] at hr
    have next : ∀ (obs' : List Prop) (rs0 ws0 : List Nat) (ts' : List AV) (h' : List AO) (nid' : Nat), (conj obs' → DStep c all o ⟨ts, h⟩ ⟨ts', h'⟩ rs0 ws0) → (conj obs' → conj obs) → runDraw c all flags os (i + 1) nid' obs' (fs ++ [(i, rs0, ws0)]) ts' h' K →
        ∃ (sts : Nat → AState) (rs ws : Nat → List Nat), sts i = ⟨ts, h⟩ ∧ (∀ q, q < (o :: os).length → ∃ o', (o :: os)[q]? = some o' ∧ DStep c all o' (sts (i + q)) (sts (i + q + 1)) (rs (i + q)) (ws (i + q))) ∧ conj obs ∧
          flagsOk (fs ++ (List.range (o :: os).length).map fun q => (i + q, rs (i + q), ws (i + q))) flags = true ∧ K ⟨(sts (i + (o :: os).length)).tmps.map AV.unguard, (sts (i + (o :: os).length)).heap⟩ := fun obs' rs0 ws0 ts' h' nid' hD hO hr => by
      obtain ⟨sts, rs, ws, q1, q2, q3, q4, q5⟩ := runDraw_sts os (i + 1) nid' obs' _ ts' h' K hr
      refine ⟨fun q => if q = i then ⟨ts, h⟩ else sts q, fun q => if q = i then rs0 else rs q, fun q => if q = i then ws0 else ws q, by simp, fun q hq => ?_, hO q3, ?_, ?_⟩
      · cases q with
        | zero => exact ⟨o, rfl, by simp [q1]; exact hD q3⟩
        | succ q =>
          obtain ⟨o', a1, a2⟩ := q2 q (by simpa using hq)
          refine ⟨o', a1, ?_⟩
          have e1 : i + (q + 1) ≠ i := by omega
          have e2 : i + (q + 1) + 1 ≠ i := by omega
          simp only [if_neg e1, if_neg e2]
          rw [show i + (q + 1) = i + 1 + q by omega]
          exact a2
      · show flagsOk (fs ++ (List.range (o :: os).length).map (fun q => (i + q, (if i + q = i then rs0 else rs (i + q)), (if i + q = i then ws0 else ws (i + q))))) flags = true
        have : (List.range (o :: os).length).map (fun q => (i + q, (if i + q = i then rs0 else rs (i + q)), (if i + q = i then ws0 else ws (i + q)))) = (i, rs0, ws0) :: (List.range os.length).map fun q => (i + 1 + q, rs (i + 1 + q), ws (i + 1 + q)) := by
          rw [List.length_cons, List.range_succ_eq_map, List.map_cons, List.map_map]
          congr 1
          · simp
          · apply List.map_congr_left
            intro q _
            simp only [Function.comp]
            rw [if_neg (by omega), if_neg (by omega), show i + (q + 1) = i + 1 + q by omega]
        rw [this]
        simpa using q4
      · have e1 : i + (o :: os).length ≠ i := by simp
        simp only [if_neg e1]
        rw [show i + (o :: os).length = i + 1 + os.length by simp; omega]
        exact q5
    split at hr
    · rename_i hgs
      split at hr
      · rename_i ob val upd hcore
        cases hb : (freeAt o.op h nid && (upd.all (fun p => Nat.blt p.1 h.length) && classOk o.op (idOf o.op nid ++ heapReads [] ⟨ts, h⟩ o.op) upd)) with
        | false => rw [hb] at hr; exact hr.elim
        | true =>
          rw [hb] at hr
          simp only [cond_true] at hr
          rw [Bool.and_eq_true, Bool.and_eq_true] at hb
          obtain ⟨b1, b2, b3⟩ := hb
          have hD : conj ob → DStep c all o ⟨ts, h⟩ ⟨(AState.put ⟨ts, h⟩ o.dst val.unguard).tmps, apply upd h⟩ (idOf o.op nid ++ heapReads [] ⟨ts, h⟩ o.op) (upd.map Prod.fst) := fun hob =>
            .inl ⟨hgs, nid, ob, val, upd, hcore, b1, fun p hp => blt_lt (List.all_eq_true.mp b2 p hp), b3, hob, rfl, rfl, rfl⟩
          split at hr
          · exact next _ _ _ _ _ _ (fun _ => hD trivial) id hr
          · exact next _ _ _ _ _ _ (fun hh => hD (conj_append.mp hh).2) (fun hh => (conj_append.mp hh).1) hr
      · exact hr.elim
    · rename_i d w hgs
      cases hb : ((chain ⟨ts, h⟩ 8 d w).all (fun p => (gslots all 8 o).elem p.1) && (!isAlloc o.op && classOk o.op (heapReads (chain ⟨ts, h⟩ 8 d w) ⟨ts, h⟩ o.op) [])) with
      | false => rw [hb] at hr; exact hr.elim
      | true =>
        rw [hb] at hr
        simp only [cond_true] at hr
        rw [Bool.and_eq_true, Bool.and_eq_true] at hb
        obtain ⟨b1, b2, b3⟩ := hb
        split at hr
        · rename_i ob val hcore
          have hD : chainCond ⟨ts, h⟩ (chain ⟨ts, h⟩ 8 d w) (conj ob) (fun q => q) → DStep c all o ⟨ts, h⟩ ⟨(AState.put ⟨ts, h⟩ o.dst (.when d w val)).tmps, h⟩ (heapReads (chain ⟨ts, h⟩ 8 d w) ⟨ts, h⟩ o.op) [] := fun hob =>
            .inr ⟨d, w, hgs, fun p hp => by simpa using List.all_eq_true.mp b1 p hp, by simpa using b2, nid, ob, val, hcore, b3, hob, rfl, rfl, rfl⟩
          cases ob with
          | nil =>
            obtain ⟨q, hq⟩ := chainCond_some _ _ _ hr
            exact next _ _ _ _ _ _ (fun _ => hD (chainCond_true _ _ trivial)) id hq
          | cons p ps =>
            have hall : ∀ q, runDraw c all flags os (i + 1) nid (obs ++ [q]) (fs ++ [(i, heapReads (chain ⟨ts, h⟩ 8 d w) ⟨ts, h⟩ o.op, [])]) (AState.put ⟨ts, h⟩ o.dst (.when d w val)).tmps h K → q := fun q hq => by
              obtain ⟨_, _, _, _, _, hcj, _⟩ := runDraw_sts os _ _ _ _ _ _ K hq
              exact (conj_append.mp hcj).2
            obtain ⟨e1, q, hq⟩ := chainCond_both _ _ _ hr hall
            exact next _ _ _ _ _ _ (fun _ => hD e1) (fun hh => (conj_append.mp hh).1) hq
        · exact hr.elim
    · exact hr.elim
theorem chainCond_mono {s : AState} {R R' : Prop → Prop} (hR : ∀ q, R q → R' q) : ∀ (ch : List (Nat × Bool)) (p : Prop), chainCond s ch p R → chainCond s ch p R'
  | [], p, h => hR _ h
  | (d, b) :: r, p, h => by
    unfold chainCond at h ⊢
    split at h
    · split at h <;> exact chainCond_mono hR r _ h
    · split at h <;> exact chainCond_mono hR r _ h
    · exact chainCond_mono hR r _ h
theorem chainCond_k {s : AState} {A : Prop} : ∀ (ch : List (Nat × Bool)) (p : Prop), A → chainCond s ch p (fun _ => A)
  | [], p, h => h
  | (d, b) :: r, p, h => by
    unfold chainCond
    split
    · split <;> exact chainCond_k r _ h
    · split <;> exact chainCond_k r _ h
    · exact chainCond_k r _ h
theorem draw0 {c : Cfg} {all : List Oper} : ∀ (os : List Oper) (i nid : Nat) (obs : List Prop) (fs : Foots) (ts : List AV) (h : List AO) (K : AState → Prop), runDraw0 c all os nid obs ts h K → runDraw c all [] os i nid obs fs ts h K
  | [], i, nid, obs, fs, ts, h, K, hr => by
    simp only [runDraw0] at hr
    simp only [runDraw]
    rw [need_iff] at hr ⊢
    exact ⟨hr.1, rfl, hr.2⟩
  | o :: os, i, nid, obs, fs, ts, h, K, hr => by
    simp only [runDraw0, fP_eq, fA_eq, fL_eq f3_eq, f3_eq, fH_eq, fNat_eq] at hr
    simp only [runDraw, fP_eq, fA_eq, fL_eq f3_eq, f3_eq, fH_eq, fNs_eq]
    split at hr
    · split at hr
      · rename_i ob val upd hcore
        cases hb : (freeAt o.op h nid && (upd.all (fun p => Nat.blt p.1 h.length) && classOk o.op (idOf o.op nid ++ heapReads [] ⟨ts, h⟩ o.op) upd)) with
        | false => rw [hb] at hr; exact hr.elim
        | true =>
          rw [hb] at hr
          simp only [cond_true] at hr ⊢
          split at hr
          · exact draw0 os _ _ _ _ _ _ K hr
          · exact draw0 os _ _ _ _ _ _ K hr
      · exact hr.elim
    · rename_i d w hgs
      cases hb : ((chain ⟨ts, h⟩ 8 d w).all (fun p => (gslots all 8 o).elem p.1) && (!isAlloc o.op && classOk o.op (heapReads (chain ⟨ts, h⟩ 8 d w) ⟨ts, h⟩ o.op) [])) with
      | false => rw [hb] at hr; exact hr.elim
      | true =>
        rw [hb] at hr
        simp only [cond_true] at hr ⊢
        split at hr
        · rename_i ob val hcore
          cases ob with
          | nil => exact chainCond_k _ _ (draw0 os _ _ _ _ _ _ K hr)
          | cons p ps => exact chainCond_mono (fun q hq => draw0 os _ _ _ _ _ _ K hq) _ _ hr
        · exact hr.elim
    · exact hr.elim
end Go.Proofs.YtnnoplgabnfdiaaGreatDoor.Sh
