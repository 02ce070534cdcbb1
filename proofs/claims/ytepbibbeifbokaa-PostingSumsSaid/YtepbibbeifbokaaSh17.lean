/- The shadow machine: an operation depends on what it names alone. -/
import Derived.Test.YtepbibbeifbokaaSh16
namespace Go.Proofs.Ytepbibbeifbokaa.Sh
open Go Go.RowKit
set_option linter.unusedVariables false
set_option linter.unusedSimpArgs false
section
variable {G : Env} {T : Tab} {eqs : List Nat} {base nid : Nat} {ch : List (Nat × Bool)} {s s' : AState} {look look' : Nat → AO}

theorem ev_local {ch : List (Nat × Bool)} {x : Operand} (h : ∀ t, x = .tmp t → getTmp s t = getTmp s' t) : ev ch s x = ev ch s' x := by
  cases x with
  | tmp t => simp only [ev, h t rfl]
  | _ => rfl
theorem tmpsOf_mem {op : Op} {x : Operand} {t : Nat} (hx : x ∈ op.operands) (ht : x = .tmp t) : t ∈ tmpsOf op := by
  subst ht
  exact List.mem_filterMap.mpr ⟨_, by simpa using hx, rfl⟩
theorem rd_local {v : AV} {m : Nat} (h : ∀ o ∈ touch0 v, look o = look' o) : rd look v m = rd look' v m := by
  cases v <;> simp only [rd]
  rename_i o N s i j
  rw [h o (by simp [touch0])]
theorem freeze1_local {v : AV} (h : ∀ o ∈ touch0 v, look o = look' o) : freeze1 look v = freeze1 look' v ∧ frOb1 look v = frOb1 look' v := by
  cases v <;> try exact ⟨rfl, rfl⟩
  · rename_i o s off len cap
    have e := h o (by simp [touch0])
    exact ⟨by simp only [freeze1, e], by simp only [frOb1, e]⟩
  · rename_i f a b
    cases a <;> cases b <;> exact ⟨rfl, rfl⟩
theorem freeze_local {v : AV} (h : ∀ o ∈ touch v, look o = look' o) : freeze look v = freeze look' v ∧ frOb look v = frOb look' v := by
  by_cases hag : ∃ cs, v = .agg cs
  · obtain ⟨cs, rfl⟩ := hag
    have hx : ∀ x ∈ cs, ∀ o ∈ touch0 x, look o = look' o := fun x hx o ho => h o (List.mem_flatMap.mpr ⟨x, hx, ho⟩)
    refine ⟨?_, ?_⟩
    · simp only [freeze]
      congr 1
      exact List.map_congr_left fun x hx' => (freeze1_local (hx x hx')).1
    · simp only [frOb, List.flatMap]
      congr 1
      exact List.map_congr_left fun x hx' => (freeze1_local (hx x hx')).2
  · have e0 : touch v = touch0 v := by cases v <;> first | rfl | exact absurd ⟨_, rfl⟩ hag
    have e1 : ∀ l : Nat → AO, freeze l v = freeze1 l v := fun l => by cases v <;> first | rfl | exact absurd ⟨_, rfl⟩ hag
    have e2 : ∀ l : Nat → AO, frOb l v = frOb1 l v := fun l => by cases v <;> first | rfl | exact absurd ⟨_, rfl⟩ hag
    rw [e0] at h
    rw [e1, e1, e2, e2]
    exact freeze1_local h
theorem quiet_local {f : FuncId} {vs : List AV} (h : ∀ o ∈ vs.flatMap touch, look o = look' o) : quiet G look f vs = quiet G look' f vs := by
  have hx : ∀ v ∈ vs, ∀ o ∈ touch v, look o = look' o := fun v hv o ho => h o (List.mem_flatMap.mpr ⟨v, hv, ho⟩)
  have e1 : vs.map (freeze look) = vs.map (freeze look') := List.map_congr_left fun v hv => (freeze_local (hx v hv)).1
  have e2 : vs.flatMap (frOb look) = vs.flatMap (frOb look') := by
    simp only [List.flatMap]
    congr 1
    exact List.map_congr_left fun v hv => (freeze_local (hx v hv)).2
  simp only [quiet, e1, e2]
theorem srcRows_local {z : Nat} {y : AV} (h : ∀ o ∈ touch y, look o = look' o) : srcRows look z y = srcRows look' z y := by
  cases y <;> simp only [srcRows]
  rename_i o s off len cap
  rw [h o (by simp [touch, touch0])]
theorem appendOp_local {t : TypeId} {x y : AV} (h : ∀ o ∈ [x, y].flatMap touch, look o = look' o) : appendOp T base look t x y nid = appendOp T base look' t x y nid := by
  have hx : ∀ o ∈ touch x, look o = look' o := fun o ho => h o (by simp [ho])
  have hy : ∀ o ∈ touch y, look o = look' o := fun o ho => h o (by simp [ho])
  unfold appendOp
  split
  · split
    · rw [srcRows_local hy]
      cases hb : (Nat.blt 0 _ && Nat.blt 0 _) with
      | false => rfl
      | true =>
        simp only [cond_true]
        split
        · split
          · rfl
          · rfl
          · rename_i o s len c; rw [hx o (by simp [touch, touch0])]
          · rename_i o s len; rw [hx o (by simp [touch, touch0])]
          · rfl
        · rfl
    · rfl
  · rfl
theorem clearOp_local {t : TypeId} {x : AV} (h : ∀ o ∈ touch x, look o = look' o) : clearOp T look t x = clearOp T look' t x := by
  unfold clearOp
  split
  · rename_i o s off len cap _; rw [h o (by simp [touch, touch0])]
  · rfl
theorem sliceOp_local {t : TypeId} {x : AV} {lo hi : Option AV} (h : ∀ o ∈ touch0 x, look o = look' o) : sliceOp T look t x lo hi = sliceOp T look' t x lo hi := by
  unfold sliceOp
  split
  · rfl
  · rfl
  · rfl
  · rename_i o _; rw [h o (by simp [touch0])]
  · rfl
theorem indexAddrOp_local {t : TypeId} {x y : AV} (h : ∀ o ∈ touch0 x, look o = look' o) : indexAddrOp T look t x y = indexAddrOp T look' t x y := by
  unfold indexAddrOp
  split
  · simp only [touch0, List.mem_singleton, forall_eq] at h; rw [h]
  · simp only [touch0, List.mem_singleton, forall_eq] at h; rw [h]
  · rfl
  · rfl
  · rfl
  · rfl
  · rfl
theorem core_local {op : Op} (hT : ∀ t ∈ tmpsOf op, getTmp s t = getTmp s' t) (hH : ∀ o ∈ heapReads ch s op, nth .free s.heap o = nth .free s'.heap o) :
    core G T eqs base op ch s nid = core G T eqs base op ch s' nid ∧ heapReads ch s op = heapReads ch s' op := by
  have hev : ∀ ch, ∀ x ∈ op.operands, ev ch s x = ev ch s' x := fun ch x hx => ev_local fun t ht => hT t (tmpsOf_mem hx ht)
  cases op with
  | move x => exact ⟨by simp only [core, hev ch x (by simp [Op.operands])], rfl⟩
  | assign x => exact ⟨by simp only [core, hev ch x (by simp [Op.operands])], rfl⟩
  | pick c x y =>
    have h1 := fun ch => hev ch c (by simp [Op.operands])
    have h2 := fun ch => hev ch x (by simp [Op.operands])
    have h3 := fun ch => hev ch y (by simp [Op.operands])
    exact ⟨by simp only [core, h1, h2, h3], rfl⟩
  | alloc t => exact ⟨rfl, rfl⟩
  | box t x => exact ⟨by simp only [core, hev ch x (by simp [Op.operands])], rfl⟩
  | build t ps =>
    have hp : ps.toList.map (fun p => (p.1, ev ch s p.2)) = ps.toList.map (fun p => (p.1, ev ch s' p.2)) := List.map_congr_left fun p hp => by
      rw [hev ch p.2 (by simp only [Op.operands, List.mem_toArray, List.mem_map]; exact ⟨p, hp, rfl⟩)]
    exact ⟨by simp only [core, hp], rfl⟩
  | buildSlice t n ps =>
    have hp : ps.toList.map (fun p => (p.1, ev ch s p.2)) = ps.toList.map (fun p => (p.1, ev ch s' p.2)) := List.map_congr_left fun p hp => by
      rw [hev ch p.2 (by simp only [Op.operands, List.mem_toArray, List.mem_map]; exact ⟨p, hp, rfl⟩)]
    exact ⟨by simp only [core, hp], rfl⟩
  | load t x =>
    have h1 := hev ch x (by simp [Op.operands])
    have h2 : ∀ m, rd (fun o => nth .free s.heap o) (ev ch s x) m = rd (fun o => nth .free s'.heap o) (ev ch s x) m := fun m => rd_local hH
    exact ⟨by simp only [core, ← h1, h2], by simp only [heapReads, h1]⟩
  | store t x y =>
    have h1 := hev ch x (by simp [Op.operands])
    have h2 := hev ch y (by simp [Op.operands])
    refine ⟨?_, by simp only [heapReads, h1]⟩
    simp only [core]
    rw [← h1, ← h2]
    simp only [heapReads] at hH
    cases hx : ev ch s x <;> simp only
    rename_i o N st i j
    rw [hx] at hH
    rw [hH o (by simp [touch0])]
  | nilCheck x => exact ⟨by simp only [core, hev ch x (by simp [Op.operands])], rfl⟩
  | binOp b t x y u => exact ⟨by simp only [core, hev ch x (by simp [Op.operands]), hev ch y (by simp [Op.operands])], rfl⟩
  | unOp b t x => exact ⟨by simp only [core, hev ch x (by simp [Op.operands])], rfl⟩
  | convert t u x => exact ⟨by simp only [core, hev ch x (by simp [Op.operands])], rfl⟩
  | makeInterface t x => exact ⟨by simp only [core, hev ch x (by simp [Op.operands])], rfl⟩
  | makeFunc f xs ys =>
    have h1 : xs.toList.map (ev ch s) = xs.toList.map (ev ch s') := List.map_congr_left fun x hx => hev ch x (by simp only [Op.operands, Array.mem_append]; exact .inl (by simpa using hx))
    have h2 : ys.toList.map (ev ch s) = ys.toList.map (ev ch s') := List.map_congr_left fun x hx => hev ch x (by simp only [Op.operands, Array.mem_append]; exact .inr (by simpa using hx))
    exact ⟨by simp only [core, h1, h2], rfl⟩
  | makeSlice t x y => exact ⟨by simp only [core, hev ch x (by simp [Op.operands]), hev ch y (by simp [Op.operands])], rfl⟩
  | slice t x lo hi mx =>
    have h1 := hev ch x (by simp [Op.operands])
    have ho : ∀ q : Option Operand, (∀ y, q = some y → y ∈ (Op.slice t x lo hi mx).operands) → q.map (ev ch s) = q.map (ev ch s') := fun q hq => by
      cases q with
      | none => rfl
      | some y => simp only [Option.map_some, hev ch y (hq y rfl)]
    have h2 := ho lo (fun y e => by subst e; simp [Op.operands])
    have h3 := ho hi (fun y e => by subst e; simp [Op.operands])
    have h4 := ho mx (fun y e => by subst e; simp [Op.operands])
    refine ⟨?_, by simp only [heapReads, h1]⟩
    simp only [core]
    rw [← h1, ← h2, ← h3, ← h4, sliceOp_local (look := fun o => nth .free s.heap o) (look' := fun o => nth .free s'.heap o) hH]
  | fieldAddr t x f => exact ⟨by simp only [core, hev ch x (by simp [Op.operands])], rfl⟩
  | field t x f => exact ⟨by simp only [core, hev ch x (by simp [Op.operands])], rfl⟩
  | indexAddr t x y =>
    have h1 := hev ch x (by simp [Op.operands])
    have h2 := hev ch y (by simp [Op.operands])
    exact ⟨by simp only [core]; rw [← h1, ← h2, indexAddrOp_local (look := fun o => nth .free s.heap o) (look' := fun o => nth .free s'.heap o) hH], by simp only [heapReads, h1]⟩
  | index t x y => exact ⟨by simp only [core, hev ch x (by simp [Op.operands]), hev ch y (by simp [Op.operands])], rfl⟩
  | extract x i => exact ⟨by simp only [core, hev ch x (by simp [Op.operands])], rfl⟩
  | call c =>
    have ha : c.args.toList.map (ev ch s) = c.args.toList.map (ev ch s') := List.map_congr_left fun x hx => hev ch x (by simp only [Op.operands, Call.operands, Array.mem_append]; exact .inr (by simpa using hx))
    cases hcal : c.callee with
    | value f =>
      have hf := hev ch f (by simp [Op.operands, Call.operands, hcal])
      simp only [heapReads, hcal] at hH ⊢
      refine ⟨?_, by rw [hf, ha]⟩
      simp only [core, hcal]
      rw [← hf, ← ha]
      cases hfv : ev ch s f with
      | fn g first caps =>
        simp only [hfv] at hH
        exact quiet_local hH
      | _ => rfl
    | invoke r m =>
      simp only [heapReads, hcal] at hH ⊢
      exact ⟨by simp only [core, hcal], trivial⟩
    | builtin b =>
      refine ⟨?_, by cases b <;> simp only [heapReads, hcal, ha]⟩
      simp only [heapReads, hcal] at hH
      simp only [core, hcal]
      rw [← ha]
      cases b with
      | append =>
        simp only at hH ⊢
        split
        · rename_i hargs hty
          rw [hargs] at hH
          rw [appendOp_local (look := fun o => nth .free s.heap o) (look' := fun o => nth .free s'.heap o) hH]
        · rfl
      | clear =>
        simp only at hH ⊢
        split
        · rename_i hargs hty
          rw [hargs] at hH
          rw [clearOp_local (look := fun o => nth .free s.heap o) (look' := fun o => nth .free s'.heap o) (fun o ho => hH o (by simpa using ho))]
        · rfl
      | _ => rfl
  | _ => exact ⟨rfl, rfl⟩

theorem core_nid {op : Op} {n m : Nat} (h : isAlloc op = false) : core G T eqs base op ch s n = core G T eqs base op ch s m := by
  cases op with
  | call c =>
    cases hcal : c.callee with
    | builtin b => cases b <;> first | (simp only [core, hcal]; done) | (simp [isAlloc, hcal] at h; done) | simp only [core, hcal]
    | _ => simp only [core, hcal]
  | _ => first | rfl | (simp [isAlloc] at h; done)
end
end Go.Proofs.Ytepbibbeifbokaa.Sh
