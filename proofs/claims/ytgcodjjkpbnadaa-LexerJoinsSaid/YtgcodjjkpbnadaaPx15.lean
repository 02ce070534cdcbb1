-- PRINTED by print.py (a twelfth state) out of the translation. Not trusted: Lean checks it.
import Derived.Test.YtgcodjjkpbnadaaPx0
import Derived.Test.YtgcodjjkpbnadaaPx3
import Derived.Test.YtgcodjjkpbnadaaPx11
import Derived.Test.YtgcodjjkpbnadaaPx14
namespace Go.Proofs.Ytgcodjjkpbnadaa.P
open Go.RowKit Go.Proofs.YtgcodjjkpbnadaaW.PrintWords Go.Proofs.YtgcodjjkpbnadaaW.PrintLast Go.Proofs.YtgcodjjkpbnadaaW.PrintMore
attribute [local go_sem] max2_int min2_int max_two min_two max_three min_three max_four min_four   -- for this text's walks alone
set_option linter.unusedVariables false
set_option linter.unusedSimpArgs false

/-! ### lexer_All: function 9 -/
set_option maxHeartbeats 1000000 in
set_option maxRecDepth 100000 in
theorem all1_idle (a b c : Addr) (w : World) :
    CallsD Try.prog 12 #[.pointer (some a), .pointer (some b), .pointer (some c)] .returning w fun e u' w' => e = .returned (.tuple #[]) ∧ u' = .returning ∧ w = w' := by
  refine callsD_of_wpS Try.func12 rfl fun c₀ cs hu => ?_
  apply wpS_seq
  apply wpS_region
  simp [wpOpsS, go_sem, recoverD, hu, Try.ntmps12, Exit.thenS]
  refine wpS_of_wp ?_
  go_wp2
  cases c₀
  simp_all [bodyPostS, results, Try.results12]
set_option maxHeartbeats 1000000 in
set_option maxRecDepth 100000 in
theorem all1_catch (ga gb gc : Nat) (v0 : Value) (n1 n2 p e : Int) (w0 w : World) (hB : Below w0.heap.size w0 w) (ha : w.heap[ga]? = some (.cells #[v0] 23 (0, 0))) (hb : w.heap[gb]? = some (.cells #[.int .i64 n1] 3 (0, 0))) (hc : w.heap[gc]? = some (.cells #[.int .i64 n2] 24 (0, 0)))
    (la : w0.heap.size ≤ ga) (lb : w0.heap.size ≤ gb) (lc : w0.heap.size ≤ gc) :
    CallsD Try.prog 12 #[.pointer (some ⟨ga, 0, none⟩), .pointer (some ⟨gb, 0, none⟩), .pointer (some ⟨gc, 0, none⟩)] (.panicking [{ v := .iface 35 (.agg #[.int .i64 p, .int .i64 e]), recovered := false }]) w fun e' u' w' => e' = .returned (.tuple #[]) ∧ u' = .panicking [{ v := .iface 35 (.agg #[.int .i64 p, .int .i64 e]), recovered := true }] ∧
      Below w0.heap.size w0 w' ∧ w'.heap[ga]? = some (.cells #[.slice none 0 0] 23 (0, 0)) ∧ w'.heap[gb]? = some (.cells #[.int .i64 p] 3 (0, 0)) ∧ w'.heap[gc]? = some (.cells #[.int .i64 e] 24 (0, 0)) := by
  refine callsD_of_wpS Try.func12 rfl fun c₀ cs hu => ?_
  apply wpS_seq
  apply wpS_region
  simp [wpOpsS, go_sem, recoverD, hu, Try.ntmps12, Exit.thenS]
  have hta : ∀ (v : Value) (W : World), (Instr.typeAssert (.iface 35 v) 20 35 true).run Try.prog W = .ok (.tuple #[v, .bool true]) W := fun v W => by rfl
  have hca := blk_cell ha 0
  have hcb := blk_cell hb 0
  have hcc := blk_cell hc 0
  have hfa := blk_frozen ha 0
  have hfb := blk_frozen hb 0
  have hfc := blk_frozen hc 0
  simp only [List.getElem?_toArray, List.getElem?_cons_zero] at hca hcb hcc
  have ne_ab : ga ≠ gb := blk_ne ha hb (by decide)
  have ne_ac : ga ≠ gc := blk_ne ha hc (by decide)
  have ne_bc : gb ≠ gc := blk_ne hb hc (by decide)
  have la1 := blk_lt ha
  have lb1 := blk_lt hb
  have lc1 := blk_lt hc
  have HA := Aside0.mk ha
  have HBB := Aside0.mk hb
  have HC := Aside0.mk hc
  have HB := Aside0.mk hB
  clear ha hb hc hB
  refine wpS_of_wp ?_
  change Code.wp Try.prog _ _ ⟨#[.pointer (some ⟨ga, 0, none⟩), .pointer (some ⟨gb, 0, none⟩), .pointer (some ⟨gc, 0, none⟩), undef, undef, undef, .iface 35 (.agg #[.int .i64 p, .int .i64 e]), undef, undef, undef, undef, undef, undef, undef, undef, undef], []⟩ w
  go_wp2
  have BX := blk_new w (.cells #[.int .i64 p, .int .i64 e] 35 (0, 0))
  have BA := blk_alloc HA.out (.cells #[.int .i64 p, .int .i64 e] 35 (0, 0))
  have BB := blk_alloc HBB.out (.cells #[.int .i64 p, .int .i64 e] 35 (0, 0))
  have BC := blk_alloc HC.out (.cells #[.int .i64 p, .int .i64 e] 35 (0, 0))
  have HB1 := below_alloc HB.out (.cells #[.int .i64 p, .int .i64 e] 35 (0, 0))
  have nx_a : w.heap.size ≠ ga := by omega
  have nx_b : w.heap.size ≠ gb := by omega
  have nx_c : w.heap.size ≠ gc := by omega
  clear HA HBB HC HB hca hcb hcc hfa hfb hfc la1 lb1 lc1 hta
  generalize w.alloc (.cells #[.int .i64 p, .int .i64 e] 35 (0, 0)) = w1 at BX BA BB BC HB1 ⊢
  generalize w.heap.size = gx at BX nx_a nx_b nx_c ⊢
  have hx0 : w1.cell? ⟨gx, 0, none⟩ = some (.int .i64 p) := (blk_cell BX 0).trans rfl
  have hx1 : w1.cell? ⟨gx, 1, none⟩ = some (.int .i64 e) := (blk_cell BX 1).trans rfl
  have hca : w1.cell? ⟨ga, 0, none⟩ = some v0 := (blk_cell BA 0).trans rfl
  have hcb : w1.cell? ⟨gb, 0, none⟩ = some (.int .i64 n1) := (blk_cell BB 0).trans rfl
  have hcc : w1.cell? ⟨gc, 0, none⟩ = some (.int .i64 n2) := (blk_cell BC 0).trans rfl
  have hfa := blk_frozen BA 0
  have hfb := blk_frozen BB 0
  have hfc := blk_frozen BC 0
  have BA := Aside0.mk BA
  have BB := Aside0.mk BB
  have BC := Aside0.mk BC
  have HB1 := Aside0.mk HB1
  have L0 := Aside0.mk la
  have L1 := Aside0.mk lb
  have L2 := Aside0.mk lc
  clear BX la lb lc
  go_region
  refine ⟨rfl, _, rfl, .tuple #[], by simp [results, Try.results12, go_sem], rfl, rfl, ?_, ?_, ?_, ?_⟩
  · exact below_drew (below_set (below_set (below_set HB1.out L0.out) L1.out) L2.out)
  · exact blk_drew (blk_far (blk_far (blk_put BA.out 0 _ rfl) ne_ab _) ne_ac _)
  · exact blk_drew (blk_far (blk_put (blk_far BB.out (Ne.symm ne_ab) _) 0 _ rfl) ne_bc _)
  · exact blk_drew (blk_put (blk_far (blk_far BC.out (Ne.symm ne_ac) _) (Ne.symm ne_bc) _) 0 _ rfl)
def lexer_All.l0 (s : ByteArray) : Nat → Int → List S29 → Option (List S29 × Int × Int)
  | 0, _, _ => none
  | k + 1, x, l => (lexer_lexer_next.f k s x).bind fun b => match b.1 with
    | none => some ([], b.2, 6)
    | some t => if l.length < 4398046511104 then (if t.f0 = 0 then some (l ++ [t], 0, 0) else lexer_All.l0 s k b.2 (l ++ [t])) else none
def lexer_All.f (k : Nat) (s : ByteArray) : Option (List S29 × Int × Int) := if (s.size : Int) > 20000 then some ([], 0, 3) else lexer_All.l0 s k 0 []
theorem lexer_All.mono_l (s : ByteArray) : ∀ k x l, LeO (lexer_All.l0 s k x l) (lexer_All.l0 s (k + 1) x l)
  | 0, _, _ => fun r h => by simp [lexer_All.l0] at h
  | k + 1, x, l => by
    have ih := lexer_All.mono_l s k
    unfold lexer_All.l0
    refine LeO.bind (lexer_lexer_next.mono s x k) (fun b => ?_)
    split
    · exact LeO.refl _
    · repeat' first
      | exact ih _ _
      | exact LeO.refl _
      | exact LeO.none _
      | refine LeO.ite ?_ ?_
theorem lexer_All.mono : ∀ a0 k, LeO (lexer_All.f k a0) (lexer_All.f (k + 1) a0) := by
  intro s k
  unfold lexer_All.f
  repeat' first
      | exact lexer_All.mono_l _ _ _ _
      | exact LeO.refl _
      | refine LeO.ite ?_ ?_

theorem end_results (ga gb gc : Nat) (v : Value) (n1 n2 : Int) (tmps : Array Value) (w : World) (h2 : tmps[2]? = some (.pointer (some ⟨ga, 0, none⟩))) (h3 : tmps[3]? = some (.pointer (some ⟨gb, 0, none⟩))) (h4 : tmps[4]? = some (.pointer (some ⟨gc, 0, none⟩)))
    (ha : w.heap[ga]? = some (.cells #[v] 23 (0, 0))) (hb : w.heap[gb]? = some (.cells #[.int .i64 n1] 3 (0, 0))) (hc : w.heap[gc]? = some (.cells #[.int .i64 n2] 24 (0, 0))) :
    (results Try.f9 tmps).run Try.prog w = .ok (.tuple #[v, .int .i64 n1, .int .i64 n2]) w := by
  have hca : w.cell? ⟨ga, 0, none⟩ = some v := (blk_cell ha 0).trans rfl
  have hcb : w.cell? ⟨gb, 0, none⟩ = some (.int .i64 n1) := (blk_cell hb 0).trans rfl
  have hcc : w.cell? ⟨gc, 0, none⟩ = some (.int .i64 n2) := (blk_cell hc 0).trans rfl
  simp [results, Try.results9, go_sem, h2, h3, h4, hca, hcb, hcc]
set_option maxHeartbeats 4000000 in
set_option maxRecDepth 100000 in
theorem lexer_All.calls (k : Nat) (a0 : ByteArray) (r1 : List (S29)) (r2 : Int) (r3 : Int) (w : World) (h : lexer_All.f k a0 = some (r1, r2, r3)) :
    Calls Try.prog 9 #[.string a0] w fun e w' => ∃ v0_ : Value, e = .returned (.tuple #[v0_, .int .i64 r2, .int .i64 r3]) ∧ Kd.R k29 29 w' w.heap.size (fun _ => True) v0_ r1 ∧ Below w.heap.size w w' := by
  have hmf : ∀ (fn : Fn) (first cap : Array Value) (w : World), (Instr.makeFunc fn first cap).run Try.prog w = .ok (.func fn first cap) w := fun _ _ _ _ => rfl
  have hpan : ∀ (v : Value) (W : World), (Instr.panic (.iface 35 v)).run Try.prog W = .halt (.panic (.iface 35 v)) W := fun _ _ => rfl
  have HB := Aside0.mk (Below.refl w.heap.size w)
  unfold lexer_All.f at h
  by_cases hs : (a0.size : Int) > 20000
  · rw [if_pos hs] at h
    simp only [Option.some.injEq, Prod.mk.injEq] at h
    obtain ⟨rfl, rfl, rfl⟩ := h
    go_enter_defers Try.func9, Try.ntmps9
    go_wp2_with (first | ((with_reducible refine gate_dst (N := 2) rfl ?_); refine box_event ?hg (N := 2) ?hd (cs := #[.slice none 0 0]) (t := 23) ?hr ?_; (case hd => rfl); (case hg => rfl); (case hr => first | (go_simp; done) | (go_simp; rfl)); intro ga hg_ w1 hbox hb; have Lga := Aside0.mk (show w.heap.size ≤ ga from by rw [hg_]; exact HB.out.size); have n_ := Aside0.mk (below_step HB.out hb); clear HB; have HB := n_; clear n_; have Bga := Aside0.mk hbox; clear hg_ hb hbox) | ((with_reducible refine gate_dst (N := 3) rfl ?_); refine box_event ?hg (N := 3) ?hd (cs := #[.int .i64 0]) (t := 3) ?hr ?_; (case hd => rfl); (case hg => rfl); (case hr => first | (go_simp; done) | (go_simp; rfl)); intro gb hg_ w2 hbox hb; have Lgb := Aside0.mk (show w.heap.size ≤ gb from by rw [hg_]; exact HB.out.size); have n_ := Aside0.mk (below_step HB.out hb); clear HB; have HB := n_; clear n_; have Bgb := Aside0.mk hbox; have Ngagb := Aside0.mk (show ga ≠ gb from by have := blk_lt Bga.out; omega); have m_ := Aside0.mk (blk_below Bga.out hb); clear Bga; have Bga := m_; clear m_; clear hg_ hb hbox) | ((with_reducible refine gate_dst (N := 4) rfl ?_); refine box_event ?hg (N := 4) ?hd (cs := #[.int .i64 0]) (t := 24) ?hr ?_; (case hd => rfl); (case hg => rfl); (case hr => first | (go_simp; done) | (go_simp; rfl)); intro gc hg_ w3 hbox hb; have Lgc := Aside0.mk (show w.heap.size ≤ gc from by rw [hg_]; exact HB.out.size); have n_ := Aside0.mk (below_step HB.out hb); clear HB; have HB := n_; clear n_; have Bgc := Aside0.mk hbox; have Ngagc := Aside0.mk (show ga ≠ gc from by have := blk_lt Bga.out; omega); have m_ := Aside0.mk (blk_below Bga.out hb); clear Bga; have Bga := m_; clear m_; have Ngbgc := Aside0.mk (show gb ≠ gc from by have := blk_lt Bgb.out; omega); have m_ := Aside0.mk (blk_below Bgb.out hb); clear Bgb; have Bgb := m_; clear m_; clear hg_ hb hbox))
    refine leaves_cons (f := 12) (args := #[.pointer (some ⟨ga, 0, none⟩), .pointer (some ⟨gb, 0, none⟩), .pointer (some ⟨gc, 0, none⟩)]) (by simp) (by simp [go_sem]) ?_
    refine (all1_catch ga gb gc _ _ _ 0 3 w _ HB.out Bga.out Bgb.out Bgc.out Lga.out Lgb.out Lgc.out).mono ?_
    rintro e u' w' ⟨rfl, rfl, hB', ha', hb', hc'⟩
    exact ⟨_, end_results ga gb gc _ _ _ _ _ rfl rfl rfl ha' hb' hc', _, rfl, Kd.R_nil _ _ _ _ _, hB'⟩
  · rw [if_neg hs] at h
    have h' := Aside0.mk h
    have hs1 : a0.size ≤ 20000 := by omega
    have hsd : decide ((a0.size : Int) > 20000) = false := decide_eq_false hs
    have HS := Aside0.mk hs1
    clear h hs1 hs
    go_enter_defers Try.func9, Try.ntmps9
    go_wp2_with (first | ((with_reducible refine gate_dst (N := 2) rfl ?_); refine box_event ?hg (N := 2) ?hd (cs := #[.slice none 0 0]) (t := 23) ?hr ?_; (case hd => rfl); (case hg => rfl); (case hr => first | (go_simp; done) | (go_simp; rfl)); intro ga hg_ w1 hbox hb; have Lga := Aside0.mk (show w.heap.size ≤ ga from by rw [hg_]; exact HB.out.size); have n_ := Aside0.mk (below_step HB.out hb); clear HB; have HB := n_; clear n_; have Bga := Aside0.mk hbox; clear hg_ hb hbox) | ((with_reducible refine gate_dst (N := 3) rfl ?_); refine box_event ?hg (N := 3) ?hd (cs := #[.int .i64 0]) (t := 3) ?hr ?_; (case hd => rfl); (case hg => rfl); (case hr => first | (go_simp; done) | (go_simp; rfl)); intro gb hg_ w2 hbox hb; have Lgb := Aside0.mk (show w.heap.size ≤ gb from by rw [hg_]; exact HB.out.size); have n_ := Aside0.mk (below_step HB.out hb); clear HB; have HB := n_; clear n_; have Bgb := Aside0.mk hbox; have Ngagb := Aside0.mk (show ga ≠ gb from by have := blk_lt Bga.out; omega); have m_ := Aside0.mk (blk_below Bga.out hb); clear Bga; have Bga := m_; clear m_; clear hg_ hb hbox) | ((with_reducible refine gate_dst (N := 4) rfl ?_); refine box_event ?hg (N := 4) ?hd (cs := #[.int .i64 0]) (t := 24) ?hr ?_; (case hd => rfl); (case hg => rfl); (case hr => first | (go_simp; done) | (go_simp; rfl)); intro gc hg_ w3 hbox hb; have Lgc := Aside0.mk (show w.heap.size ≤ gc from by rw [hg_]; exact HB.out.size); have n_ := Aside0.mk (below_step HB.out hb); clear HB; have HB := n_; clear n_; have Bgc := Aside0.mk hbox; have Ngagc := Aside0.mk (show ga ≠ gc from by have := blk_lt Bga.out; omega); have m_ := Aside0.mk (blk_below Bga.out hb); clear Bga; have Bga := m_; clear m_; have Ngbgc := Aside0.mk (show gb ≠ gc from by have := blk_lt Bgb.out; omega); have m_ := Aside0.mk (blk_below Bgb.out hb); clear Bgb; have Bgb := m_; clear m_; clear hg_ hb hbox) | ((with_reducible refine gate_dst (N := 15) rfl ?_); refine box_event ?hg (N := 15) ?hd (cs := #[.string a0, .int .i64 0]) (t := 38) ?hr ?_; (case hd => rfl); (case hg => rfl); (case hr => first | (go_simp; done) | (go_simp; rfl)); intro gx hg_ w4 hbox hb; have Lgx := Aside0.mk (show w.heap.size ≤ gx from by rw [hg_]; exact HB.out.size); have n_ := Aside0.mk (below_step HB.out hb); clear HB; have HB := n_; clear n_; have Bgx := Aside0.mk hbox; have Ngagx := Aside0.mk (show ga ≠ gx from by have := blk_lt Bga.out; omega); have m_ := Aside0.mk (blk_below Bga.out hb); clear Bga; have Bga := m_; clear m_; have Ngbgx := Aside0.mk (show gb ≠ gx from by have := blk_lt Bgb.out; omega); have m_ := Aside0.mk (blk_below Bgb.out hb); clear Bgb; have Bgb := m_; clear m_; have Ngcgx := Aside0.mk (show gc ≠ gx from by have := blk_lt Bgc.out; omega); have m_ := Aside0.mk (blk_below Bgc.out hb); clear Bgc; have Bgc := m_; clear m_; clear hg_ hb hbox))
    go_loopg [6] k (fun kq v6 w' => ∃ (x : Int) (l : List S29) (v : Value), Aside0 (lexer_All.l0 a0 kq x l = some (r1, r2, r3)) ∧ Aside0 (kq ≤ k) ∧ Aside0 (IsS38 w w' gx a0 x) ∧ Aside0 (w'.heap[ga]? = some (.cells #[v] 23 (0, 0))) ∧ Aside0 (w'.heap[gb]? = some (.cells #[.int .i64 0] 3 (0, 0))) ∧ Aside0 (w'.heap[gc]? = some (.cells #[.int .i64 0] 24 (0, 0))) ∧ Aside0 (Kd.R k29 29 w' w.heap.size (fun k => k ≠ ga ∧ k ≠ gb ∧ k ≠ gc ∧ k ≠ gx) v l) ∧ Aside0 (Below w.heap.size w w'))
    case atStart => exact ⟨0, [], .slice none 0 0, h', ⟨Nat.le_refl _⟩, ⟨⟨Bgx.out, Lgx.out⟩⟩, Bga, Bgb, Bgc, ⟨Kd.R_nil _ _ _ _ _⟩, HB⟩
    case round =>
      clear h' HB Bga Bgb Bgc Bgx
      obtain ⟨x, l, v, HA, HK1, HX, Bga, Bgb, Bgc, HR, HB⟩ := hrel
      cases gk with
      | zero => exact absurd HA.out (by simp [lexer_All.l0])
      | succ k1 =>
        have H := HA.out
        clear HA
        simp only [lexer_All.l0] at H
        obtain ⟨⟨t?, y⟩, hn, H⟩ := Option.bind_eq_some_iff.mp H
        cases t? with
        | none =>
          simp only [Option.some.injEq, Prod.mk.injEq] at H
          obtain ⟨rfl, rfl, rfl⟩ := H
          have HN := Aside0.mk hn
          clear hn
          go_wp2_with fail
          refine (next_bad k1 gx a0 x y w _ HS.out HX.out HB.out HN.out).mono ?_
          rintro e w5 ⟨rfl, hI1, hB1, hK1⟩
          refine leaves_cons (f := 12) (args := #[.pointer (some ⟨ga, 0, none⟩), .pointer (some ⟨gb, 0, none⟩), .pointer (some ⟨gc, 0, none⟩)]) (by simp) (by simp [go_sem]) ?_
          refine (all1_catch ga gb gc _ _ _ y 6 w _ hB1 (hK1.blk Bga.out Ngagx.out (by simp)) (hK1.blk Bgb.out Ngbgx.out (by simp)) (hK1.blk Bgc.out Ngcgx.out (by simp)) Lga.out Lgb.out Lgc.out).mono ?_
          rintro e u' w' ⟨rfl, rfl, hB', ha', hb', hc'⟩
          exact ⟨_, end_results ga gb gc _ _ _ _ _ rfl rfl rfl ha' hb' hc', _, rfl, Kd.R_nil _ _ _ _ _, hB'⟩
        | some t =>
          simp only at H
          have HN := Aside0.mk hn
          clear hn
          by_cases hl : l.length < 4398046511104
          · rw [if_pos hl] at H
            have HL := Aside0.mk hl
            clear hl
            by_cases h0 : t.f0 = 0
            · rw [if_pos h0] at H
              simp only [Option.some.injEq, Prod.mk.injEq] at H
              obtain ⟨rfl, rfl, rfl⟩ := H
              have e0 : (t.f0 == 0) = true := beq_iff_eq.mpr h0
              clear h0
              go_wp2_with (first | ((with_reducible refine gate_callee (f := 13) rfl ?_); refine goesL_ (some 17) rfl rfl Try.func13 (by kernel_rfl) rfl #[.pointer (some ⟨gx, 0, none⟩)] rfl (by (try simp only [List.map_toArray, List.map_cons, List.map_nil]); first | done | rfl) ?_; (with_reducible refine (next_ok k1 gx a0 x y t w _ HS.out HX.out HB.out HN.out).mono ?_); rintro e w5 ⟨rfl, hI1, hB1, hK1⟩; refine ⟨_, rfl, ?_⟩; have HX1 := Aside0.mk hI1; have HB1 := Aside0.mk hB1; have HR1 := Aside0.mk (Kd.R_keep HR.out hK1 (fun _ hk => hk.2.2.2)); have mga := Aside0.mk (hK1.blk Bga.out Ngagx.out (by simp)); have mgb := Aside0.mk (hK1.blk Bgb.out Ngbgx.out (by simp)); have mgc := Aside0.mk (hK1.blk Bgc.out Ngcgx.out (by simp)); clear HX HB HR Bga Bgb Bgc hI1 hB1 hK1; have HX := HX1; have HB := HB1; have HR := HR1; have Bga := mga; have Bgb := mgb; have Bgc := mgc; clear HX1 HB1 HR1 mga mgb mgc) | ((with_reducible refine gate_dst (N := 6) rfl ?_); refine box_event ?hg (N := 6) ?hd (cs := #[.int .i64 0, .int .i64 0, .string (⟨#[]⟩ : ByteArray)]) (t := 29) ?hr ?_; (case hd => rfl); (case hg => rfl); (case hr => first | (go_simp; done) | (go_simp; rfl)); intro gt hg_ w6 hbox hb; have Lgt := Aside0.mk (show w.heap.size ≤ gt from by rw [hg_]; exact HB.out.size); have n_ := Aside0.mk (below_step HB.out hb); have HX1 := Aside0.mk (HX.out.below hb); have NXT := Aside0.mk (show gx ≠ gt from by have := HX.out.lt; omega); have HR1 := Aside0.mk (Kd.R_below (Kd.R_elderB HR.out gt (Nat.le_of_eq hg_.symm)) hb); have Ngagt := Aside0.mk (show ga ≠ gt from by have := blk_lt Bga.out; omega); have mga := Aside0.mk (blk_below Bga.out hb); have Ngbgt := Aside0.mk (show gb ≠ gt from by have := blk_lt Bgb.out; omega); have mgb := Aside0.mk (blk_below Bgb.out hb); have Ngcgt := Aside0.mk (show gc ≠ gt from by have := blk_lt Bgc.out; omega); have mgc := Aside0.mk (blk_below Bgc.out hb); clear HX HB HR Bga Bgb Bgc; have HX := HX1; have HB := n_; have HR := HR1; have Bgt := Aside0.mk hbox; have Bga := mga; have Bgb := mgb; have Bgc := mgc; clear HX1 n_ HR1 mga mgb mgc hg_ hb hbox; have f0 := blk_frozen Bgt.out 0; have f1 := blk_frozen Bgt.out 1; have f2 := blk_frozen Bgt.out 2; have c0 : w6.cell? ⟨gt, 0, none⟩ = some (.int .i64 0) := (blk_cell Bgt.out 0).trans rfl; have c1 : w6.cell? ⟨gt, 1, none⟩ = some (.int .i64 0) := (blk_cell Bgt.out 1).trans rfl; have c2 : w6.cell? ⟨gt, 2, none⟩ = some (.string (⟨#[]⟩ : ByteArray)) := (blk_cell Bgt.out 2).trans rfl; have HB4 := Aside0.mk (show Below w.heap.size w (((w6.setCell ⟨gt, 0, none⟩ (.int .i64 t.f0)).setCell ⟨gt, 1, none⟩ (.int .i64 t.f1)).setCell ⟨gt, 2, none⟩ (.string t.f2)) from below_set (below_set (below_set HB.out Lgt.out) Lgt.out) Lgt.out); have HR4 := Aside0.mk (Kd.R_far (p := ⟨gt, 2, none⟩) (Kd.R_far (p := ⟨gt, 1, none⟩) (Kd.R_far (p := ⟨gt, 0, none⟩) HR.out (fun _ hk => hk.2) (.int .i64 t.f0)) (fun _ hk => hk.2) (.int .i64 t.f1)) (fun _ hk => hk.2) (.string t.f2)); have Bga4 := Aside0.mk (blk_far (p := ⟨gt, 2, none⟩) (blk_far (p := ⟨gt, 1, none⟩) (blk_far (p := ⟨gt, 0, none⟩) Bga.out Ngagt.out (.int .i64 t.f0)) Ngagt.out (.int .i64 t.f1)) Ngagt.out (.string t.f2)); have Bgb4 := Aside0.mk (blk_far (p := ⟨gt, 2, none⟩) (blk_far (p := ⟨gt, 1, none⟩) (blk_far (p := ⟨gt, 0, none⟩) Bgb.out Ngbgt.out (.int .i64 t.f0)) Ngbgt.out (.int .i64 t.f1)) Ngbgt.out (.string t.f2)); have Bgc4 := Aside0.mk (blk_far (p := ⟨gt, 2, none⟩) (blk_far (p := ⟨gt, 1, none⟩) (blk_far (p := ⟨gt, 0, none⟩) Bgc.out Ngcgt.out (.int .i64 t.f0)) Ngcgt.out (.int .i64 t.f1)) Ngcgt.out (.string t.f2)); have HX4 := Aside0.mk (((HX.out.far (p := ⟨gt, 0, none⟩) NXT.out (.int .i64 t.f0)).far (p := ⟨gt, 1, none⟩) NXT.out (.int .i64 t.f1)).far (p := ⟨gt, 2, none⟩) NXT.out (.string t.f2)); have Bgt4 := Aside0.mk (blk_put (cs := #[.int .i64 t.f0, .int .i64 t.f1, .string (⟨#[]⟩ : ByteArray)]) (blk_put (cs := #[.int .i64 t.f0, .int .i64 0, .string (⟨#[]⟩ : ByteArray)]) (blk_put (cs := #[.int .i64 0, .int .i64 0, .string (⟨#[]⟩ : ByteArray)]) Bgt.out 0 (.int .i64 t.f0) rfl) 1 (.int .i64 t.f1) rfl) 2 (.string t.f2) rfl); have hda : (((w6.setCell ⟨gt, 0, none⟩ (.int .i64 t.f0)).setCell ⟨gt, 1, none⟩ (.int .i64 t.f1)).setCell ⟨gt, 2, none⟩ (.string t.f2)).cell? ⟨ga, 0, none⟩ = some v := (blk_cell Bga4.out 0).trans rfl) | ((with_reducible refine gate_builtin (b := .append) (xs := #[.tmp 18, .tmp 20]) rfl ?_); at_builtin; refine Kd.R_append k29 (w0 := w) w.heap.size rfl (.tmp 18) (.tmp 20) 23 29 (.agg #[(.int .i64 0), (.int .i64 0), (.string ⟨#[]⟩)]) 32 rfl Try.underlying23 info29 rfl (by decide) (by omega) v l t [.int .i64 t.f0, .int .i64 t.f1, .string t.f2] (fun k => (k ≠ ga ∧ k ≠ gb ∧ k ≠ gc ∧ k ≠ gx) ∧ k ≠ gt) (fun _ => False) rfl ?aX ?aP (fun _ hk => hk.elim) ?aF ?aO ?aB ?aS ?aL ?_; (case aX => simp [Act.eval]); (case aP => exact k29_mkM _ _ _ t); (case aB => exact HB4.out); (case aF => intro k hk; have l1 := blk_lt Bga4.out; have l2 := blk_lt Bgb4.out; have l3 := blk_lt Bgc4.out; have l4 := HX4.out.lt; have l5 := blk_lt Bgt4.out; exact ⟨⟨by omega, by omega, by omega, by omega⟩, by omega⟩); (case aO => exact HR4.out); (case aS => exact HB4.out.size); (case aL => have := HL.out; omega); intro v1 w8 ho hb hg hat; obtain ⟨Av, cv, rfl⟩ := Kd.R_slice ho; have Bga8 := Aside0.mk (blk_grown Bga4.out hg (fun e_ => absurd rfl (HR4.out.1 _ e_.symm).1.1)); have Bgb8 := Aside0.mk (blk_grown Bgb4.out hg (fun e_ => absurd rfl (HR4.out.1 _ e_.symm).1.2.1)); have Bgc8 := Aside0.mk (blk_grown Bgc4.out hg (fun e_ => absurd rfl (HR4.out.1 _ e_.symm).1.2.2.1)); have Bgt8 := Aside0.mk (blk_grown Bgt4.out hg (fun e_ => absurd rfl (HR4.out.1 _ e_.symm).2)); have HX8 := Aside0.mk (HX4.out.grown hg (fun e_ => absurd rfl (HR4.out.1 _ e_.symm).1.2.2.2)); have HR8 := Aside0.mk ho; have HB8 := Aside0.mk hb; clear ho hb hg hat hda c0 c1 c2 f0 f1 f2 HB HR HX Bga Bgb Bgc Bgt HB4 HR4 HX4 Bga4 Bgb4 Bgc4 Bgt4; have hda := blk_cell Bga8.out 0; have hfa := blk_frozen Bga8.out 0; have ht0 := blk_cell Bgt8.out 0; have hfb := blk_frozen Bgb8.out 0; have hfc := blk_frozen Bgc8.out 0; have hdb := blk_cell Bgb8.out 0; have hdc := blk_cell Bgc8.out 0; simp only [List.getElem?_toArray, List.getElem?_cons_zero] at hda ht0 hdb hdc; have na1 := Ngagt.out; have na2 := Ne.symm Ngagt.out; have na3 := Ngagb.out; have na4 := Ne.symm Ngagb.out; have na5 := Ngagc.out; have na6 := Ne.symm Ngagc.out; have na7 := Ngbgc.out; have na8 := Ne.symm Ngbgc.out))
              simp only [List.length_append, List.length_cons, List.length_nil, Nat.zero_add] at HR8
              refine leaves_cons (f := 12) (args := #[.pointer (some ⟨ga, 0, none⟩), .pointer (some ⟨gb, 0, none⟩), .pointer (some ⟨gc, 0, none⟩)]) (by simp) (by simp [go_sem]) ?_
              refine (all1_idle _ _ _ _).mono ?_
              rintro e u' w' ⟨rfl, rfl, rfl⟩
              refine ⟨_, end_results ga gb gc (.slice Av (l.length + 1) cv) 0 0 _ _ rfl rfl rfl ?_ ?_ ?_, _, rfl, ?_, ?_⟩
              · exact blk_far (blk_far (blk_put (blk_put Bga8.out 0 _ rfl) 0 _ rfl) Ngagb.out _) Ngagc.out _
              · exact blk_far (blk_put (blk_far (blk_far Bgb8.out (Ne.symm Ngagb.out) _) (Ne.symm Ngagb.out) _) 0 _ rfl) Ngbgc.out _
              · exact blk_put (blk_far (blk_far (blk_far Bgc8.out (Ne.symm Ngagc.out) _) (Ne.symm Ngagc.out) _) (Ne.symm Ngbgc.out) _) 0 _ rfl
              · exact Kd.R_mono (Kd.R_far (p := ⟨gc, 0, none⟩) (Kd.R_far (p := ⟨gb, 0, none⟩) (Kd.R_far (p := ⟨ga, 0, none⟩) (Kd.R_far (p := ⟨ga, 0, none⟩) HR8.out (fun _ hk => hk.1.1) _) (fun _ hk => hk.1.1) _) (fun _ hk => hk.1.2.1) _) (fun _ hk => hk.1.2.2.1) _) (fun _ _ => trivial)
              · exact below_set (below_set (below_set (below_set HB8.out Lga.out) Lga.out) Lgb.out) Lgc.out
            · rw [if_neg h0] at H
              have H' := Aside0.mk H
              clear H
              have e0 : (t.f0 == 0) = false := beq_eq_false_iff_ne.mpr h0
              clear h0
              go_wp2_with (first | ((with_reducible refine gate_callee (f := 13) rfl ?_); refine goesL_ (some 17) rfl rfl Try.func13 (by kernel_rfl) rfl #[.pointer (some ⟨gx, 0, none⟩)] rfl (by (try simp only [List.map_toArray, List.map_cons, List.map_nil]); first | done | rfl) ?_; (with_reducible refine (next_ok k1 gx a0 x y t w _ HS.out HX.out HB.out HN.out).mono ?_); rintro e w5 ⟨rfl, hI1, hB1, hK1⟩; refine ⟨_, rfl, ?_⟩; have HX1 := Aside0.mk hI1; have HB1 := Aside0.mk hB1; have HR1 := Aside0.mk (Kd.R_keep HR.out hK1 (fun _ hk => hk.2.2.2)); have mga := Aside0.mk (hK1.blk Bga.out Ngagx.out (by simp)); have mgb := Aside0.mk (hK1.blk Bgb.out Ngbgx.out (by simp)); have mgc := Aside0.mk (hK1.blk Bgc.out Ngcgx.out (by simp)); clear HX HB HR Bga Bgb Bgc hI1 hB1 hK1; have HX := HX1; have HB := HB1; have HR := HR1; have Bga := mga; have Bgb := mgb; have Bgc := mgc; clear HX1 HB1 HR1 mga mgb mgc) | ((with_reducible refine gate_dst (N := 6) rfl ?_); refine box_event ?hg (N := 6) ?hd (cs := #[.int .i64 0, .int .i64 0, .string (⟨#[]⟩ : ByteArray)]) (t := 29) ?hr ?_; (case hd => rfl); (case hg => rfl); (case hr => first | (go_simp; done) | (go_simp; rfl)); intro gt hg_ w6 hbox hb; have Lgt := Aside0.mk (show w.heap.size ≤ gt from by rw [hg_]; exact HB.out.size); have n_ := Aside0.mk (below_step HB.out hb); have HX1 := Aside0.mk (HX.out.below hb); have NXT := Aside0.mk (show gx ≠ gt from by have := HX.out.lt; omega); have HR1 := Aside0.mk (Kd.R_below (Kd.R_elderB HR.out gt (Nat.le_of_eq hg_.symm)) hb); have Ngagt := Aside0.mk (show ga ≠ gt from by have := blk_lt Bga.out; omega); have mga := Aside0.mk (blk_below Bga.out hb); have Ngbgt := Aside0.mk (show gb ≠ gt from by have := blk_lt Bgb.out; omega); have mgb := Aside0.mk (blk_below Bgb.out hb); have Ngcgt := Aside0.mk (show gc ≠ gt from by have := blk_lt Bgc.out; omega); have mgc := Aside0.mk (blk_below Bgc.out hb); clear HX HB HR Bga Bgb Bgc; have HX := HX1; have HB := n_; have HR := HR1; have Bgt := Aside0.mk hbox; have Bga := mga; have Bgb := mgb; have Bgc := mgc; clear HX1 n_ HR1 mga mgb mgc hg_ hb hbox; have f0 := blk_frozen Bgt.out 0; have f1 := blk_frozen Bgt.out 1; have f2 := blk_frozen Bgt.out 2; have c0 : w6.cell? ⟨gt, 0, none⟩ = some (.int .i64 0) := (blk_cell Bgt.out 0).trans rfl; have c1 : w6.cell? ⟨gt, 1, none⟩ = some (.int .i64 0) := (blk_cell Bgt.out 1).trans rfl; have c2 : w6.cell? ⟨gt, 2, none⟩ = some (.string (⟨#[]⟩ : ByteArray)) := (blk_cell Bgt.out 2).trans rfl; have HB4 := Aside0.mk (show Below w.heap.size w (((w6.setCell ⟨gt, 0, none⟩ (.int .i64 t.f0)).setCell ⟨gt, 1, none⟩ (.int .i64 t.f1)).setCell ⟨gt, 2, none⟩ (.string t.f2)) from below_set (below_set (below_set HB.out Lgt.out) Lgt.out) Lgt.out); have HR4 := Aside0.mk (Kd.R_far (p := ⟨gt, 2, none⟩) (Kd.R_far (p := ⟨gt, 1, none⟩) (Kd.R_far (p := ⟨gt, 0, none⟩) HR.out (fun _ hk => hk.2) (.int .i64 t.f0)) (fun _ hk => hk.2) (.int .i64 t.f1)) (fun _ hk => hk.2) (.string t.f2)); have Bga4 := Aside0.mk (blk_far (p := ⟨gt, 2, none⟩) (blk_far (p := ⟨gt, 1, none⟩) (blk_far (p := ⟨gt, 0, none⟩) Bga.out Ngagt.out (.int .i64 t.f0)) Ngagt.out (.int .i64 t.f1)) Ngagt.out (.string t.f2)); have Bgb4 := Aside0.mk (blk_far (p := ⟨gt, 2, none⟩) (blk_far (p := ⟨gt, 1, none⟩) (blk_far (p := ⟨gt, 0, none⟩) Bgb.out Ngbgt.out (.int .i64 t.f0)) Ngbgt.out (.int .i64 t.f1)) Ngbgt.out (.string t.f2)); have Bgc4 := Aside0.mk (blk_far (p := ⟨gt, 2, none⟩) (blk_far (p := ⟨gt, 1, none⟩) (blk_far (p := ⟨gt, 0, none⟩) Bgc.out Ngcgt.out (.int .i64 t.f0)) Ngcgt.out (.int .i64 t.f1)) Ngcgt.out (.string t.f2)); have HX4 := Aside0.mk (((HX.out.far (p := ⟨gt, 0, none⟩) NXT.out (.int .i64 t.f0)).far (p := ⟨gt, 1, none⟩) NXT.out (.int .i64 t.f1)).far (p := ⟨gt, 2, none⟩) NXT.out (.string t.f2)); have Bgt4 := Aside0.mk (blk_put (cs := #[.int .i64 t.f0, .int .i64 t.f1, .string (⟨#[]⟩ : ByteArray)]) (blk_put (cs := #[.int .i64 t.f0, .int .i64 0, .string (⟨#[]⟩ : ByteArray)]) (blk_put (cs := #[.int .i64 0, .int .i64 0, .string (⟨#[]⟩ : ByteArray)]) Bgt.out 0 (.int .i64 t.f0) rfl) 1 (.int .i64 t.f1) rfl) 2 (.string t.f2) rfl); have hda : (((w6.setCell ⟨gt, 0, none⟩ (.int .i64 t.f0)).setCell ⟨gt, 1, none⟩ (.int .i64 t.f1)).setCell ⟨gt, 2, none⟩ (.string t.f2)).cell? ⟨ga, 0, none⟩ = some v := (blk_cell Bga4.out 0).trans rfl) | ((with_reducible refine gate_builtin (b := .append) (xs := #[.tmp 18, .tmp 20]) rfl ?_); at_builtin; refine Kd.R_append k29 (w0 := w) w.heap.size rfl (.tmp 18) (.tmp 20) 23 29 (.agg #[(.int .i64 0), (.int .i64 0), (.string ⟨#[]⟩)]) 32 rfl Try.underlying23 info29 rfl (by decide) (by omega) v l t [.int .i64 t.f0, .int .i64 t.f1, .string t.f2] (fun k => (k ≠ ga ∧ k ≠ gb ∧ k ≠ gc ∧ k ≠ gx) ∧ k ≠ gt) (fun _ => False) rfl ?aX ?aP (fun _ hk => hk.elim) ?aF ?aO ?aB ?aS ?aL ?_; (case aX => simp [Act.eval]); (case aP => exact k29_mkM _ _ _ t); (case aB => exact HB4.out); (case aF => intro k hk; have l1 := blk_lt Bga4.out; have l2 := blk_lt Bgb4.out; have l3 := blk_lt Bgc4.out; have l4 := HX4.out.lt; have l5 := blk_lt Bgt4.out; exact ⟨⟨by omega, by omega, by omega, by omega⟩, by omega⟩); (case aO => exact HR4.out); (case aS => exact HB4.out.size); (case aL => have := HL.out; omega); intro v1 w8 ho hb hg hat; obtain ⟨Av, cv, rfl⟩ := Kd.R_slice ho; have Bga8 := Aside0.mk (blk_grown Bga4.out hg (fun e_ => absurd rfl (HR4.out.1 _ e_.symm).1.1)); have Bgb8 := Aside0.mk (blk_grown Bgb4.out hg (fun e_ => absurd rfl (HR4.out.1 _ e_.symm).1.2.1)); have Bgc8 := Aside0.mk (blk_grown Bgc4.out hg (fun e_ => absurd rfl (HR4.out.1 _ e_.symm).1.2.2.1)); have Bgt8 := Aside0.mk (blk_grown Bgt4.out hg (fun e_ => absurd rfl (HR4.out.1 _ e_.symm).2)); have HX8 := Aside0.mk (HX4.out.grown hg (fun e_ => absurd rfl (HR4.out.1 _ e_.symm).1.2.2.2)); have HR8 := Aside0.mk ho; have HB8 := Aside0.mk hb; clear ho hb hg hat hda c0 c1 c2 f0 f1 f2 HB HR HX Bga Bgb Bgc Bgt HB4 HR4 HX4 Bga4 Bgb4 Bgc4 Bgt4; have hda := blk_cell Bga8.out 0; have hfa := blk_frozen Bga8.out 0; have ht0 := blk_cell Bgt8.out 0; have hfb := blk_frozen Bgb8.out 0; have hfc := blk_frozen Bgc8.out 0; have hdb := blk_cell Bgb8.out 0; have hdc := blk_cell Bgc8.out 0; simp only [List.getElem?_toArray, List.getElem?_cons_zero] at hda ht0 hdb hdc; have na1 := Ngagt.out; have na2 := Ne.symm Ngagt.out; have na3 := Ngagb.out; have na4 := Ne.symm Ngagb.out; have na5 := Ngagc.out; have na6 := Ne.symm Ngagc.out; have na7 := Ngbgc.out; have na8 := Ne.symm Ngbgc.out))
              simp only [List.length_append, List.length_cons, List.length_nil, Nat.zero_add] at HR8
              go_roundg k1
              case measure => have := HK1.out; omega
              case rel => exact ⟨y, l ++ [t], .slice Av (l.length + 1) cv, H', ⟨by have := HK1.out; omega⟩, ⟨HX8.out.far (Ne.symm Ngagx.out) _⟩, ⟨blk_put Bga8.out 0 _ rfl⟩, ⟨blk_far Bgb8.out (Ne.symm Ngagb.out) _⟩, ⟨blk_far Bgc8.out (Ne.symm Ngagc.out) _⟩, ⟨Kd.R_mono (Kd.R_far (p := ⟨ga, 0, none⟩) HR8.out (fun _ hk => hk.1.1) _) (fun _ hk => hk.1)⟩, ⟨below_set HB8.out Lga.out⟩⟩
          · rw [if_neg hl] at H
            cases H


end Go.Proofs.Ytgcodjjkpbnadaa.P
