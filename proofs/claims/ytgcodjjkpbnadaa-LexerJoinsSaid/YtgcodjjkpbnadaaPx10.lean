-- PRINTED by print.py (a twelfth state) out of the translation. Not trusted: Lean checks it.
import Derived.Test.YtgcodjjkpbnadaaPx0
import Derived.Test.YtgcodjjkpbnadaaPx3
import Derived.Test.YtgcodjjkpbnadaaPx6
import Derived.Test.YtgcodjjkpbnadaaPx7
namespace Go.Proofs.Ytgcodjjkpbnadaa.P
open Go.RowKit Go.Proofs.YtgcodjjkpbnadaaW.PrintWords Go.Proofs.YtgcodjjkpbnadaaW.PrintLast Go.Proofs.YtgcodjjkpbnadaaW.PrintMore
attribute [local go_sem] max2_int min2_int max_two min_two max_three min_three max_four min_four   -- for this text's walks alone
set_option linter.unusedVariables false
set_option linter.unusedSimpArgs false

theorem noneB_q (c : Int) (W : World) (n : Nat) : Calls Try.prog 24 #[.int .u8 c] (W.drewN n) fun e w' => e = .returned (.bool (noneB c)) ∧ ∃ m, w' = (W.drewN n).drewN m :=
  (lexer_lexer_next_1.calls c _ _ (noneB_some c)).mono fun _ _ ⟨he, ⟨hd⟩⟩ => ⟨he, hd⟩
set_option maxHeartbeats 4000000 in
set_option maxRecDepth 100000 in
theorem lexer_lexer_run_24.calls (k g : Nat) (s : ByteArray) (x kind : Int) (r1 : S29) (r2 : Int) (w0 w : World) (hI : IsS38 w0 w g s x) (hB : Below w0.heap.size w0 w) (h : lexer_lexer_run.f k noneB s x kind = some (r1, r2)) :
    Calls Try.prog 20 #[.pointer (some ⟨g, 0, none⟩), .int .i64 kind, .func (.func 24) #[] #[]] w fun e w' => e = .returned (.agg #[.int .i64 r1.f0, .int .i64 r1.f1, .string r1.f2]) ∧ IsS38 w0 w' g s r2 ∧ Below w0.heap.size w0 w' ∧ KeepBut w w' g none := by
  unfold lexer_lexer_run.f at h
  obtain ⟨y, hy, h⟩ := Option.bind_eq_some_iff.mp h
  have H0 := Aside0.mk h
  have HY := Aside0.mk hy
  have HI0 := Aside0.mk hI
  have HK := Aside0.mk (KeepBut.refl w g none)
  have HL := Aside0.mk hB.size
  have HB := Aside0.mk hB
  clear hI hB h hy
  go_enter Try.func20, Try.ntmps20
  go_wp2_with (first | ((with_reducible refine gate_dst (N := 6) rfl ?_); refine box_event ?hg (N := 6) ?hd (cs := #[.int .i64 0, .int .i64 0, .string (⟨#[]⟩ : ByteArray)]) (t := 29) ?hr ?_; (case hd => rfl); (case hg => rfl); (case hr => first | (go_simp; done) | (go_simp; rfl)); intro gb hgb w1 hbox hb; have n0_ := Aside0.mk (HI0.out.grown (grown_of_below hb none) (by simp)); have n1_ := Aside0.mk (KeepBut.of_below hb g none); have n2_ := Aside0.mk (below_then HB.out HL.out hb); have n3_ := Aside0.mk (show g ≠ gb from fun e => by have := HI0.out.lt; omega); have n4_ := Aside0.mk (show w.heap.size ≤ gb from Nat.le_of_eq hgb.symm); have n5_ := Aside0.mk (show w0.heap.size ≤ gb from Nat.le_trans HL.out (Nat.le_of_eq hgb.symm)); clear HI0 HK HB; have HI0 := n0_; have HK := n1_; have HB := n2_; have BK := Aside0.mk hbox; clear n0_ n1_ n2_ hgb hb hbox; have hcz0 := cellS38_0 HI0.out.1; have hcz1 := cellS38_1 HI0.out.1; have hfz1 := blk_frozen HI0.out.1 1))
  go_loopg [19] k (fun kq v19 w' => ∃ (x' : Int), Aside0 (lexer_lexer_run.l0 noneB s kq x' = some y) ∧ Aside0 (kq ≤ k) ∧ Aside0 (IsS38 w0 w' g s x') ∧ Aside0 (KeepBut w w' g none) ∧ Aside0 (Below w0.heap.size w0 w') ∧ Aside0 (w'.heap[gb]? = some (.cells #[.int .i64 0, .int .i64 0, .string (⟨#[]⟩ : ByteArray)] 29 (0, 0))))
  case atStart => exact ⟨_, HY, ⟨Nat.le_refl _⟩, ⟨HI0.out.set_1 _⟩, ⟨KeepBut.set_ HK.out _ _⟩, ⟨below_set HB.out HI0.out.ge⟩, ⟨blk_far BK.out (Ne.symm n3_.out) _⟩⟩
  case round =>
    clear HY HI0 HK HB BK hcz0 hcz1 hfz1
    obtain ⟨x', HA, HK1, HI0, HK, HB, BK⟩ := hrel
    cases gk with
    | zero => exact absurd HA.out (by simp [lexer_lexer_run.l0])
    | succ k1 =>
      have H := HA.out
      clear HA
      simp only [lexer_lexer_run.l0] at H
      have hcz0 := cellS38_0 HI0.out.1
      have hcz1 := cellS38_1 HI0.out.1
      have hfz1 := blk_frozen HI0.out.1 1
      by_cases c2 : x' < (s.size : Int)
      · rw [if_pos c2] at H
        have c2b0 : decide (x' < (s.size : Int)) = true := decide_eq_true c2
        by_cases c3 : 0 ≤ x'
        · rw [if_pos c3] at H
          have hx4 := bt_at s x'
          have p4 := eq_true c3
          have q4 := eq_true c2
          have c3b0 : decide (0 ≤ x') = true := decide_eq_true c3
          clear c2 c3
          by_cases c5 : noneB (bt s x') = true
          · rw [if_pos c5] at H
            have H' := Aside0.mk H
            clear H
            go_wp2
            repeat (go_quiet (((go_at_call 24; exact Calls.quiet_of (noneB_q _ _ _)))); try go_wp2)
            go_roundg k1
            case measure => have := HK1.out; omega
            case rel => exact ⟨_, H', ⟨by have := HK1.out; omega⟩, ⟨(HI0.out.drewN _).set_1 _⟩, ⟨KeepBut.set_ (keep_drewN HK.out _) _ _⟩, ⟨below_set (pw_below_drewN HB.out _) HI0.out.ge⟩, ⟨blk_far (blk_drewN BK.out _) (Ne.symm n3_.out) _⟩⟩
          · rw [if_neg c5] at H
            have c5' : noneB (bt s x') = false := by simpa using c5
            obtain rfl := Option.some.inj H
            clear c5 H
            go_wp2
            repeat (go_quiet (((go_at_call 24; exact Calls.quiet_of (noneB_q _ _ _)))); try go_wp2)
            obtain ⟨h0x, hxy, hys, rfl, rfl⟩ := run_parts H0.out
            (try rw [World.drewN_drewN])
            have HI1 := Aside0.mk (HI0.out.drewN nq)
            have HK2 := Aside0.mk (keep_drewN HK.out nq)
            have HB2 := Aside0.mk (pw_below_drewN HB.out nq)
            have BK2 := Aside0.mk (blk_drewN BK.out nq)
            clear HI0 HK HB BK hcz0 hcz1 hfz1
            generalize wr.drewN nq = w5 at HI1 HK2 HB2 BK2 ⊢
            have hcz0 := cellS38_0 HI1.out.1
            have hcz1 := cellS38_1 HI1.out.1
            have hfz0 := blk_frozen BK2.out 0
            have hfz1 := blk_frozen BK2.out 1
            have hfz2 := blk_frozen BK2.out 2
            have hcy0 := blk_cell BK2.out 0
            have hcy1 := blk_cell BK2.out 1
            have hcy2 := blk_cell BK2.out 2
            simp only [List.getElem?_toArray, List.getElem?_cons_zero, List.getElem?_cons_succ] at hcy0 hcy1 hcy2
            have p0 := eq_true h0x
            have p1 := eq_true hxy
            have p2 := eq_true hys
            go_still_tail 13, (by kernel_rfl)
            go_wp2
            refine bodyPost_ret (results_cell_row rfl _ _ gb 29 #[.int .i64 kind, .int .i64 x, .string (s.extract x.toNat x'.toNat)] (0, 0) _ rfl (blk_drew (blk_put (cs := #[.int .i64 kind, .int .i64 x, .string (⟨#[]⟩ : ByteArray)]) (blk_put (cs := #[.int .i64 kind, .int .i64 0, .string (⟨#[]⟩ : ByteArray)]) (blk_put (cs := #[.int .i64 0, .int .i64 0, .string (⟨#[]⟩ : ByteArray)]) BK2.out 0 _ rfl) 1 _ rfl) 2 _ rfl)) Try.underlying29 rfl (by kernel_rfl)) rfl ⟨rfl, ?_, ?_, ?_⟩
            · exact (((HI1.out.far n3_.out _).far n3_.out _).far n3_.out _).drew
            · exact below_drew (below_set (below_set (below_set HB2.out n5_.out) n5_.out) n5_.out)
            · exact keep_drew (keep_far (keep_far (keep_far HK2.out n4_.out _) n4_.out _) n4_.out _)
        · rw [if_neg c3] at H
          exact absurd H (by simp)
      · rw [if_neg c2] at H
        have c2b0 : decide (x' < (s.size : Int)) = false := decide_eq_false c2
        obtain rfl := Option.some.inj H
        clear c2 H
        go_wp2
        repeat (go_quiet (((go_at_call 24; exact Calls.quiet_of (noneB_q _ _ _)))); try go_wp2)
        obtain ⟨h0x, hxy, hys, rfl, rfl⟩ := run_parts H0.out
        (try rw [World.drewN_drewN])
        have HI1 := Aside0.mk (HI0.out.drewN nq)
        have HK2 := Aside0.mk (keep_drewN HK.out nq)
        have HB2 := Aside0.mk (pw_below_drewN HB.out nq)
        have BK2 := Aside0.mk (blk_drewN BK.out nq)
        clear HI0 HK HB BK hcz0 hcz1 hfz1
        generalize wr.drewN nq = w5 at HI1 HK2 HB2 BK2 ⊢
        have hcz0 := cellS38_0 HI1.out.1
        have hcz1 := cellS38_1 HI1.out.1
        have hfz0 := blk_frozen BK2.out 0
        have hfz1 := blk_frozen BK2.out 1
        have hfz2 := blk_frozen BK2.out 2
        have hcy0 := blk_cell BK2.out 0
        have hcy1 := blk_cell BK2.out 1
        have hcy2 := blk_cell BK2.out 2
        simp only [List.getElem?_toArray, List.getElem?_cons_zero, List.getElem?_cons_succ] at hcy0 hcy1 hcy2
        have p0 := eq_true h0x
        have p1 := eq_true hxy
        have p2 := eq_true hys
        go_still_tail 13, (by kernel_rfl)
        go_wp2
        refine bodyPost_ret (results_cell_row rfl _ _ gb 29 #[.int .i64 kind, .int .i64 x, .string (s.extract x.toNat x'.toNat)] (0, 0) _ rfl (blk_drew (blk_put (cs := #[.int .i64 kind, .int .i64 x, .string (⟨#[]⟩ : ByteArray)]) (blk_put (cs := #[.int .i64 kind, .int .i64 0, .string (⟨#[]⟩ : ByteArray)]) (blk_put (cs := #[.int .i64 0, .int .i64 0, .string (⟨#[]⟩ : ByteArray)]) BK2.out 0 _ rfl) 1 _ rfl) 2 _ rfl)) Try.underlying29 rfl (by kernel_rfl)) rfl ⟨rfl, ?_, ?_, ?_⟩
        · exact (((HI1.out.far n3_.out _).far n3_.out _).far n3_.out _).drew
        · exact below_drew (below_set (below_set (below_set HB2.out n5_.out) n5_.out) n5_.out)
        · exact keep_drew (keep_far (keep_far (keep_far HK2.out n4_.out _) n4_.out _) n4_.out _)


end Go.Proofs.Ytgcodjjkpbnadaa.P
