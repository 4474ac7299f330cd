-- Began as a print of the kit over stubs (wip/stub.py); the sections that are named OWN are this session's.
import Derived.Test.YtkckdibalopagaaSFnExactListx0
import Derived.Test.YtkckdibalopagaaSFnExactListx3
import Derived.Test.YtkckdibalopagaaBase
import Derived.RegionTactic
import Derived.BigRegion
import Derived.Carry
namespace Go.Proofs.Ytkckdibalopagaa.SFnExactList
open Go.RowKit Go.Proofs.YtkckdibalopagaaW.PrintWords Go.Proofs.YtkckdibalopagaaW.PrintLast Go.Proofs.YtkckdibalopagaaW.PrintMore
attribute [local go_sem] max2_int min2_int max_two min_two max_three min_three max_four min_four   -- for this text's walks alone
set_option linter.unusedVariables false
set_option linter.unusedSimpArgs false

/-! ### impl_nodeRight: function 84 -/
def impl_nodeRight.j0 : Nat → Int → Bool → Int → Int → Int → Int → Option (Bool)
  | 0, _, _, _, _, _, _ => none
  | k + 1, x1, x22, x173000, x173001, x173002, x173003 => if x22 = true then (if x173001 = 0 then ((impl_within.f x173002 0 (wrap64 (x1 - 1))).bind fun t174 => (if t174 = true then (some (x173003 == 0)) else (some false))) else (some false)) else ((impl_within.f x173000 2 9).bind fun t175 => (if t175 = true then (if x173001 = 0 then ((impl_within.f x173002 0 (wrap64 (x1 - 1))).bind fun t176 => (if t176 = true then ((impl_within.f x173003 0 (wrap64 (x1 - 1))).bind fun t177 => (some t177)) else (some false))) else (some false)) else (some false)))
def impl_nodeRight.f (k : Nat) (a0_0 : Int) (a0_1 : Int) (a0_2 : Int) (a0_3 : Int) (a1 : Int) : Option (Bool) := if a0_0 = 1 then ((impl_within.f a0_1 0 999999).bind fun t173 => (if t173 = true then (if a0_2 = 0 then (some (a0_3 == 0)) else (some false)) else (some false))) else (if a0_0 = 3 then (impl_nodeRight.j0 k a1 (a0_0 == 3) a0_0 a0_1 a0_2 a0_3) else (impl_nodeRight.j0 k a1 (a0_0 == 6) a0_0 a0_1 a0_2 a0_3))
theorem impl_nodeRight.mono_l : ∀ k, (∀ y0 y1 y2 y3 y4 y5, LeO (impl_nodeRight.j0 k y0 y1 y2 y3 y4 y5) (impl_nodeRight.j0 (k + 1) y0 y1 y2 y3 y4 y5))
  | 0 => fun _ _ _ _ _ _ r h => by simp [impl_nodeRight.j0] at h
  | k + 1 => by
    have ih0 := impl_nodeRight.mono_l k
    · intro y0 y1 y2 y3 y4 y5
      unfold impl_nodeRight.j0
      repeat' first
      | (with_reducible exact ih0 _ _ _ _ _ _)
      | (with_reducible exact LeO.refl _)
      | (with_reducible exact LeO.none _)
      | (with_reducible refine LeO.ite ?_ ?_)
      | (with_reducible refine LeO.bind ?_ (fun _ => ?_))
      | exact ih0 _ _ _ _ _ _
      | exact LeO.none _
      | refine LeO.ite ?_ ?_
      | refine LeO.bind ?_ (fun _ => ?_)
theorem impl_nodeRight.mono : ∀ a0 a1 a2 a3 a4 k, LeO (impl_nodeRight.f k a0 a1 a2 a3 a4) (impl_nodeRight.f (k + 1) a0 a1 a2 a3 a4) := by
  intro a0 a1 a2 a3 a4 k
  have ih0 := impl_nodeRight.mono_l k
  unfold impl_nodeRight.f
  repeat' first
      | (with_reducible exact ih0 _ _ _ _ _ _)
      | (with_reducible exact LeO.refl _)
      | (with_reducible exact LeO.none _)
      | (with_reducible refine LeO.ite ?_ ?_)
      | (with_reducible refine LeO.bind ?_ (fun _ => ?_))
      | exact ih0 _ _ _ _ _ _
      | exact LeO.none _
      | refine LeO.ite ?_ ?_
      | refine LeO.bind ?_ (fun _ => ?_)
set_option maxHeartbeats 8000000 in
set_option maxRecDepth 100000 in
theorem impl_nodeRight.calls (k : Nat) (a0_0 : Int) (a0_1 : Int) (a0_2 : Int) (a0_3 : Int) (a1 : Int) (r : Bool) (w : World) (h : impl_nodeRight.f k a0_0 a0_1 a0_2 a0_3 a1 = some r) :
    Calls Try.prog 84 #[.agg #[.int .i64 a0_0, .int .i64 a0_1, .int .i64 a0_2, .int .i64 a0_3], .int .i64 a1] w fun e w' => e = .returned (.bool r) ∧ Below w.heap.size w w' := by
  have hu34 := Try.underlying34
  have HB := Aside0.mk (Below.refl w.heap.size w)
  have H : (if a0_0 = 1 then ((impl_within.f a0_1 0 999999).bind fun t173 => (if t173 = true then (if a0_2 = 0 then (some (a0_3 == 0)) else (some false)) else (some false))) else (if a0_0 = 3 then (impl_nodeRight.j0 k a1 (a0_0 == 3) a0_0 a0_1 a0_2 a0_3) else (impl_nodeRight.j0 k a1 (a0_0 == 6) a0_0 a0_1 a0_2 a0_3))) = some r := h
  clear h
  by_cases c3 : a0_0 = 1
  · rw [if_pos c3] at H
    have c3b0 : (a0_0 == 1) = true := beq_iff_eq.mpr c3
    have c3b1 : (a0_0 != 1) = false := bne_eq_false_iff_eq.mpr c3
    clear c3
    replace H := Option.bind_eq_some_iff.mp H
    obtain ⟨t173, A40, H⟩ := H
    replace H : (if t173 = true then (if a0_2 = 0 then (some (a0_3 == 0)) else (some false)) else (some false)) = some r := H
    have A4 := Aside0.mk A40
    clear A40
    by_cases c5 : t173 = true
    · subst c5
      have H1 : (if a0_2 = 0 then (some (a0_3 == 0)) else (some false)) = some r := by rw [if_pos rfl] at H; exact H
      clear H
      have H := H1
      clear H1
      by_cases c6 : a0_2 = 0
      · rw [if_pos c6] at H
        have c6b0 : (a0_2 == 0) = true := beq_iff_eq.mpr c6
        have c6b1 : (a0_2 != 0) = false := bne_eq_false_iff_eq.mpr c6
        clear c6
        obtain rfl := Option.some.inj H
        go_enter Try.func84, Try.ntmps84
        go_wp2_with (first | ((with_reducible refine gate_dst (N := 2) rfl ?_); refine box_event ?hg (N := 2) ?hd (cs := #[.int .i64 a0_0, .int .i64 a0_1, .int .i64 a0_2, .int .i64 a0_3]) (t := 34) ?hr ?_; (case hd => rfl); (case hg => rfl); (case hr => first | (go_simp; done) | (go_simp; rfl)); intro gb172 hg w7 hbox hb; have n0_ := Aside0.mk (below_step (by repeat (first | (with_reducible first | exact HB.out | apply below_alloc | apply pw_below_drewN | apply below_drew1) | exact HB.out)) hb); have n1_ := Aside0.mk (hbox); have n2_ := Aside0.mk ((by rw [hg]; exact (below_size (by repeat (first | (with_reducible first | exact HB.out | apply below_alloc | apply pw_below_drewN | apply below_drew1) | exact HB.out))) : w.heap.size ≤ gb172)); have n3_ := Aside0.mk ((by rw [hg]; exact (below_size (by repeat (first | (with_reducible first | exact HB.out | apply below_alloc | apply pw_below_drewN | apply below_drew1) | exact HB.out))) : w.heap.size ≤ gb172)); clear HB; have HB := n0_; have BK172 := n1_; have GW172 := n2_; have GE172 := n3_; clear n0_ n1_ n2_ n3_; clear hb hbox hg; have hcz8_0 : w7.cell? ⟨gb172, 0, none⟩ = some (.int .i64 a0_0) := (blk_cell BK172.out 0).trans rfl; have hcz8_1 : w7.cell? ⟨gb172, 1, none⟩ = some (.int .i64 a0_1) := (blk_cell BK172.out 1).trans rfl; have hcz8_2 : w7.cell? ⟨gb172, 2, none⟩ = some (.int .i64 a0_2) := (blk_cell BK172.out 2).trans rfl; have hcz8_3 : w7.cell? ⟨gb172, 3, none⟩ = some (.int .i64 a0_3) := (blk_cell BK172.out 3).trans rfl; have hfz8_0 := blk_frozen BK172.out 0; have hfz8_1 := blk_frozen BK172.out 1; have hfz8_2 := blk_frozen BK172.out 2; have hfz8_3 := blk_frozen BK172.out 3) | ((with_reducible refine gate_callee (f := 75) rfl ?_); refine goesL_ (some 11) rfl rfl Try.func75 (by kernel_rfl) rfl #[.int .i64 a0_1, .int .i64 0, .int .i64 999999] rfl (by (try simp only [List.map_toArray, List.map_cons, List.map_nil]); first | done | rfl | (simp only [List.length_drop, List.length_take]; rfl)) ?_; (with_reducible refine (impl_within.calls a0_1 0 999999 true _ A4.out).mono ?_); rintro e w' ⟨rfl, ⟨nd, rfl⟩⟩; refine ⟨_, rfl, ?_⟩))
        go_ret
        exact ⟨by first | rfl | (simp [errW_none, errW_some] <;> rfl) | (simp [*, errW_none, errW_some] <;> rfl), by repeat (first | (with_reducible first | exact HB.out | apply below_alloc | apply pw_below_drewN | apply below_drew1 | refine below_set ?_ GE172.out) | exact HB.out)⟩
      · rw [if_neg c6] at H
        have c6b0 : (a0_2 == 0) = false := beq_eq_false_iff_ne.mpr c6
        have c6b1 : (a0_2 != 0) = true := bne_iff_ne.mpr c6
        obtain rfl := Option.some.inj H
        go_enter Try.func84, Try.ntmps84
        go_wp2_with (first | ((with_reducible refine gate_dst (N := 2) rfl ?_); refine box_event ?hg (N := 2) ?hd (cs := #[.int .i64 a0_0, .int .i64 a0_1, .int .i64 a0_2, .int .i64 a0_3]) (t := 34) ?hr ?_; (case hd => rfl); (case hg => rfl); (case hr => first | (go_simp; done) | (go_simp; rfl)); intro gb172 hg w9 hbox hb; have n0_ := Aside0.mk (below_step (by repeat (first | (with_reducible first | exact HB.out | apply below_alloc | apply pw_below_drewN | apply below_drew1) | exact HB.out)) hb); have n1_ := Aside0.mk (hbox); have n2_ := Aside0.mk ((by rw [hg]; exact (below_size (by repeat (first | (with_reducible first | exact HB.out | apply below_alloc | apply pw_below_drewN | apply below_drew1) | exact HB.out))) : w.heap.size ≤ gb172)); have n3_ := Aside0.mk ((by rw [hg]; exact (below_size (by repeat (first | (with_reducible first | exact HB.out | apply below_alloc | apply pw_below_drewN | apply below_drew1) | exact HB.out))) : w.heap.size ≤ gb172)); clear HB; have HB := n0_; have BK172 := n1_; have GW172 := n2_; have GE172 := n3_; clear n0_ n1_ n2_ n3_; clear hb hbox hg; have hcz10_0 : w9.cell? ⟨gb172, 0, none⟩ = some (.int .i64 a0_0) := (blk_cell BK172.out 0).trans rfl; have hcz10_1 : w9.cell? ⟨gb172, 1, none⟩ = some (.int .i64 a0_1) := (blk_cell BK172.out 1).trans rfl; have hcz10_2 : w9.cell? ⟨gb172, 2, none⟩ = some (.int .i64 a0_2) := (blk_cell BK172.out 2).trans rfl; have hcz10_3 : w9.cell? ⟨gb172, 3, none⟩ = some (.int .i64 a0_3) := (blk_cell BK172.out 3).trans rfl; have hfz10_0 := blk_frozen BK172.out 0; have hfz10_1 := blk_frozen BK172.out 1; have hfz10_2 := blk_frozen BK172.out 2; have hfz10_3 := blk_frozen BK172.out 3) | ((with_reducible refine gate_callee (f := 75) rfl ?_); refine goesL_ (some 11) rfl rfl Try.func75 (by kernel_rfl) rfl #[.int .i64 a0_1, .int .i64 0, .int .i64 999999] rfl (by (try simp only [List.map_toArray, List.map_cons, List.map_nil]); first | done | rfl | (simp only [List.length_drop, List.length_take]; rfl)) ?_; (with_reducible refine (impl_within.calls a0_1 0 999999 true _ A4.out).mono ?_); rintro e w' ⟨rfl, ⟨nd, rfl⟩⟩; refine ⟨_, rfl, ?_⟩))
        go_ret
        exact ⟨by first | rfl | (simp [errW_none, errW_some] <;> rfl) | (simp [*, errW_none, errW_some] <;> rfl), by repeat (first | (with_reducible first | exact HB.out | apply below_alloc | apply pw_below_drewN | apply below_drew1 | refine below_set ?_ GE172.out) | exact HB.out)⟩
    · replace c5 := Bool.eq_false_iff.mpr c5
      subst c5
      have H1 : (some false) = some r := by rw [if_neg (show ¬ (false = true) by decide)] at H; exact H
      clear H
      have H := H1
      clear H1
      obtain rfl := Option.some.inj H
      go_enter Try.func84, Try.ntmps84
      go_wp2_with (first | ((with_reducible refine gate_dst (N := 2) rfl ?_); refine box_event ?hg (N := 2) ?hd (cs := #[.int .i64 a0_0, .int .i64 a0_1, .int .i64 a0_2, .int .i64 a0_3]) (t := 34) ?hr ?_; (case hd => rfl); (case hg => rfl); (case hr => first | (go_simp; done) | (go_simp; rfl)); intro gb172 hg w11 hbox hb; have n0_ := Aside0.mk (below_step (by repeat (first | (with_reducible first | exact HB.out | apply below_alloc | apply pw_below_drewN | apply below_drew1) | exact HB.out)) hb); have n1_ := Aside0.mk (hbox); have n2_ := Aside0.mk ((by rw [hg]; exact (below_size (by repeat (first | (with_reducible first | exact HB.out | apply below_alloc | apply pw_below_drewN | apply below_drew1) | exact HB.out))) : w.heap.size ≤ gb172)); have n3_ := Aside0.mk ((by rw [hg]; exact (below_size (by repeat (first | (with_reducible first | exact HB.out | apply below_alloc | apply pw_below_drewN | apply below_drew1) | exact HB.out))) : w.heap.size ≤ gb172)); clear HB; have HB := n0_; have BK172 := n1_; have GW172 := n2_; have GE172 := n3_; clear n0_ n1_ n2_ n3_; clear hb hbox hg; have hcz12_0 : w11.cell? ⟨gb172, 0, none⟩ = some (.int .i64 a0_0) := (blk_cell BK172.out 0).trans rfl; have hcz12_1 : w11.cell? ⟨gb172, 1, none⟩ = some (.int .i64 a0_1) := (blk_cell BK172.out 1).trans rfl; have hcz12_2 : w11.cell? ⟨gb172, 2, none⟩ = some (.int .i64 a0_2) := (blk_cell BK172.out 2).trans rfl; have hcz12_3 : w11.cell? ⟨gb172, 3, none⟩ = some (.int .i64 a0_3) := (blk_cell BK172.out 3).trans rfl; have hfz12_0 := blk_frozen BK172.out 0; have hfz12_1 := blk_frozen BK172.out 1; have hfz12_2 := blk_frozen BK172.out 2; have hfz12_3 := blk_frozen BK172.out 3) | ((with_reducible refine gate_callee (f := 75) rfl ?_); refine goesL_ (some 11) rfl rfl Try.func75 (by kernel_rfl) rfl #[.int .i64 a0_1, .int .i64 0, .int .i64 999999] rfl (by (try simp only [List.map_toArray, List.map_cons, List.map_nil]); first | done | rfl | (simp only [List.length_drop, List.length_take]; rfl)) ?_; (with_reducible refine (impl_within.calls a0_1 0 999999 false _ A4.out).mono ?_); rintro e w' ⟨rfl, ⟨nd, rfl⟩⟩; refine ⟨_, rfl, ?_⟩))
      go_ret
      exact ⟨by first | rfl | (simp [errW_none, errW_some] <;> rfl) | (simp [*, errW_none, errW_some] <;> rfl), by repeat (first | (with_reducible first | exact HB.out | apply below_alloc | apply pw_below_drewN | apply below_drew1 | refine below_set ?_ GE172.out) | exact HB.out)⟩
  · rw [if_neg c3] at H
    have c3b0 : (a0_0 == 1) = false := beq_eq_false_iff_ne.mpr c3
    have c3b1 : (a0_0 != 1) = true := bne_iff_ne.mpr c3
    have HC13 := Aside0.mk H
    clear H
    go_enter Try.func84, Try.ntmps84
    go_upto_if 22 with (first | ((with_reducible refine gate_dst (N := 2) rfl ?_); refine box_event ?hg (N := 2) ?hd (cs := #[.int .i64 a0_0, .int .i64 a0_1, .int .i64 a0_2, .int .i64 a0_3]) (t := 34) ?hr ?_; (case hd => rfl); (case hg => rfl); (case hr => first | (go_simp; done) | (go_simp; rfl)); intro gb172 hg w14 hbox hb; have n0_ := Aside0.mk (below_step (by repeat (first | (with_reducible first | exact HB.out | apply below_alloc | apply pw_below_drewN | apply below_drew1) | exact HB.out)) hb); have n1_ := Aside0.mk (hbox); have n2_ := Aside0.mk ((by rw [hg]; exact (below_size (by repeat (first | (with_reducible first | exact HB.out | apply below_alloc | apply pw_below_drewN | apply below_drew1) | exact HB.out))) : w.heap.size ≤ gb172)); have n3_ := Aside0.mk ((by rw [hg]; exact (below_size (by repeat (first | (with_reducible first | exact HB.out | apply below_alloc | apply pw_below_drewN | apply below_drew1) | exact HB.out))) : w.heap.size ≤ gb172)); clear HB; have HB := n0_; have BK172 := n1_; have GW172 := n2_; have GE172 := n3_; clear n0_ n1_ n2_ n3_; clear hb hbox hg; have hcz15_0 : w14.cell? ⟨gb172, 0, none⟩ = some (.int .i64 a0_0) := (blk_cell BK172.out 0).trans rfl; have hcz15_1 : w14.cell? ⟨gb172, 1, none⟩ = some (.int .i64 a0_1) := (blk_cell BK172.out 1).trans rfl; have hcz15_2 : w14.cell? ⟨gb172, 2, none⟩ = some (.int .i64 a0_2) := (blk_cell BK172.out 2).trans rfl; have hcz15_3 : w14.cell? ⟨gb172, 3, none⟩ = some (.int .i64 a0_3) := (blk_cell BK172.out 3).trans rfl; have hfz15_0 := blk_frozen BK172.out 0; have hfz15_1 := blk_frozen BK172.out 1; have hfz15_2 := blk_frozen BK172.out 2; have hfz15_3 := blk_frozen BK172.out 3))
    (try simp only [Act.put, List.setIfInBounds_toArray, List.set_cons_zero, List.set_cons_succ])
    go_cut [22] (fun v22 wc => ∃ (kq : Nat) (x22_12 : Bool), v22 = .bool x22_12 ∧ Aside0 (impl_nodeRight.j0 kq a1 x22_12 a0_0 a0_1 a0_2 a0_3 = some r) ∧ Aside0 (kq ≤ k) ∧ Aside0 (wc.heap[gb172]? = some (.cells #[.int .i64 a0_0, .int .i64 a0_1, .int .i64 a0_2, .int .i64 a0_3] 34 (0, 0))) ∧ Aside0 (Below w.heap.size w wc))
    case first =>
      have H := HC13.out
      clear HC13
      by_cases c16 : a0_0 = 3
      · rw [if_pos c16] at H
        have c16b0 : (a0_0 == 3) = true := beq_iff_eq.mpr c16
        have c16b1 : (a0_0 != 3) = false := bne_eq_false_iff_eq.mpr c16
        clear c16
        (first | rw [c16b0] | (simp only [i64_w, i32_w]; rw [c16b0]) | skip)
        have H' := Aside0.mk H
        clear H
        go_wp2
        go_meet
        case rel => exact ⟨_, ((a0_0 == 3)), (by first | rfl | (simp; done) | (simp [*]; done)), H', ⟨by first | omega | exact Nat.le_refl _⟩, ⟨by (with_reducible repeat (first | refine blk_drewN ?_ _ | refine blk_drew ?_ | refine blk_alloc ?_ _)); exact BK172.out⟩, ⟨by repeat (first | (with_reducible first | exact HB.out | apply below_alloc | apply pw_below_drewN | apply below_drew1 | refine below_set ?_ GE172.out) | exact HB.out)⟩⟩
      · rw [if_neg c16] at H
        have c16b0 : (a0_0 == 3) = false := beq_eq_false_iff_ne.mpr c16
        have c16b1 : (a0_0 != 3) = true := bne_iff_ne.mpr c16
        (first | rw [c16b0] | (simp only [i64_w, i32_w]; rw [c16b0]) | skip)
        have H' := Aside0.mk H
        clear H
        go_wp2
        go_meet
        case rel => exact ⟨_, ((a0_0 == 6)), (by first | rfl | (simp; done) | (simp [*]; done)), H', ⟨by first | omega | exact Nat.le_refl _⟩, ⟨by (with_reducible repeat (first | refine blk_drewN ?_ _ | refine blk_drew ?_ | refine blk_alloc ?_ _)); exact BK172.out⟩, ⟨by repeat (first | (with_reducible first | exact HB.out | apply below_alloc | apply pw_below_drewN | apply below_drew1 | refine below_set ?_ GE172.out) | exact HB.out)⟩⟩
    case rest =>
      clear HC13
      try clear c1
      try clear p2
      try clear c3
      try clear c3b0
      try clear c3b1
      try clear c5
      try clear c6
      try clear c6b0
      try clear c6b1
      try clear c7
      try clear c8
      try clear c16
      try clear c16b0
      try clear c16b1
      try clear hcz10_0
      try clear hcz10_1
      try clear hcz10_2
      try clear hcz10_3
      try clear hcz12_0
      try clear hcz12_1
      try clear hcz12_2
      try clear hcz12_3
      try clear hcz15_0
      try clear hcz15_1
      try clear hcz15_2
      try clear hcz15_3
      try clear hcz8_0
      try clear hcz8_1
      try clear hcz8_2
      try clear hcz8_3
      try clear hfz10_0
      try clear hfz10_1
      try clear hfz10_2
      try clear hfz10_3
      try clear hfz12_0
      try clear hfz12_1
      try clear hfz12_2
      try clear hfz12_3
      try clear hfz15_0
      try clear hfz15_1
      try clear hfz15_2
      try clear hfz15_3
      try clear hfz8_0
      try clear hfz8_1
      try clear hfz8_2
      try clear hfz8_3
      obtain ⟨kq, x22_12, rfl, HA, HJ12, BK172, HB⟩ := hcut
      cases kq with
      | zero => exact absurd HA.out (by simp [impl_nodeRight.j0])
      | succ kj12 =>
        have H := HA.out
        clear HA
        simp only [impl_nodeRight.j0] at H
        by_cases c17 : x22_12 = true
        · subst c17
          have H1 : (if a0_1 = 0 then ((impl_within.f a0_2 0 (wrap64 (a1 - 1))).bind fun t174 => (if t174 = true then (some (a0_3 == 0)) else (some false))) else (some false)) = some r := by rw [if_pos rfl] at H; exact H
          clear H
          have H := H1
          clear H1
          by_cases c18 : a0_1 = 0
          · rw [if_pos c18] at H
            have c18b0 : (a0_1 == 0) = true := beq_iff_eq.mpr c18
            have c18b1 : (a0_1 != 0) = false := bne_eq_false_iff_eq.mpr c18
            clear c18
            replace H := Option.bind_eq_some_iff.mp H
            obtain ⟨t174, A190, H⟩ := H
            replace H : (if t174 = true then (some (a0_3 == 0)) else (some false)) = some r := H
            have A19 := Aside0.mk A190
            clear A190
            by_cases c20 : t174 = true
            · subst c20
              have H1 : (some (a0_3 == 0)) = some r := by rw [if_pos rfl] at H; exact H
              clear H
              have H := H1
              clear H1
              obtain rfl := Option.some.inj H
              have hcz21_0 : wc.cell? ⟨gb172, 0, none⟩ = some (.int .i64 a0_0) := (blk_cell BK172.out 0).trans rfl
              have hcz21_1 : wc.cell? ⟨gb172, 1, none⟩ = some (.int .i64 a0_1) := (blk_cell BK172.out 1).trans rfl
              have hcz21_2 : wc.cell? ⟨gb172, 2, none⟩ = some (.int .i64 a0_2) := (blk_cell BK172.out 2).trans rfl
              have hcz21_3 : wc.cell? ⟨gb172, 3, none⟩ = some (.int .i64 a0_3) := (blk_cell BK172.out 3).trans rfl
              have hfz21_0 := blk_frozen BK172.out 0
              have hfz21_1 := blk_frozen BK172.out 1
              have hfz21_2 := blk_frozen BK172.out 2
              have hfz21_3 := blk_frozen BK172.out 3
              go_wp2_with (first | (go_at_call 75; (with_reducible refine (impl_within.calls a0_2 0 (wrap64 (a1 - 1)) true _ A19.out).mono ?_); rintro e w' ⟨rfl, ⟨nd, rfl⟩⟩))
              go_ret
              exact ⟨by first | rfl | (simp [errW_none, errW_some] <;> rfl) | (simp [*, errW_none, errW_some] <;> rfl), by repeat (first | (with_reducible first | exact HB.out | apply below_alloc | apply pw_below_drewN | apply below_drew1 | refine below_set ?_ GE172.out) | exact HB.out)⟩
            · replace c20 := Bool.eq_false_iff.mpr c20
              subst c20
              have H1 : (some false) = some r := by rw [if_neg (show ¬ (false = true) by decide)] at H; exact H
              clear H
              have H := H1
              clear H1
              obtain rfl := Option.some.inj H
              have hcz22_0 : wc.cell? ⟨gb172, 0, none⟩ = some (.int .i64 a0_0) := (blk_cell BK172.out 0).trans rfl
              have hcz22_1 : wc.cell? ⟨gb172, 1, none⟩ = some (.int .i64 a0_1) := (blk_cell BK172.out 1).trans rfl
              have hcz22_2 : wc.cell? ⟨gb172, 2, none⟩ = some (.int .i64 a0_2) := (blk_cell BK172.out 2).trans rfl
              have hcz22_3 : wc.cell? ⟨gb172, 3, none⟩ = some (.int .i64 a0_3) := (blk_cell BK172.out 3).trans rfl
              have hfz22_0 := blk_frozen BK172.out 0
              have hfz22_1 := blk_frozen BK172.out 1
              have hfz22_2 := blk_frozen BK172.out 2
              have hfz22_3 := blk_frozen BK172.out 3
              go_wp2_with (first | (go_at_call 75; (with_reducible refine (impl_within.calls a0_2 0 (wrap64 (a1 - 1)) false _ A19.out).mono ?_); rintro e w' ⟨rfl, ⟨nd, rfl⟩⟩))
              go_ret
              exact ⟨by first | rfl | (simp [errW_none, errW_some] <;> rfl) | (simp [*, errW_none, errW_some] <;> rfl), by repeat (first | (with_reducible first | exact HB.out | apply below_alloc | apply pw_below_drewN | apply below_drew1 | refine below_set ?_ GE172.out) | exact HB.out)⟩
          · rw [if_neg c18] at H
            have c18b0 : (a0_1 == 0) = false := beq_eq_false_iff_ne.mpr c18
            have c18b1 : (a0_1 != 0) = true := bne_iff_ne.mpr c18
            obtain rfl := Option.some.inj H
            have hcz23_0 : wc.cell? ⟨gb172, 0, none⟩ = some (.int .i64 a0_0) := (blk_cell BK172.out 0).trans rfl
            have hcz23_1 : wc.cell? ⟨gb172, 1, none⟩ = some (.int .i64 a0_1) := (blk_cell BK172.out 1).trans rfl
            have hcz23_2 : wc.cell? ⟨gb172, 2, none⟩ = some (.int .i64 a0_2) := (blk_cell BK172.out 2).trans rfl
            have hcz23_3 : wc.cell? ⟨gb172, 3, none⟩ = some (.int .i64 a0_3) := (blk_cell BK172.out 3).trans rfl
            have hfz23_0 := blk_frozen BK172.out 0
            have hfz23_1 := blk_frozen BK172.out 1
            have hfz23_2 := blk_frozen BK172.out 2
            have hfz23_3 := blk_frozen BK172.out 3
            go_wp2
            go_ret
            exact ⟨by first | rfl | (simp [errW_none, errW_some] <;> rfl) | (simp [*, errW_none, errW_some] <;> rfl), by repeat (first | (with_reducible first | exact HB.out | apply below_alloc | apply pw_below_drewN | apply below_drew1 | refine below_set ?_ GE172.out) | exact HB.out)⟩
        · replace c17 := Bool.eq_false_iff.mpr c17
          subst c17
          have H1 : ((impl_within.f a0_0 2 9).bind fun t175 => (if t175 = true then (if a0_1 = 0 then ((impl_within.f a0_2 0 (wrap64 (a1 - 1))).bind fun t176 => (if t176 = true then ((impl_within.f a0_3 0 (wrap64 (a1 - 1))).bind fun t177 => (some t177)) else (some false))) else (some false)) else (some false))) = some r := by rw [if_neg (show ¬ (false = true) by decide)] at H; exact H
          clear H
          have H := H1
          clear H1
          replace H := Option.bind_eq_some_iff.mp H
          obtain ⟨t175, A240, H⟩ := H
          replace H : (if t175 = true then (if a0_1 = 0 then ((impl_within.f a0_2 0 (wrap64 (a1 - 1))).bind fun t176 => (if t176 = true then ((impl_within.f a0_3 0 (wrap64 (a1 - 1))).bind fun t177 => (some t177)) else (some false))) else (some false)) else (some false)) = some r := H
          have A24 := Aside0.mk A240
          clear A240
          by_cases c25 : t175 = true
          · subst c25
            have H1 : (if a0_1 = 0 then ((impl_within.f a0_2 0 (wrap64 (a1 - 1))).bind fun t176 => (if t176 = true then ((impl_within.f a0_3 0 (wrap64 (a1 - 1))).bind fun t177 => (some t177)) else (some false))) else (some false)) = some r := by rw [if_pos rfl] at H; exact H
            clear H
            have H := H1
            clear H1
            by_cases c26 : a0_1 = 0
            · rw [if_pos c26] at H
              have c26b0 : (a0_1 == 0) = true := beq_iff_eq.mpr c26
              have c26b1 : (a0_1 != 0) = false := bne_eq_false_iff_eq.mpr c26
              clear c26
              replace H := Option.bind_eq_some_iff.mp H
              obtain ⟨t176, A270, H⟩ := H
              replace H : (if t176 = true then ((impl_within.f a0_3 0 (wrap64 (a1 - 1))).bind fun t177 => (some t177)) else (some false)) = some r := H
              have A27 := Aside0.mk A270
              clear A270
              by_cases c28 : t176 = true
              · subst c28
                have H1 : ((impl_within.f a0_3 0 (wrap64 (a1 - 1))).bind fun t177 => (some t177)) = some r := by rw [if_pos rfl] at H; exact H
                clear H
                have H := H1
                clear H1
                replace H := Option.bind_eq_some_iff.mp H
                obtain ⟨t177, A290, H⟩ := H
                replace H : (some t177) = some r := H
                have A29 := Aside0.mk A290
                clear A290
                obtain rfl := Option.some.inj H
                have hcz30_0 : wc.cell? ⟨gb172, 0, none⟩ = some (.int .i64 a0_0) := (blk_cell BK172.out 0).trans rfl
                have hcz30_1 : wc.cell? ⟨gb172, 1, none⟩ = some (.int .i64 a0_1) := (blk_cell BK172.out 1).trans rfl
                have hcz30_2 : wc.cell? ⟨gb172, 2, none⟩ = some (.int .i64 a0_2) := (blk_cell BK172.out 2).trans rfl
                have hcz30_3 : wc.cell? ⟨gb172, 3, none⟩ = some (.int .i64 a0_3) := (blk_cell BK172.out 3).trans rfl
                have hfz30_0 := blk_frozen BK172.out 0
                have hfz30_1 := blk_frozen BK172.out 1
                have hfz30_2 := blk_frozen BK172.out 2
                have hfz30_3 := blk_frozen BK172.out 3
                go_wp2_with (first | ((with_reducible refine gate_callee (f := 75) rfl ?_); refine goesL_ (some 42) rfl rfl Try.func75 (by kernel_rfl) rfl #[.int .i64 a0_0, .int .i64 2, .int .i64 9] rfl (by (try simp only [List.map_toArray, List.map_cons, List.map_nil]); first | done | rfl | (simp only [List.length_drop, List.length_take]; rfl)) ?_; (with_reducible refine (impl_within.calls a0_0 2 9 true _ A24.out).mono ?_); rintro e w' ⟨rfl, ⟨nd, rfl⟩⟩; refine ⟨_, rfl, ?_⟩) | (go_at_call 75; (with_reducible refine (impl_within.calls a0_2 0 (wrap64 (a1 - 1)) true _ A27.out).mono ?_); rintro e w' ⟨rfl, ⟨nd, rfl⟩⟩) | (go_at_call 75; (with_reducible refine (impl_within.calls a0_3 0 (wrap64 (a1 - 1)) t177 _ A29.out).mono ?_); rintro e w' ⟨rfl, ⟨nd, rfl⟩⟩))
                go_ret
                exact ⟨by first | rfl | (simp [errW_none, errW_some] <;> rfl) | (simp [*, errW_none, errW_some] <;> rfl), by repeat (first | (with_reducible first | exact HB.out | apply below_alloc | apply pw_below_drewN | apply below_drew1 | refine below_set ?_ GE172.out) | exact HB.out)⟩
              · replace c28 := Bool.eq_false_iff.mpr c28
                subst c28
                have H1 : (some false) = some r := by rw [if_neg (show ¬ (false = true) by decide)] at H; exact H
                clear H
                have H := H1
                clear H1
                obtain rfl := Option.some.inj H
                have hcz31_0 : wc.cell? ⟨gb172, 0, none⟩ = some (.int .i64 a0_0) := (blk_cell BK172.out 0).trans rfl
                have hcz31_1 : wc.cell? ⟨gb172, 1, none⟩ = some (.int .i64 a0_1) := (blk_cell BK172.out 1).trans rfl
                have hcz31_2 : wc.cell? ⟨gb172, 2, none⟩ = some (.int .i64 a0_2) := (blk_cell BK172.out 2).trans rfl
                have hcz31_3 : wc.cell? ⟨gb172, 3, none⟩ = some (.int .i64 a0_3) := (blk_cell BK172.out 3).trans rfl
                have hfz31_0 := blk_frozen BK172.out 0
                have hfz31_1 := blk_frozen BK172.out 1
                have hfz31_2 := blk_frozen BK172.out 2
                have hfz31_3 := blk_frozen BK172.out 3
                go_wp2_with (first | ((with_reducible refine gate_callee (f := 75) rfl ?_); refine goesL_ (some 42) rfl rfl Try.func75 (by kernel_rfl) rfl #[.int .i64 a0_0, .int .i64 2, .int .i64 9] rfl (by (try simp only [List.map_toArray, List.map_cons, List.map_nil]); first | done | rfl | (simp only [List.length_drop, List.length_take]; rfl)) ?_; (with_reducible refine (impl_within.calls a0_0 2 9 true _ A24.out).mono ?_); rintro e w' ⟨rfl, ⟨nd, rfl⟩⟩; refine ⟨_, rfl, ?_⟩) | (go_at_call 75; (with_reducible refine (impl_within.calls a0_2 0 (wrap64 (a1 - 1)) false _ A27.out).mono ?_); rintro e w' ⟨rfl, ⟨nd, rfl⟩⟩))
                go_ret
                exact ⟨by first | rfl | (simp [errW_none, errW_some] <;> rfl) | (simp [*, errW_none, errW_some] <;> rfl), by repeat (first | (with_reducible first | exact HB.out | apply below_alloc | apply pw_below_drewN | apply below_drew1 | refine below_set ?_ GE172.out) | exact HB.out)⟩
            · rw [if_neg c26] at H
              have c26b0 : (a0_1 == 0) = false := beq_eq_false_iff_ne.mpr c26
              have c26b1 : (a0_1 != 0) = true := bne_iff_ne.mpr c26
              obtain rfl := Option.some.inj H
              have hcz32_0 : wc.cell? ⟨gb172, 0, none⟩ = some (.int .i64 a0_0) := (blk_cell BK172.out 0).trans rfl
              have hcz32_1 : wc.cell? ⟨gb172, 1, none⟩ = some (.int .i64 a0_1) := (blk_cell BK172.out 1).trans rfl
              have hcz32_2 : wc.cell? ⟨gb172, 2, none⟩ = some (.int .i64 a0_2) := (blk_cell BK172.out 2).trans rfl
              have hcz32_3 : wc.cell? ⟨gb172, 3, none⟩ = some (.int .i64 a0_3) := (blk_cell BK172.out 3).trans rfl
              have hfz32_0 := blk_frozen BK172.out 0
              have hfz32_1 := blk_frozen BK172.out 1
              have hfz32_2 := blk_frozen BK172.out 2
              have hfz32_3 := blk_frozen BK172.out 3
              go_wp2_with (first | ((with_reducible refine gate_callee (f := 75) rfl ?_); refine goesL_ (some 42) rfl rfl Try.func75 (by kernel_rfl) rfl #[.int .i64 a0_0, .int .i64 2, .int .i64 9] rfl (by (try simp only [List.map_toArray, List.map_cons, List.map_nil]); first | done | rfl | (simp only [List.length_drop, List.length_take]; rfl)) ?_; (with_reducible refine (impl_within.calls a0_0 2 9 true _ A24.out).mono ?_); rintro e w' ⟨rfl, ⟨nd, rfl⟩⟩; refine ⟨_, rfl, ?_⟩))
              go_ret
              exact ⟨by first | rfl | (simp [errW_none, errW_some] <;> rfl) | (simp [*, errW_none, errW_some] <;> rfl), by repeat (first | (with_reducible first | exact HB.out | apply below_alloc | apply pw_below_drewN | apply below_drew1 | refine below_set ?_ GE172.out) | exact HB.out)⟩
          · replace c25 := Bool.eq_false_iff.mpr c25
            subst c25
            have H1 : (some false) = some r := by rw [if_neg (show ¬ (false = true) by decide)] at H; exact H
            clear H
            have H := H1
            clear H1
            obtain rfl := Option.some.inj H
            have hcz33_0 : wc.cell? ⟨gb172, 0, none⟩ = some (.int .i64 a0_0) := (blk_cell BK172.out 0).trans rfl
            have hcz33_1 : wc.cell? ⟨gb172, 1, none⟩ = some (.int .i64 a0_1) := (blk_cell BK172.out 1).trans rfl
            have hcz33_2 : wc.cell? ⟨gb172, 2, none⟩ = some (.int .i64 a0_2) := (blk_cell BK172.out 2).trans rfl
            have hcz33_3 : wc.cell? ⟨gb172, 3, none⟩ = some (.int .i64 a0_3) := (blk_cell BK172.out 3).trans rfl
            have hfz33_0 := blk_frozen BK172.out 0
            have hfz33_1 := blk_frozen BK172.out 1
            have hfz33_2 := blk_frozen BK172.out 2
            have hfz33_3 := blk_frozen BK172.out 3
            go_wp2_with (first | ((with_reducible refine gate_callee (f := 75) rfl ?_); refine goesL_ (some 42) rfl rfl Try.func75 (by kernel_rfl) rfl #[.int .i64 a0_0, .int .i64 2, .int .i64 9] rfl (by (try simp only [List.map_toArray, List.map_cons, List.map_nil]); first | done | rfl | (simp only [List.length_drop, List.length_take]; rfl)) ?_; (with_reducible refine (impl_within.calls a0_0 2 9 false _ A24.out).mono ?_); rintro e w' ⟨rfl, ⟨nd, rfl⟩⟩; refine ⟨_, rfl, ?_⟩))
            go_ret
            exact ⟨by first | rfl | (simp [errW_none, errW_some] <;> rfl) | (simp [*, errW_none, errW_some] <;> rfl), by repeat (first | (with_reducible first | exact HB.out | apply below_alloc | apply pw_below_drewN | apply below_drew1 | refine below_set ?_ GE172.out) | exact HB.out)⟩

-- NOT PRINTED: function 112 (impl_bench_put)

-- NOT PRINTED: function 104 (impl_bench_of)

-- NOT PRINTED: function 108 (impl_bench_atom)

-- NOT PRINTED: function 93 (impl_bench_list)

-- NOT PRINTED: function 94 (impl_bench_end)

/-! ### impl_List: OWN: function 35 -/
namespace Hand
open Go.Proofs.Ytkckdibalopagaa.Base
theorem impl_within_b (a b c : Int) : impl_within.f a b c = some (decide (b ≤ a) && decide (a ≤ c)) := by
  unfold impl_within.f
  by_cases h : a ≥ b
  · rw [if_pos h]; simp [h]
  · rw [if_neg h]
    have : ¬ b ≤ a := h
    simp [this]
theorem impl_nodeRight_j0 (f0 f1 f2 f3 k : Int) (hk : 0 ≤ k ∧ k ≤ 9223372036854775807) (c : Bool) : Ev (fun n => impl_nodeRight.j0 n k c f0 f1 f2 f3)
    (if c = true then decide (f1 = 0) && (decide (0 ≤ f2) && decide (f2 ≤ k - 1)) && decide (f3 = 0) else (decide (2 ≤ f0) && decide (f0 ≤ 9)) && decide (f1 = 0) && (decide (0 ≤ f2) && decide (f2 ≤ k - 1)) && (decide (0 ≤ f3) && decide (f3 ≤ k - 1))) := by
  have e : wrap64 (k - 1) = k - 1 := w64 (by omega) (by omega)
  refine ev_end (fun n => ?_)
  rw [impl_nodeRight.j0, e]
  simp only [impl_within_b, Option.bind_some, beq_dec]
  cases c with
  | true =>
    rw [if_pos rfl, if_pos rfl]
    by_cases h1 : f1 = 0
    · rw [if_pos h1]
      by_cases h2 : (decide (0 ≤ f2) && decide (f2 ≤ k - 1)) = true
      · rw [if_pos h2, h2]; simp [h1]
      · rw [if_neg h2]; simp only [Bool.not_eq_true] at h2; rw [h2]; simp
    · rw [if_neg h1]; simp [h1]
  | false =>
    rw [if_neg (show ¬ (false = true) by simp), if_neg (show ¬ (false = true) by simp)]
    by_cases h0 : (decide (2 ≤ f0) && decide (f0 ≤ 9)) = true
    · rw [if_pos h0, h0]
      by_cases h1 : f1 = 0
      · rw [if_pos h1]
        by_cases h2 : (decide (0 ≤ f2) && decide (f2 ≤ k - 1)) = true
        · rw [if_pos h2, h2]; simp [h1]
        · rw [if_neg h2]; simp only [Bool.not_eq_true] at h2; rw [h2]; simp
      · rw [if_neg h1]; simp [h1]
    · rw [if_neg h0]; simp only [Bool.not_eq_true] at h0; rw [h0]; simp
theorem impl_nodeRight_f (f0 f1 f2 f3 k : Int) (hk : 0 ≤ k ∧ k ≤ 9223372036854775807) : Ev (fun n => impl_nodeRight.f n f0 f1 f2 f3 k) (nodeB f0 f1 f2 f3 k) := by
  unfold nodeB
  by_cases h1 : f0 = 1
  · refine ev_cast (evT h1 ?_) (if_pos h1).symm
    refine ev_some ?_
    simp only [impl_within_b, Option.bind_some, beq_dec]
    by_cases h2 : (decide (0 ≤ f1) && decide (f1 ≤ 999999)) = true
    · rw [if_pos h2, h2]
      by_cases h3 : f2 = 0
      · rw [if_pos h3]; simp [h3]
      · rw [if_neg h3]; simp [h3]
    · rw [if_neg h2]; simp only [Bool.not_eq_true] at h2; rw [h2]; simp
  · refine ev_cast (evF h1 ?_) (if_neg h1).symm
    by_cases h3 : f0 = 3
    · refine evT h3 (ev_cast (impl_nodeRight_j0 f0 f1 f2 f3 k hk (f0 == 3)) ?_)
      rw [if_pos (by simp [h3]), if_pos (Or.inl h3)]
    · refine evF h3 (ev_cast (impl_nodeRight_j0 f0 f1 f2 f3 k hk (f0 == 6)) ?_)
      by_cases h6 : f0 = 6
      · rw [if_pos (by simp [h6]), if_pos (Or.inr h6)]
      · rw [if_neg (by simp [h6]), if_neg (by simp [h3, h6])]

def BnPost (w : World) (base g : Nat) (ok : Nat → Prop) (r : List S34 × Bool × Int) (e : Ending) (w' : World) : Prop := e = .returned (.int .i64 r.2.2) ∧ BnAt w' base g ok r.1 r.2.1 ∧ Below base w w' ∧ Kept w w' (Mine g ok)
set_option maxHeartbeats 8000000 in
set_option maxRecDepth 100000 in
theorem impl_put_at (l : List S34) (bad : Bool) (x : S34) (w : World) (base g : Nat) (ok : Nat → Prop) (hA : BnAt w base g ok l bad) (hbase : base ≤ w.heap.size) (hfresh : ∀ k, w.heap.size ≤ k → ok k) (hl : l.length ≤ 1048576) :
    Calls Try.prog 112 #[.pointer (some ⟨g, 0, none⟩), .agg #[.int .i64 x.f0, .int .i64 x.f1, .int .i64 x.f2, .int .i64 x.f3]] w (BnPost w base g ok (putB l bad x)) := by
  have hu132 := Try.underlying132
  have hu34 := Try.underlying34
  obtain ⟨v, hblk, hbg, hno, hR⟩ := hA
  obtain ⟨A, c, rfl, hlc, hC⟩ := Kd.R_reads hR
  have HG0 := Aside0.mk hblk
  have HR := Aside0.mk hR
  have HC := Aside0.mk hC
  have HL := Aside0.mk hl
  have HBG := Aside0.mk hbg
  have HNO := Aside0.mk hno
  have HBS := Aside0.mk hbase
  have HF := Aside0.mk hfresh
  have HLC := Aside0.mk hlc
  clear hblk hR hC hl hbg hno hbase hfresh hlc
  have hbw : base ≤ w.heap.size := HBS.out
  cases bad with
  | true =>
    have he : putB l true x = (l, true, -1) := rfl
    have HE := Aside0.mk he
    clear he hbw
    go_enter Try.func112, Try.ntmps112
    go_wp2_with (first | ((with_reducible refine gate_dst (N := 3) rfl ?_); refine box_event ?hg (N := 3) ?hd (cs := #[.int .i64 x.f0, .int .i64 x.f1, .int .i64 x.f2, .int .i64 x.f3]) (t := 34) ?hr ?_; (case hd => rfl); (case hg => rfl); (case hr => first | (go_simp; done) | (go_simp; rfl)); intro gb hg1 w3 hbox hb; have BK3 := Aside0.mk hbox; have HB3 := Aside0.mk hb; have GB3 := Aside0.mk hg1; clear hg1 hbox hb))
    have HG3 := Aside0.mk (blk_below HG0.out HB3.out)
    refine start_ (n := 14) (S := fun w' => w'.cell? ⟨g, 0, none⟩ = some (.slice A l.length c) ∧ w'.cell? ⟨gb, 0, none⟩ = some (.int .i64 x.f0) ∧ w'.cell? ⟨gb, 1, none⟩ = some (.int .i64 x.f1) ∧ w'.cell? ⟨gb, 2, none⟩ = some (.int .i64 x.f2) ∧ w'.cell? ⟨gb, 3, none⟩ = some (.int .i64 x.f3) ∧ w'.cell? ⟨g, 1, none⟩ = some (.bool true)) (ds := []) #[false, false, false, false, false, false, false, false, false, false, false, false, false, false] (by kernel_rfl) rfl rfl ⟨(blk_cell (blk_drew HG3.out) 0).trans rfl, (blk_cell (blk_drew BK3.out) 0).trans rfl, (blk_cell (blk_drew BK3.out) 1).trans rfl, (blk_cell (blk_drew BK3.out) 2).trans rfl, (blk_cell (blk_drew BK3.out) 3).trans rfl, (blk_cell (blk_drew HG3.out) 1).trans rfl⟩ (fun hHeld => ?_)
    refine pure_ (i := 0) (N := some 7) (v := ?_) (a' := ?_) #[true, false, false, false, false, false, false, false, false, false, false, false, false, false] rfl rfl (by kernel_rfl) (fun _ _ _ h => h) (Or.inl ⟨by rfl, ?_⟩) ?_ ?_
    rotate_left
    · intro w'
      go_simp
      with_reducible rfl
    rotate_left
    · simp only [Act.put, List.setIfInBounds_toArray, List.set_cons_zero, List.set_cons_succ, i64_w, i32_w]
      rfl
    refine pure_ (i := 1) (N := some 8) (v := ?_) (a' := ?_) #[true, true, false, false, false, false, false, false, false, false, false, false, false, false] rfl rfl (by kernel_rfl) (fun _ _ _ h => h) (Or.inl ⟨by rfl, ?_⟩) ?_ ?_
    rotate_left
    · intro w'
      go_simp
      with_reducible rfl
    rotate_left
    · simp only [Act.put, List.setIfInBounds_toArray, List.set_cons_zero, List.set_cons_succ, i64_w, i32_w]
      rfl
    refine pure_ (i := 2) (N := some 9) (v := ?_) (a' := ?_) #[true, true, true, false, false, false, false, false, false, false, false, false, false, false] rfl rfl (by kernel_rfl) (fun _ _ _ h => h) (Or.inl ⟨by rfl, ?_⟩) ?_ ?_
    rotate_left
    · intro w'
      go_simp
      with_reducible rfl
    rotate_left
    · simp only [Act.put, List.setIfInBounds_toArray, List.set_cons_zero, List.set_cons_succ, i64_w, i32_w]
      rfl
    refine take_ (i := 3) (N := some 10) (v := ?_) (a' := ?_) #[true, true, true, true, false, false, false, false, false, false, false, false, false, false] rfl rfl (by kernel_rfl) (fun _ _ _ h => h) (Or.inl ⟨by rfl, ?_⟩) hHeld ?_ ?_
    rotate_left
    · rintro w' ⟨s0, s1, s2, s3, s4, s5⟩
      go_simp
      with_reducible rfl
    rotate_left
    · simp only [Act.put, List.setIfInBounds_toArray, List.set_cons_zero, List.set_cons_succ, i64_w, i32_w]
      rfl
    refine pure_ (i := 4) (N := some 11) (v := ?_) (a' := ?_) #[true, true, true, true, true, false, false, false, false, false, false, false, false, false] rfl rfl (by kernel_rfl) (fun _ _ _ h => h) (Or.inl ⟨by rfl, ?_⟩) ?_ ?_
    rotate_left
    · intro w'
      go_simp
      with_reducible rfl
    rotate_left
    · simp only [Act.put, List.setIfInBounds_toArray, List.set_cons_zero, List.set_cons_succ, i64_w, i32_w]
      rfl
    refine pure_ (i := 5) (N := some 12) (v := undef) (a' := ?_) #[true, true, true, true, true, true, false, false, false, false, false, false, false, false] rfl rfl (by kernel_rfl) (fun _ _ _ h => h) (Or.inr ⟨by rfl, rfl⟩) ?_ ?_
    rotate_left
    · simp only [Act.put, List.setIfInBounds_toArray, List.set_cons_zero, List.set_cons_succ, i64_w, i32_w]
      rfl
    refine pure_ (i := 6) (N := some 13) (v := undef) (a' := ?_) #[true, true, true, true, true, true, true, false, false, false, false, false, false, false] rfl rfl (by kernel_rfl) (fun _ _ _ h => h) (Or.inr ⟨by rfl, rfl⟩) ?_ ?_
    rotate_left
    · simp only [Act.put, List.setIfInBounds_toArray, List.set_cons_zero, List.set_cons_succ, i64_w, i32_w]
      rfl
    refine pure_ (i := 7) (N := some 14) (v := undef) (a' := ?_) #[true, true, true, true, true, true, true, true, false, false, false, false, false, false] rfl rfl (by kernel_rfl) (fun _ _ _ h => h) (Or.inr ⟨by rfl, rfl⟩) ?_ ?_
    rotate_left
    · simp only [Act.put, List.setIfInBounds_toArray, List.set_cons_zero, List.set_cons_succ, i64_w, i32_w]
      rfl
    refine pure_ (i := 8) (N := some 15) (v := undef) (a' := ?_) #[true, true, true, true, true, true, true, true, true, false, false, false, false, false] rfl rfl (by kernel_rfl) (fun _ _ _ h => h) (Or.inr ⟨by rfl, rfl⟩) ?_ ?_
    rotate_left
    · simp only [Act.put, List.setIfInBounds_toArray, List.set_cons_zero, List.set_cons_succ, i64_w, i32_w]
      rfl
    refine pure_ (i := 9) (N := some 16) (v := undef) (a' := ?_) #[true, true, true, true, true, true, true, true, true, true, false, false, false, false] rfl rfl (by kernel_rfl) (fun _ _ _ h => h) (Or.inr ⟨by rfl, rfl⟩) ?_ ?_
    rotate_left
    · simp only [Act.put, List.setIfInBounds_toArray, List.set_cons_zero, List.set_cons_succ, i64_w, i32_w]
      rfl
    refine pure_ (i := 10) (N := some 17) (v := undef) (a' := ?_) #[true, true, true, true, true, true, true, true, true, true, true, false, false, false] rfl rfl (by kernel_rfl) (fun _ _ _ h => h) (Or.inr ⟨by rfl, rfl⟩) ?_ ?_
    rotate_left
    · simp only [Act.put, List.setIfInBounds_toArray, List.set_cons_zero, List.set_cons_succ, i64_w, i32_w]
      rfl
    refine pure_ (i := 11) (N := some 18) (v := undef) (a' := ?_) #[true, true, true, true, true, true, true, true, true, true, true, true, false, false] rfl rfl (by kernel_rfl) (fun _ _ _ h => h) (Or.inr ⟨by rfl, rfl⟩) ?_ ?_
    rotate_left
    · simp only [Act.put, List.setIfInBounds_toArray, List.set_cons_zero, List.set_cons_succ, i64_w, i32_w]
      rfl
    refine pure_ (i := 12) (N := some 19) (v := undef) (a' := ?_) #[true, true, true, true, true, true, true, true, true, true, true, true, true, false] rfl rfl (by kernel_rfl) (fun _ _ _ h => h) (Or.inr ⟨by rfl, rfl⟩) ?_ ?_
    rotate_left
    · simp only [Act.put, List.setIfInBounds_toArray, List.set_cons_zero, List.set_cons_succ, i64_w, i32_w]
      rfl
    refine pure_ (i := 13) (N := some 20) (v := ?_) (a' := ?_) #[true, true, true, true, true, true, true, true, true, true, true, true, true, true] rfl rfl (by kernel_rfl) (fun _ _ _ h => h) (Or.inl ⟨by rfl, ?_⟩) ?_ ?_
    rotate_left
    · intro w'
      go_simp
      with_reducible rfl
    rotate_left
    · simp only [Act.put, List.setIfInBounds_toArray, List.set_cons_zero, List.set_cons_succ, i64_w, i32_w]
      rfl
    refine done_ (by kernel_rfl) ?_
    have HG4 := Aside0.mk (blk_drew HG3.out)
    have BK4 := Aside0.mk (blk_drew BK3.out)
    have HB4 := Aside0.mk (below_drew1 HB3.out)
    generalize w3.drew = w4 at HG4 BK4 HB4 ⊢
    have hn0 : w4.cell? ⟨gb, 0, none⟩ = some (.int .i64 x.f0) := (blk_cell BK4.out 0).trans rfl
    have hn1 : w4.cell? ⟨gb, 1, none⟩ = some (.int .i64 x.f1) := (blk_cell BK4.out 1).trans rfl
    have hn2 : w4.cell? ⟨gb, 2, none⟩ = some (.int .i64 x.f2) := (blk_cell BK4.out 2).trans rfl
    have hn3 : w4.cell? ⟨gb, 3, none⟩ = some (.int .i64 x.f3) := (blk_cell BK4.out 3).trans rfl
    have hf0 := blk_frozen BK4.out 0
    have hf1 := blk_frozen BK4.out 1
    have hf2 := blk_frozen BK4.out 2
    have hf3 := blk_frozen BK4.out 3
    have hg0 : w4.cell? ⟨g, 0, none⟩ = some (.slice A l.length c) := (blk_cell HG4.out 0).trans rfl
    have hgf := blk_frozen HG4.out 0
    have hg1 : w4.cell? ⟨g, 1, none⟩ = some (.bool true) := (blk_cell HG4.out 1).trans rfl
    have hgf1 := blk_frozen HG4.out 1
    go_wp2
    obtain ⟨w9, hw9⟩ : ∃ w9, w4.setCell ⟨g, 1, none⟩ (.bool true) = w9 := ⟨_, rfl⟩
    rw [hw9]
    have HG9 : w9.heap[g]? = some (.cells #[.slice A l.length c, .bool true] 132 (0, 0)) := by rw [← hw9]; exact blk_put (HG4.out) 1 _ rfl
    have HB9 : Below base w w9 := by rw [← hw9]; exact (HB4.out.mono HBS.out).setCell HBG.out _
    have HK9 : Kept w w9 (Mine g ok) := by rw [← hw9]; exact Kept.setCell (Kept.of_below HB4.out _) (.inl (.inl rfl)) _
    have HO9 : Kd.R k34 34 w9 base ok (.slice A l.length c) l := by rw [← hw9]; exact Kd.R_far (Kd.R_below HR.out HB4.out) (fun k hk e => HNO.out (by rwa [show k = g from e] at hk)) _
    clear hw9
    go_ret
    rw [HE.out]
    exact ⟨rfl, ⟨_, HG9, HBG.out, HNO.out, HO9⟩, HB9, HK9⟩
  | false =>
    obtain ⟨kn, hK⟩ := impl_nodeRight_f x.f0 x.f1 x.f2 x.f3 (l.length : Int) (by have := HL.out; omega)
    have HK := Aside0.mk (hK kn (Nat.le_refl _))
    clear hK
    by_cases hb : nodeB x.f0 x.f1 x.f2 x.f3 (l.length : Int) = true
    · rw [hb] at HK
      have HN := Aside0.mk hb
      clear hb hbw
      go_enter Try.func112, Try.ntmps112
      go_wp2_with (first | ((with_reducible refine gate_dst (N := 3) rfl ?_); refine box_event ?hg (N := 3) ?hd (cs := #[.int .i64 x.f0, .int .i64 x.f1, .int .i64 x.f2, .int .i64 x.f3]) (t := 34) ?hr ?_; (case hd => rfl); (case hg => rfl); (case hr => first | (go_simp; done) | (go_simp; rfl)); intro gb hg1 w3 hbox hb; have BK3 := Aside0.mk hbox; have HB3 := Aside0.mk hb; have GB3 := Aside0.mk hg1; clear hg1 hbox hb))
      have HG3 := Aside0.mk (blk_below HG0.out HB3.out)
      refine start_ (n := 14) (S := fun w' => w'.cell? ⟨g, 0, none⟩ = some (.slice A l.length c) ∧ w'.cell? ⟨gb, 0, none⟩ = some (.int .i64 x.f0) ∧ w'.cell? ⟨gb, 1, none⟩ = some (.int .i64 x.f1) ∧ w'.cell? ⟨gb, 2, none⟩ = some (.int .i64 x.f2) ∧ w'.cell? ⟨gb, 3, none⟩ = some (.int .i64 x.f3) ∧ w'.cell? ⟨g, 1, none⟩ = some (.bool false)) (ds := []) #[false, false, false, false, false, false, false, false, false, false, false, false, false, false] (by kernel_rfl) rfl rfl ⟨(blk_cell (blk_drew HG3.out) 0).trans rfl, (blk_cell (blk_drew BK3.out) 0).trans rfl, (blk_cell (blk_drew BK3.out) 1).trans rfl, (blk_cell (blk_drew BK3.out) 2).trans rfl, (blk_cell (blk_drew BK3.out) 3).trans rfl, (blk_cell (blk_drew HG3.out) 1).trans rfl⟩ (fun hHeld => ?_)
      refine pure_ (i := 0) (N := some 7) (v := ?_) (a' := ?_) #[true, false, false, false, false, false, false, false, false, false, false, false, false, false] rfl rfl (by kernel_rfl) (fun _ _ _ h => h) (Or.inl ⟨by rfl, ?_⟩) ?_ ?_
      rotate_left
      · intro w'
        go_simp
        with_reducible rfl
      rotate_left
      · simp only [Act.put, List.setIfInBounds_toArray, List.set_cons_zero, List.set_cons_succ, i64_w, i32_w]
        rfl
      refine pure_ (i := 1) (N := some 8) (v := ?_) (a' := ?_) #[true, true, false, false, false, false, false, false, false, false, false, false, false, false] rfl rfl (by kernel_rfl) (fun _ _ _ h => h) (Or.inl ⟨by rfl, ?_⟩) ?_ ?_
      rotate_left
      · intro w'
        go_simp
        with_reducible rfl
      rotate_left
      · simp only [Act.put, List.setIfInBounds_toArray, List.set_cons_zero, List.set_cons_succ, i64_w, i32_w]
        rfl
      refine pure_ (i := 2) (N := some 9) (v := ?_) (a' := ?_) #[true, true, true, false, false, false, false, false, false, false, false, false, false, false] rfl rfl (by kernel_rfl) (fun _ _ _ h => h) (Or.inl ⟨by rfl, ?_⟩) ?_ ?_
      rotate_left
      · intro w'
        go_simp
        with_reducible rfl
      rotate_left
      · simp only [Act.put, List.setIfInBounds_toArray, List.set_cons_zero, List.set_cons_succ, i64_w, i32_w]
        rfl
      refine take_ (i := 3) (N := some 10) (v := ?_) (a' := ?_) #[true, true, true, true, false, false, false, false, false, false, false, false, false, false] rfl rfl (by kernel_rfl) (fun _ _ _ h => h) (Or.inl ⟨by rfl, ?_⟩) hHeld ?_ ?_
      rotate_left
      · rintro w' ⟨s0, s1, s2, s3, s4, s5⟩
        go_simp
        with_reducible rfl
      rotate_left
      · simp only [Act.put, List.setIfInBounds_toArray, List.set_cons_zero, List.set_cons_succ, i64_w, i32_w]
        rfl
      refine pure_ (i := 4) (N := some 11) (v := ?_) (a' := ?_) #[true, true, true, true, true, false, false, false, false, false, false, false, false, false] rfl rfl (by kernel_rfl) (fun _ _ _ h => h) (Or.inl ⟨by rfl, ?_⟩) ?_ ?_
      rotate_left
      · intro w'
        go_simp
        with_reducible rfl
      rotate_left
      · simp only [Act.put, List.setIfInBounds_toArray, List.set_cons_zero, List.set_cons_succ, i64_w, i32_w]
        rfl
      refine pure_ (i := 6) (N := some 13) (v := ?_) (a' := ?_) #[true, true, true, true, true, false, true, false, false, false, false, false, false, false] rfl rfl (by kernel_rfl) (fun _ _ _ h => h) (Or.inl ⟨by rfl, ?_⟩) ?_ ?_
      rotate_left
      · intro w'
        go_simp
        with_reducible rfl
      rotate_left
      · simp only [Act.put, List.setIfInBounds_toArray, List.set_cons_zero, List.set_cons_succ, i64_w, i32_w]
        rfl
      refine pure_ (i := 7) (N := some 14) (v := ?_) (a' := ?_) #[true, true, true, true, true, false, true, true, false, false, false, false, false, false] rfl rfl (by kernel_rfl) (fun _ _ _ h => h) (Or.inl ⟨by rfl, ?_⟩) ?_ ?_
      rotate_left
      · intro w'
        go_simp
        with_reducible rfl
      rotate_left
      · simp only [Act.put, List.setIfInBounds_toArray, List.set_cons_zero, List.set_cons_succ, i64_w, i32_w]
        rfl
      refine pure_ (i := 8) (N := some 15) (v := ?_) (a' := ?_) #[true, true, true, true, true, false, true, true, true, false, false, false, false, false] rfl rfl (by kernel_rfl) (fun _ _ _ h => h) (Or.inl ⟨by rfl, ?_⟩) ?_ ?_
      rotate_left
      · intro w'
        go_simp
        with_reducible rfl
      rotate_left
      · simp only [Act.put, List.setIfInBounds_toArray, List.set_cons_zero, List.set_cons_succ, i64_w, i32_w]
        rfl
      refine take_ (i := 5) (N := some 12) (v := ?_) (a' := ?_) #[true, true, true, true, true, true, true, true, true, false, false, false, false, false] rfl rfl (by kernel_rfl) (fun _ _ _ h => h) (Or.inl ⟨by rfl, ?_⟩) hHeld ?_ ?_
      rotate_left
      · rintro w' ⟨s0, s1, s2, s3, s4, s5⟩
        go_simp
        with_reducible rfl
      rotate_left
      · simp only [Act.put, List.setIfInBounds_toArray, List.set_cons_zero, List.set_cons_succ, i64_w, i32_w]
        rfl
      refine take_ (i := 9) (N := some 16) (v := ?_) (a' := ?_) #[true, true, true, true, true, true, true, true, true, true, false, false, false, false] rfl rfl (by kernel_rfl) (fun _ _ _ h => h) (Or.inl ⟨by rfl, ?_⟩) hHeld ?_ ?_
      rotate_left
      · rintro w' ⟨s0, s1, s2, s3, s4, s5⟩
        go_simp
        with_reducible rfl
      rotate_left
      · simp only [Act.put, List.setIfInBounds_toArray, List.set_cons_zero, List.set_cons_succ, i64_w, i32_w]
        rfl
      refine pure_ (i := 10) (N := some 17) (v := ?_) (a' := ?_) #[true, true, true, true, true, true, true, true, true, true, true, false, false, false] rfl rfl (by kernel_rfl) (fun _ _ _ h => h) (Or.inl ⟨by rfl, ?_⟩) ?_ ?_
      rotate_left
      · intro w'
        go_simp
        with_reducible rfl
      rotate_left
      · simp only [Act.put, List.setIfInBounds_toArray, List.set_cons_zero, List.set_cons_succ, i64_w, i32_w]
        rfl
      refine one_ (i := 11) (N := some 18) #[true, true, true, true, true, true, true, true, true, true, true, true, false, false] rfl rfl (by kernel_rfl) (by decide) (fun K hK => ?_)
      refine goes_ Try.func84 (by kernel_rfl) rfl #[.agg #[.int .i64 x.f0, .int .i64 x.f1, .int .i64 x.f2, .int .i64 x.f3], .int .i64 (l.length : Int)] (by rfl) rfl rfl (by simp only [List.map_toArray, List.map_cons, List.map_nil]; rfl) ?_
      with_reducible refine (impl_nodeRight.calls kn x.f0 x.f1 x.f2 x.f3 (l.length : Int) true _ HK.out).mono ?_
      rintro e w4 ⟨rfl, hb4⟩
      refine ⟨_, rfl, ?_⟩
      have HG4 := Aside0.mk (blk_below (blk_drew HG3.out) hb4)
      have BK4 := Aside0.mk (blk_below (blk_drew BK3.out) hb4)
      have HB4 := Aside0.mk (below_step (below_drew1 HB3.out) hb4)
      clear hb4
      refine hK.out _ _ ⟨(blk_cell (HG4.out) 0).trans rfl, (blk_cell (BK4.out) 0).trans rfl, (blk_cell (BK4.out) 1).trans rfl, (blk_cell (BK4.out) 2).trans rfl, (blk_cell (BK4.out) 3).trans rfl, (blk_cell HG4.out 1).trans rfl⟩ (fun hHeld => ?_)
      clear hK K
      refine norm_ (a' := ?_) ?_ ?_
      rotate_left
      · show Act.put _ (some 18) _ = _
        simp only [Act.put, List.setIfInBounds_toArray, List.set_cons_zero, List.set_cons_succ, i64_w, i32_w]
        rfl
      refine pure_ (i := 12) (N := some 19) (v := ?_) (a' := ?_) #[true, true, true, true, true, true, true, true, true, true, true, true, true, false] rfl rfl (by kernel_rfl) (fun _ _ _ h => h) (Or.inl ⟨by rfl, ?_⟩) ?_ ?_
      rotate_left
      · intro w'
        go_simp
        with_reducible rfl
      rotate_left
      · simp only [Act.put, List.setIfInBounds_toArray, List.set_cons_zero, List.set_cons_succ, i64_w, i32_w]
        rfl
      refine pure_ (i := 13) (N := some 20) (v := ?_) (a' := ?_) #[true, true, true, true, true, true, true, true, true, true, true, true, true, true] rfl rfl (by kernel_rfl) (fun _ _ _ h => h) (Or.inl ⟨by rfl, ?_⟩) ?_ ?_
      rotate_left
      · intro w'
        go_simp
        with_reducible rfl
      rotate_left
      · simp only [Act.put, List.setIfInBounds_toArray, List.set_cons_zero, List.set_cons_succ, i64_w, i32_w]
        rfl
      refine done_ (by kernel_rfl) ?_
      have hn0 : w4.cell? ⟨gb, 0, none⟩ = some (.int .i64 x.f0) := (blk_cell BK4.out 0).trans rfl
      have hn1 : w4.cell? ⟨gb, 1, none⟩ = some (.int .i64 x.f1) := (blk_cell BK4.out 1).trans rfl
      have hn2 : w4.cell? ⟨gb, 2, none⟩ = some (.int .i64 x.f2) := (blk_cell BK4.out 2).trans rfl
      have hn3 : w4.cell? ⟨gb, 3, none⟩ = some (.int .i64 x.f3) := (blk_cell BK4.out 3).trans rfl
      have hf0 := blk_frozen BK4.out 0
      have hf1 := blk_frozen BK4.out 1
      have hf2 := blk_frozen BK4.out 2
      have hf3 := blk_frozen BK4.out 3
      have hg0 : w4.cell? ⟨g, 0, none⟩ = some (.slice A l.length c) := (blk_cell HG4.out 0).trans rfl
      have hgf := blk_frozen HG4.out 0
      have hg1 : w4.cell? ⟨g, 1, none⟩ = some (.bool false) := (blk_cell HG4.out 1).trans rfl
      have hgf1 := blk_frozen HG4.out 1
      go_wp2
      go_loopw [29] (fun v wr => ∃ i : Int, 0 ≤ i ∧ i ≤ l.length ∧ v = .int .i64 i ∧ Aside0 (∀ m (hm : m < l.length), m < i.toNat → sameN l[m] x = false) ∧ Aside0 (wr.heap[g]? = some (.cells #[.slice A l.length c, .bool false] 132 (0, 0))) ∧ Aside0 (wr.heap[gb]? = some (.cells #[.int .i64 x.f0, .int .i64 x.f1, .int .i64 x.f2, .int .i64 x.f3] 34 (0, 0))) ∧ Aside0 (Below w.heap.size w wr)) (fun i _ => l.length - (intOf i).toNat)
      case atStart => exact ⟨0, by omega, by omega, rfl, ⟨fun m _ hm => by simp at hm⟩, ⟨HG4.out⟩, ⟨BK4.out⟩, ⟨HB4.out⟩⟩
      case round =>
        clear hn0 hf0 hn1 hf1 hn2 hf2 hn3 hf3 hg0 hgf hg1 hgf1
        obtain ⟨i, h0, h1, rfl, HA, HG5, BK5, HB5⟩ := hrel
        have Hi := Aside0.mk h0
        have Hj := Aside0.mk h1
        have hn0 : wr.cell? ⟨gb, 0, none⟩ = some (.int .i64 x.f0) := (blk_cell BK5.out 0).trans rfl
        have hn1 : wr.cell? ⟨gb, 1, none⟩ = some (.int .i64 x.f1) := (blk_cell BK5.out 1).trans rfl
        have hn2 : wr.cell? ⟨gb, 2, none⟩ = some (.int .i64 x.f2) := (blk_cell BK5.out 2).trans rfl
        have hn3 : wr.cell? ⟨gb, 3, none⟩ = some (.int .i64 x.f3) := (blk_cell BK5.out 3).trans rfl
        have hf0 := blk_frozen BK5.out 0
        have hf1 := blk_frozen BK5.out 1
        have hf2 := blk_frozen BK5.out 2
        have hf3 := blk_frozen BK5.out 3
        have hg0 : wr.cell? ⟨g, 0, none⟩ = some (.slice A l.length c) := (blk_cell HG5.out 0).trans rfl
        have hgf := blk_frozen HG5.out 0
        have hg1 : wr.cell? ⟨g, 1, none⟩ = some (.bool false) := (blk_cell HG5.out 1).trans rfl
        have hgf1 := blk_frozen HG5.out 1
        have hm0 : ∀ o, (wr.alloc o).cell? ⟨gb, 0, none⟩ = some (.int .i64 x.f0) := fun o => (blk_cell (blk_alloc BK5.out o) 0).trans rfl
        have hm1 : ∀ o, (wr.alloc o).cell? ⟨gb, 1, none⟩ = some (.int .i64 x.f1) := fun o => (blk_cell (blk_alloc BK5.out o) 1).trans rfl
        have hm2 : ∀ o, (wr.alloc o).cell? ⟨gb, 2, none⟩ = some (.int .i64 x.f2) := fun o => (blk_cell (blk_alloc BK5.out o) 2).trans rfl
        have hm3 : ∀ o, (wr.alloc o).cell? ⟨gb, 3, none⟩ = some (.int .i64 x.f3) := fun o => (blk_cell (blk_alloc BK5.out o) 3).trans rfl
        by_cases hlt : i < (l.length : Int)
        · obtain ⟨ad, e1, x0, x1, x2, x3⟩ := at_T34 HC.out i h0 hlt
          cases e1
          have Hlt := Aside0.mk hlt
          obtain ⟨nd, hnd⟩ : ∃ nd, rd_T34 l i = nd := ⟨_, rfl⟩
          rw [hnd] at x0 x1 x2 x3
          have enode : ∀ h : i.toNat < l.length, l[i.toNat]'h = nd := fun h => by rw [← hnd, ← rdI (l := l) (i := i.toNat) h, Int.toNat_of_nonneg h0]
          have EN := Aside0.mk enode
          replace x0 := (HB5.out.cell (World.block_lt_of_cell? w _ x0)).trans x0
          replace x1 := (HB5.out.cell (World.block_lt_of_cell? w _ x1)).trans x1
          replace x2 := (HB5.out.cell (World.block_lt_of_cell? w _ x2)).trans x2
          replace x3 := (HB5.out.cell (World.block_lt_of_cell? w _ x3)).trans x3
          have p0 : (0 ≤ i) = True := eq_true h0
          have p1 : (i < (l.length : Int)) = True := eq_true hlt
          have p2 : decide (i < (l.length : Int)) = true := decide_eq_true hlt
          by_cases hs : sameN nd x = true
          · have he : putB l false x = (l, false, i) := by
              have ha : atV l x = i := by
                have := atV_hit (l := l) (x := x) (i := i.toNat) (by omega) (by rw [enode (by omega)]; exact hs) (fun j hj => HA.out j (by omega) hj)
                rw [this, Int.toNat_of_nonneg h0]
              have hp : putN l x = (l, i) := by unfold putN; rw [if_pos HN.out, ha, if_pos h0]
              unfold putB
              rw [if_neg (by simp), hp, if_neg (by simp only; omega)]
            have HE := Aside0.mk he
            clear he h0 h1 hlt hnd enode
            have hs2 := sameN_eq hs
            clear hs
            subst hs2
            go_wp2
            go_ret
            rw [HE.out]
            exact ⟨rfl, ⟨_, blk_alloc HG5.out _, HBG.out, HNO.out, Kd.R_alloc (Kd.R_below HR.out HB5.out) _⟩, (below_alloc HB5.out _).mono HBS.out, Kept.of_below (below_alloc HB5.out _) _⟩
          · have hs0 : sameN nd x = false := by simpa using hs
            have HS0 := Aside0.mk hs0
            rw [← sameN_def] at hs0
            clear h0 h1 hlt hnd enode hs
            go_wp2
            all_goals first
              | (exfalso; simp_all; done)
              | skip
            all_goals
              go_roundw
              case rel =>
                have hll := HL.out
                have hii := Hi.out
                have hij := Hlt.out
                refine ⟨i + 1, by omega, by omega, by first | rfl | (simp only [Value.int.injEq, true_and]; exact w64 (by omega) (by omega)), ⟨fun m hm hmi => ?_⟩, ⟨blk_alloc HG5.out _⟩, ⟨blk_alloc BK5.out _⟩, ⟨below_alloc HB5.out _⟩⟩
                by_cases hmi2 : m = i.toNat
                · subst hmi2
                  rw [EN.out hm]; exact HS0.out
                · exact HA.out m hm (by omega)
              case measure => have hii := Hi.out; have hij := Hlt.out; have hll := HL.out; have hw := w64 (x := i + 1) (by omega) (by omega); simp only [intOf]; simp; rw [hw]; omega
        · obtain rfl : i = (l.length : Int) := by omega
          have ha : atV l x = -1 := atV_miss (fun j hj => HA.out j hj (by omega))
          clear h0 h1 hlt
          by_cases h3 : 3000 ≤ l.length
          · have he : putB l false x = (l, true, -1) := by
              have hp : putN l x = (l, -1) := by unfold putN; rw [if_pos HN.out, if_neg (by omega), if_pos h3]
              unfold putB
              rw [if_neg (by simp), hp]
              rfl
            have HE := Aside0.mk he
            have h30 : decide (3000 ≤ (l.length : Int)) = true := decide_eq_true (by omega)
            have h31 : decide (3000 ≤ l.length) = true := decide_eq_true h3
            clear he ha h3
            go_wp2
            obtain ⟨w9, hw9⟩ : ∃ w9, wr.setCell ⟨g, 1, none⟩ (.bool true) = w9 := ⟨_, rfl⟩
            rw [hw9]
            have HG9 : w9.heap[g]? = some (.cells #[.slice A l.length c, .bool true] 132 (0, 0)) := by rw [← hw9]; exact blk_put (HG5.out) 1 _ rfl
            have HB9 : Below base w w9 := by rw [← hw9]; exact (HB5.out.mono HBS.out).setCell HBG.out _
            have HK9 : Kept w w9 (Mine g ok) := by rw [← hw9]; exact Kept.setCell (Kept.of_below HB5.out _) (.inl (.inl rfl)) _
            have HO9 : Kd.R k34 34 w9 base ok (.slice A l.length c) l := by rw [← hw9]; exact Kd.R_far (Kd.R_below HR.out HB5.out) (fun k hk e => HNO.out (by rwa [show k = g from e] at hk)) _
            clear hw9
            go_ret
            rw [HE.out]
            exact ⟨rfl, ⟨_, HG9, HBG.out, HNO.out, HO9⟩, HB9, HK9⟩
          · have he : putB l false x = (l ++ [x], false, (l.length : Int)) := by
              have hp : putN l x = (l ++ [x], (l.length : Int)) := by unfold putN; rw [if_pos HN.out, if_neg (by omega), if_neg h3]
              unfold putB
              rw [if_neg (by simp), hp, if_neg (by simp only; omega)]
            have HE := Aside0.mk he
            have h30 : decide (3000 ≤ (l.length : Int)) = false := decide_eq_false (by omega)
            have h31 : decide (3000 ≤ l.length) = false := decide_eq_false h3
            have H3 := Aside0.mk h3
            clear he ha h3
            go_wp2
            have HRw := Aside0.mk (Kd.R_below (Kd.R_elderB HR.out gb (by rw [GB3.out]; exact Nat.le_refl _)) HB5.out)
            have HS5 := Aside0.mk (below_size HB5.out)
            have HGB := Aside0.mk (show gb < wr.heap.size from blk_lt BK5.out)
            refine start_ (n := 11) (S := fun w' => w'.cell? ⟨g, 0, none⟩ = some (.slice A l.length c) ∧ w'.cell? ⟨gb, 0, none⟩ = some (.int .i64 x.f0) ∧ w'.cell? ⟨gb, 1, none⟩ = some (.int .i64 x.f1) ∧ w'.cell? ⟨gb, 2, none⟩ = some (.int .i64 x.f2) ∧ w'.cell? ⟨gb, 3, none⟩ = some (.int .i64 x.f3)) (ds := [10]) #[false, false, false, false, false, false, false, false, false, false, false] (by kernel_rfl) rfl rfl ⟨(blk_cell (blk_drew HG5.out) 0).trans rfl, (blk_cell (blk_drew BK5.out) 0).trans rfl, (blk_cell (blk_drew BK5.out) 1).trans rfl, (blk_cell (blk_drew BK5.out) 2).trans rfl, (blk_cell (blk_drew BK5.out) 3).trans rfl⟩ (fun hHeld => ?_)
            refine pure_ (i := 0) (N := some 48) (v := ?_) (a' := ?_) #[true, false, false, false, false, false, false, false, false, false, false] rfl rfl (by kernel_rfl) (fun _ _ _ h => h) (Or.inl ⟨by rfl, ?_⟩) ?_ ?_
            rotate_left
            · intro w'
              go_simp
              with_reducible rfl
            rotate_left
            · simp only [Act.put, List.setIfInBounds_toArray, List.set_cons_zero, List.set_cons_succ, i64_w, i32_w]
              rfl
            refine pure_ (i := 1) (N := some 49) (v := ?_) (a' := ?_) #[true, true, false, false, false, false, false, false, false, false, false] rfl rfl (by kernel_rfl) (fun _ _ _ h => h) (Or.inl ⟨by rfl, ?_⟩) ?_ ?_
            rotate_left
            · intro w'
              go_simp
              with_reducible rfl
            rotate_left
            · simp only [Act.put, List.setIfInBounds_toArray, List.set_cons_zero, List.set_cons_succ, i64_w, i32_w]
              rfl
            refine pure_ (i := 2) (N := some 50) (v := ?_) (a' := ?_) #[true, true, true, false, false, false, false, false, false, false, false] rfl rfl (by kernel_rfl) (fun _ _ _ h => h) (Or.inl ⟨by rfl, ?_⟩) ?_ ?_
            rotate_left
            · intro w'
              go_simp
              with_reducible rfl
            rotate_left
            · simp only [Act.put, List.setIfInBounds_toArray, List.set_cons_zero, List.set_cons_succ, i64_w, i32_w]
              rfl
            refine pure_ (i := 3) (N := some 51) (v := ?_) (a' := ?_) #[true, true, true, true, false, false, false, false, false, false, false] rfl rfl (by kernel_rfl) (fun _ _ _ h => h) (Or.inl ⟨by rfl, ?_⟩) ?_ ?_
            rotate_left
            · intro w'
              go_simp
              with_reducible rfl
            rotate_left
            · simp only [Act.put, List.setIfInBounds_toArray, List.set_cons_zero, List.set_cons_succ, i64_w, i32_w]
              rfl
            refine take_ (i := 4) (N := some 52) (v := ?_) (a' := ?_) #[true, true, true, true, true, false, false, false, false, false, false] rfl rfl (by kernel_rfl) (fun _ _ _ h => h) (Or.inl ⟨by rfl, ?_⟩) hHeld ?_ ?_
            rotate_left
            · rintro w' ⟨s0, s1, s2, s3, s4⟩
              go_simp
              with_reducible rfl
            rotate_left
            · simp only [Act.put, List.setIfInBounds_toArray, List.set_cons_zero, List.set_cons_succ, i64_w, i32_w]
              rfl
            refine take_ (i := 5) (N := some 53) (v := ?_) (a' := ?_) #[true, true, true, true, true, true, false, false, false, false, false] rfl rfl (by kernel_rfl) (fun _ _ _ h => h) (Or.inl ⟨by rfl, ?_⟩) hHeld ?_ ?_
            rotate_left
            · rintro w' ⟨s0, s1, s2, s3, s4⟩
              go_simp
              with_reducible rfl
            rotate_left
            · simp only [Act.put, List.setIfInBounds_toArray, List.set_cons_zero, List.set_cons_succ, i64_w, i32_w]
              rfl
            refine one_ (i := 6) (N := some 54) #[true, true, true, true, true, true, true, false, false, false, false] rfl rfl (by kernel_rfl) (by decide) (fun K hK => ?_)
            refine value_ (w1 := ?_) (v := ?_) (by rfl) rfl ?_ ?_
            rotate_left 2
            · go_simp
              constructor
              · rfl
              · rfl
            refine hK.out _ _ ⟨(blk_cell (blk_alloc (blk_drew HG5.out) _) 0).trans rfl, (blk_cell (blk_alloc (blk_drew BK5.out) _) 0).trans rfl, (blk_cell (blk_alloc (blk_drew BK5.out) _) 1).trans rfl, (blk_cell (blk_alloc (blk_drew BK5.out) _) 2).trans rfl, (blk_cell (blk_alloc (blk_drew BK5.out) _) 3).trans rfl⟩ (fun hHeld => ?_)
            clear hK K
            refine norm_ (a' := ?_) ?_ ?_
            rotate_left
            · show Act.put _ (some 54) _ = _
              simp only [Act.put, List.setIfInBounds_toArray, List.set_cons_zero, List.set_cons_succ, i64_w, i32_w]
              rfl
            refine one_ (i := 7) (N := some 55) #[true, true, true, true, true, true, true, true, false, false, false] rfl rfl (by kernel_rfl) (by decide) (fun K hK => ?_)
            refine Kd.R_append_step k34 (w0 := w) (W := wr.drew) base (by rfl) (.tmp 52) (.tmp 54) 24 34 (.agg #[.int .i64 0, .int .i64 0, .int .i64 0, .int .i64 0]) 32 rfl Try.underlying24 info34 rfl (by decide) (by decide) (.slice A l.length c) l x [.int .i64 x.f0, .int .i64 x.f1, .int .i64 x.f2, .int .i64 x.f3] (fun k => ok k ∧ k ≠ gb) (fun _ => False) rfl rfl (k34_mkM _ _ _ x) (fun _ h => h.elim) (fun k hk => ⟨HF.out k (Nat.le_trans HS5.out hk), fun e => Nat.lt_irrefl _ (Nat.lt_of_lt_of_le HGB.out (e ▸ hk))⟩) (Kd.R_drew HRw.out) ((below_drew1 HB5.out).mono HBS.out) (Nat.le_trans HBS.out HS5.out) (Nat.le_trans (Nat.mul_le_mul_right 32 (Nat.lt_of_not_le H3.out)) (by decide)) ?_
            intro v1 w7 ho hb hg hat
            have hne : ∀ k, (Value.slice A l.length c).ownBlock = some k → ok k ∧ k ≠ gb := HRw.out.1
            have HG7 := Aside0.mk (blk_grown (blk_drew HG5.out) hg (fun e => HNO.out (hne _ e.symm).1))
            have BK7 := Aside0.mk (blk_grown (blk_drew BK5.out) hg (fun e => (hne _ e.symm).2 rfl))
            have HK7 := Aside0.mk (Kept.of_grown (S := Mine g ok) hg (Kept.drew (Kept.of_below HB5.out _)) (fun k hk => .inl (.inr (hne k hk).1)))
            have HB7 := Aside0.mk hb
            obtain ⟨A1, c1, rfl, hlc1, _⟩ := Kd.R_reads ho
            have HO7 := Aside0.mk ho
            have hg07 : w7.cell? ⟨g, 0, none⟩ = some (.slice A l.length c) := (blk_cell HG7.out 0).trans rfl
            have hgf7 := blk_frozen HG7.out 0
            clear ho hb hg hat hne hlc1
            refine hK.out _ _ ⟨(blk_cell HG7.out 0).trans rfl, (blk_cell BK7.out 0).trans rfl, (blk_cell BK7.out 1).trans rfl, (blk_cell BK7.out 2).trans rfl, (blk_cell BK7.out 3).trans rfl⟩ (fun hHeld => ?_)
            clear hK K
            refine norm_ (a' := ?_) ?_ ?_
            rotate_left
            · show Act.put _ (some 55) _ = _
              simp only [Act.put, List.setIfInBounds_toArray, List.set_cons_zero, List.set_cons_succ, i64_w, i32_w]
              rfl
            refine pure_ (i := 8) (N := some 56) (v := ?_) (a' := ?_) #[true, true, true, true, true, true, true, true, true, false, false] rfl rfl (by kernel_rfl) (fun _ _ _ h => h) (Or.inl ⟨by rfl, ?_⟩) ?_ ?_
            rotate_left
            · intro w'
              go_simp
              with_reducible rfl
            rotate_left
            · simp only [Act.put, List.setIfInBounds_toArray, List.set_cons_zero, List.set_cons_succ, i64_w, i32_w]
              rfl
            refine pure_ (i := 9) (N := some 57) (v := ?_) (a' := ?_) #[true, true, true, true, true, true, true, true, true, true, false] rfl rfl (by kernel_rfl) (fun _ _ _ h => h) (Or.inl ⟨by rfl, ?_⟩) ?_ ?_
            rotate_left
            · intro w'
              go_simp
              with_reducible rfl
            rotate_left
            · simp only [Act.put, List.setIfInBounds_toArray, List.set_cons_zero, List.set_cons_succ, i64_w, i32_w]
              rfl
            refine last_ (i := 10) (N := none) #[true, true, true, true, true, true, true, true, true, true, true] rfl rfl (by kernel_rfl) (by decide) (fun K hK => ?_)
            refine skip_ (w1 := ?_) (by rfl) rfl ?_ ?_
            rotate_left
            · go_simp
              rfl
            refine hK.out _ _ ?_
            clear hK K
            refine done_ (by kernel_rfl) ?_
            obtain ⟨w8, hw8⟩ : ∃ w8, w7.setCell ⟨g, 0, none⟩ (.slice A1 (l.length + 1) c1) = w8 := ⟨_, rfl⟩
            rw [hw8]
            have HG8 := Aside0.mk (show w8.heap[g]? = some (.cells #[.slice A1 (l.length + 1) c1, .bool false] 132 (0, 0)) by rw [← hw8]; exact blk_put HG7.out 0 _ rfl)
            have HB8 := Aside0.mk (show Below base w w8 by rw [← hw8]; exact HB7.out.setCell HBG.out _)
            have HK8 := Aside0.mk (show Kept w w8 (Mine g ok) by rw [← hw8]; exact Kept.setCell HK7.out (.inl (.inl rfl)) _)
            have HO8 := Aside0.mk (show Kd.R k34 34 w8 base (fun k => ok k ∧ k ≠ gb) (.slice A1 (l ++ [x]).length c1) (l ++ [x]) by rw [← hw8]; exact Kd.R_far HO7.out (fun k hk e => HNO.out (by have h1 := hk.1; rwa [show k = g from e] at h1)) _)
            clear hw8
            have hg08 : w8.cell? ⟨g, 0, none⟩ = some (.slice A1 (l.length + 1) c1) := (blk_cell HG8.out 0).trans rfl
            have hgf8 := blk_frozen HG8.out 0
            have hlt8 : l.length ≤ 1048576 := HL.out
            go_wp2
            go_ret
            rw [HE.out]
            refine ⟨by first | rfl | (congr 2; omega) | (simp; omega), ⟨_, HG8.out, HBG.out, HNO.out, ?_⟩, HB8.out, HK8.out⟩
            have hO := Kd.R_mono HO8.out (fun _ hk => hk.1)
            rw [List.length_append] at hO
            exact hO
    · have hb0 : nodeB x.f0 x.f1 x.f2 x.f3 (l.length : Int) = false := by simpa using hb
      rw [hb0] at HK
      have he : putB l false x = (l, true, -1) := by unfold putB putN; rw [if_neg (by simp), if_neg hb]; rfl
      have HE := Aside0.mk he
      clear he hb hb0 hbw
      go_enter Try.func112, Try.ntmps112
      go_wp2_with (first | ((with_reducible refine gate_dst (N := 3) rfl ?_); refine box_event ?hg (N := 3) ?hd (cs := #[.int .i64 x.f0, .int .i64 x.f1, .int .i64 x.f2, .int .i64 x.f3]) (t := 34) ?hr ?_; (case hd => rfl); (case hg => rfl); (case hr => first | (go_simp; done) | (go_simp; rfl)); intro gb hg1 w3 hbox hb; have BK3 := Aside0.mk hbox; have HB3 := Aside0.mk hb; have GB3 := Aside0.mk hg1; clear hg1 hbox hb))
      have HG3 := Aside0.mk (blk_below HG0.out HB3.out)
      refine start_ (n := 14) (S := fun w' => w'.cell? ⟨g, 0, none⟩ = some (.slice A l.length c) ∧ w'.cell? ⟨gb, 0, none⟩ = some (.int .i64 x.f0) ∧ w'.cell? ⟨gb, 1, none⟩ = some (.int .i64 x.f1) ∧ w'.cell? ⟨gb, 2, none⟩ = some (.int .i64 x.f2) ∧ w'.cell? ⟨gb, 3, none⟩ = some (.int .i64 x.f3) ∧ w'.cell? ⟨g, 1, none⟩ = some (.bool false)) (ds := []) #[false, false, false, false, false, false, false, false, false, false, false, false, false, false] (by kernel_rfl) rfl rfl ⟨(blk_cell (blk_drew HG3.out) 0).trans rfl, (blk_cell (blk_drew BK3.out) 0).trans rfl, (blk_cell (blk_drew BK3.out) 1).trans rfl, (blk_cell (blk_drew BK3.out) 2).trans rfl, (blk_cell (blk_drew BK3.out) 3).trans rfl, (blk_cell (blk_drew HG3.out) 1).trans rfl⟩ (fun hHeld => ?_)
      refine pure_ (i := 0) (N := some 7) (v := ?_) (a' := ?_) #[true, false, false, false, false, false, false, false, false, false, false, false, false, false] rfl rfl (by kernel_rfl) (fun _ _ _ h => h) (Or.inl ⟨by rfl, ?_⟩) ?_ ?_
      rotate_left
      · intro w'
        go_simp
        with_reducible rfl
      rotate_left
      · simp only [Act.put, List.setIfInBounds_toArray, List.set_cons_zero, List.set_cons_succ, i64_w, i32_w]
        rfl
      refine pure_ (i := 1) (N := some 8) (v := ?_) (a' := ?_) #[true, true, false, false, false, false, false, false, false, false, false, false, false, false] rfl rfl (by kernel_rfl) (fun _ _ _ h => h) (Or.inl ⟨by rfl, ?_⟩) ?_ ?_
      rotate_left
      · intro w'
        go_simp
        with_reducible rfl
      rotate_left
      · simp only [Act.put, List.setIfInBounds_toArray, List.set_cons_zero, List.set_cons_succ, i64_w, i32_w]
        rfl
      refine pure_ (i := 2) (N := some 9) (v := ?_) (a' := ?_) #[true, true, true, false, false, false, false, false, false, false, false, false, false, false] rfl rfl (by kernel_rfl) (fun _ _ _ h => h) (Or.inl ⟨by rfl, ?_⟩) ?_ ?_
      rotate_left
      · intro w'
        go_simp
        with_reducible rfl
      rotate_left
      · simp only [Act.put, List.setIfInBounds_toArray, List.set_cons_zero, List.set_cons_succ, i64_w, i32_w]
        rfl
      refine take_ (i := 3) (N := some 10) (v := ?_) (a' := ?_) #[true, true, true, true, false, false, false, false, false, false, false, false, false, false] rfl rfl (by kernel_rfl) (fun _ _ _ h => h) (Or.inl ⟨by rfl, ?_⟩) hHeld ?_ ?_
      rotate_left
      · rintro w' ⟨s0, s1, s2, s3, s4, s5⟩
        go_simp
        with_reducible rfl
      rotate_left
      · simp only [Act.put, List.setIfInBounds_toArray, List.set_cons_zero, List.set_cons_succ, i64_w, i32_w]
        rfl
      refine pure_ (i := 4) (N := some 11) (v := ?_) (a' := ?_) #[true, true, true, true, true, false, false, false, false, false, false, false, false, false] rfl rfl (by kernel_rfl) (fun _ _ _ h => h) (Or.inl ⟨by rfl, ?_⟩) ?_ ?_
      rotate_left
      · intro w'
        go_simp
        with_reducible rfl
      rotate_left
      · simp only [Act.put, List.setIfInBounds_toArray, List.set_cons_zero, List.set_cons_succ, i64_w, i32_w]
        rfl
      refine pure_ (i := 6) (N := some 13) (v := ?_) (a' := ?_) #[true, true, true, true, true, false, true, false, false, false, false, false, false, false] rfl rfl (by kernel_rfl) (fun _ _ _ h => h) (Or.inl ⟨by rfl, ?_⟩) ?_ ?_
      rotate_left
      · intro w'
        go_simp
        with_reducible rfl
      rotate_left
      · simp only [Act.put, List.setIfInBounds_toArray, List.set_cons_zero, List.set_cons_succ, i64_w, i32_w]
        rfl
      refine pure_ (i := 7) (N := some 14) (v := ?_) (a' := ?_) #[true, true, true, true, true, false, true, true, false, false, false, false, false, false] rfl rfl (by kernel_rfl) (fun _ _ _ h => h) (Or.inl ⟨by rfl, ?_⟩) ?_ ?_
      rotate_left
      · intro w'
        go_simp
        with_reducible rfl
      rotate_left
      · simp only [Act.put, List.setIfInBounds_toArray, List.set_cons_zero, List.set_cons_succ, i64_w, i32_w]
        rfl
      refine pure_ (i := 8) (N := some 15) (v := ?_) (a' := ?_) #[true, true, true, true, true, false, true, true, true, false, false, false, false, false] rfl rfl (by kernel_rfl) (fun _ _ _ h => h) (Or.inl ⟨by rfl, ?_⟩) ?_ ?_
      rotate_left
      · intro w'
        go_simp
        with_reducible rfl
      rotate_left
      · simp only [Act.put, List.setIfInBounds_toArray, List.set_cons_zero, List.set_cons_succ, i64_w, i32_w]
        rfl
      refine take_ (i := 5) (N := some 12) (v := ?_) (a' := ?_) #[true, true, true, true, true, true, true, true, true, false, false, false, false, false] rfl rfl (by kernel_rfl) (fun _ _ _ h => h) (Or.inl ⟨by rfl, ?_⟩) hHeld ?_ ?_
      rotate_left
      · rintro w' ⟨s0, s1, s2, s3, s4, s5⟩
        go_simp
        with_reducible rfl
      rotate_left
      · simp only [Act.put, List.setIfInBounds_toArray, List.set_cons_zero, List.set_cons_succ, i64_w, i32_w]
        rfl
      refine take_ (i := 9) (N := some 16) (v := ?_) (a' := ?_) #[true, true, true, true, true, true, true, true, true, true, false, false, false, false] rfl rfl (by kernel_rfl) (fun _ _ _ h => h) (Or.inl ⟨by rfl, ?_⟩) hHeld ?_ ?_
      rotate_left
      · rintro w' ⟨s0, s1, s2, s3, s4, s5⟩
        go_simp
        with_reducible rfl
      rotate_left
      · simp only [Act.put, List.setIfInBounds_toArray, List.set_cons_zero, List.set_cons_succ, i64_w, i32_w]
        rfl
      refine pure_ (i := 10) (N := some 17) (v := ?_) (a' := ?_) #[true, true, true, true, true, true, true, true, true, true, true, false, false, false] rfl rfl (by kernel_rfl) (fun _ _ _ h => h) (Or.inl ⟨by rfl, ?_⟩) ?_ ?_
      rotate_left
      · intro w'
        go_simp
        with_reducible rfl
      rotate_left
      · simp only [Act.put, List.setIfInBounds_toArray, List.set_cons_zero, List.set_cons_succ, i64_w, i32_w]
        rfl
      refine one_ (i := 11) (N := some 18) #[true, true, true, true, true, true, true, true, true, true, true, true, false, false] rfl rfl (by kernel_rfl) (by decide) (fun K hK => ?_)
      refine goes_ Try.func84 (by kernel_rfl) rfl #[.agg #[.int .i64 x.f0, .int .i64 x.f1, .int .i64 x.f2, .int .i64 x.f3], .int .i64 (l.length : Int)] (by rfl) rfl rfl (by simp only [List.map_toArray, List.map_cons, List.map_nil]; rfl) ?_
      with_reducible refine (impl_nodeRight.calls kn x.f0 x.f1 x.f2 x.f3 (l.length : Int) false _ HK.out).mono ?_
      rintro e w4 ⟨rfl, hb4⟩
      refine ⟨_, rfl, ?_⟩
      have HG4 := Aside0.mk (blk_below (blk_drew HG3.out) hb4)
      have BK4 := Aside0.mk (blk_below (blk_drew BK3.out) hb4)
      have HB4 := Aside0.mk (below_step (below_drew1 HB3.out) hb4)
      clear hb4
      refine hK.out _ _ ⟨(blk_cell (HG4.out) 0).trans rfl, (blk_cell (BK4.out) 0).trans rfl, (blk_cell (BK4.out) 1).trans rfl, (blk_cell (BK4.out) 2).trans rfl, (blk_cell (BK4.out) 3).trans rfl, (blk_cell HG4.out 1).trans rfl⟩ (fun hHeld => ?_)
      clear hK K
      refine norm_ (a' := ?_) ?_ ?_
      rotate_left
      · show Act.put _ (some 18) _ = _
        simp only [Act.put, List.setIfInBounds_toArray, List.set_cons_zero, List.set_cons_succ, i64_w, i32_w]
        rfl
      refine pure_ (i := 12) (N := some 19) (v := ?_) (a' := ?_) #[true, true, true, true, true, true, true, true, true, true, true, true, true, false] rfl rfl (by kernel_rfl) (fun _ _ _ h => h) (Or.inl ⟨by rfl, ?_⟩) ?_ ?_
      rotate_left
      · intro w'
        go_simp
        with_reducible rfl
      rotate_left
      · simp only [Act.put, List.setIfInBounds_toArray, List.set_cons_zero, List.set_cons_succ, i64_w, i32_w]
        rfl
      refine pure_ (i := 13) (N := some 20) (v := ?_) (a' := ?_) #[true, true, true, true, true, true, true, true, true, true, true, true, true, true] rfl rfl (by kernel_rfl) (fun _ _ _ h => h) (Or.inl ⟨by rfl, ?_⟩) ?_ ?_
      rotate_left
      · intro w'
        go_simp
        with_reducible rfl
      rotate_left
      · simp only [Act.put, List.setIfInBounds_toArray, List.set_cons_zero, List.set_cons_succ, i64_w, i32_w]
        rfl
      refine done_ (by kernel_rfl) ?_
      have hn0 : w4.cell? ⟨gb, 0, none⟩ = some (.int .i64 x.f0) := (blk_cell BK4.out 0).trans rfl
      have hn1 : w4.cell? ⟨gb, 1, none⟩ = some (.int .i64 x.f1) := (blk_cell BK4.out 1).trans rfl
      have hn2 : w4.cell? ⟨gb, 2, none⟩ = some (.int .i64 x.f2) := (blk_cell BK4.out 2).trans rfl
      have hn3 : w4.cell? ⟨gb, 3, none⟩ = some (.int .i64 x.f3) := (blk_cell BK4.out 3).trans rfl
      have hf0 := blk_frozen BK4.out 0
      have hf1 := blk_frozen BK4.out 1
      have hf2 := blk_frozen BK4.out 2
      have hf3 := blk_frozen BK4.out 3
      have hg0 : w4.cell? ⟨g, 0, none⟩ = some (.slice A l.length c) := (blk_cell HG4.out 0).trans rfl
      have hgf := blk_frozen HG4.out 0
      have hg1 : w4.cell? ⟨g, 1, none⟩ = some (.bool false) := (blk_cell HG4.out 1).trans rfl
      have hgf1 := blk_frozen HG4.out 1
      go_wp2
      obtain ⟨w9, hw9⟩ : ∃ w9, w4.setCell ⟨g, 1, none⟩ (.bool true) = w9 := ⟨_, rfl⟩
      rw [hw9]
      have HG9 : w9.heap[g]? = some (.cells #[.slice A l.length c, .bool true] 132 (0, 0)) := by rw [← hw9]; exact blk_put (HG4.out) 1 _ rfl
      have HB9 : Below base w w9 := by rw [← hw9]; exact (HB4.out.mono HBS.out).setCell HBG.out _
      have HK9 : Kept w w9 (Mine g ok) := by rw [← hw9]; exact Kept.setCell (Kept.of_below HB4.out _) (.inl (.inl rfl)) _
      have HO9 : Kd.R k34 34 w9 base ok (.slice A l.length c) l := by rw [← hw9]; exact Kd.R_far (Kd.R_below HR.out HB4.out) (fun k hk e => HNO.out (by rwa [show k = g from e] at hk)) _
      clear hw9
      go_ret
      rw [HE.out]
      exact ⟨rfl, ⟨_, HG9, HBG.out, HNO.out, HO9⟩, HB9, HK9⟩

/-! what put wants and leaves, in one word -/
def BnS (w : World) (base g : Nat) (ok : Nat → Prop) (l : List S34) (bad : Bool) : Prop := BnAt w base g ok l bad ∧ (∀ k, w.heap.size ≤ k → ok k) ∧ l.length ≤ 1048576
theorem BnAt.size {w : World} {base g : Nat} {ok : Nat → Prop} {l : List S34} {bad : Bool} (h : BnAt w base g ok l bad) : base ≤ g ∧ g < w.heap.size := by
  obtain ⟨v, h1, h2, _, _⟩ := h
  exact ⟨h2, blk_lt h1⟩
theorem BnS.keep {w w1 : World} {base g : Nat} {ok : Nat → Prop} {l : List S34} {bad : Bool} (h : BnS w base g ok l bad) (hb : Below w.heap.size w w1) : BnS w1 base g ok l bad :=
  ⟨h.1.keep hb, fun k hk => h.2.1 k (Nat.le_trans hb.size hk), h.2.2⟩
def BPost (w : World) (base g : Nat) (ok : Nat → Prop) (r : List S34 × Bool × Int) (e : Ending) (w' : World) : Prop := e = .returned (.int .i64 r.2.2) ∧ BnS w' base g ok r.1 r.2.1 ∧ Below base w w' ∧ Kept w w' (Mine g ok)
theorem putN_lenB {l : List S34} {x : S34} (h : l.length ≤ 1048576) : (putN l x).1.length ≤ 1048576 := by
  rcases putN_cases l x with ⟨h1, _⟩ | ⟨_, _, ⟨h1, _⟩ | ⟨_, h2, h1, _⟩⟩
  · rw [h1]; exact h
  · rw [h1]; exact h
  · rw [h1, List.length_append, List.length_singleton]; omega
theorem putB_len {l : List S34} {bad : Bool} {x : S34} (h : l.length ≤ 1048576) : (putB l bad x).1.length ≤ 1048576 := by
  unfold putB
  split
  · exact h
  · split
    · exact h
    · exact putN_lenB h
theorem impl_put (l : List S34) (bad : Bool) (x : S34) (w : World) (base g : Nat) (ok : Nat → Prop) (h : BnS w base g ok l bad) :
    Calls Try.prog 112 #[.pointer (some ⟨g, 0, none⟩), .agg #[.int .i64 x.f0, .int .i64 x.f1, .int .i64 x.f2, .int .i64 x.f3]] w (BPost w base g ok (putB l bad x)) := by
  have hs := h.1.size
  refine (impl_put_at l bad x w base g ok h.1 (by omega) h.2.1 h.2.2).mono ?_
  rintro e w' ⟨he, hA, hb, hk⟩
  exact ⟨he, ⟨hA, fun k hk' => h.2.1 k (Nat.le_trans hb.size hk'), putB_len h.2.2⟩, hb, hk⟩
theorem BPost.trans {w w1 w2 : World} {base g : Nat} {ok : Nat → Prop} {r : List S34 × Bool × Int} {e : Ending} (hb : Below base w w1) (hk : Kept w w1 (Mine g ok)) (h : BPost w1 base g ok r e w2) : BPost w base g ok r e w2 :=
  ⟨h.1, h.2.1, hb.trans h.2.2.1, hk.then_ h.2.2.2 (fun _ h => .inl h)⟩
theorem BPost.before {w w1 w2 : World} {base g : Nat} {ok : Nat → Prop} {r : List S34 × Bool × Int} {e : Ending} (hs : base ≤ w.heap.size) (hb : Below w.heap.size w w1) (h : BPost w1 base g ok r e w2) : BPost w base g ok r e w2 :=
  h.trans (hb.mono hs) (Kept.of_below hb _)
theorem impl_atom (l : List S34) (bad : Bool) (n : Int) (w : World) (base g : Nat) (ok : Nat → Prop) (h : BnS w base g ok l bad) :
    Calls Try.prog 108 #[.pointer (some ⟨g, 0, none⟩), .int .i64 n] w (BPost w base g ok (putB l bad ⟨1, n, 0, 0⟩)) := by
  have HA := Aside0.mk h
  clear h
  go_enter Try.func108, Try.ntmps108
  go_wp2_with (go_at_call 112; refine (impl_put l bad ⟨1, n, 0, 0⟩ _ base g ok HA.out).mono ?_; rintro e w' ⟨rfl, hA, hb, hk⟩)
  go_ret
  exact ⟨rfl, hA, hb, hk⟩
theorem impl_of (s : List S34 × Bool × Int) (kind x y : Int) (w : World) (base g : Nat) (ok : Nat → Prop) (h : BnS w base g ok s.1 s.2.1) :
    Calls Try.prog 104 #[.pointer (some ⟨g, 0, none⟩), .int .i64 kind, .int .i64 x, .int .i64 y] w (BPost w base g ok (ofB s kind x y)) := by
  have HA := Aside0.mk h
  clear h
  go_enter Try.func104, Try.ntmps104
  go_wp2_with (go_at_call 112; refine (impl_put s.1 s.2.1 ⟨kind, 0, x, y⟩ _ base g ok HA.out).mono ?_; rintro e w' ⟨rfl, hA, hb, hk⟩)
  go_ret
  exact ⟨rfl, hA, hb, hk⟩
theorem BPost.bn {w w1 : World} {base g : Nat} {ok : Nat → Prop} {r : List S34 × Bool × Int} {e : Ending} (h : BPost w base g ok r e w1) : BnS w1 base g ok r.1 r.2.1 := h.2.1
theorem BPost.bel {w w1 : World} {base g : Nat} {ok : Nat → Prop} {r : List S34 × Bool × Int} {e : Ending} (h : BPost w base g ok r e w1) : Below base w w1 := h.2.2.1
theorem BPost.kept {w w1 : World} {base g : Nat} {ok : Nat → Prop} {r : List S34 × Bool × Int} {e : Ending} (h : BPost w base g ok r e w1) : Kept w w1 (Mine g ok) := h.2.2.2

theorem copyI_f {l : List S34} (h : l.length ≤ 1048576) : impl_copyArena.f l = some l := by
  unfold impl_copyArena.f
  simp only [Option.bind_some, List.length_nil, List.nil_append]
  rw [if_pos (by omega)]
def BenchOfPost (w : World) (l : List S34) (e : Ending) (w' : World) : Prop := ∃ g, e = .returned (.pointer (some ⟨g, 0, none⟩)) ∧ w.heap.size ≤ g ∧ BnS w' w.heap.size g (fun k => w.heap.size ≤ k ∧ k ≠ g) l false ∧ Below w.heap.size w w'
set_option maxHeartbeats 8000000 in
set_option maxRecDepth 100000 in
theorem impl_benchOf (A : Option Addr) (c : Nat) (l : List S34) (w : World) (hr : Kd.C k34 w A l.length l) (hc : l.length ≤ c) (hl : l.length ≤ 1048576) :
    Calls Try.prog 92 #[.agg #[.slice A l.length c]] w (BenchOfPost w l) := by
  have hu26 := Try.underlying26
  have hu132 := Try.underlying132
  have HR := Aside0.mk hr
  have HC := Aside0.mk hc
  have HCF := Aside0.mk (copyI_f hl)
  have HL := Aside0.mk hl
  clear hr hc hl
  have hfd : ∀ (A : Option Addr) (n c : Nat) (w : World), (Instr.field 26 (.agg #[.slice A n c]) 0).run Try.prog w = .ok (.slice A n c) w := fun _ _ _ _ => by kernel_rfl
  go_enter Try.func92, Try.ntmps92
  go_wp2_with (first
    | ((with_reducible refine gate_dst (N := 1) rfl ?_); refine box_event ?hg (N := 1) ?hd (cs := #[.slice A l.length c]) (t := 26) ?hr ?_; (case hd => rfl); (case hg => rfl); (case hr => first | (go_simp; done) | (go_simp; rfl)); intro ga hg1 w3 hbox hb; have BKa := Aside0.mk hbox; have HB3 := Aside0.mk hb; have GA := Aside0.mk hg1; clear hg1 hbox hb; have hca : w3.cell? ⟨ga, 0, none⟩ = some (.slice A l.length c) := (blk_cell BKa.out 0).trans rfl)
    | (go_at_call 103; ((with_reducible refine (impl_copyArena.calls A c l l _ (Kd.C_below HR.out HB3.out) HC.out HCF.out).mono ?_); rintro e w4 ⟨v0, rfl, ho, hb⟩); have HO4 := Aside0.mk ho; have HB4 := Aside0.mk hb; obtain ⟨Ao, co, rfl, hlo, _⟩ := Kd.R_reads ho; clear ho hb hlo)
    | ((with_reducible refine gate_dst (N := 7) rfl ?_); refine box_event ?hg (N := 7) ?hd (cs := #[.slice Ao l.length co, .bool false]) (t := 132) ?hr ?_; (case hd => rfl); (case hg => rfl); (case hr => first | (go_simp; done) | (go_simp; rfl)); intro g hg1 w5 hbox hb; have BK5 := Aside0.mk hbox; have HB5 := Aside0.mk hb; have GB5 := Aside0.mk hg1; clear hg1 hbox hb))
  go_ret
  refine ⟨g, rfl, by rw [GB5.out]; exact Nat.le_trans HB3.out.size HB4.out.size, ⟨⟨_, BK5.out, by rw [GB5.out]; exact Nat.le_trans HB3.out.size HB4.out.size, fun h => h.2 rfl, ?_⟩, fun k hk => ⟨?_, ?_⟩, HL.out⟩, below_step (below_step HB3.out HB4.out) HB5.out⟩
  · refine Kd.R_below (Kd.R_lower (Kd.R_mono (Kd.R_bound HO4.out) (fun k hk => ⟨Nat.le_trans HB3.out.size hk.2.1, ?_⟩)) HB3.out.size) HB5.out
    have h1 := hk.2.2.1
    have h2 := GB5.out
    omega
  · exact Nat.le_trans (Nat.le_trans HB3.out.size (Nat.le_trans HB4.out.size HB5.out.size)) hk
  · have h1 := blk_lt BK5.out
    omega
def EndPost (w : World) (base : Nat) (ok : Nat → Prop) (r : List S34 × Int) (e : Ending) (w' : World) : Prop := ∃ v, e = .returned (.tuple #[.agg #[v], .int .i64 r.2]) ∧ Kd.R k34 34 w' base ok v r.1 ∧ Below w.heap.size w w'
theorem end_copy {w w4 w5 : World} {base gr : Nat} {ok : Nat → Prop} {A : Option Addr} {c : Nat} {l : List S34} {u : Value} (ho : Kd.R k34 34 w5 w4.heap.size (fun _ => True) (.slice A l.length c) l) (hb : base ≤ w.heap.size) (h4 : w.heap.size ≤ w4.heap.size) (hg : gr < w4.heap.size) (hf : ∀ k, w.heap.size ≤ k → ok k) : Kd.R k34 34 (w5.setCell ⟨gr, 0, none⟩ u) base ok (.slice A l.length c) l :=
  Kd.R_lower (Kd.R_mono (Kd.R_far (p := ⟨gr, 0, none⟩) (Kd.R_mono (Kd.R_bound ho) (fun k hk => (show w4.heap.size ≤ k from hk.2.1))) (fun k hk e => by have e' : k = gr := e; omega) _) (fun k hk => hf k (Nat.le_trans h4 hk))) (Nat.le_trans hb h4)
theorem end_own {w w4 : World} {base gr : Nat} {ok : Nat → Prop} {A : Option Addr} {c : Nat} {l : List S34} {u : Value} (ho : Kd.R k34 34 w base ok (.slice A l.length c) l) (h4 : Below w.heap.size w w4) (hg : w.heap.size ≤ gr) : Kd.R k34 34 (w4.setCell ⟨gr, 0, none⟩ u) base ok (.slice A l.length c) l :=
  Kd.R_mono (Kd.R_far (p := ⟨gr, 0, none⟩) (Kd.R_below (Kd.R_elderB ho gr hg) h4) (fun k hk => hk.2) _) (fun k hk => hk.1)
set_option maxHeartbeats 8000000 in
set_option maxRecDepth 100000 in
theorem impl_end (A : Option Addr) (c : Nat) (l0 : List S34) (s : List S34 × Bool × Int) (w w0 : World) (base g : Nat) (ok : Nat → Prop) (h : BnS w base g ok s.1 s.2.1) (hr : Kd.C k34 w0 A l0.length l0) (hc : l0.length ≤ c) (h0 : Below w0.heap.size w0 w) (hw0 : w0.heap.size ≤ w.heap.size) (hl : l0.length ≤ 1048576) :
    Calls Try.prog 94 #[.pointer (some ⟨g, 0, none⟩), .agg #[.slice A l0.length c], .int .i64 s.2.2] w (EndPost w base ok (endN l0 s)) := by
  have hu26 := Try.underlying26
  have hu132 := Try.underlying132
  have HBS := Aside0.mk (show base ≤ w.heap.size by have := h.1.size; omega)
  obtain ⟨⟨v, hblk, hbg, hno, hR⟩, hfr, _⟩ := h
  obtain ⟨Ag, cg, rfl, hlg, _⟩ := Kd.R_reads hR
  have HG := Aside0.mk hblk
  have HRG := Aside0.mk hR
  have HF := Aside0.mk hfr
  have HR0 := Aside0.mk hr
  have HC0 := Aside0.mk hc
  have H0 := Aside0.mk h0
  have HCF := Aside0.mk (copyI_f hl)
  clear hblk hR hfr hbg hno hlg hr hc h0 hl
  by_cases hb : s.2.1 = true
  · have he : endN l0 s = (l0, -1) := by unfold endN; rw [if_pos (.inl hb)]
    have HE := Aside0.mk he
    rw [hb] at HG
    clear he
    go_enter Try.func94, Try.ntmps94
    go_wp2_with (first
      | ((with_reducible refine gate_dst (N := 4) rfl ?_); refine box_event ?hg (N := 4) ?hd (cs := #[.slice A l0.length c]) (t := 26) ?hr ?_; (case hd => rfl); (case hg => rfl); (case hr => first | (go_simp; done) | (go_simp; rfl)); intro ga hg1 w3 hbox hb; have BKa := Aside0.mk hbox; have HB3 := Aside0.mk hb; have GA := Aside0.mk hg1; clear hg1 hbox hb)
      | ((with_reducible refine gate_dst (N := 6) rfl ?_); refine box_event ?hg (N := 6) ?hd (cs := #[.slice none 0 0]) (t := 26) ?hr ?_; (case hd => rfl); (case hg => rfl); (case hr => first | (go_simp; done) | (go_simp; rfl)); intro gr hg1 w4 hbox hb; have BKr := Aside0.mk hbox; have HB4 := Aside0.mk hb; have GR := Aside0.mk hg1; clear hg1 hbox hb; have HBw4 := Aside0.mk (below_step HB3.out HB4.out); have BKa4 := Aside0.mk (blk_below BKa.out HB4.out); have BKg4 := Aside0.mk (blk_below HG.out HBw4.out); have hca4 : w4.cell? ⟨ga, 0, none⟩ = some (.slice A l0.length c) := (blk_cell BKa4.out 0).trans rfl; have hcr4 : w4.cell? ⟨gr, 0, none⟩ = some (.slice none 0 0) := (blk_cell BKr.out 0).trans rfl; have hfr4 := blk_frozen BKr.out 0; have hcg4 : w4.cell? ⟨g, 0, none⟩ = some (.slice Ag s.1.length cg) := (blk_cell BKg4.out 0).trans rfl; have hcb4 : w4.cell? ⟨g, 1, none⟩ = some (.bool true) := (blk_cell BKg4.out 1).trans rfl)
      | (go_at_call 103; ((with_reducible refine (impl_copyArena.calls A c l0 l0 _ (Kd.C_below HR0.out (below_step H0.out HBw4.out)) HC0.out HCF.out).mono ?_); rintro e w5 ⟨v0, rfl, ho, hb⟩); have HO5 := Aside0.mk ho; have HB5 := Aside0.mk hb; obtain ⟨Ao, co, rfl, hlo, _⟩ := Kd.R_reads ho; clear ho hb hlo; have BKr5 := Aside0.mk (blk_below BKr.out HB5.out); have hcr5 : w5.cell? ⟨gr, 0, none⟩ = some (.slice none 0 0) := (blk_cell BKr5.out 0).trans rfl; have hfr5 := blk_frozen BKr5.out 0))
    rw [HE.out]
    refine bodyPost_ret (results_ct rfl _ _ gr 26 #[.slice Ao l0.length co] (0, 0) _ rfl (blk_put BKr5.out 0 _ rfl) Try.underlying26 rfl (by kernel_rfl)) rfl ?_
    exact ⟨_, rfl, end_copy HO5.out HBS.out HBw4.out.size (blk_lt BKr.out) HF.out, below_set (below_step HBw4.out HB5.out) (by rw [GR.out]; exact HB3.out.size)⟩
  · have hb0 : s.2.1 = false := by simpa using hb
    rw [hb0] at HG
    by_cases hk : s.2.2 < 0
    · have he : endN l0 s = (l0, -1) := by unfold endN; rw [if_pos (.inr hk)]
      have HE := Aside0.mk he
      have hkd : decide (s.2.2 < 0) = true := decide_eq_true hk
      clear he hk hb
      go_enter Try.func94, Try.ntmps94
      go_wp2_with (first
        | ((with_reducible refine gate_dst (N := 4) rfl ?_); refine box_event ?hg (N := 4) ?hd (cs := #[.slice A l0.length c]) (t := 26) ?hr ?_; (case hd => rfl); (case hg => rfl); (case hr => first | (go_simp; done) | (go_simp; rfl)); intro ga hg1 w3 hbox hb; have BKa := Aside0.mk hbox; have HB3 := Aside0.mk hb; have GA := Aside0.mk hg1; clear hg1 hbox hb)
        | ((with_reducible refine gate_dst (N := 6) rfl ?_); refine box_event ?hg (N := 6) ?hd (cs := #[.slice none 0 0]) (t := 26) ?hr ?_; (case hd => rfl); (case hg => rfl); (case hr => first | (go_simp; done) | (go_simp; rfl)); intro gr hg1 w4 hbox hb; have BKr := Aside0.mk hbox; have HB4 := Aside0.mk hb; have GR := Aside0.mk hg1; clear hg1 hbox hb; have HBw4 := Aside0.mk (below_step HB3.out HB4.out); have BKa4 := Aside0.mk (blk_below BKa.out HB4.out); have BKg4 := Aside0.mk (blk_below HG.out HBw4.out); have hca4 : w4.cell? ⟨ga, 0, none⟩ = some (.slice A l0.length c) := (blk_cell BKa4.out 0).trans rfl; have hcr4 : w4.cell? ⟨gr, 0, none⟩ = some (.slice none 0 0) := (blk_cell BKr.out 0).trans rfl; have hfr4 := blk_frozen BKr.out 0; have hcg4 : w4.cell? ⟨g, 0, none⟩ = some (.slice Ag s.1.length cg) := (blk_cell BKg4.out 0).trans rfl; have hcb4 : w4.cell? ⟨g, 1, none⟩ = some (.bool false) := (blk_cell BKg4.out 1).trans rfl)
        | (go_at_call 103; ((with_reducible refine (impl_copyArena.calls A c l0 l0 _ (Kd.C_below HR0.out (below_step H0.out HBw4.out)) HC0.out HCF.out).mono ?_); rintro e w5 ⟨v0, rfl, ho, hb⟩); have HO5 := Aside0.mk ho; have HB5 := Aside0.mk hb; obtain ⟨Ao, co, rfl, hlo, _⟩ := Kd.R_reads ho; clear ho hb hlo; have BKr5 := Aside0.mk (blk_below BKr.out HB5.out); have hcr5 : w5.cell? ⟨gr, 0, none⟩ = some (.slice none 0 0) := (blk_cell BKr5.out 0).trans rfl; have hfr5 := blk_frozen BKr5.out 0))
      rw [HE.out]
      refine bodyPost_ret (results_ct rfl _ _ gr 26 #[.slice Ao l0.length co] (0, 0) _ rfl (blk_put BKr5.out 0 _ rfl) Try.underlying26 rfl (by kernel_rfl)) rfl ?_
      exact ⟨_, rfl, end_copy HO5.out HBS.out HBw4.out.size (blk_lt BKr.out) HF.out, below_set (below_step HBw4.out HB5.out) (by rw [GR.out]; exact HB3.out.size)⟩
    · have he : endN l0 s = (s.1, s.2.2) := by unfold endN; rw [if_neg (by rw [hb0]; simp; omega)]
      have HE := Aside0.mk he
      have hkd : decide (s.2.2 < 0) = false := decide_eq_false hk
      clear he hk hb
      go_enter Try.func94, Try.ntmps94
      go_wp2_with (first
        | ((with_reducible refine gate_dst (N := 4) rfl ?_); refine box_event ?hg (N := 4) ?hd (cs := #[.slice A l0.length c]) (t := 26) ?hr ?_; (case hd => rfl); (case hg => rfl); (case hr => first | (go_simp; done) | (go_simp; rfl)); intro ga hg1 w3 hbox hb; have BKa := Aside0.mk hbox; have HB3 := Aside0.mk hb; have GA := Aside0.mk hg1; clear hg1 hbox hb)
        | ((with_reducible refine gate_dst (N := 6) rfl ?_); refine box_event ?hg (N := 6) ?hd (cs := #[.slice none 0 0]) (t := 26) ?hr ?_; (case hd => rfl); (case hg => rfl); (case hr => first | (go_simp; done) | (go_simp; rfl)); intro gr hg1 w4 hbox hb; have BKr := Aside0.mk hbox; have HB4 := Aside0.mk hb; have GR := Aside0.mk hg1; clear hg1 hbox hb; have HBw4 := Aside0.mk (below_step HB3.out HB4.out); have BKa4 := Aside0.mk (blk_below BKa.out HB4.out); have BKg4 := Aside0.mk (blk_below HG.out HBw4.out); have hca4 : w4.cell? ⟨ga, 0, none⟩ = some (.slice A l0.length c) := (blk_cell BKa4.out 0).trans rfl; have hcr4 : w4.cell? ⟨gr, 0, none⟩ = some (.slice none 0 0) := (blk_cell BKr.out 0).trans rfl; have hfr4 := blk_frozen BKr.out 0; have hcg4 : w4.cell? ⟨g, 0, none⟩ = some (.slice Ag s.1.length cg) := (blk_cell BKg4.out 0).trans rfl; have hcb4 : w4.cell? ⟨g, 1, none⟩ = some (.bool false) := (blk_cell BKg4.out 1).trans rfl)
        | (go_at_call 103; ((with_reducible refine (impl_copyArena.calls A c l0 l0 _ (Kd.C_below HR0.out (below_step H0.out HBw4.out)) HC0.out HCF.out).mono ?_); rintro e w5 ⟨v0, rfl, ho, hb⟩); have HO5 := Aside0.mk ho; have HB5 := Aside0.mk hb; obtain ⟨Ao, co, rfl, hlo, _⟩ := Kd.R_reads ho; clear ho hb hlo; have BKr5 := Aside0.mk (blk_below BKr.out HB5.out); have hcr5 : w5.cell? ⟨gr, 0, none⟩ = some (.slice none 0 0) := (blk_cell BKr5.out 0).trans rfl; have hfr5 := blk_frozen BKr5.out 0))
      rw [HE.out]
      refine bodyPost_ret (results_ct rfl _ _ gr 26 #[.slice Ag s.1.length cg] (0, 0) _ rfl (blk_put BKr.out 0 _ rfl) Try.underlying26 rfl (by kernel_rfl)) rfl ?_
      exact ⟨_, rfl, end_own HRG.out HBw4.out (by rw [GR.out]; exact HB3.out.size), below_set HBw4.out (by rw [GR.out]; exact HB3.out.size)⟩

theorem impl_end' {A : Option Addr} {c : Nat} {l0 : List S34} {s : List S34 × Bool × Int} {w w0 : World} {base g : Nat} {ok : Nat → Prop} {r : List S34 × Int} (h : BnS w base g ok s.1 s.2.1) (hr : Kd.C k34 w0 A l0.length l0) (hc : l0.length ≤ c) (h0 : Below w0.heap.size w0 w) (hw0 : w0.heap.size ≤ w.heap.size) (hl : l0.length ≤ 1048576) (he : endN l0 s = r) :
    Calls Try.prog 94 #[.pointer (some ⟨g, 0, none⟩), .agg #[.slice A l0.length c], .int .i64 s.2.2] w (EndPost w base ok r) := he ▸ impl_end A c l0 s w w0 base g ok h hr hc h0 hw0 hl

theorem rd_getB {xs : List Int} {i : Int} (h0 : 0 ≤ i) (h : i.toNat < xs.length) : rd xs i = xs[i.toNat] := by
  unfold rd
  rw [List.getD_eq_getElem?_getD, List.getElem?_eq_getElem h]
  rfl
theorem listB_drop (l : List S34) (bad : Bool) (xs : List Int) (i : Nat) (h : i < xs.length) : listB l bad (xs.drop i) = ofB (listB l bad (xs.drop (i + 1))) 2 xs[i] (listB l bad (xs.drop (i + 1))).2.2 := by
  rw [List.drop_eq_getElem_cons h]
  rfl
set_option maxHeartbeats 2000000 in
set_option maxRecDepth 100000 in
theorem impl_list (l : List S34) (bad : Bool) (A1 : Option Addr) (c1 : Nat) (xs : List Int) (w w0 : World) (base g : Nat) (ok : Nat → Prop) (h : BnS w base g ok l bad) (hr1 : Kd.C (Kd.int .i64) w0 A1 xs.length xs) (hc1 : xs.length ≤ c1) (h0 : Below w0.heap.size w0 w) (hb0 : w0.heap.size ≤ base) (hx : xs.length ≤ 9223372036854775807) :
    Calls Try.prog 93 #[.pointer (some ⟨g, 0, none⟩), .slice A1 xs.length c1] w (BPost w base g ok (listB l bad xs)) := by
  have HA := Aside0.mk h
  have HR := Aside0.mk hr1
  have H0 := Aside0.mk h0
  have HB0 := Aside0.mk hb0
  have HX := Aside0.mk hx
  clear h hr1 h0 hb0 hc1
  go_enter Try.func93, Try.ntmps93
  go_wp2_with (go_at_call 108; refine (impl_atom l bad 0 _ base g ok HA.out).mono ?_; rintro e w1 hp; have HP := Aside0.mk hp; obtain ⟨rfl, _⟩ := hp)
  go_loopw [5, 6] (fun vk vi wr => ∃ (i : Int) (s : List S34 × Bool × Int), -1 ≤ i ∧ i < xs.length ∧ vi = .int .i64 i ∧ vk = .int .i64 s.2.2 ∧ Aside0 (s = listB l bad (xs.drop (i + 1).toNat)) ∧ Aside0 (BnS wr base g ok s.1 s.2.1 ∧ Below base w wr ∧ Kept w wr (Mine g ok))) (fun _ i _ => (intOf i + 1).toNat)
  case atStart => 
    refine ⟨(xs.length : Int) - 1, (putB l bad ⟨1, 0, 0, 0⟩), by omega, by omega, rfl, rfl, ⟨?_⟩, ⟨HP.out.2⟩⟩
    rw [List.drop_eq_nil_of_le (show xs.length ≤ ((xs.length : Int) - 1 + 1).toNat by omega)]; rfl
  case round =>
    obtain ⟨i, s, h0, h1, rfl, rfl, HS, HI⟩ := hrel
    have Hi := Aside0.mk h0
    have Hj := Aside0.mk h1
    by_cases hlt : 0 ≤ i
    · obtain ⟨ad, e1, x0⟩ := Kd.at_int HR.out i hlt h1
      cases e1
      replace x0 := ((H0.out.trans (HI.out.2.1.mono HB0.out)).cell (World.block_lt_of_cell? w0 _ x0)).trans x0
      have Hlt := Aside0.mk hlt
      have hg1 : ∀ h : i.toNat < xs.length, rd xs i = xs[i.toNat]'h := fun h => rd_getB hlt h
      have HG1 := Aside0.mk hg1
      have p0 : (0 ≤ i) = True := eq_true hlt
      have p1 : (i < (xs.length : Int)) = True := eq_true h1
      have p2 : decide (0 ≤ i) = true := decide_eq_true hlt
      generalize rd xs i = q at x0 HG1
      clear h0 h1 hlt hg1
      go_wp2_with (go_at_call 104; refine (impl_of s 2 q s.2.2 _ base g ok HI.out.1).mono ?_; rintro e w2 hp; have HP2 := Aside0.mk hp; obtain ⟨rfl, _⟩ := hp)
      go_roundw
      case rel =>
        have hii := Hi.out
        have hij := Hlt.out
        have hjj := Hj.out
        have hxx := HX.out
        refine ⟨i - 1, ofB s 2 q s.2.2, by omega, by omega, by first | rfl | (simp only [Value.int.injEq, true_and]; exact w64 (by omega) (by omega)), rfl, ⟨?_⟩, ⟨HP2.out.2.1, HI.out.2.1.trans HP2.out.2.2.1, HI.out.2.2.then_ HP2.out.2.2.2 (fun _ h => .inl h)⟩⟩
        rw [show (i - 1 + 1).toNat = i.toNat by omega, listB_drop l bad xs i.toNat (by omega), show i.toNat + 1 = (i + 1).toNat by omega, ← HS.out, HG1.out (by omega)]
      case measure => have hii := Hi.out; have hij := Hlt.out; have hll := HX.out; have hjj := Hj.out; have hw := w64 (x := i - 1) (by omega) (by omega); simp only [intOf]; simp; try rw [hw]; omega
    · obtain rfl : i = -1 := by omega
      have he : listB l bad xs = s := by rw [HS.out]; rfl
      have HE := Aside0.mk he
      clear h0 h1 hlt he
      go_wp2
      go_ret
      rw [HE.out]
      exact ⟨rfl, HI.out⟩

theorem impl_list' {l : List S34} {bad : Bool} {A1 : Option Addr} {c1 : Nat} {xs : List Int} {w w0 : World} {base g : Nat} {ok : Nat → Prop} {s : List S34 × Bool × Int} (h : BnS w base g ok l bad) (hr1 : Kd.C (Kd.int .i64) w0 A1 xs.length xs) (hc1 : xs.length ≤ c1) (h0 : Below w0.heap.size w0 w) (hb0 : w0.heap.size ≤ base) (hx : xs.length ≤ 9223372036854775807) (hs : listB l bad xs = s) :
    Calls Try.prog 93 #[.pointer (some ⟨g, 0, none⟩), .slice A1 xs.length c1] w (BPost w base g ok s) := hs ▸ impl_list l bad A1 c1 xs w w0 base g ok h hr1 hc1 h0 hb0 hx
end Hand
open Hand in
def impl_List.f (l0_0 : List S34) (l1 : List Int) : Option (List S34 × Int) := if l0_0.length ≤ 1048576 then some (endN l0_0 (listB l0_0 false l1)) else none
open Hand in
set_option maxHeartbeats 8000000 in
set_option maxRecDepth 100000 in
theorem impl_List.calls (A0_0 : Option Addr) (c0_0 : Nat) (l0_0 : List (S34)) (A1 : Option Addr) (c1 : Nat) (l1 : List Int) (r1 : List (S34)) (r2 : Int) (w : World) (hr0_0 : Kd.C k34 w A0_0 l0_0.length l0_0) (hc0_0 : l0_0.length ≤ c0_0) (hr1 : Kd.C (Kd.int .i64) w A1 l1.length l1) (hc1 : l1.length ≤ c1) (h : impl_List.f l0_0 l1 = some (r1, r2)) :
    Calls Try.prog 35 #[.agg #[.slice A0_0 l0_0.length c0_0], .slice A1 l1.length c1] w fun e w' => ∃ v0_ : Value, e = .returned (.tuple #[.agg #[v0_], .int .i64 r2]) ∧ Kd.R k34 34 w' w.heap.size (fun _ => True) v0_ r1 ∧ Below w.heap.size w w' := by
  have hu26 := Try.underlying26
  unfold impl_List.f at h
  by_cases hl0 : l0_0.length ≤ 1048576
  · rw [if_pos hl0] at h
    have hl : l0_0.length ≤ 1048576 := hl0
    have HL := Aside0.mk hl
    have HL0 := Aside0.mk hl0
    have HR0 := Aside0.mk hr0_0
    have HC0 := Aside0.mk hc0_0
    have HX := Aside0.mk (show l1.length ≤ 9223372036854775807 from hr1.2.1)
    have HR1 := Aside0.mk hr1
    have HC1 := Aside0.mk hc1
    clear hr1 hc1
    clear hl hl0 hr0_0 hc0_0
    obtain ⟨s, hs⟩ : ∃ s, listB l0_0 false l1 = s := ⟨_, rfl⟩
    rw [hs] at h
    have HS := Aside0.mk hs
    have HE := Aside0.mk (Option.some.inj h)
    clear hs h
    go_enter Try.func35, Try.ntmps35
    go_wp2_with (first
      | ((with_reducible refine gate_dst (N := 2) rfl ?_); refine box_event ?hg (N := 2) ?hd (cs := #[.slice A0_0 l0_0.length c0_0]) (t := 26) ?hr ?_; (case hd => rfl); (case hg => rfl); (case hr => first | (go_simp; done) | (go_simp; rfl)); intro ga hg1 w3 hbox hb; have BKa := Aside0.mk hbox; have HB3 := Aside0.mk hb; have GA := Aside0.mk hg1; clear hg1 hbox hb)
      | ((with_reducible refine gate_dst (N := 4) rfl ?_); refine box_event ?hg (N := 4) ?hd (cs := #[.slice none 0 0]) (t := 26) ?hr ?_; (case hd => rfl); (case hg => rfl); (case hr => first | (go_simp; done) | (go_simp; rfl)); intro gr hg1 w4 hbox hb; have BKr := Aside0.mk hbox; have HB4 := Aside0.mk hb; have GR := Aside0.mk hg1; clear hg1 hbox hb; have HBw4 := Aside0.mk (below_step HB3.out HB4.out); have BKa4 := Aside0.mk (blk_below BKa.out HB4.out); have hca4 : w4.cell? ⟨ga, 0, none⟩ = some (.slice A0_0 l0_0.length c0_0) := (blk_cell BKa4.out 0).trans rfl)
      | (go_at_call 92; ((with_reducible refine (impl_benchOf A0_0 c0_0 l0_0 _ (Kd.C_below HR0.out HBw4.out) HC0.out HL.out).mono ?_); rintro e w5 hp); obtain ⟨g, rfl, hgs, hB5, hb5⟩ := hp; have HBN := Aside0.mk hB5; have HB5 := Aside0.mk hb5; clear hgs hB5 hb5)
      | (go_at_call 93; ((with_reducible refine (impl_list' HBN.out HR1.out HC1.out (below_step HBw4.out HB5.out) HBw4.out.size HX.out HS.out).mono ?_); rintro e w6 hp); have HP6 := Aside0.mk hp; obtain ⟨rfl, _⟩ := hp; have HB6 := Aside0.mk (below_step HBw4.out (HB5.out.trans HP6.out.2.2.1)); have BKa6 := Aside0.mk ((HP6.out.2.2.1.block ga (blk_lt BKa4.out)).trans (blk_below BKa4.out HB5.out)); have BKr6 := Aside0.mk ((HP6.out.2.2.1.block gr (blk_lt BKr.out)).trans (blk_below BKr.out HB5.out)); have hca6 : w6.cell? ⟨ga, 0, none⟩ = some (.slice A0_0 l0_0.length c0_0) := (blk_cell BKa6.out 0).trans rfl)
      | (go_at_call 94; ((with_reducible refine (impl_end' (s := s) HP6.out.bn HR0.out HC0.out HB6.out HB6.out.size HL.out HE.out).mono ?_); rintro e w7 hp); obtain ⟨v, rfl, hR7, hb7⟩ := hp; obtain ⟨A7, c7, rfl, hl7, _⟩ := Kd.R_reads hR7; have HR7 := Aside0.mk hR7; have HB7 := Aside0.mk hb7; clear hR7 hl7 hb7; have BKr7 := Aside0.mk (blk_below BKr6.out HB7.out); have hcr7 : w7.cell? ⟨gr, 0, none⟩ = some (.slice none 0 0) := (blk_cell BKr7.out 0).trans rfl; have hfr7 := blk_frozen BKr7.out 0))
    refine bodyPost_ret (results_ct rfl _ _ gr 26 #[.slice A7 r1.length c7] (0, 0) _ rfl (blk_put BKr7.out 0 _ rfl) Try.underlying26 rfl (by kernel_rfl)) rfl ?_
    exact ⟨_, rfl, top_own HR7.out HBw4.out.size (blk_lt BKr.out), below_set (below_step HB6.out HB7.out) (by rw [GR.out]; exact HB3.out.size)⟩
  · rw [if_neg hl0] at h
    cases h
namespace Hand

end Hand

/-! ### laws_eqIntS: function 36 -/
def laws_eqIntS.l0 : Nat → List Int → List Int → Int → Option (Bool)
  | 0, _, _, _ => none
  | k + 1, x0, x1, x5 => if x5 < (x0.length : Int) then (if 0 ≤ x5 then (if x5 < (x1.length : Int) then (if (rd x0 x5) = (rd x1 x5) then (laws_eqIntS.l0 k x0 x1 (wrap64 (x5 + 1))) else (some false)) else (none)) else (none)) else (some true)
def laws_eqIntS.f (k : Nat) (l0 : List Int) (l1 : List Int) : Option (Bool) := if (l0.length : Int) = (l1.length : Int) then (laws_eqIntS.l0 k l0 l1 0) else (some false)
theorem laws_eqIntS.mono_l : ∀ k, (∀ y0 y1 y2, LeO (laws_eqIntS.l0 k y0 y1 y2) (laws_eqIntS.l0 (k + 1) y0 y1 y2))
  | 0 => fun _ _ _ r h => by simp [laws_eqIntS.l0] at h
  | k + 1 => by
    have ih0 := laws_eqIntS.mono_l k
    · intro y0 y1 y2
      unfold laws_eqIntS.l0
      repeat' first
      | (with_reducible exact ih0 _ _ _)
      | (with_reducible exact LeO.refl _)
      | (with_reducible exact LeO.none _)
      | (with_reducible refine LeO.ite ?_ ?_)
      | (with_reducible refine LeO.bind ?_ (fun _ => ?_))
      | exact ih0 _ _ _
      | exact LeO.none _
      | refine LeO.ite ?_ ?_
      | refine LeO.bind ?_ (fun _ => ?_)
theorem laws_eqIntS.mono : ∀ a0 a1 k, LeO (laws_eqIntS.f k a0 a1) (laws_eqIntS.f (k + 1) a0 a1) := by
  intro a0 a1 k
  have ih0 := laws_eqIntS.mono_l k
  unfold laws_eqIntS.f
  repeat' first
      | (with_reducible exact ih0 _ _ _)
      | (with_reducible exact LeO.refl _)
      | (with_reducible exact LeO.none _)
      | (with_reducible refine LeO.ite ?_ ?_)
      | (with_reducible refine LeO.bind ?_ (fun _ => ?_))
      | exact ih0 _ _ _
      | exact LeO.none _
      | refine LeO.ite ?_ ?_
      | refine LeO.bind ?_ (fun _ => ?_)
set_option maxHeartbeats 8000000 in
set_option maxRecDepth 100000 in
theorem laws_eqIntS.calls (k : Nat) (A0 : Option Addr) (c0 : Nat) (l0 : List Int) (A1 : Option Addr) (c1 : Nat) (l1 : List Int) (r : Bool) (w : World) (hr0 : Kd.C (Kd.int .i64) w A0 l0.length l0) (hc0 : l0.length ≤ c0) (hr1 : Kd.C (Kd.int .i64) w A1 l1.length l1) (hc1 : l1.length ≤ c1) (h : laws_eqIntS.f k l0 l1 = some r) :
    Calls Try.prog 36 #[.slice A0 l0.length c0, .slice A1 l1.length c1] w fun e w' => e = .returned (.bool r) ∧ Drawn0 w w' := by
  have HR0 := Aside0.mk hr0
  have HC0 := Aside0.mk hc0
  clear hr0 hc0
  have HR1 := Aside0.mk hr1
  have HC1 := Aside0.mk hc1
  clear hr1 hc1
  have H : (if (l0.length : Int) = (l1.length : Int) then (laws_eqIntS.l0 k l0 l1 0) else (some false)) = some r := h
  clear h
  by_cases c3 : (l0.length : Int) = (l1.length : Int)
  · rw [if_pos c3] at H
    have c3b0 : ((l0.length : Int) == (l1.length : Int)) = true := beq_iff_eq.mpr c3
    have c3b1 : ((l0.length : Int) != (l1.length : Int)) = false := bne_eq_false_iff_eq.mpr c3
    have c3b2 : (l0.length == l1.length) = true := by first | simpa using c3 | (simp at c3 ⊢; omega)
    clear c3
    have H' := Aside0.mk H
    clear H
    go_enter Try.func36, Try.ntmps36
    go_wp2
    repeat (go_quiet (fail); try go_wp2)
    go_loopg [5] k (fun kq v5 w' => ∃ (x5_1 : Int), v5 = .int .i64 x5_1 ∧ Aside0 (laws_eqIntS.l0 kq l0 l1 x5_1 = some r) ∧ Aside0 (kq ≤ k) ∧ Drawn0 w w')
    case atStart => exact ⟨(0), (by first | rfl | (simp; done) | (simp [*]; done)), H', ⟨Nat.le_refl _⟩, by repeat (first | exact Drawn0.refl _ | apply Drawn0.step)⟩
    case round =>
      clear H'
      try clear c1
      try clear p2
      try clear c3
      try clear c3b0
      try clear c3b1
      try clear c3b2
      obtain ⟨x5_1, rfl, HA, HK1, ⟨m1, rfl⟩⟩ := hrel
      cases gk with
      | zero => exact absurd HA.out (by simp [laws_eqIntS.l0])
      | succ k1 =>
        have H := HA.out
        clear HA
        simp only [laws_eqIntS.l0] at H
        by_cases c4 : x5_1 < (l0.length : Int)
        · rw [if_pos c4] at H
          have c4b0 : decide (x5_1 < (l0.length : Int)) = true := decide_eq_true c4
          clear c4
          by_cases c5 : 0 ≤ x5_1
          · rw [if_pos c5] at H
            have c5b0 : decide (0 ≤ x5_1) = true := decide_eq_true c5
            clear c5
            by_cases c6 : x5_1 < (l1.length : Int)
            · rw [if_pos c6] at H
              have c6b0 : decide (x5_1 < (l1.length : Int)) = true := decide_eq_true c6
              clear c6
              by_cases c7 : (rd l0 x5_1) = (rd l1 x5_1)
              · rw [if_pos c7] at H
                have c7b0 : ((rd l0 x5_1) == (rd l1 x5_1)) = true := beq_iff_eq.mpr c7
                have c7b1 : ((rd l0 x5_1) != (rd l1 x5_1)) = false := bne_eq_false_iff_eq.mpr c7
                clear c7
                have H' := Aside0.mk H
                clear H
                have p195 : 0 ≤ (x5_1 : Int) := of_decide_eq_true (by first | (with_reducible assumption) | assumption)
                have q195 : x5_1 < (l0.length : Int) := of_decide_eq_true (by first | (with_reducible assumption) | assumption)
                obtain ⟨ad195, e195, hx195_0⟩ := Kd.at_int HR0.out x5_1 p195 q195
                cases e195
                replace p195 := eq_true p195
                replace q195 := eq_true q195
                have p196 : 0 ≤ (x5_1 : Int) := of_decide_eq_true (by first | (with_reducible assumption) | assumption)
                have q196 : x5_1 < (l1.length : Int) := of_decide_eq_true (by first | (with_reducible assumption) | assumption)
                obtain ⟨ad196, e196, hx196_0⟩ := Kd.at_int HR1.out x5_1 p196 q196
                cases e196
                replace p196 := eq_true p196
                replace q196 := eq_true q196
                go_wp2
                repeat (go_quiet (fail); try go_wp2)
                go_roundg k1
                case measure => have := HK1.out; omega
                case rel => exact ⟨(wrap64 (x5_1 + 1)), (by first | rfl | (simp; done) | (simp [*]; done)), H', ⟨by have := HK1.out; omega⟩, by repeat (first | exact Drawn0.refl _ | apply Drawn0.step)⟩
              · rw [if_neg c7] at H
                have c7b0 : ((rd l0 x5_1) == (rd l1 x5_1)) = false := beq_eq_false_iff_ne.mpr c7
                have c7b1 : ((rd l0 x5_1) != (rd l1 x5_1)) = true := bne_iff_ne.mpr c7
                obtain rfl := Option.some.inj H
                have p195 : 0 ≤ (x5_1 : Int) := of_decide_eq_true (by first | (with_reducible assumption) | assumption)
                have q195 : x5_1 < (l0.length : Int) := of_decide_eq_true (by first | (with_reducible assumption) | assumption)
                obtain ⟨ad195, e195, hx195_0⟩ := Kd.at_int HR0.out x5_1 p195 q195
                cases e195
                replace p195 := eq_true p195
                replace q195 := eq_true q195
                have p196 : 0 ≤ (x5_1 : Int) := of_decide_eq_true (by first | (with_reducible assumption) | assumption)
                have q196 : x5_1 < (l1.length : Int) := of_decide_eq_true (by first | (with_reducible assumption) | assumption)
                obtain ⟨ad196, e196, hx196_0⟩ := Kd.at_int HR1.out x5_1 p196 q196
                cases e196
                replace p196 := eq_true p196
                replace q196 := eq_true q196
                go_wp2
                repeat (go_quiet (fail); try go_wp2)
                go_ret
                exact ⟨by first | rfl | (simp; done) | (simp [*]; done), by repeat (first | exact Drawn0.refl _ | apply Drawn0.step)⟩
            · rw [if_neg c6] at H
              exact absurd H (by simp)
          · rw [if_neg c5] at H
            exact absurd H (by simp)
        · rw [if_neg c4] at H
          have c4b0 : decide (x5_1 < (l0.length : Int)) = false := decide_eq_false c4
          clear c4
          obtain rfl := Option.some.inj H
          go_wp2
          repeat (go_quiet (fail); try go_wp2)
          go_ret
          exact ⟨by first | rfl | (simp; done) | (simp [*]; done), by repeat (first | exact Drawn0.refl _ | apply Drawn0.step)⟩
  · rw [if_neg c3] at H
    have c3b0 : ((l0.length : Int) == (l1.length : Int)) = false := beq_eq_false_iff_ne.mpr c3
    have c3b1 : ((l0.length : Int) != (l1.length : Int)) = true := bne_iff_ne.mpr c3
    have c3b2 : (l0.length == l1.length) = false := by first | simpa using c3 | (simp at c3 ⊢; omega)
    obtain rfl := Option.some.inj H
    go_enter Try.func36, Try.ntmps36
    go_wp2
    repeat (go_quiet (fail); try go_wp2)
    go_ret
    exact ⟨by first | rfl | (simp; done) | (simp [*]; done), by repeat (first | exact Drawn0.refl _ | apply Drawn0.step)⟩

/-! ### laws_markNodeS: function 95 -/
def laws_markNodeS.l0 : Nat → List (S34) → Int → Int → Option (Int × (List (S34)))
  | 0, _, _, _ => none
  | k + 1, x0, x1, x5 => if x5 < (x0.length : Int) then (if 0 ≤ x5 then ((some (x0.set (x5 : Int).toNat (⟨x1, (rd_T34 x0 x5).f1, (rd_T34 x0 x5).f2, (rd_T34 x0 x5).f3⟩ : S34) : List (S34))).bind fun y197 => ((some (y197.set (x5 : Int).toNat (⟨(rd_T34 y197 x5).f0, wrap64 (x1 + 1), (rd_T34 y197 x5).f2, (rd_T34 y197 x5).f3⟩ : S34) : List (S34))).bind fun y198 => ((some (y198.set (x5 : Int).toNat (⟨(rd_T34 y198 x5).f0, (rd_T34 y198 x5).f1, wrap64 ((wrap64 (x1 + 1)) + 1), (rd_T34 y198 x5).f3⟩ : S34) : List (S34))).bind fun y199 => (laws_markNodeS.l0 k (y199.set (x5 : Int).toNat (⟨(rd_T34 y199 x5).f0, (rd_T34 y199 x5).f1, (rd_T34 y199 x5).f2, wrap64 ((wrap64 ((wrap64 (x1 + 1)) + 1)) + 1)⟩ : S34)) (wrap64 ((wrap64 ((wrap64 ((wrap64 (x1 + 1)) + 1)) + 1)) + 1)) (wrap64 (x5 + 1)))))) else (none)) else (some (x1, x0))
def laws_markNodeS.f (k : Nat) (l0 : List (S34)) (a1 : Int) : Option (Int × (List (S34))) := laws_markNodeS.l0 k l0 a1 0
theorem laws_markNodeS.mono_l : ∀ k, (∀ y0 y1 y2, LeO (laws_markNodeS.l0 k y0 y1 y2) (laws_markNodeS.l0 (k + 1) y0 y1 y2))
  | 0 => fun _ _ _ r h => by simp [laws_markNodeS.l0] at h
  | k + 1 => by
    have ih0 := laws_markNodeS.mono_l k
    · intro y0 y1 y2
      unfold laws_markNodeS.l0
      repeat' first
      | (with_reducible exact ih0 _ _ _)
      | (with_reducible exact LeO.refl _)
      | (with_reducible exact LeO.none _)
      | (with_reducible refine LeO.ite ?_ ?_)
      | (with_reducible refine LeO.bind ?_ (fun _ => ?_))
      | exact ih0 _ _ _
      | exact LeO.none _
      | refine LeO.ite ?_ ?_
      | refine LeO.bind ?_ (fun _ => ?_)
theorem laws_markNodeS.mono : ∀ a0 a1 k, LeO (laws_markNodeS.f k a0 a1) (laws_markNodeS.f (k + 1) a0 a1) := by
  intro a0 a1 k
  have ih0 := laws_markNodeS.mono_l k
  unfold laws_markNodeS.f
  repeat' first
      | (with_reducible exact ih0 _ _ _)
      | (with_reducible exact LeO.refl _)
      | (with_reducible exact LeO.none _)
      | (with_reducible refine LeO.ite ?_ ?_)
      | (with_reducible refine LeO.bind ?_ (fun _ => ?_))
      | exact ih0 _ _ _
      | exact LeO.none _
      | refine LeO.ite ?_ ?_
      | refine LeO.bind ?_ (fun _ => ?_)
set_option maxHeartbeats 8000000 in
set_option maxRecDepth 100000 in
theorem laws_markNodeS.calls (k : Nat) (P0_ : Nat → Prop) (u9000_ : Value) (l0 : List (S34)) (a1 : Int) (r1 : Int) (r2 : List (S34)) (w0 w : World) (hB : Below w0.heap.size w0 w) (ho0 : Kd.R k34 34 w w0.heap.size P0_ u9000_ l0) (h : laws_markNodeS.f k l0 a1 = some (r1, r2)) :
    Calls Try.prog 95 #[u9000_, .int .i64 a1] w fun e w' => e = .returned (.int .i64 r1) ∧ Kd.R k34 34 w' w0.heap.size (fun k_ => (P0_ k_ ∨ w.heap.size ≤ k_)) u9000_ r2 ∧ Below w0.heap.size w0 w' ∧ Kept w w' (fun k_ => P0_ k_) := by
  have HO0 := Aside0.mk (show Kd.R k34 34 w w0.heap.size (fun k_ => (P0_ k_ ∨ w.heap.size ≤ k_)) u9000_ l0 from Kd.R_mono ho0 (fun k_ hk => (.inl hk)))
  have HK := Aside0.mk (Kept.refl w (fun k_ => P0_ k_))
  have HW0 := Aside0.mk hB.size
  have HB := Aside0.mk hB
  clear hB
  have H : (laws_markNodeS.l0 k l0 a1 0) = some (r1, r2) := h
  clear h
  have H' := Aside0.mk H
  clear H
  go_enter Try.func95, Try.ntmps95
  go_wp2
  go_loopg [1, 5] k (fun kq v1 v5 w' => ∃ (x0_1 : List (S34)) (x1_1 : Int) (x5_1 : Int), v1 = .int .i64 x1_1 ∧ v5 = .int .i64 x5_1 ∧ Aside0 (laws_markNodeS.l0 kq x0_1 x1_1 x5_1 = some (r1, r2)) ∧ Aside0 (kq ≤ k) ∧ Aside0 (Kd.R k34 34 w' w0.heap.size (fun k_ => (P0_ k_ ∨ w.heap.size ≤ k_)) u9000_ x0_1) ∧ Aside0 (Kept w w' (fun k_ => P0_ k_)) ∧ Aside0 (Below w0.heap.size w0 w'))
  case atStart => exact ⟨(l0), (a1), (0), (by first | rfl | (simp; done) | (simp [*]; done)), (by first | rfl | (simp; done) | (simp [*]; done)), H', ⟨Nat.le_refl _⟩, ⟨by (with_reducible repeat (first | apply Kd.R_alloc | apply Kd.R_drewN | apply Kd.R_drew)); exact HO0.out⟩, ⟨by repeat (first | (with_reducible first | exact HK.out | apply Kept.alloc | apply Kept.drewN | apply Kept.drew) | exact HK.out)⟩, ⟨by repeat (first | (with_reducible first | exact HB.out | apply below_alloc | apply pw_below_drewN | apply below_drew1) | exact HB.out)⟩⟩
  case round =>
    clear H'
    try clear p2
    obtain ⟨x0_1, x1_1, x5_1, rfl, rfl, HA, HK1, HO_0, HK, HB⟩ := hrel
    cases gk with
    | zero => exact absurd HA.out (by simp [laws_markNodeS.l0])
    | succ k1 =>
      have H := HA.out
      clear HA
      simp only [laws_markNodeS.l0] at H
      by_cases c3 : x5_1 < (x0_1.length : Int)
      · rw [if_pos c3] at H
        have c3b0 : decide (x5_1 < (x0_1.length : Int)) = true := decide_eq_true c3
        clear c3
        by_cases c4 : 0 ≤ x5_1
        · rw [if_pos c4] at H
          have c4b0 : decide (0 ≤ x5_1) = true := decide_eq_true c4
          clear c4
          obtain ⟨y197, hy197⟩ : ∃ y_ : List (S34), y_ = (x0_1.set (x5_1 : Int).toNat (⟨x1_1, (rd_T34 x0_1 x5_1).f1, (rd_T34 x0_1 x5_1).f2, (rd_T34 x0_1 x5_1).f3⟩ : S34)) := ⟨_, rfl⟩
          replace H : ((some (y197.set (x5_1 : Int).toNat (⟨(rd_T34 y197 x5_1).f0, wrap64 (x1_1 + 1), (rd_T34 y197 x5_1).f2, (rd_T34 y197 x5_1).f3⟩ : S34) : List (S34))).bind fun y198 => ((some (y198.set (x5_1 : Int).toNat (⟨(rd_T34 y198 x5_1).f0, (rd_T34 y198 x5_1).f1, wrap64 ((wrap64 (x1_1 + 1)) + 1), (rd_T34 y198 x5_1).f3⟩ : S34) : List (S34))).bind fun y199 => (laws_markNodeS.l0 k1 (y199.set (x5_1 : Int).toNat (⟨(rd_T34 y199 x5_1).f0, (rd_T34 y199 x5_1).f1, (rd_T34 y199 x5_1).f2, wrap64 ((wrap64 ((wrap64 (x1_1 + 1)) + 1)) + 1)⟩ : S34)) (wrap64 ((wrap64 ((wrap64 ((wrap64 (x1_1 + 1)) + 1)) + 1)) + 1)) (wrap64 (x5_1 + 1))))) = some (r1, r2) := by first | (rw [hy197]; with_reducible exact H) | (have H2_ := (Option.bind_some _ _).symm.trans H; rw [hy197]; with_reducible exact H2_) | (have H2_ := (Option.bind_some _ _).symm.trans H; with_reducible exact H2_) | with_reducible exact H | (rw [hy197]; exact H) | exact H
          have Ny197 := Aside0.mk hy197
          clear hy197
          obtain ⟨y198, hy198⟩ : ∃ y_ : List (S34), y_ = (y197.set (x5_1 : Int).toNat (⟨(rd_T34 y197 x5_1).f0, wrap64 (x1_1 + 1), (rd_T34 y197 x5_1).f2, (rd_T34 y197 x5_1).f3⟩ : S34)) := ⟨_, rfl⟩
          replace H : ((some (y198.set (x5_1 : Int).toNat (⟨(rd_T34 y198 x5_1).f0, (rd_T34 y198 x5_1).f1, wrap64 ((wrap64 (x1_1 + 1)) + 1), (rd_T34 y198 x5_1).f3⟩ : S34) : List (S34))).bind fun y199 => (laws_markNodeS.l0 k1 (y199.set (x5_1 : Int).toNat (⟨(rd_T34 y199 x5_1).f0, (rd_T34 y199 x5_1).f1, (rd_T34 y199 x5_1).f2, wrap64 ((wrap64 ((wrap64 (x1_1 + 1)) + 1)) + 1)⟩ : S34)) (wrap64 ((wrap64 ((wrap64 ((wrap64 (x1_1 + 1)) + 1)) + 1)) + 1)) (wrap64 (x5_1 + 1)))) = some (r1, r2) := by first | (rw [hy198]; with_reducible exact H) | (have H2_ := (Option.bind_some _ _).symm.trans H; rw [hy198]; with_reducible exact H2_) | (have H2_ := (Option.bind_some _ _).symm.trans H; with_reducible exact H2_) | with_reducible exact H | (rw [hy198]; exact H) | exact H
          have Ny198 := Aside0.mk hy198
          clear hy198
          obtain ⟨y199, hy199⟩ : ∃ y_ : List (S34), y_ = (y198.set (x5_1 : Int).toNat (⟨(rd_T34 y198 x5_1).f0, (rd_T34 y198 x5_1).f1, wrap64 ((wrap64 (x1_1 + 1)) + 1), (rd_T34 y198 x5_1).f3⟩ : S34)) := ⟨_, rfl⟩
          replace H : (laws_markNodeS.l0 k1 (y199.set (x5_1 : Int).toNat (⟨(rd_T34 y199 x5_1).f0, (rd_T34 y199 x5_1).f1, (rd_T34 y199 x5_1).f2, wrap64 ((wrap64 ((wrap64 (x1_1 + 1)) + 1)) + 1)⟩ : S34)) (wrap64 ((wrap64 ((wrap64 ((wrap64 (x1_1 + 1)) + 1)) + 1)) + 1)) (wrap64 (x5_1 + 1))) = some (r1, r2) := by first | (rw [hy199]; with_reducible exact H) | (have H2_ := (Option.bind_some _ _).symm.trans H; rw [hy199]; with_reducible exact H2_) | (have H2_ := (Option.bind_some _ _).symm.trans H; with_reducible exact H2_) | with_reducible exact H | (rw [hy199]; exact H) | exact H
          have Ny199 := Aside0.mk hy199
          clear hy199
          obtain ⟨y200, hy200⟩ : ∃ y_ : List (S34), y_ = (y199.set (x5_1 : Int).toNat (⟨(rd_T34 y199 x5_1).f0, (rd_T34 y199 x5_1).f1, (rd_T34 y199 x5_1).f2, wrap64 ((wrap64 ((wrap64 (x1_1 + 1)) + 1)) + 1)⟩ : S34)) := ⟨_, rfl⟩
          replace H : (laws_markNodeS.l0 k1 y200 (wrap64 ((wrap64 ((wrap64 ((wrap64 (x1_1 + 1)) + 1)) + 1)) + 1)) (wrap64 (x5_1 + 1))) = some (r1, r2) := by first | (rw [hy200]; with_reducible exact H) | (have H2_ := (Option.bind_some _ _).symm.trans H; rw [hy200]; with_reducible exact H2_) | (have H2_ := (Option.bind_some _ _).symm.trans H; with_reducible exact H2_) | with_reducible exact H | (rw [hy200]; exact H) | exact H
          have Ny200 := Aside0.mk hy200
          clear hy200
          have H' := Aside0.mk H
          clear H
          obtain ⟨Ao9, co9, eo9⟩ := Kd.R_slice HO_0.out
          subst eo9
          have p5 : 0 ≤ (x5_1 : Int) := of_decide_eq_true (by first | (with_reducible assumption) | assumption)
          have q5 : (x5_1 : Int) < ((x0_1.length : Int) : Int) := of_decide_eq_true (by first | (with_reducible assumption) | assumption)
          obtain ⟨go5, co5, eo5, gb5, gl5, cl5, HG5⟩ := Kd.R_form HO_0.out (by omega)
          (first | cases eo5 | (injection eo5 with ea_ en_ ec_; (first | subst ea_ | (injection ea_ with ea_; subst ea_)); subst ec_; clear en_))
          have GB5 := Aside0.mk gb5
          have GG5 := Aside0.mk HG5
          clear gb5 gl5 HG5
          have HMgo5 := Aside0.mk (show (P0_ go5 ∨ w.heap.size ≤ go5) from (HO_0.out.1 _ rfl))
          obtain ⟨ce5, hcl5, hM5, hcc5, hfr5⟩ := Kd.R_elem HO_0.out z34 (x5_1 : Int) p5 q5
          obtain rfl := k34_openM hM5
          have hx5_0 : wr.cell? ⟨go5, (x5_1 : Int).toNat * 4, none⟩ = some (.int .i64 ((rd_T34 x0_1 x5_1).f0)) := hcc5 0 _ rfl
          have hx5_1 : wr.cell? ⟨go5, (x5_1 : Int).toNat * 4 + 1, none⟩ = some (.int .i64 ((rd_T34 x0_1 x5_1).f1)) := hcc5 1 _ rfl
          have hx5_2 : wr.cell? ⟨go5, (x5_1 : Int).toNat * 4 + 2, none⟩ = some (.int .i64 ((rd_T34 x0_1 x5_1).f2)) := hcc5 2 _ rfl
          have hx5_3 : wr.cell? ⟨go5, (x5_1 : Int).toNat * 4 + 3, none⟩ = some (.int .i64 ((rd_T34 x0_1 x5_1).f3)) := hcc5 3 _ rfl
          have hf5_0 : wr.frozen? ⟨go5, (x5_1 : Int).toNat * 4, none⟩ = false := hfr5 0
          have hf5_1 : wr.frozen? ⟨go5, (x5_1 : Int).toNat * 4 + 1, none⟩ = false := hfr5 1
          have hf5_2 : wr.frozen? ⟨go5, (x5_1 : Int).toNat * 4 + 2, none⟩ = false := hfr5 2
          have hf5_3 : wr.frozen? ⟨go5, (x5_1 : Int).toNat * 4 + 3, none⟩ = false := hfr5 3
          clear hcl5 hcc5 hfr5 hM5
          replace p5 := eq_true p5
          replace q5 := eq_true q5
          have HX10 := Aside0.mk (show Kd.R k34 34 wr w0.heap.size (fun k_ => (P0_ k_ ∨ w.heap.size ≤ k_)) (.slice (some ⟨go5, 0, none⟩) x0_1.length co9) x0_1 from (by (with_reducible repeat (first | apply Kd.R_alloc | apply Kd.R_drewN | apply Kd.R_drew)); exact HO_0.out))
          obtain ⟨ce10, hcl10, hM10, hcc10, hfr10⟩ := Kd.R_elem HX10.out z34 (x5_1 : Int) (of_decide_eq_true (by first | (with_reducible assumption) | assumption)) (by have h_ : (x5_1 : Int) < ((x0_1.length : Int) : Int) := of_decide_eq_true (by first | (with_reducible assumption) | assumption); first | exact h_ | (have e_ := (Kd.R_reads' HO_0.out).1; omega) | simpa using h_)
          obtain rfl := k34_openM hM10
          have HP10 := Kd.R_seg HX10.out (x5_1 : Int) (of_decide_eq_true (by first | (with_reducible assumption) | assumption)) (by have h_ : (x5_1 : Int) < ((x0_1.length : Int) : Int) := of_decide_eq_true (by first | (with_reducible assumption) | assumption); first | exact h_ | (have e_ := (Kd.R_reads' HO_0.out).1; omega) | simpa using h_) (seg := [.int .i64 x1_1]) (j := 0) hcl10 hcc10 (show 1 ≤ 4 from by decide) (x' := (⟨x1_1, (rd_T34 x0_1 x5_1).f1, (rd_T34 x0_1 x5_1).f2, (rd_T34 x0_1 x5_1).f3⟩ : S34)) (k34_mkM _ _ _ (⟨x1_1, (rd_T34 x0_1 x5_1).f1, (rd_T34 x0_1 x5_1).f2, (rd_T34 x0_1 x5_1).f3⟩ : S34) ) (fun _ hk => hk)
          have hx10_0 := hcc10 0 _ rfl
          (try simp only [show (k34).sz = 4 from rfl, Nat.mul_one, Nat.add_zero] at hx10_0)
          have hf10_0 := hfr10 0
          (try simp only [show (k34).sz = 4 from rfl, Nat.mul_one, Nat.add_zero] at hf10_0)
          clear hcl10 hcc10 hfr10 hM10
          go_wp2_with (first | ((with_reducible refine gate_store (t := 3) (p := 16) rfl ?_); refine store_event (t := 3) (p := 16) (v := ?vo_w11) (w1 := (wr.setCell ⟨go5, (x5_1 : Int).toNat * 4, none⟩ (.int .i64 x1_1))) ?hg ?ho ?hn ?hr ?_; (case ho => rfl); (case hg => rfl); (case hn => rfl); (case hr => first | (go_simp; done) | (go_simp; rfl)); intro w11 hw; have hg : wr.grownBy w11 (some go5) := (by rw [hw]; exact HP10.2); have hp_ : Kd.R k34 34 w11 w0.heap.size (fun k_ => (P0_ k_ ∨ w.heap.size ≤ k_)) (.slice (some ⟨go5, 0, none⟩) x0_1.length co9) y197 := (by rw [hw, Ny197.out]; exact HP10.1); clear HP10; have n0_ := Aside0.mk (hp_); have n1_ := Aside0.mk ((by rw [hw]; exact below_set (HB.out) GB5.out : Below w0.heap.size w0 w11)); have n2_ := Aside0.mk (Kept.of_grown (S := (fun k_ => P0_ k_)) hg (by repeat (first | (with_reducible first | exact HK.out | apply Kept.alloc | apply Kept.drewN | apply Kept.drew) | exact HK.out)) (fun k_ e_ => (HO_0.out.1 k_ e_))); clear HO_0; clear HB; clear HK; have HO_0 := n0_; have HB := n1_; have HK := n2_; clear n0_ n1_ n2_; clear hg hw hp_; have p6 : 0 ≤ (x5_1 : Int) := of_decide_eq_true (by first | (with_reducible assumption) | assumption); have q6 : (x5_1 : Int) < ((x0_1.length : Int) : Int) := of_decide_eq_true (by first | (with_reducible assumption) | assumption); obtain ⟨ce6, hcl6, hM6, hcc6, hfr6⟩ := Kd.R_elem HO_0.out z34 (x5_1 : Int) p6 q6; obtain rfl := k34_openM hM6; have hx6_0 : w11.cell? ⟨go5, (x5_1 : Int).toNat * 4, none⟩ = some (.int .i64 ((rd_T34 y197 x5_1).f0)) := hcc6 0 _ rfl; have hx6_1 : w11.cell? ⟨go5, (x5_1 : Int).toNat * 4 + 1, none⟩ = some (.int .i64 ((rd_T34 y197 x5_1).f1)) := hcc6 1 _ rfl; have hx6_2 : w11.cell? ⟨go5, (x5_1 : Int).toNat * 4 + 2, none⟩ = some (.int .i64 ((rd_T34 y197 x5_1).f2)) := hcc6 2 _ rfl; have hx6_3 : w11.cell? ⟨go5, (x5_1 : Int).toNat * 4 + 3, none⟩ = some (.int .i64 ((rd_T34 y197 x5_1).f3)) := hcc6 3 _ rfl; have hf6_0 : w11.frozen? ⟨go5, (x5_1 : Int).toNat * 4, none⟩ = false := hfr6 0; have hf6_1 : w11.frozen? ⟨go5, (x5_1 : Int).toNat * 4 + 1, none⟩ = false := hfr6 1; have hf6_2 : w11.frozen? ⟨go5, (x5_1 : Int).toNat * 4 + 2, none⟩ = false := hfr6 2; have hf6_3 : w11.frozen? ⟨go5, (x5_1 : Int).toNat * 4 + 3, none⟩ = false := hfr6 3; clear hcl6 hcc6 hfr6 hM6; replace p6 := eq_true p6; replace q6 := eq_true q6; have HX12 := Aside0.mk (show Kd.R k34 34 w11 w0.heap.size (fun k_ => (P0_ k_ ∨ w.heap.size ≤ k_)) (.slice (some ⟨go5, 0, none⟩) x0_1.length co9) y197 from (by (with_reducible repeat (first | apply Kd.R_alloc | apply Kd.R_drewN | apply Kd.R_drew)); exact HO_0.out)); obtain ⟨ce12, hcl12, hM12, hcc12, hfr12⟩ := Kd.R_elem HX12.out z34 (x5_1 : Int) (of_decide_eq_true (by first | (with_reducible assumption) | assumption)) (by have h_ : (x5_1 : Int) < ((x0_1.length : Int) : Int) := of_decide_eq_true (by first | (with_reducible assumption) | assumption); first | exact h_ | (have e_ := (Kd.R_reads' HO_0.out).1; omega) | simpa using h_); obtain rfl := k34_openM hM12; have HP12 := Kd.R_seg HX12.out (x5_1 : Int) (of_decide_eq_true (by first | (with_reducible assumption) | assumption)) (by have h_ : (x5_1 : Int) < ((x0_1.length : Int) : Int) := of_decide_eq_true (by first | (with_reducible assumption) | assumption); first | exact h_ | (have e_ := (Kd.R_reads' HO_0.out).1; omega) | simpa using h_) (seg := [.int .i64 (wrap64 (x1_1 + 1))]) (j := 1) hcl12 hcc12 (show 2 ≤ 4 from by decide) (x' := (⟨(rd_T34 y197 x5_1).f0, wrap64 (x1_1 + 1), (rd_T34 y197 x5_1).f2, (rd_T34 y197 x5_1).f3⟩ : S34)) (k34_mkM _ _ _ (⟨(rd_T34 y197 x5_1).f0, wrap64 (x1_1 + 1), (rd_T34 y197 x5_1).f2, (rd_T34 y197 x5_1).f3⟩ : S34) ) (fun _ hk => hk); have hx12_1 := hcc12 1 _ rfl; (try simp only [show (k34).sz = 4 from rfl, Nat.mul_one, Nat.add_zero] at hx12_1); have hf12_1 := hfr12 1; (try simp only [show (k34).sz = 4 from rfl, Nat.mul_one, Nat.add_zero] at hf12_1); clear hcl12 hcc12 hfr12 hM12) | ((with_reducible refine gate_store (t := 3) (p := 23) rfl ?_); refine store_event (t := 3) (p := 23) (v := ?vo_w13) (w1 := (w11.setCell ⟨go5, (x5_1 : Int).toNat * 4 + 1, none⟩ (.int .i64 (wrap64 (x1_1 + 1))))) ?hg ?ho ?hn ?hr ?_; (case ho => rfl); (case hg => rfl); (case hn => rfl); (case hr => first | (go_simp; done) | (go_simp; rfl)); intro w13 hw; have hg : w11.grownBy w13 (some go5) := (by rw [hw]; exact HP12.2); have hp_ : Kd.R k34 34 w13 w0.heap.size (fun k_ => (P0_ k_ ∨ w.heap.size ≤ k_)) (.slice (some ⟨go5, 0, none⟩) x0_1.length co9) y198 := (by rw [hw, Ny198.out]; exact HP12.1); clear HP12; have n0_ := Aside0.mk (hp_); have n1_ := Aside0.mk ((by rw [hw]; exact below_set (HB.out) GB5.out : Below w0.heap.size w0 w13)); have n2_ := Aside0.mk (Kept.of_grown (S := (fun k_ => P0_ k_)) hg (by repeat (first | (with_reducible first | exact HK.out | apply Kept.alloc | apply Kept.drewN | apply Kept.drew) | exact HK.out)) (fun k_ e_ => (HO_0.out.1 k_ e_))); clear HO_0; clear HB; clear HK; have HO_0 := n0_; have HB := n1_; have HK := n2_; clear n0_ n1_ n2_; clear hg hw hp_; have p7 : 0 ≤ (x5_1 : Int) := of_decide_eq_true (by first | (with_reducible assumption) | assumption); have q7 : (x5_1 : Int) < ((x0_1.length : Int) : Int) := of_decide_eq_true (by first | (with_reducible assumption) | assumption); obtain ⟨ce7, hcl7, hM7, hcc7, hfr7⟩ := Kd.R_elem HO_0.out z34 (x5_1 : Int) p7 q7; obtain rfl := k34_openM hM7; have hx7_0 : w13.cell? ⟨go5, (x5_1 : Int).toNat * 4, none⟩ = some (.int .i64 ((rd_T34 y198 x5_1).f0)) := hcc7 0 _ rfl; have hx7_1 : w13.cell? ⟨go5, (x5_1 : Int).toNat * 4 + 1, none⟩ = some (.int .i64 ((rd_T34 y198 x5_1).f1)) := hcc7 1 _ rfl; have hx7_2 : w13.cell? ⟨go5, (x5_1 : Int).toNat * 4 + 2, none⟩ = some (.int .i64 ((rd_T34 y198 x5_1).f2)) := hcc7 2 _ rfl; have hx7_3 : w13.cell? ⟨go5, (x5_1 : Int).toNat * 4 + 3, none⟩ = some (.int .i64 ((rd_T34 y198 x5_1).f3)) := hcc7 3 _ rfl; have hf7_0 : w13.frozen? ⟨go5, (x5_1 : Int).toNat * 4, none⟩ = false := hfr7 0; have hf7_1 : w13.frozen? ⟨go5, (x5_1 : Int).toNat * 4 + 1, none⟩ = false := hfr7 1; have hf7_2 : w13.frozen? ⟨go5, (x5_1 : Int).toNat * 4 + 2, none⟩ = false := hfr7 2; have hf7_3 : w13.frozen? ⟨go5, (x5_1 : Int).toNat * 4 + 3, none⟩ = false := hfr7 3; clear hcl7 hcc7 hfr7 hM7; replace p7 := eq_true p7; replace q7 := eq_true q7; have HX14 := Aside0.mk (show Kd.R k34 34 w13 w0.heap.size (fun k_ => (P0_ k_ ∨ w.heap.size ≤ k_)) (.slice (some ⟨go5, 0, none⟩) x0_1.length co9) y198 from (by (with_reducible repeat (first | apply Kd.R_alloc | apply Kd.R_drewN | apply Kd.R_drew)); exact HO_0.out)); obtain ⟨ce14, hcl14, hM14, hcc14, hfr14⟩ := Kd.R_elem HX14.out z34 (x5_1 : Int) (of_decide_eq_true (by first | (with_reducible assumption) | assumption)) (by have h_ : (x5_1 : Int) < ((x0_1.length : Int) : Int) := of_decide_eq_true (by first | (with_reducible assumption) | assumption); first | exact h_ | (have e_ := (Kd.R_reads' HO_0.out).1; omega) | simpa using h_); obtain rfl := k34_openM hM14; have HP14 := Kd.R_seg HX14.out (x5_1 : Int) (of_decide_eq_true (by first | (with_reducible assumption) | assumption)) (by have h_ : (x5_1 : Int) < ((x0_1.length : Int) : Int) := of_decide_eq_true (by first | (with_reducible assumption) | assumption); first | exact h_ | (have e_ := (Kd.R_reads' HO_0.out).1; omega) | simpa using h_) (seg := [.int .i64 (wrap64 ((wrap64 (x1_1 + 1)) + 1))]) (j := 2) hcl14 hcc14 (show 3 ≤ 4 from by decide) (x' := (⟨(rd_T34 y198 x5_1).f0, (rd_T34 y198 x5_1).f1, wrap64 ((wrap64 (x1_1 + 1)) + 1), (rd_T34 y198 x5_1).f3⟩ : S34)) (k34_mkM _ _ _ (⟨(rd_T34 y198 x5_1).f0, (rd_T34 y198 x5_1).f1, wrap64 ((wrap64 (x1_1 + 1)) + 1), (rd_T34 y198 x5_1).f3⟩ : S34) ) (fun _ hk => hk); have hx14_2 := hcc14 2 _ rfl; (try simp only [show (k34).sz = 4 from rfl, Nat.mul_one, Nat.add_zero] at hx14_2); have hf14_2 := hfr14 2; (try simp only [show (k34).sz = 4 from rfl, Nat.mul_one, Nat.add_zero] at hf14_2); clear hcl14 hcc14 hfr14 hM14) | ((with_reducible refine gate_store (t := 3) (p := 30) rfl ?_); refine store_event (t := 3) (p := 30) (v := ?vo_w15) (w1 := (w13.setCell ⟨go5, (x5_1 : Int).toNat * 4 + 2, none⟩ (.int .i64 (wrap64 ((wrap64 (x1_1 + 1)) + 1))))) ?hg ?ho ?hn ?hr ?_; (case ho => rfl); (case hg => rfl); (case hn => rfl); (case hr => first | (go_simp; done) | (go_simp; rfl)); intro w15 hw; have hg : w13.grownBy w15 (some go5) := (by rw [hw]; exact HP14.2); have hp_ : Kd.R k34 34 w15 w0.heap.size (fun k_ => (P0_ k_ ∨ w.heap.size ≤ k_)) (.slice (some ⟨go5, 0, none⟩) x0_1.length co9) y199 := (by rw [hw, Ny199.out]; exact HP14.1); clear HP14; have n0_ := Aside0.mk (hp_); have n1_ := Aside0.mk ((by rw [hw]; exact below_set (HB.out) GB5.out : Below w0.heap.size w0 w15)); have n2_ := Aside0.mk (Kept.of_grown (S := (fun k_ => P0_ k_)) hg (by repeat (first | (with_reducible first | exact HK.out | apply Kept.alloc | apply Kept.drewN | apply Kept.drew) | exact HK.out)) (fun k_ e_ => (HO_0.out.1 k_ e_))); clear HO_0; clear HB; clear HK; have HO_0 := n0_; have HB := n1_; have HK := n2_; clear n0_ n1_ n2_; clear hg hw hp_; have p8 : 0 ≤ (x5_1 : Int) := of_decide_eq_true (by first | (with_reducible assumption) | assumption); have q8 : (x5_1 : Int) < ((x0_1.length : Int) : Int) := of_decide_eq_true (by first | (with_reducible assumption) | assumption); obtain ⟨ce8, hcl8, hM8, hcc8, hfr8⟩ := Kd.R_elem HO_0.out z34 (x5_1 : Int) p8 q8; obtain rfl := k34_openM hM8; have hx8_0 : w15.cell? ⟨go5, (x5_1 : Int).toNat * 4, none⟩ = some (.int .i64 ((rd_T34 y199 x5_1).f0)) := hcc8 0 _ rfl; have hx8_1 : w15.cell? ⟨go5, (x5_1 : Int).toNat * 4 + 1, none⟩ = some (.int .i64 ((rd_T34 y199 x5_1).f1)) := hcc8 1 _ rfl; have hx8_2 : w15.cell? ⟨go5, (x5_1 : Int).toNat * 4 + 2, none⟩ = some (.int .i64 ((rd_T34 y199 x5_1).f2)) := hcc8 2 _ rfl; have hx8_3 : w15.cell? ⟨go5, (x5_1 : Int).toNat * 4 + 3, none⟩ = some (.int .i64 ((rd_T34 y199 x5_1).f3)) := hcc8 3 _ rfl; have hf8_0 : w15.frozen? ⟨go5, (x5_1 : Int).toNat * 4, none⟩ = false := hfr8 0; have hf8_1 : w15.frozen? ⟨go5, (x5_1 : Int).toNat * 4 + 1, none⟩ = false := hfr8 1; have hf8_2 : w15.frozen? ⟨go5, (x5_1 : Int).toNat * 4 + 2, none⟩ = false := hfr8 2; have hf8_3 : w15.frozen? ⟨go5, (x5_1 : Int).toNat * 4 + 3, none⟩ = false := hfr8 3; clear hcl8 hcc8 hfr8 hM8; replace p8 := eq_true p8; replace q8 := eq_true q8; have HX16 := Aside0.mk (show Kd.R k34 34 w15 w0.heap.size (fun k_ => (P0_ k_ ∨ w.heap.size ≤ k_)) (.slice (some ⟨go5, 0, none⟩) x0_1.length co9) y199 from (by (with_reducible repeat (first | apply Kd.R_alloc | apply Kd.R_drewN | apply Kd.R_drew)); exact HO_0.out)); obtain ⟨ce16, hcl16, hM16, hcc16, hfr16⟩ := Kd.R_elem HX16.out z34 (x5_1 : Int) (of_decide_eq_true (by first | (with_reducible assumption) | assumption)) (by have h_ : (x5_1 : Int) < ((x0_1.length : Int) : Int) := of_decide_eq_true (by first | (with_reducible assumption) | assumption); first | exact h_ | (have e_ := (Kd.R_reads' HO_0.out).1; omega) | simpa using h_); obtain rfl := k34_openM hM16; have HP16 := Kd.R_seg HX16.out (x5_1 : Int) (of_decide_eq_true (by first | (with_reducible assumption) | assumption)) (by have h_ : (x5_1 : Int) < ((x0_1.length : Int) : Int) := of_decide_eq_true (by first | (with_reducible assumption) | assumption); first | exact h_ | (have e_ := (Kd.R_reads' HO_0.out).1; omega) | simpa using h_) (seg := [.int .i64 (wrap64 ((wrap64 ((wrap64 (x1_1 + 1)) + 1)) + 1))]) (j := 3) hcl16 hcc16 (show 4 ≤ 4 from by decide) (x' := (⟨(rd_T34 y199 x5_1).f0, (rd_T34 y199 x5_1).f1, (rd_T34 y199 x5_1).f2, wrap64 ((wrap64 ((wrap64 (x1_1 + 1)) + 1)) + 1)⟩ : S34)) (k34_mkM _ _ _ (⟨(rd_T34 y199 x5_1).f0, (rd_T34 y199 x5_1).f1, (rd_T34 y199 x5_1).f2, wrap64 ((wrap64 ((wrap64 (x1_1 + 1)) + 1)) + 1)⟩ : S34) ) (fun _ hk => hk); have hx16_3 := hcc16 3 _ rfl; (try simp only [show (k34).sz = 4 from rfl, Nat.mul_one, Nat.add_zero] at hx16_3); have hf16_3 := hfr16 3; (try simp only [show (k34).sz = 4 from rfl, Nat.mul_one, Nat.add_zero] at hf16_3); clear hcl16 hcc16 hfr16 hM16) | ((with_reducible refine gate_store (t := 3) (p := 37) rfl ?_); refine store_event (t := 3) (p := 37) (v := ?vo_w17) (w1 := (w15.setCell ⟨go5, (x5_1 : Int).toNat * 4 + 3, none⟩ (.int .i64 (wrap64 ((wrap64 ((wrap64 (x1_1 + 1)) + 1)) + 1))))) ?hg ?ho ?hn ?hr ?_; (case ho => rfl); (case hg => rfl); (case hn => rfl); (case hr => first | (go_simp; done) | (go_simp; rfl)); intro w17 hw; have hg : w15.grownBy w17 (some go5) := (by rw [hw]; exact HP16.2); have hp_ : Kd.R k34 34 w17 w0.heap.size (fun k_ => (P0_ k_ ∨ w.heap.size ≤ k_)) (.slice (some ⟨go5, 0, none⟩) x0_1.length co9) y200 := (by rw [hw, Ny200.out]; exact HP16.1); clear HP16; have n0_ := Aside0.mk (hp_); have n1_ := Aside0.mk ((by rw [hw]; exact below_set (HB.out) GB5.out : Below w0.heap.size w0 w17)); have n2_ := Aside0.mk (Kept.of_grown (S := (fun k_ => P0_ k_)) hg (by repeat (first | (with_reducible first | exact HK.out | apply Kept.alloc | apply Kept.drewN | apply Kept.drew) | exact HK.out)) (fun k_ e_ => (HO_0.out.1 k_ e_))); clear HO_0; clear HB; clear HK; have HO_0 := n0_; have HB := n1_; have HK := n2_; clear n0_ n1_ n2_; clear hg hw hp_))
          go_roundg k1
          case measure => have := HK1.out; omega
          case rel => exact ⟨(y200), (wrap64 ((wrap64 ((wrap64 ((wrap64 (x1_1 + 1)) + 1)) + 1)) + 1)), (wrap64 (x5_1 + 1)), (by first | rfl | (simp; done) | (simp [*]; done)), (by first | rfl | (simp; done) | (simp [*]; done)), H', ⟨by have := HK1.out; omega⟩, ⟨by (with_reducible repeat (first | apply Kd.R_alloc | apply Kd.R_drewN | apply Kd.R_drew)); exact HO_0.out⟩, ⟨by repeat (first | (with_reducible first | exact HK.out | apply Kept.alloc | apply Kept.drewN | apply Kept.drew) | exact HK.out)⟩, ⟨by repeat (first | (with_reducible first | exact HB.out | apply below_alloc | apply pw_below_drewN | apply below_drew1) | exact HB.out)⟩⟩
        · rw [if_neg c4] at H
          exact absurd H (by simp)
      · rw [if_neg c3] at H
        have c3b0 : decide (x5_1 < (x0_1.length : Int)) = false := decide_eq_false c3
        clear c3
        simp only [Option.some.injEq, Prod.mk.injEq] at H
        obtain ⟨rfl, rfl⟩ := H
        obtain ⟨Ao18, co18, eo18⟩ := Kd.R_slice HO_0.out
        subst eo18
        go_wp2
        go_ret
        exact ⟨by first | rfl | (simp [errW_none, errW_some] <;> rfl) | (simp [*, errW_none, errW_some] <;> rfl), by (with_reducible repeat (first | apply Kd.R_alloc | apply Kd.R_drewN | apply Kd.R_drew)); exact HO_0.out, by repeat (first | (with_reducible first | exact HB.out | apply below_alloc | apply pw_below_drewN | apply below_drew1) | exact HB.out), by repeat (first | (with_reducible first | exact HK.out | apply Kept.alloc | apply Kept.drewN | apply Kept.drew) | exact HK.out)⟩

/-! ### laws_markArena: function 37 -/
def laws_markArena.f (k : Nat) (l0_0 : List (S34)) (a1 : Int) : Option (Int × (List (S34))) := (laws_markNodeS.f k l0_0 a1).bind fun bt202 => (some (bt202.1, bt202.2))
theorem laws_markArena.mono : ∀ a0 a1 k, LeO (laws_markArena.f k a0 a1) (laws_markArena.f (k + 1) a0 a1) := by
  intro a0 a1 k
  unfold laws_markArena.f
  repeat' first
      | (with_reducible exact laws_markNodeS.mono _ _ _)
      | (with_reducible exact LeO.refl _)
      | (with_reducible exact LeO.none _)
      | (with_reducible refine LeO.ite ?_ ?_)
      | (with_reducible refine LeO.bind ?_ (fun _ => ?_))
      | exact laws_markNodeS.mono _ _ _
      | exact LeO.none _
      | refine LeO.ite ?_ ?_
      | refine LeO.bind ?_ (fun _ => ?_)
set_option maxHeartbeats 8000000 in
set_option maxRecDepth 100000 in
theorem laws_markArena.calls (k : Nat) (P0_0_ : Nat → Prop) (u9000_ : Value) (l0_0 : List (S34)) (a1 : Int) (r1 : Int) (r2 : List (S34)) (w0 w : World) (hB : Below w0.heap.size w0 w) (ho0_0 : Kd.R k34 34 w w0.heap.size P0_0_ u9000_ l0_0) (h : laws_markArena.f k l0_0 a1 = some (r1, r2)) :
    Calls Try.prog 37 #[.agg #[u9000_], .int .i64 a1] w fun e w' => e = .returned (.int .i64 r1) ∧ Kd.R k34 34 w' w0.heap.size (fun k_ => (P0_0_ k_ ∨ w.heap.size ≤ k_)) u9000_ r2 ∧ Below w0.heap.size w0 w' ∧ Kept w w' (fun k_ => P0_0_ k_) := by
  have hu26 := Try.underlying26
  have HO0_0 := Aside0.mk (show Kd.R k34 34 w w0.heap.size (fun k_ => (P0_0_ k_ ∨ w.heap.size ≤ k_)) u9000_ l0_0 from Kd.R_mono ho0_0 (fun k_ hk => (.inl hk)))
  have HK := Aside0.mk (Kept.refl w (fun k_ => P0_0_ k_))
  have HW0 := Aside0.mk hB.size
  have HB := Aside0.mk hB
  clear hB
  have H : ((laws_markNodeS.f k l0_0 a1).bind fun bt202 => (some (bt202.1, bt202.2))) = some (r1, r2) := h
  clear h
  replace H := Option.bind_eq_some_iff.mp H
  obtain ⟨⟨t202, t203⟩, A30, H⟩ := H
  replace H : (some (t202, t203)) = some (r1, r2) := H
  have A3 := Aside0.mk A30
  clear A30
  simp only [Option.some.injEq, Prod.mk.injEq] at H
  obtain ⟨rfl, rfl⟩ := H
  obtain ⟨Ao4, co4, eo4⟩ := Kd.R_slice HO0_0.out
  subst eo4
  go_enter Try.func37, Try.ntmps37
  go_wp2_with (first | ((with_reducible refine gate_dst (N := 2) rfl ?_); refine box_event ?hg (N := 2) ?hd (cs := #[.slice Ao4 l0_0.length co4]) (t := 26) ?hr ?_; (case hd => rfl); (case hg => rfl); (case hr => first | (go_simp; done) | (go_simp; rfl)); intro gb201 hg w5 hbox hb; have n0_ := Aside0.mk (Kd.R_below (by (with_reducible repeat (first | apply Kd.R_alloc | apply Kd.R_drewN | apply Kd.R_drew)); exact HO0_0.out) hb); have n1_ := Aside0.mk (Kept.below (S := (fun k_ => P0_0_ k_)) (by repeat (first | (with_reducible first | exact HK.out | apply Kept.alloc | apply Kept.drewN | apply Kept.drew) | exact HK.out)) hb); have n2_ := Aside0.mk (below_step (by repeat (first | (with_reducible first | exact HB.out | apply below_alloc | apply pw_below_drewN | apply below_drew1) | exact HB.out)) hb); have n3_ := Aside0.mk (hbox); have n4_ := Aside0.mk ((by rw [hg]; exact (by first | exact HK.out.1 | exact (show Kept w _ (fun k_ => P0_0_ k_) from by repeat (first | (with_reducible first | exact HK.out | apply Kept.alloc | apply Kept.drewN | apply Kept.drew) | exact HK.out)).1) : w.heap.size ≤ gb201)); have n5_ := Aside0.mk ((by rw [hg]; exact (below_size (by repeat (first | (with_reducible first | exact HB.out | apply below_alloc | apply pw_below_drewN | apply below_drew1) | exact HB.out))) : w0.heap.size ≤ gb201)); clear HO0_0; clear HK; clear HB; have HO0_0 := n0_; have HK := n1_; have HB := n2_; have BK201 := n3_; have GW201 := n4_; have GE201 := n5_; clear n0_ n1_ n2_ n3_ n4_ n5_; clear hb hbox hg; have hcz6_0 : w5.cell? ⟨gb201, 0, none⟩ = some (.slice Ao4 l0_0.length co4) := (blk_cell BK201.out 0).trans rfl; have hfz6_0 := blk_frozen BK201.out 0) | ((with_reducible refine gate_callee (f := 95) rfl ?_); refine goesL_ (some 8) rfl rfl Try.func95 (by kernel_rfl) rfl #[.slice Ao4 l0_0.length co4, .int .i64 a1] rfl (by (try simp only [List.map_toArray, List.map_cons, List.map_nil]); first | done | rfl | (simp only [List.length_drop, List.length_take]; rfl)) ?_; (with_reducible refine (laws_markNodeS.calls k (fun k_ => some k_ = (.slice Ao4 l0_0.length co4 : Value).ownBlock) (.slice Ao4 l0_0.length co4) l0_0 a1 t202 t203 w0 _ ?side1 ?side2 A3.out).mono ?_); (case side1 => repeat (first | (with_reducible first | exact HB.out | apply below_alloc | apply pw_below_drewN | apply below_drew1 | refine below_set ?_ GE201.out) | exact HB.out)); (case side2 => exact Kd.R_tight rfl HO0_0.out); rintro e w7 ⟨rfl, hy0, hb, hkp⟩; refine ⟨_, rfl, ?_⟩; have n0_ := Aside0.mk (Kd.R_reok rfl hy0 (fun k_ e_ => HO0_0.out.1 k_ e_)); have n1_ := Aside0.mk (blk_kept (by (with_reducible repeat (first | refine blk_drewN ?_ _ | refine blk_drew ?_ | refine blk_alloc ?_ _)); exact BK201.out) hkp (fun hs_ => (fun e_ => (Kd.R_ne HO0_0.out BK201.out (by decide)) e_) hs_)); have n2_ := Aside0.mk (Kept.then_ (S := (fun k_ => P0_0_ k_)) (by repeat (first | (with_reducible first | exact HK.out | apply Kept.alloc | apply Kept.drewN | apply Kept.drew | refine Kept.setCell ?_ (.inr GW201.out) _) | exact HK.out)) hkp (fun k_ hs_ => (fun e_ => (HO0_0.out.1 k_ e_.symm)) hs_)); have n3_ := Aside0.mk (hb); clear HO0_0; clear BK201; clear HK; clear HB; have HO0_0 := n0_; have BK201 := n1_; have HK := n2_; have HB := n3_; clear n0_ n1_ n2_ n3_; (try clear hb); (try clear hkp); (try clear hy0)))
  go_ret
  exact ⟨by first | rfl | (simp [errW_none, errW_some] <;> rfl) | (simp [*, errW_none, errW_some] <;> rfl), by (with_reducible repeat (first | apply Kd.R_alloc | apply Kd.R_drewN | apply Kd.R_drew)); exact HO0_0.out, by repeat (first | (with_reducible first | exact HB.out | apply below_alloc | apply pw_below_drewN | apply below_drew1 | refine below_set ?_ GE201.out) | exact HB.out), by repeat (first | (with_reducible first | exact HK.out | apply Kept.alloc | apply Kept.drewN | apply Kept.drew | refine Kept.setCell ?_ (.inr GW201.out) _) | exact HK.out)⟩

/-! ### laws_markIntS: function 38 -/
def laws_markIntS.l0 : Nat → List Int → Int → Int → Option (Int × List Int)
  | 0, _, _, _ => none
  | k + 1, x0, x1, x5 => if x5 < (x0.length : Int) then (if 0 ≤ x5 then (laws_markIntS.l0 k (x0.set (x5 : Int).toNat x1) (wrap64 (x1 + 1)) (wrap64 (x5 + 1))) else (none)) else (some (x1, x0))
def laws_markIntS.f (k : Nat) (l0 : List Int) (a1 : Int) : Option (Int × List Int) := laws_markIntS.l0 k l0 a1 0
theorem laws_markIntS.mono_l : ∀ k, (∀ y0 y1 y2, LeO (laws_markIntS.l0 k y0 y1 y2) (laws_markIntS.l0 (k + 1) y0 y1 y2))
  | 0 => fun _ _ _ r h => by simp [laws_markIntS.l0] at h
  | k + 1 => by
    have ih0 := laws_markIntS.mono_l k
    · intro y0 y1 y2
      unfold laws_markIntS.l0
      repeat' first
      | (with_reducible exact ih0 _ _ _)
      | (with_reducible exact LeO.refl _)
      | (with_reducible exact LeO.none _)
      | (with_reducible refine LeO.ite ?_ ?_)
      | (with_reducible refine LeO.bind ?_ (fun _ => ?_))
      | exact ih0 _ _ _
      | exact LeO.none _
      | refine LeO.ite ?_ ?_
      | refine LeO.bind ?_ (fun _ => ?_)
theorem laws_markIntS.mono : ∀ a0 a1 k, LeO (laws_markIntS.f k a0 a1) (laws_markIntS.f (k + 1) a0 a1) := by
  intro a0 a1 k
  have ih0 := laws_markIntS.mono_l k
  unfold laws_markIntS.f
  repeat' first
      | (with_reducible exact ih0 _ _ _)
      | (with_reducible exact LeO.refl _)
      | (with_reducible exact LeO.none _)
      | (with_reducible refine LeO.ite ?_ ?_)
      | (with_reducible refine LeO.bind ?_ (fun _ => ?_))
      | exact ih0 _ _ _
      | exact LeO.none _
      | refine LeO.ite ?_ ?_
      | refine LeO.bind ?_ (fun _ => ?_)
set_option maxHeartbeats 8000000 in
set_option maxRecDepth 100000 in
theorem laws_markIntS.calls (k : Nat) (P0_ : Nat → Prop) (u9000_ : Value) (l0 : List Int) (a1 : Int) (r1 : Int) (r2 : List Int) (w0 w : World) (hB : Below w0.heap.size w0 w) (ho0 : Kd.R (Kd.int .i64) 3 w w0.heap.size P0_ u9000_ l0) (h : laws_markIntS.f k l0 a1 = some (r1, r2)) :
    Calls Try.prog 38 #[u9000_, .int .i64 a1] w fun e w' => e = .returned (.int .i64 r1) ∧ Kd.R (Kd.int .i64) 3 w' w0.heap.size (fun k_ => (P0_ k_ ∨ w.heap.size ≤ k_)) u9000_ r2 ∧ Below w0.heap.size w0 w' ∧ Kept w w' (fun k_ => P0_ k_) := by
  have HO0 := Aside0.mk (show Kd.R (Kd.int .i64) 3 w w0.heap.size (fun k_ => (P0_ k_ ∨ w.heap.size ≤ k_)) u9000_ l0 from Kd.R_mono ho0 (fun k_ hk => (.inl hk)))
  have HK := Aside0.mk (Kept.refl w (fun k_ => P0_ k_))
  have HW0 := Aside0.mk hB.size
  have HB := Aside0.mk hB
  clear hB
  have H : (laws_markIntS.l0 k l0 a1 0) = some (r1, r2) := h
  clear h
  have H' := Aside0.mk H
  clear H
  go_enter Try.func38, Try.ntmps38
  go_wp2
  go_loopg [1, 5] k (fun kq v1 v5 w' => ∃ (x0_1 : List Int) (x1_1 : Int) (x5_1 : Int), v1 = .int .i64 x1_1 ∧ v5 = .int .i64 x5_1 ∧ Aside0 (laws_markIntS.l0 kq x0_1 x1_1 x5_1 = some (r1, r2)) ∧ Aside0 (kq ≤ k) ∧ Aside0 (Kd.R (Kd.int .i64) 3 w' w0.heap.size (fun k_ => (P0_ k_ ∨ w.heap.size ≤ k_)) u9000_ x0_1) ∧ Aside0 (Kept w w' (fun k_ => P0_ k_)) ∧ Aside0 (Below w0.heap.size w0 w'))
  case atStart => exact ⟨(l0), (a1), (0), (by first | rfl | (simp; done) | (simp [*]; done)), (by first | rfl | (simp; done) | (simp [*]; done)), H', ⟨Nat.le_refl _⟩, ⟨by (with_reducible repeat (first | apply Kd.R_alloc | apply Kd.R_drewN | apply Kd.R_drew)); exact HO0.out⟩, ⟨by repeat (first | (with_reducible first | exact HK.out | apply Kept.alloc | apply Kept.drewN | apply Kept.drew) | exact HK.out)⟩, ⟨by repeat (first | (with_reducible first | exact HB.out | apply below_alloc | apply pw_below_drewN | apply below_drew1) | exact HB.out)⟩⟩
  case round =>
    clear H'
    try clear p2
    obtain ⟨x0_1, x1_1, x5_1, rfl, rfl, HA, HK1, HO_0, HK, HB⟩ := hrel
    cases gk with
    | zero => exact absurd HA.out (by simp [laws_markIntS.l0])
    | succ k1 =>
      have H := HA.out
      clear HA
      simp only [laws_markIntS.l0] at H
      by_cases c3 : x5_1 < (x0_1.length : Int)
      · rw [if_pos c3] at H
        have c3b0 : decide (x5_1 < (x0_1.length : Int)) = true := decide_eq_true c3
        clear c3
        by_cases c4 : 0 ≤ x5_1
        · rw [if_pos c4] at H
          have c4b0 : decide (0 ≤ x5_1) = true := decide_eq_true c4
          clear c4
          obtain ⟨y204, hy204⟩ : ∃ y_ : List Int, y_ = (x0_1.set (x5_1 : Int).toNat x1_1) := ⟨_, rfl⟩
          replace H : (laws_markIntS.l0 k1 y204 (wrap64 (x1_1 + 1)) (wrap64 (x5_1 + 1))) = some (r1, r2) := by first | (rw [hy204]; with_reducible exact H) | (have H2_ := (Option.bind_some _ _).symm.trans H; rw [hy204]; with_reducible exact H2_) | (have H2_ := (Option.bind_some _ _).symm.trans H; with_reducible exact H2_) | with_reducible exact H | (rw [hy204]; exact H) | exact H
          have Ny204 := Aside0.mk hy204
          clear hy204
          have H' := Aside0.mk H
          clear H
          obtain ⟨Ao6, co6, eo6⟩ := Kd.R_slice HO_0.out
          subst eo6
          have p5 : 0 ≤ (x5_1 : Int) := of_decide_eq_true (by first | (with_reducible assumption) | assumption)
          have q5 : (x5_1 : Int) < ((x0_1.length : Int) : Int) := of_decide_eq_true (by first | (with_reducible assumption) | assumption)
          obtain ⟨go5, co5, eo5, gb5, gl5, cl5, HG5⟩ := Kd.R_form HO_0.out (by omega)
          (first | cases eo5 | (injection eo5 with ea_ en_ ec_; (first | subst ea_ | (injection ea_ with ea_; subst ea_)); subst ec_; clear en_))
          have GB5 := Aside0.mk gb5
          have GG5 := Aside0.mk HG5
          clear gb5 gl5 HG5
          have HMgo5 := Aside0.mk (show (P0_ go5 ∨ w.heap.size ≤ go5) from (HO_0.out.1 _ rfl))
          obtain ⟨hx5_0, hf5_0⟩ := Kd.R_celln 0 HO_0.out (x5_1 : Int) p5 q5
          replace p5 := eq_true p5
          replace q5 := eq_true q5
          have HP7 := Kd.R_putg HO_0.out (x5_1 : Int) x1_1
          go_wp2_with (first | ((with_reducible refine gate_store (t := 3) (p := 15) rfl ?_); refine store_event (t := 3) (p := 15) (v := ?vo_w8) (w1 := (wr.setCell ⟨go5, (x5_1 : Int).toNat, none⟩ (.int .i64 x1_1))) ?hg ?ho ?hn ?hr ?_; (case ho => rfl); (case hg => rfl); (case hn => rfl); (case hr => first | (go_simp; done) | (go_simp; rfl)); intro w8 hw; have hg : wr.grownBy w8 (some go5) := (by rw [hw]; exact HP7.2); have hp_ : Kd.R (Kd.int .i64) 3 w8 w0.heap.size (fun k_ => (P0_ k_ ∨ w.heap.size ≤ k_)) (.slice (some ⟨go5, 0, none⟩) x0_1.length co6) y204 := (by rw [hw, Ny204.out]; exact HP7.1); clear HP7; have n0_ := Aside0.mk (hp_); have n1_ := Aside0.mk ((by rw [hw]; exact below_set (HB.out) GB5.out : Below w0.heap.size w0 w8)); have n2_ := Aside0.mk (Kept.of_grown (S := (fun k_ => P0_ k_)) hg (by repeat (first | (with_reducible first | exact HK.out | apply Kept.alloc | apply Kept.drewN | apply Kept.drew) | exact HK.out)) (fun k_ e_ => (HO_0.out.1 k_ e_))); clear HO_0; clear HB; clear HK; have HO_0 := n0_; have HB := n1_; have HK := n2_; clear n0_ n1_ n2_; clear hg hw hp_))
          go_roundg k1
          case measure => have := HK1.out; omega
          case rel => exact ⟨(y204), (wrap64 (x1_1 + 1)), (wrap64 (x5_1 + 1)), (by first | rfl | (simp; done) | (simp [*]; done)), (by first | rfl | (simp; done) | (simp [*]; done)), H', ⟨by have := HK1.out; omega⟩, ⟨by (with_reducible repeat (first | apply Kd.R_alloc | apply Kd.R_drewN | apply Kd.R_drew)); exact HO_0.out⟩, ⟨by repeat (first | (with_reducible first | exact HK.out | apply Kept.alloc | apply Kept.drewN | apply Kept.drew) | exact HK.out)⟩, ⟨by repeat (first | (with_reducible first | exact HB.out | apply below_alloc | apply pw_below_drewN | apply below_drew1) | exact HB.out)⟩⟩
        · rw [if_neg c4] at H
          exact absurd H (by simp)
      · rw [if_neg c3] at H
        have c3b0 : decide (x5_1 < (x0_1.length : Int)) = false := decide_eq_false c3
        clear c3
        simp only [Option.some.injEq, Prod.mk.injEq] at H
        obtain ⟨rfl, rfl⟩ := H
        obtain ⟨Ao9, co9, eo9⟩ := Kd.R_slice HO_0.out
        subst eo9
        go_wp2
        go_ret
        exact ⟨by first | rfl | (simp [errW_none, errW_some] <;> rfl) | (simp [*, errW_none, errW_some] <;> rfl), by (with_reducible repeat (first | apply Kd.R_alloc | apply Kd.R_drewN | apply Kd.R_drew)); exact HO_0.out, by repeat (first | (with_reducible first | exact HB.out | apply below_alloc | apply pw_below_drewN | apply below_drew1) | exact HB.out), by repeat (first | (with_reducible first | exact HK.out | apply Kept.alloc | apply Kept.drewN | apply Kept.drew) | exact HK.out)⟩

end Go.Proofs.Ytkckdibalopagaa.SFnExactList
