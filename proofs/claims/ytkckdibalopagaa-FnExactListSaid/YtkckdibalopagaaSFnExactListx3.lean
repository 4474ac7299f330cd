-- Began as a print of the kit over stubs (wip/stub.py); the sections that are named OWN are this session's.
import Derived.Test.YtkckdibalopagaaSFnExactListx0
import Derived.Test.YtkckdibalopagaaSFnExactListx1
import Derived.Test.YtkckdibalopagaaSFnExactListx2
import Derived.Test.YtkckdibalopagaaBase
import Derived.RegionTactic
import Derived.BigRegion
import Derived.Carry
namespace Go.Proofs.Ytkckdibalopagaa.SFnExactList
open Go.RowKit Go.Proofs.YtkckdibalopagaaW.PrintWords Go.Proofs.YtkckdibalopagaaW.PrintLast Go.Proofs.YtkckdibalopagaaW.PrintMore
attribute [local go_sem] max2_int min2_int max_two min_two max_three min_three max_four min_four   -- for this text's walks alone
set_option linter.unusedVariables false
set_option linter.unusedSimpArgs false

attribute [local go_sem high] eqA34
/-! ### spec_l03Node: function 81 -/
def spec_l03Node.j0 : Nat → Int → Bool → Int → Int → Int → Int → Option (Bool)
  | 0, _, _, _, _, _, _ => none
  | k + 1, x1, x35, x138000, x138001, x138002, x138003 => if x35 = true then (some false) else ((spec_l03One.f x138000).bind fun t141 => (if t141 = true then (some (x138003 == 0)) else ((spec_l01In.f x138003 0 (wrap64 (x1 - 1))).bind fun t142 => (some t142))))
def spec_l03Node.f (k : Nat) (a0_0 : Int) (a0_1 : Int) (a0_2 : Int) (a0_3 : Int) (a1 : Int) : Option (Bool) := (spec_l01In.f a0_0 1 9).bind fun t138 => (if t138 = true then (if a0_0 = 1 then ((spec_l01In.f a0_1 0 999999).bind fun t139 => (if t139 = true then (if a0_2 = 0 then (some (a0_3 == 0)) else (some false)) else (some false))) else (if a0_1 = 0 then ((spec_l01In.f a0_2 0 (wrap64 (a1 - 1))).bind fun t140 => (spec_l03Node.j0 k a1 (!t140) a0_0 a0_1 a0_2 a0_3)) else (spec_l03Node.j0 k a1 true a0_0 a0_1 a0_2 a0_3))) else (some false))
theorem spec_l03Node.mono_l : ∀ k, (∀ y0 y1 y2 y3 y4 y5, LeO (spec_l03Node.j0 k y0 y1 y2 y3 y4 y5) (spec_l03Node.j0 (k + 1) y0 y1 y2 y3 y4 y5))
  | 0 => fun _ _ _ _ _ _ r h => by simp [spec_l03Node.j0] at h
  | k + 1 => by
    have ih0 := spec_l03Node.mono_l k
    · intro y0 y1 y2 y3 y4 y5
      unfold spec_l03Node.j0
      repeat' first
      | (with_reducible exact ih0 _ _ _ _ _ _)
      | (with_reducible exact LeO.refl _)
      | (with_reducible exact LeO.none _)
      | (with_reducible refine LeO.ite ?_ ?_)
      | (with_reducible refine LeO.bind ?_ (fun _ => ?_))
      | exact ih0 _ _ _ _ _ _
      | exact LeO.none _
      | refine LeO.ite ?_ ?_
      | refine LeO.bind ?_ (fun _ => ?_)
theorem spec_l03Node.mono : ∀ a0 a1 a2 a3 a4 k, LeO (spec_l03Node.f k a0 a1 a2 a3 a4) (spec_l03Node.f (k + 1) a0 a1 a2 a3 a4) := by
  intro a0 a1 a2 a3 a4 k
  have ih0 := spec_l03Node.mono_l k
  unfold spec_l03Node.f
  repeat' first
      | (with_reducible exact ih0 _ _ _ _ _ _)
      | (with_reducible exact LeO.refl _)
      | (with_reducible exact LeO.none _)
      | (with_reducible refine LeO.ite ?_ ?_)
      | (with_reducible refine LeO.bind ?_ (fun _ => ?_))
      | exact ih0 _ _ _ _ _ _
      | exact LeO.none _
      | refine LeO.ite ?_ ?_
      | refine LeO.bind ?_ (fun _ => ?_)
set_option maxHeartbeats 8000000 in
set_option maxRecDepth 100000 in
theorem spec_l03Node.calls (k : Nat) (a0_0 : Int) (a0_1 : Int) (a0_2 : Int) (a0_3 : Int) (a1 : Int) (r : Bool) (w : World) (h : spec_l03Node.f k a0_0 a0_1 a0_2 a0_3 a1 = some r) :
    Calls Try.prog 81 #[.agg #[.int .i64 a0_0, .int .i64 a0_1, .int .i64 a0_2, .int .i64 a0_3], .int .i64 a1] w fun e w' => e = .returned (.bool r) ∧ Below w.heap.size w w' := by
  have hu34 := Try.underlying34
  have HB := Aside0.mk (Below.refl w.heap.size w)
  have H : ((spec_l01In.f a0_0 1 9).bind fun t138 => (if t138 = true then (if a0_0 = 1 then ((spec_l01In.f a0_1 0 999999).bind fun t139 => (if t139 = true then (if a0_2 = 0 then (some (a0_3 == 0)) else (some false)) else (some false))) else (if a0_1 = 0 then ((spec_l01In.f a0_2 0 (wrap64 (a1 - 1))).bind fun t140 => (spec_l03Node.j0 k a1 (!t140) a0_0 a0_1 a0_2 a0_3)) else (spec_l03Node.j0 k a1 true a0_0 a0_1 a0_2 a0_3))) else (some false))) = some r := h
  clear h
  replace H := Option.bind_eq_some_iff.mp H
  obtain ⟨t138, A30, H⟩ := H
  replace H : (if t138 = true then (if a0_0 = 1 then ((spec_l01In.f a0_1 0 999999).bind fun t139 => (if t139 = true then (if a0_2 = 0 then (some (a0_3 == 0)) else (some false)) else (some false))) else (if a0_1 = 0 then ((spec_l01In.f a0_2 0 (wrap64 (a1 - 1))).bind fun t140 => (spec_l03Node.j0 k a1 (!t140) a0_0 a0_1 a0_2 a0_3)) else (spec_l03Node.j0 k a1 true a0_0 a0_1 a0_2 a0_3))) else (some false)) = some r := H
  have A3 := Aside0.mk A30
  clear A30
  by_cases c4 : t138 = true
  · subst c4
    have H1 : (if a0_0 = 1 then ((spec_l01In.f a0_1 0 999999).bind fun t139 => (if t139 = true then (if a0_2 = 0 then (some (a0_3 == 0)) else (some false)) else (some false))) else (if a0_1 = 0 then ((spec_l01In.f a0_2 0 (wrap64 (a1 - 1))).bind fun t140 => (spec_l03Node.j0 k a1 (!t140) a0_0 a0_1 a0_2 a0_3)) else (spec_l03Node.j0 k a1 true a0_0 a0_1 a0_2 a0_3))) = some r := by rw [if_pos rfl] at H; exact H
    clear H
    have H := H1
    clear H1
    by_cases c5 : a0_0 = 1
    · rw [if_pos c5] at H
      have c5b0 : (a0_0 == 1) = true := beq_iff_eq.mpr c5
      have c5b1 : (a0_0 != 1) = false := bne_eq_false_iff_eq.mpr c5
      clear c5
      replace H := Option.bind_eq_some_iff.mp H
      obtain ⟨t139, A60, H⟩ := H
      replace H : (if t139 = true then (if a0_2 = 0 then (some (a0_3 == 0)) else (some false)) else (some false)) = some r := H
      have A6 := Aside0.mk A60
      clear A60
      by_cases c7 : t139 = true
      · subst c7
        have H1 : (if a0_2 = 0 then (some (a0_3 == 0)) else (some false)) = some r := by rw [if_pos rfl] at H; exact H
        clear H
        have H := H1
        clear H1
        by_cases c8 : a0_2 = 0
        · rw [if_pos c8] at H
          have c8b0 : (a0_2 == 0) = true := beq_iff_eq.mpr c8
          have c8b1 : (a0_2 != 0) = false := bne_eq_false_iff_eq.mpr c8
          clear c8
          obtain rfl := Option.some.inj H
          go_enter Try.func81, Try.ntmps81
          go_wp2_with (first | ((with_reducible refine gate_dst (N := 2) rfl ?_); refine box_event ?hg (N := 2) ?hd (cs := #[.int .i64 a0_0, .int .i64 a0_1, .int .i64 a0_2, .int .i64 a0_3]) (t := 34) ?hr ?_; (case hd => rfl); (case hg => rfl); (case hr => first | (go_simp; done) | (go_simp; rfl)); intro gb137 hg w9 hbox hb; have n0_ := Aside0.mk (below_step (by repeat (first | (with_reducible first | exact HB.out | apply below_alloc | apply pw_below_drewN | apply below_drew1) | exact HB.out)) hb); have n1_ := Aside0.mk (hbox); have n2_ := Aside0.mk ((by rw [hg]; exact (below_size (by repeat (first | (with_reducible first | exact HB.out | apply below_alloc | apply pw_below_drewN | apply below_drew1) | exact HB.out))) : w.heap.size ≤ gb137)); have n3_ := Aside0.mk ((by rw [hg]; exact (below_size (by repeat (first | (with_reducible first | exact HB.out | apply below_alloc | apply pw_below_drewN | apply below_drew1) | exact HB.out))) : w.heap.size ≤ gb137)); clear HB; have HB := n0_; have BK137 := n1_; have GW137 := n2_; have GE137 := n3_; clear n0_ n1_ n2_ n3_; clear hb hbox hg; have hcz10_0 : w9.cell? ⟨gb137, 0, none⟩ = some (.int .i64 a0_0) := (blk_cell BK137.out 0).trans rfl; have hcz10_1 : w9.cell? ⟨gb137, 1, none⟩ = some (.int .i64 a0_1) := (blk_cell BK137.out 1).trans rfl; have hcz10_2 : w9.cell? ⟨gb137, 2, none⟩ = some (.int .i64 a0_2) := (blk_cell BK137.out 2).trans rfl; have hcz10_3 : w9.cell? ⟨gb137, 3, none⟩ = some (.int .i64 a0_3) := (blk_cell BK137.out 3).trans rfl; have hfz10_0 := blk_frozen BK137.out 0; have hfz10_1 := blk_frozen BK137.out 1; have hfz10_2 := blk_frozen BK137.out 2; have hfz10_3 := blk_frozen BK137.out 3) | ((with_reducible refine gate_callee (f := 79) rfl ?_); refine goesL_ (some 7) rfl rfl Try.func79 (by kernel_rfl) rfl #[.int .i64 a0_0, .int .i64 1, .int .i64 9] rfl (by (try simp only [List.map_toArray, List.map_cons, List.map_nil]); first | done | rfl | (simp only [List.length_drop, List.length_take]; rfl)) ?_; (with_reducible refine (spec_l01In.calls a0_0 1 9 true _ A3.out).mono ?_); rintro e w' ⟨rfl, ⟨nd, rfl⟩⟩; refine ⟨_, rfl, ?_⟩) | ((with_reducible refine gate_callee (f := 79) rfl ?_); refine goesL_ (some 14) rfl rfl Try.func79 (by kernel_rfl) rfl #[.int .i64 a0_1, .int .i64 0, .int .i64 999999] rfl (by (try simp only [List.map_toArray, List.map_cons, List.map_nil]); first | done | rfl | (simp only [List.length_drop, List.length_take]; rfl)) ?_; (with_reducible refine (spec_l01In.calls a0_1 0 999999 true _ A6.out).mono ?_); rintro e w' ⟨rfl, ⟨nd, rfl⟩⟩; refine ⟨_, rfl, ?_⟩))
          go_ret
          exact ⟨by first | rfl | (simp [errW_none, errW_some] <;> rfl) | (simp [*, errW_none, errW_some] <;> rfl), by repeat (first | (with_reducible first | exact HB.out | apply below_alloc | apply pw_below_drewN | apply below_drew1 | refine below_set ?_ GE137.out) | exact HB.out)⟩
        · rw [if_neg c8] at H
          have c8b0 : (a0_2 == 0) = false := beq_eq_false_iff_ne.mpr c8
          have c8b1 : (a0_2 != 0) = true := bne_iff_ne.mpr c8
          obtain rfl := Option.some.inj H
          go_enter Try.func81, Try.ntmps81
          go_wp2_with (first | ((with_reducible refine gate_dst (N := 2) rfl ?_); refine box_event ?hg (N := 2) ?hd (cs := #[.int .i64 a0_0, .int .i64 a0_1, .int .i64 a0_2, .int .i64 a0_3]) (t := 34) ?hr ?_; (case hd => rfl); (case hg => rfl); (case hr => first | (go_simp; done) | (go_simp; rfl)); intro gb137 hg w11 hbox hb; have n0_ := Aside0.mk (below_step (by repeat (first | (with_reducible first | exact HB.out | apply below_alloc | apply pw_below_drewN | apply below_drew1) | exact HB.out)) hb); have n1_ := Aside0.mk (hbox); have n2_ := Aside0.mk ((by rw [hg]; exact (below_size (by repeat (first | (with_reducible first | exact HB.out | apply below_alloc | apply pw_below_drewN | apply below_drew1) | exact HB.out))) : w.heap.size ≤ gb137)); have n3_ := Aside0.mk ((by rw [hg]; exact (below_size (by repeat (first | (with_reducible first | exact HB.out | apply below_alloc | apply pw_below_drewN | apply below_drew1) | exact HB.out))) : w.heap.size ≤ gb137)); clear HB; have HB := n0_; have BK137 := n1_; have GW137 := n2_; have GE137 := n3_; clear n0_ n1_ n2_ n3_; clear hb hbox hg; have hcz12_0 : w11.cell? ⟨gb137, 0, none⟩ = some (.int .i64 a0_0) := (blk_cell BK137.out 0).trans rfl; have hcz12_1 : w11.cell? ⟨gb137, 1, none⟩ = some (.int .i64 a0_1) := (blk_cell BK137.out 1).trans rfl; have hcz12_2 : w11.cell? ⟨gb137, 2, none⟩ = some (.int .i64 a0_2) := (blk_cell BK137.out 2).trans rfl; have hcz12_3 : w11.cell? ⟨gb137, 3, none⟩ = some (.int .i64 a0_3) := (blk_cell BK137.out 3).trans rfl; have hfz12_0 := blk_frozen BK137.out 0; have hfz12_1 := blk_frozen BK137.out 1; have hfz12_2 := blk_frozen BK137.out 2; have hfz12_3 := blk_frozen BK137.out 3) | ((with_reducible refine gate_callee (f := 79) rfl ?_); refine goesL_ (some 7) rfl rfl Try.func79 (by kernel_rfl) rfl #[.int .i64 a0_0, .int .i64 1, .int .i64 9] rfl (by (try simp only [List.map_toArray, List.map_cons, List.map_nil]); first | done | rfl | (simp only [List.length_drop, List.length_take]; rfl)) ?_; (with_reducible refine (spec_l01In.calls a0_0 1 9 true _ A3.out).mono ?_); rintro e w' ⟨rfl, ⟨nd, rfl⟩⟩; refine ⟨_, rfl, ?_⟩) | ((with_reducible refine gate_callee (f := 79) rfl ?_); refine goesL_ (some 14) rfl rfl Try.func79 (by kernel_rfl) rfl #[.int .i64 a0_1, .int .i64 0, .int .i64 999999] rfl (by (try simp only [List.map_toArray, List.map_cons, List.map_nil]); first | done | rfl | (simp only [List.length_drop, List.length_take]; rfl)) ?_; (with_reducible refine (spec_l01In.calls a0_1 0 999999 true _ A6.out).mono ?_); rintro e w' ⟨rfl, ⟨nd, rfl⟩⟩; refine ⟨_, rfl, ?_⟩))
          go_ret
          exact ⟨by first | rfl | (simp [errW_none, errW_some] <;> rfl) | (simp [*, errW_none, errW_some] <;> rfl), by repeat (first | (with_reducible first | exact HB.out | apply below_alloc | apply pw_below_drewN | apply below_drew1 | refine below_set ?_ GE137.out) | exact HB.out)⟩
      · replace c7 := Bool.eq_false_iff.mpr c7
        subst c7
        have H1 : (some false) = some r := by rw [if_neg (show ¬ (false = true) by decide)] at H; exact H
        clear H
        have H := H1
        clear H1
        obtain rfl := Option.some.inj H
        go_enter Try.func81, Try.ntmps81
        go_wp2_with (first | ((with_reducible refine gate_dst (N := 2) rfl ?_); refine box_event ?hg (N := 2) ?hd (cs := #[.int .i64 a0_0, .int .i64 a0_1, .int .i64 a0_2, .int .i64 a0_3]) (t := 34) ?hr ?_; (case hd => rfl); (case hg => rfl); (case hr => first | (go_simp; done) | (go_simp; rfl)); intro gb137 hg w13 hbox hb; have n0_ := Aside0.mk (below_step (by repeat (first | (with_reducible first | exact HB.out | apply below_alloc | apply pw_below_drewN | apply below_drew1) | exact HB.out)) hb); have n1_ := Aside0.mk (hbox); have n2_ := Aside0.mk ((by rw [hg]; exact (below_size (by repeat (first | (with_reducible first | exact HB.out | apply below_alloc | apply pw_below_drewN | apply below_drew1) | exact HB.out))) : w.heap.size ≤ gb137)); have n3_ := Aside0.mk ((by rw [hg]; exact (below_size (by repeat (first | (with_reducible first | exact HB.out | apply below_alloc | apply pw_below_drewN | apply below_drew1) | exact HB.out))) : w.heap.size ≤ gb137)); clear HB; have HB := n0_; have BK137 := n1_; have GW137 := n2_; have GE137 := n3_; clear n0_ n1_ n2_ n3_; clear hb hbox hg; have hcz14_0 : w13.cell? ⟨gb137, 0, none⟩ = some (.int .i64 a0_0) := (blk_cell BK137.out 0).trans rfl; have hcz14_1 : w13.cell? ⟨gb137, 1, none⟩ = some (.int .i64 a0_1) := (blk_cell BK137.out 1).trans rfl; have hcz14_2 : w13.cell? ⟨gb137, 2, none⟩ = some (.int .i64 a0_2) := (blk_cell BK137.out 2).trans rfl; have hcz14_3 : w13.cell? ⟨gb137, 3, none⟩ = some (.int .i64 a0_3) := (blk_cell BK137.out 3).trans rfl; have hfz14_0 := blk_frozen BK137.out 0; have hfz14_1 := blk_frozen BK137.out 1; have hfz14_2 := blk_frozen BK137.out 2; have hfz14_3 := blk_frozen BK137.out 3) | ((with_reducible refine gate_callee (f := 79) rfl ?_); refine goesL_ (some 7) rfl rfl Try.func79 (by kernel_rfl) rfl #[.int .i64 a0_0, .int .i64 1, .int .i64 9] rfl (by (try simp only [List.map_toArray, List.map_cons, List.map_nil]); first | done | rfl | (simp only [List.length_drop, List.length_take]; rfl)) ?_; (with_reducible refine (spec_l01In.calls a0_0 1 9 true _ A3.out).mono ?_); rintro e w' ⟨rfl, ⟨nd, rfl⟩⟩; refine ⟨_, rfl, ?_⟩) | ((with_reducible refine gate_callee (f := 79) rfl ?_); refine goesL_ (some 14) rfl rfl Try.func79 (by kernel_rfl) rfl #[.int .i64 a0_1, .int .i64 0, .int .i64 999999] rfl (by (try simp only [List.map_toArray, List.map_cons, List.map_nil]); first | done | rfl | (simp only [List.length_drop, List.length_take]; rfl)) ?_; (with_reducible refine (spec_l01In.calls a0_1 0 999999 false _ A6.out).mono ?_); rintro e w' ⟨rfl, ⟨nd, rfl⟩⟩; refine ⟨_, rfl, ?_⟩))
        go_ret
        exact ⟨by first | rfl | (simp [errW_none, errW_some] <;> rfl) | (simp [*, errW_none, errW_some] <;> rfl), by repeat (first | (with_reducible first | exact HB.out | apply below_alloc | apply pw_below_drewN | apply below_drew1 | refine below_set ?_ GE137.out) | exact HB.out)⟩
    · rw [if_neg c5] at H
      have c5b0 : (a0_0 == 1) = false := beq_eq_false_iff_ne.mpr c5
      have c5b1 : (a0_0 != 1) = true := bne_iff_ne.mpr c5
      have HC15 := Aside0.mk H
      clear H
      go_enter Try.func81, Try.ntmps81
      go_upto_region 5 with (first | ((with_reducible refine gate_dst (N := 2) rfl ?_); refine box_event ?hg (N := 2) ?hd (cs := #[.int .i64 a0_0, .int .i64 a0_1, .int .i64 a0_2, .int .i64 a0_3]) (t := 34) ?hr ?_; (case hd => rfl); (case hg => rfl); (case hr => first | (go_simp; done) | (go_simp; rfl)); intro gb137 hg w16 hbox hb; have n0_ := Aside0.mk (below_step (by repeat (first | (with_reducible first | exact HB.out | apply below_alloc | apply pw_below_drewN | apply below_drew1) | exact HB.out)) hb); have n1_ := Aside0.mk (hbox); have n2_ := Aside0.mk ((by rw [hg]; exact (below_size (by repeat (first | (with_reducible first | exact HB.out | apply below_alloc | apply pw_below_drewN | apply below_drew1) | exact HB.out))) : w.heap.size ≤ gb137)); have n3_ := Aside0.mk ((by rw [hg]; exact (below_size (by repeat (first | (with_reducible first | exact HB.out | apply below_alloc | apply pw_below_drewN | apply below_drew1) | exact HB.out))) : w.heap.size ≤ gb137)); clear HB; have HB := n0_; have BK137 := n1_; have GW137 := n2_; have GE137 := n3_; clear n0_ n1_ n2_ n3_; clear hb hbox hg; have hcz17_0 : w16.cell? ⟨gb137, 0, none⟩ = some (.int .i64 a0_0) := (blk_cell BK137.out 0).trans rfl; have hcz17_1 : w16.cell? ⟨gb137, 1, none⟩ = some (.int .i64 a0_1) := (blk_cell BK137.out 1).trans rfl; have hcz17_2 : w16.cell? ⟨gb137, 2, none⟩ = some (.int .i64 a0_2) := (blk_cell BK137.out 2).trans rfl; have hcz17_3 : w16.cell? ⟨gb137, 3, none⟩ = some (.int .i64 a0_3) := (blk_cell BK137.out 3).trans rfl; have hfz17_0 := blk_frozen BK137.out 0; have hfz17_1 := blk_frozen BK137.out 1; have hfz17_2 := blk_frozen BK137.out 2; have hfz17_3 := blk_frozen BK137.out 3) | ((with_reducible refine gate_callee (f := 79) rfl ?_); refine goesL_ (some 7) rfl rfl Try.func79 (by kernel_rfl) rfl #[.int .i64 a0_0, .int .i64 1, .int .i64 9] rfl (by (try simp only [List.map_toArray, List.map_cons, List.map_nil]); first | done | rfl | (simp only [List.length_drop, List.length_take]; rfl)) ?_; (with_reducible refine (spec_l01In.calls a0_0 1 9 true _ A3.out).mono ?_); rintro e w' ⟨rfl, ⟨nd, rfl⟩⟩; refine ⟨_, rfl, ?_⟩))
      (try simp only [Act.put, List.setIfInBounds_toArray, List.set_cons_zero, List.set_cons_succ])
      go_cut [35] (fun v35 wc => ∃ (kq : Nat) (x35_14 : Bool), v35 = .bool x35_14 ∧ Aside0 (spec_l03Node.j0 kq a1 x35_14 a0_0 a0_1 a0_2 a0_3 = some r) ∧ Aside0 (kq ≤ k) ∧ Aside0 (wc.heap[gb137]? = some (.cells #[.int .i64 a0_0, .int .i64 a0_1, .int .i64 a0_2, .int .i64 a0_3] 34 (0, 0))) ∧ Aside0 (Below w.heap.size w wc))
      case first =>
        have H := HC15.out
        clear HC15
        by_cases c18 : a0_1 = 0
        · rw [if_pos c18] at H
          have c18b0 : (a0_1 == 0) = true := beq_iff_eq.mpr c18
          have c18b1 : (a0_1 != 0) = false := bne_eq_false_iff_eq.mpr c18
          clear c18
          (first | rw [c18b0] | (simp only [i64_w, i32_w]; rw [c18b0]) | skip)
          replace H := Option.bind_eq_some_iff.mp H
          obtain ⟨t140, A190, H⟩ := H
          replace H : (spec_l03Node.j0 k a1 (!t140) a0_0 a0_1 a0_2 a0_3) = some r := H
          have A19 := Aside0.mk A190
          clear A190
          have H' := Aside0.mk H
          clear H
          have hcz20_0 : w16.cell? ⟨gb137, 0, none⟩ = some (.int .i64 a0_0) := (blk_cell BK137.out 0).trans rfl
          have hcz20_1 : w16.cell? ⟨gb137, 1, none⟩ = some (.int .i64 a0_1) := (blk_cell BK137.out 1).trans rfl
          have hcz20_2 : w16.cell? ⟨gb137, 2, none⟩ = some (.int .i64 a0_2) := (blk_cell BK137.out 2).trans rfl
          have hcz20_3 : w16.cell? ⟨gb137, 3, none⟩ = some (.int .i64 a0_3) := (blk_cell BK137.out 3).trans rfl
          have hfz20_0 := blk_frozen BK137.out 0
          have hfz20_1 := blk_frozen BK137.out 1
          have hfz20_2 := blk_frozen BK137.out 2
          have hfz20_3 := blk_frozen BK137.out 3
          go_wp2_with (first | (go_at_call 79; (with_reducible refine (spec_l01In.calls a0_2 0 (wrap64 (a1 - 1)) t140 _ A19.out).mono ?_); rintro e w' ⟨rfl, ⟨nd, rfl⟩⟩))
          go_meet
          case rel => exact ⟨_, (!t140), (by first | rfl | (simp; done) | (simp [*]; done)), H', ⟨by first | omega | exact Nat.le_refl _⟩, ⟨by (with_reducible repeat (first | refine blk_drewN ?_ _ | refine blk_drew ?_ | refine blk_alloc ?_ _)); exact BK137.out⟩, ⟨by repeat (first | (with_reducible first | exact HB.out | apply below_alloc | apply pw_below_drewN | apply below_drew1 | refine below_set ?_ GE137.out) | exact HB.out)⟩⟩
        · rw [if_neg c18] at H
          have c18b0 : (a0_1 == 0) = false := beq_eq_false_iff_ne.mpr c18
          have c18b1 : (a0_1 != 0) = true := bne_iff_ne.mpr c18
          (first | rw [c18b0] | (simp only [i64_w, i32_w]; rw [c18b0]) | skip)
          have H' := Aside0.mk H
          clear H
          have hcz21_0 : w16.cell? ⟨gb137, 0, none⟩ = some (.int .i64 a0_0) := (blk_cell BK137.out 0).trans rfl
          have hcz21_1 : w16.cell? ⟨gb137, 1, none⟩ = some (.int .i64 a0_1) := (blk_cell BK137.out 1).trans rfl
          have hcz21_2 : w16.cell? ⟨gb137, 2, none⟩ = some (.int .i64 a0_2) := (blk_cell BK137.out 2).trans rfl
          have hcz21_3 : w16.cell? ⟨gb137, 3, none⟩ = some (.int .i64 a0_3) := (blk_cell BK137.out 3).trans rfl
          have hfz21_0 := blk_frozen BK137.out 0
          have hfz21_1 := blk_frozen BK137.out 1
          have hfz21_2 := blk_frozen BK137.out 2
          have hfz21_3 := blk_frozen BK137.out 3
          go_wp2
          go_meet
          case rel => exact ⟨_, (true), (by first | rfl | (simp; done) | (simp [*]; done)), H', ⟨by first | omega | exact Nat.le_refl _⟩, ⟨by (with_reducible repeat (first | refine blk_drewN ?_ _ | refine blk_drew ?_ | refine blk_alloc ?_ _)); exact BK137.out⟩, ⟨by repeat (first | (with_reducible first | exact HB.out | apply below_alloc | apply pw_below_drewN | apply below_drew1 | refine below_set ?_ GE137.out) | exact HB.out)⟩⟩
      case rest =>
        clear HC15
        try clear c1
        try clear p2
        try clear c4
        try clear c5
        try clear c5b0
        try clear c5b1
        try clear p6
        try clear c7
        try clear c8
        try clear c8b0
        try clear c8b1
        try clear c18
        try clear c18b0
        try clear c18b1
        try clear hcz10_0
        try clear hcz10_1
        try clear hcz10_2
        try clear hcz10_3
        try clear hcz12_0
        try clear hcz12_1
        try clear hcz12_2
        try clear hcz12_3
        try clear hcz14_0
        try clear hcz14_1
        try clear hcz14_2
        try clear hcz14_3
        try clear hcz17_0
        try clear hcz17_1
        try clear hcz17_2
        try clear hcz17_3
        try clear hcz20_0
        try clear hcz20_1
        try clear hcz20_2
        try clear hcz20_3
        try clear hcz21_0
        try clear hcz21_1
        try clear hcz21_2
        try clear hcz21_3
        try clear hfz10_0
        try clear hfz10_1
        try clear hfz10_2
        try clear hfz10_3
        try clear hfz12_0
        try clear hfz12_1
        try clear hfz12_2
        try clear hfz12_3
        try clear hfz14_0
        try clear hfz14_1
        try clear hfz14_2
        try clear hfz14_3
        try clear hfz17_0
        try clear hfz17_1
        try clear hfz17_2
        try clear hfz17_3
        try clear hfz20_0
        try clear hfz20_1
        try clear hfz20_2
        try clear hfz20_3
        try clear hfz21_0
        try clear hfz21_1
        try clear hfz21_2
        try clear hfz21_3
        obtain ⟨kq, x35_14, rfl, HA, HJ14, BK137, HB⟩ := hcut
        cases kq with
        | zero => exact absurd HA.out (by simp [spec_l03Node.j0])
        | succ kj14 =>
          have H := HA.out
          clear HA
          simp only [spec_l03Node.j0] at H
          by_cases c22 : x35_14 = true
          · subst c22
            have H1 : (some false) = some r := by rw [if_pos rfl] at H; exact H
            clear H
            have H := H1
            clear H1
            obtain rfl := Option.some.inj H
            go_wp2
            go_ret
            exact ⟨by first | rfl | (simp [errW_none, errW_some] <;> rfl) | (simp [*, errW_none, errW_some] <;> rfl), by repeat (first | (with_reducible first | exact HB.out | apply below_alloc | apply pw_below_drewN | apply below_drew1 | refine below_set ?_ GE137.out) | exact HB.out)⟩
          · replace c22 := Bool.eq_false_iff.mpr c22
            subst c22
            have H1 : ((spec_l03One.f a0_0).bind fun t141 => (if t141 = true then (some (a0_3 == 0)) else ((spec_l01In.f a0_3 0 (wrap64 (a1 - 1))).bind fun t142 => (some t142)))) = some r := by rw [if_neg (show ¬ (false = true) by decide)] at H; exact H
            clear H
            have H := H1
            clear H1
            replace H := Option.bind_eq_some_iff.mp H
            obtain ⟨t141, A230, H⟩ := H
            replace H : (if t141 = true then (some (a0_3 == 0)) else ((spec_l01In.f a0_3 0 (wrap64 (a1 - 1))).bind fun t142 => (some t142))) = some r := H
            have A23 := Aside0.mk A230
            clear A230
            by_cases c24 : t141 = true
            · subst c24
              have H1 : (some (a0_3 == 0)) = some r := by rw [if_pos rfl] at H; exact H
              clear H
              have H := H1
              clear H1
              obtain rfl := Option.some.inj H
              have hcz25_0 : wc.cell? ⟨gb137, 0, none⟩ = some (.int .i64 a0_0) := (blk_cell BK137.out 0).trans rfl
              have hcz25_1 : wc.cell? ⟨gb137, 1, none⟩ = some (.int .i64 a0_1) := (blk_cell BK137.out 1).trans rfl
              have hcz25_2 : wc.cell? ⟨gb137, 2, none⟩ = some (.int .i64 a0_2) := (blk_cell BK137.out 2).trans rfl
              have hcz25_3 : wc.cell? ⟨gb137, 3, none⟩ = some (.int .i64 a0_3) := (blk_cell BK137.out 3).trans rfl
              have hfz25_0 := blk_frozen BK137.out 0
              have hfz25_1 := blk_frozen BK137.out 1
              have hfz25_2 := blk_frozen BK137.out 2
              have hfz25_3 := blk_frozen BK137.out 3
              go_wp2_with (first | ((with_reducible refine gate_callee (f := 111) rfl ?_); refine goesL_ (some 38) rfl rfl Try.func111 (by kernel_rfl) rfl #[.int .i64 a0_0] rfl (by (try simp only [List.map_toArray, List.map_cons, List.map_nil]); first | done | rfl | (simp only [List.length_drop, List.length_take]; rfl)) ?_; (with_reducible refine (spec_l03One.calls a0_0 true _ A23.out).mono ?_); rintro e w' ⟨rfl, ⟨nd, rfl⟩⟩; refine ⟨_, rfl, ?_⟩))
              go_ret
              exact ⟨by first | rfl | (simp [errW_none, errW_some] <;> rfl) | (simp [*, errW_none, errW_some] <;> rfl), by repeat (first | (with_reducible first | exact HB.out | apply below_alloc | apply pw_below_drewN | apply below_drew1 | refine below_set ?_ GE137.out) | exact HB.out)⟩
            · replace c24 := Bool.eq_false_iff.mpr c24
              subst c24
              have H1 : ((spec_l01In.f a0_3 0 (wrap64 (a1 - 1))).bind fun t142 => (some t142)) = some r := by rw [if_neg (show ¬ (false = true) by decide)] at H; exact H
              clear H
              have H := H1
              clear H1
              replace H := Option.bind_eq_some_iff.mp H
              obtain ⟨t142, A260, H⟩ := H
              replace H : (some t142) = some r := H
              have A26 := Aside0.mk A260
              clear A260
              obtain rfl := Option.some.inj H
              have hcz27_0 : wc.cell? ⟨gb137, 0, none⟩ = some (.int .i64 a0_0) := (blk_cell BK137.out 0).trans rfl
              have hcz27_1 : wc.cell? ⟨gb137, 1, none⟩ = some (.int .i64 a0_1) := (blk_cell BK137.out 1).trans rfl
              have hcz27_2 : wc.cell? ⟨gb137, 2, none⟩ = some (.int .i64 a0_2) := (blk_cell BK137.out 2).trans rfl
              have hcz27_3 : wc.cell? ⟨gb137, 3, none⟩ = some (.int .i64 a0_3) := (blk_cell BK137.out 3).trans rfl
              have hfz27_0 := blk_frozen BK137.out 0
              have hfz27_1 := blk_frozen BK137.out 1
              have hfz27_2 := blk_frozen BK137.out 2
              have hfz27_3 := blk_frozen BK137.out 3
              go_wp2_with (first | ((with_reducible refine gate_callee (f := 111) rfl ?_); refine goesL_ (some 38) rfl rfl Try.func111 (by kernel_rfl) rfl #[.int .i64 a0_0] rfl (by (try simp only [List.map_toArray, List.map_cons, List.map_nil]); first | done | rfl | (simp only [List.length_drop, List.length_take]; rfl)) ?_; (with_reducible refine (spec_l03One.calls a0_0 false _ A23.out).mono ?_); rintro e w' ⟨rfl, ⟨nd, rfl⟩⟩; refine ⟨_, rfl, ?_⟩) | ((with_reducible refine gate_callee (f := 79) rfl ?_); refine goesL_ (some 46) rfl rfl Try.func79 (by kernel_rfl) rfl #[.int .i64 a0_3, .int .i64 0, .int .i64 (wrap64 (a1 - 1))] rfl (by (try simp only [List.map_toArray, List.map_cons, List.map_nil]); first | done | rfl | (simp only [List.length_drop, List.length_take]; rfl)) ?_; (with_reducible refine (spec_l01In.calls a0_3 0 (wrap64 (a1 - 1)) t142 _ A26.out).mono ?_); rintro e w' ⟨rfl, ⟨nd, rfl⟩⟩; refine ⟨_, rfl, ?_⟩))
              go_ret
              exact ⟨by first | rfl | (simp [errW_none, errW_some] <;> rfl) | (simp [*, errW_none, errW_some] <;> rfl), by repeat (first | (with_reducible first | exact HB.out | apply below_alloc | apply pw_below_drewN | apply below_drew1 | refine below_set ?_ GE137.out) | exact HB.out)⟩
  · replace c4 := Bool.eq_false_iff.mpr c4
    subst c4
    have H1 : (some false) = some r := by rw [if_neg (show ¬ (false = true) by decide)] at H; exact H
    clear H
    have H := H1
    clear H1
    obtain rfl := Option.some.inj H
    go_enter Try.func81, Try.ntmps81
    go_wp2_with (first | ((with_reducible refine gate_dst (N := 2) rfl ?_); refine box_event ?hg (N := 2) ?hd (cs := #[.int .i64 a0_0, .int .i64 a0_1, .int .i64 a0_2, .int .i64 a0_3]) (t := 34) ?hr ?_; (case hd => rfl); (case hg => rfl); (case hr => first | (go_simp; done) | (go_simp; rfl)); intro gb137 hg w28 hbox hb; have n0_ := Aside0.mk (below_step (by repeat (first | (with_reducible first | exact HB.out | apply below_alloc | apply pw_below_drewN | apply below_drew1) | exact HB.out)) hb); have n1_ := Aside0.mk (hbox); have n2_ := Aside0.mk ((by rw [hg]; exact (below_size (by repeat (first | (with_reducible first | exact HB.out | apply below_alloc | apply pw_below_drewN | apply below_drew1) | exact HB.out))) : w.heap.size ≤ gb137)); have n3_ := Aside0.mk ((by rw [hg]; exact (below_size (by repeat (first | (with_reducible first | exact HB.out | apply below_alloc | apply pw_below_drewN | apply below_drew1) | exact HB.out))) : w.heap.size ≤ gb137)); clear HB; have HB := n0_; have BK137 := n1_; have GW137 := n2_; have GE137 := n3_; clear n0_ n1_ n2_ n3_; clear hb hbox hg; have hcz29_0 : w28.cell? ⟨gb137, 0, none⟩ = some (.int .i64 a0_0) := (blk_cell BK137.out 0).trans rfl; have hcz29_1 : w28.cell? ⟨gb137, 1, none⟩ = some (.int .i64 a0_1) := (blk_cell BK137.out 1).trans rfl; have hcz29_2 : w28.cell? ⟨gb137, 2, none⟩ = some (.int .i64 a0_2) := (blk_cell BK137.out 2).trans rfl; have hcz29_3 : w28.cell? ⟨gb137, 3, none⟩ = some (.int .i64 a0_3) := (blk_cell BK137.out 3).trans rfl; have hfz29_0 := blk_frozen BK137.out 0; have hfz29_1 := blk_frozen BK137.out 1; have hfz29_2 := blk_frozen BK137.out 2; have hfz29_3 := blk_frozen BK137.out 3) | ((with_reducible refine gate_callee (f := 79) rfl ?_); refine goesL_ (some 7) rfl rfl Try.func79 (by kernel_rfl) rfl #[.int .i64 a0_0, .int .i64 1, .int .i64 9] rfl (by (try simp only [List.map_toArray, List.map_cons, List.map_nil]); first | done | rfl | (simp only [List.length_drop, List.length_take]; rfl)) ?_; (with_reducible refine (spec_l01In.calls a0_0 1 9 false _ A3.out).mono ?_); rintro e w' ⟨rfl, ⟨nd, rfl⟩⟩; refine ⟨_, rfl, ?_⟩))
    go_ret
    exact ⟨by first | rfl | (simp [errW_none, errW_some] <;> rfl) | (simp [*, errW_none, errW_some] <;> rfl), by repeat (first | (with_reducible first | exact HB.out | apply below_alloc | apply pw_below_drewN | apply below_drew1 | refine below_set ?_ GE137.out) | exact HB.out)⟩

/-! ### spec_l03At: function 82 -/
def spec_l03At.l0 : Nat → List (S34) → Int → Int → Int → Int → Int → Option (Int)
  | 0, _, _, _, _, _, _ => none
  | k + 1, x0, x5, x144000, x144001, x144002, x144003 => if x5 < (x0.length : Int) then (if 0 ≤ x5 then (if (((rd_T34 x0 x5).f0) == x144000 && (((rd_T34 x0 x5).f1) == x144001 && (((rd_T34 x0 x5).f2) == x144002 && (((rd_T34 x0 x5).f3) == x144003)))) = true then (some x5) else (spec_l03At.l0 k x0 (wrap64 (x5 + 1)) x144000 x144001 x144002 x144003)) else (none)) else (some (-1))
def spec_l03At.f (k : Nat) (l0 : List (S34)) (a1_0 : Int) (a1_1 : Int) (a1_2 : Int) (a1_3 : Int) : Option (Int) := spec_l03At.l0 k l0 0 a1_0 a1_1 a1_2 a1_3
theorem spec_l03At.mono_l : ∀ k, (∀ y0 y1 y2 y3 y4 y5, LeO (spec_l03At.l0 k y0 y1 y2 y3 y4 y5) (spec_l03At.l0 (k + 1) y0 y1 y2 y3 y4 y5))
  | 0 => fun _ _ _ _ _ _ r h => by simp [spec_l03At.l0] at h
  | k + 1 => by
    have ih0 := spec_l03At.mono_l k
    · intro y0 y1 y2 y3 y4 y5
      unfold spec_l03At.l0
      repeat' first
      | (with_reducible exact ih0 _ _ _ _ _ _)
      | (with_reducible exact LeO.refl _)
      | (with_reducible exact LeO.none _)
      | (with_reducible refine LeO.ite ?_ ?_)
      | (with_reducible refine LeO.bind ?_ (fun _ => ?_))
      | exact ih0 _ _ _ _ _ _
      | exact LeO.none _
      | refine LeO.ite ?_ ?_
      | refine LeO.bind ?_ (fun _ => ?_)
theorem spec_l03At.mono : ∀ a0 a1 a2 a3 a4 k, LeO (spec_l03At.f k a0 a1 a2 a3 a4) (spec_l03At.f (k + 1) a0 a1 a2 a3 a4) := by
  intro a0 a1 a2 a3 a4 k
  have ih0 := spec_l03At.mono_l k
  unfold spec_l03At.f
  repeat' first
      | (with_reducible exact ih0 _ _ _ _ _ _)
      | (with_reducible exact LeO.refl _)
      | (with_reducible exact LeO.none _)
      | (with_reducible refine LeO.ite ?_ ?_)
      | (with_reducible refine LeO.bind ?_ (fun _ => ?_))
      | exact ih0 _ _ _ _ _ _
      | exact LeO.none _
      | refine LeO.ite ?_ ?_
      | refine LeO.bind ?_ (fun _ => ?_)
set_option maxHeartbeats 8000000 in
set_option maxRecDepth 100000 in
theorem spec_l03At.calls (k : Nat) (A0 : Option Addr) (c0 : Nat) (l0 : List (S34)) (a1_0 : Int) (a1_1 : Int) (a1_2 : Int) (a1_3 : Int) (r : Int) (w : World) (hr0 : Kd.C k34 w A0 l0.length l0) (hc0 : l0.length ≤ c0) (h : spec_l03At.f k l0 a1_0 a1_1 a1_2 a1_3 = some r) :
    Calls Try.prog 82 #[.slice A0 l0.length c0, .agg #[.int .i64 a1_0, .int .i64 a1_1, .int .i64 a1_2, .int .i64 a1_3]] w fun e w' => e = .returned (.int .i64 r) ∧ Below w.heap.size w w' := by
  have hu34 := Try.underlying34
  have HR0 := Aside0.mk hr0
  have HC0 := Aside0.mk hc0
  clear hr0 hc0
  have HB := Aside0.mk (Below.refl w.heap.size w)
  have H : (spec_l03At.l0 k l0 0 a1_0 a1_1 a1_2 a1_3) = some r := h
  clear h
  have H' := Aside0.mk H
  clear H
  go_enter Try.func82, Try.ntmps82
  go_wp2_with (first | ((with_reducible refine gate_dst (N := 3) rfl ?_); refine box_event ?hg (N := 3) ?hd (cs := #[.int .i64 a1_0, .int .i64 a1_1, .int .i64 a1_2, .int .i64 a1_3]) (t := 34) ?hr ?_; (case hd => rfl); (case hg => rfl); (case hr => first | (go_simp; done) | (go_simp; rfl)); intro gb143 hg w3 hbox hb; have n0_ := Aside0.mk (below_step (by repeat (first | (with_reducible first | exact HB.out | apply below_alloc | apply pw_below_drewN | apply below_drew1) | exact HB.out)) hb); have n1_ := Aside0.mk (hbox); have n2_ := Aside0.mk ((by rw [hg]; exact (below_size (by repeat (first | (with_reducible first | exact HB.out | apply below_alloc | apply pw_below_drewN | apply below_drew1) | exact HB.out))) : w.heap.size ≤ gb143)); have n3_ := Aside0.mk ((by rw [hg]; exact (below_size (by repeat (first | (with_reducible first | exact HB.out | apply below_alloc | apply pw_below_drewN | apply below_drew1) | exact HB.out))) : w.heap.size ≤ gb143)); clear HB; have HB := n0_; have BK143 := n1_; have GW143 := n2_; have GE143 := n3_; clear n0_ n1_ n2_ n3_; clear hb hbox hg))
  repeat (go_quiet (first | ((with_reducible refine gate_dst (N := 3) rfl ?_); refine box_event ?hg (N := 3) ?hd (cs := #[.int .i64 a1_0, .int .i64 a1_1, .int .i64 a1_2, .int .i64 a1_3]) (t := 34) ?hr ?_; (case hd => rfl); (case hg => rfl); (case hr => first | (go_simp; done) | (go_simp; rfl)); intro gb143 hg w3 hbox hb; have n0_ := Aside0.mk (below_step (by repeat (first | (with_reducible first | exact HB.out | apply below_alloc | apply pw_below_drewN | apply below_drew1) | exact HB.out)) hb); have n1_ := Aside0.mk (hbox); have n2_ := Aside0.mk ((by rw [hg]; exact (below_size (by repeat (first | (with_reducible first | exact HB.out | apply below_alloc | apply pw_below_drewN | apply below_drew1) | exact HB.out))) : w.heap.size ≤ gb143)); have n3_ := Aside0.mk ((by rw [hg]; exact (below_size (by repeat (first | (with_reducible first | exact HB.out | apply below_alloc | apply pw_below_drewN | apply below_drew1) | exact HB.out))) : w.heap.size ≤ gb143)); clear HB; have HB := n0_; have BK143 := n1_; have GW143 := n2_; have GE143 := n3_; clear n0_ n1_ n2_ n3_; clear hb hbox hg)); try go_wp2_with (first | ((with_reducible refine gate_dst (N := 3) rfl ?_); refine box_event ?hg (N := 3) ?hd (cs := #[.int .i64 a1_0, .int .i64 a1_1, .int .i64 a1_2, .int .i64 a1_3]) (t := 34) ?hr ?_; (case hd => rfl); (case hg => rfl); (case hr => first | (go_simp; done) | (go_simp; rfl)); intro gb143 hg w3 hbox hb; have n0_ := Aside0.mk (below_step (by repeat (first | (with_reducible first | exact HB.out | apply below_alloc | apply pw_below_drewN | apply below_drew1) | exact HB.out)) hb); have n1_ := Aside0.mk (hbox); have n2_ := Aside0.mk ((by rw [hg]; exact (below_size (by repeat (first | (with_reducible first | exact HB.out | apply below_alloc | apply pw_below_drewN | apply below_drew1) | exact HB.out))) : w.heap.size ≤ gb143)); have n3_ := Aside0.mk ((by rw [hg]; exact (below_size (by repeat (first | (with_reducible first | exact HB.out | apply below_alloc | apply pw_below_drewN | apply below_drew1) | exact HB.out))) : w.heap.size ≤ gb143)); clear HB; have HB := n0_; have BK143 := n1_; have GW143 := n2_; have GE143 := n3_; clear n0_ n1_ n2_ n3_; clear hb hbox hg)))
  go_loopg [5] k (fun kq v5 w' => ∃ (x5_1 : Int), v5 = .int .i64 x5_1 ∧ Aside0 (spec_l03At.l0 kq l0 x5_1 a1_0 a1_1 a1_2 a1_3 = some r) ∧ Aside0 (kq ≤ k) ∧ Aside0 (w'.heap[gb143]? = some (.cells #[.int .i64 a1_0, .int .i64 a1_1, .int .i64 a1_2, .int .i64 a1_3] 34 (0, 0))) ∧ Aside0 (Below w.heap.size w w'))
  case atStart => exact ⟨(0), (by first | rfl | (simp; done) | (simp [*]; done)), H', ⟨Nat.le_refl _⟩, ⟨by (with_reducible repeat (first | refine blk_drewN ?_ _ | refine blk_drew ?_ | refine blk_alloc ?_ _)); exact BK143.out⟩, ⟨by repeat (first | (with_reducible first | exact HB.out | apply below_alloc | apply pw_below_drewN | apply below_drew1 | refine below_set ?_ GE143.out) | exact HB.out)⟩⟩
  case round =>
    clear H'
    try clear p2
    obtain ⟨x5_1, rfl, HA, HK1, BK143, HB⟩ := hrel
    cases gk with
    | zero => exact absurd HA.out (by simp [spec_l03At.l0])
    | succ k1 =>
      have H := HA.out
      clear HA
      simp only [spec_l03At.l0] at H
      by_cases c4 : x5_1 < (l0.length : Int)
      · rw [if_pos c4] at H
        have c4b0 : decide (x5_1 < (l0.length : Int)) = true := decide_eq_true c4
        clear c4
        by_cases c5 : 0 ≤ x5_1
        · rw [if_pos c5] at H
          have c5b0 : decide (0 ≤ x5_1) = true := decide_eq_true c5
          clear c5
          by_cases c6 : (((rd_T34 l0 x5_1).f0) == a1_0 && (((rd_T34 l0 x5_1).f1) == a1_1 && (((rd_T34 l0 x5_1).f2) == a1_2 && (((rd_T34 l0 x5_1).f3) == a1_3)))) = true
          · rw [if_pos c6] at H
            have c6b0 : (((rd_T34 l0 x5_1).f0) == a1_0 && (((rd_T34 l0 x5_1).f1) == a1_1 && (((rd_T34 l0 x5_1).f2) == a1_2 && (((rd_T34 l0 x5_1).f3) == a1_3)))) = true := c6
            (try (have c6b1 : decide (((rd_T34 l0 x5_1).f0) = a1_0 && (((rd_T34 l0 x5_1).f1) == a1_1 && (((rd_T34 l0 x5_1).f2) == a1_2 && (((rd_T34 l0 x5_1).f3) == a1_3)))) = true := by simpa using c6))
            (try (have c6b2 : (((rd_T34 l0 x5_1).f0) == a1_0 && (((rd_T34 l0 x5_1).f1) == a1_1 && (((rd_T34 l0 x5_1).f2) == a1_2 && (((rd_T34 l0 x5_1).f3) == a1_3)))) = true := by simpa using c6))
            clear c6
            obtain rfl := Option.some.inj H
            have p144 : 0 ≤ (x5_1 : Int) := of_decide_eq_true (by first | (with_reducible assumption) | assumption)
            have q144 : x5_1 < (l0.length : Int) := of_decide_eq_true (by first | (with_reducible assumption) | assumption)
            obtain ⟨ad144, e144, hx144_0, hx144_1, hx144_2, hx144_3⟩ := at_T34 HR0.out x5_1 p144 q144
            cases e144
            replace hx144_0 := (HB.out.cell (World.block_lt_of_cell? w _ hx144_0)).trans hx144_0
            replace hx144_1 := (HB.out.cell (World.block_lt_of_cell? w _ hx144_1)).trans hx144_1
            replace hx144_2 := (HB.out.cell (World.block_lt_of_cell? w _ hx144_2)).trans hx144_2
            replace hx144_3 := (HB.out.cell (World.block_lt_of_cell? w _ hx144_3)).trans hx144_3
            replace p144 := eq_true p144
            replace q144 := eq_true q144
            have hcz7_0 : wr.cell? ⟨gb143, 0, none⟩ = some (.int .i64 a1_0) := (blk_cell BK143.out 0).trans rfl
            have hcz7_1 : wr.cell? ⟨gb143, 1, none⟩ = some (.int .i64 a1_1) := (blk_cell BK143.out 1).trans rfl
            have hcz7_2 : wr.cell? ⟨gb143, 2, none⟩ = some (.int .i64 a1_2) := (blk_cell BK143.out 2).trans rfl
            have hcz7_3 : wr.cell? ⟨gb143, 3, none⟩ = some (.int .i64 a1_3) := (blk_cell BK143.out 3).trans rfl
            have hfz7_0 := blk_frozen BK143.out 0
            have hfz7_1 := blk_frozen BK143.out 1
            have hfz7_2 := blk_frozen BK143.out 2
            have hfz7_3 := blk_frozen BK143.out 3
            go_wp2
            repeat (go_quiet (fail); try go_wp2)
            go_ret
            exact ⟨by first | rfl | (simp [errW_none, errW_some] <;> rfl) | (simp [*, errW_none, errW_some] <;> rfl), by repeat (first | (with_reducible first | exact HB.out | apply below_alloc | apply pw_below_drewN | apply below_drew1 | refine below_set ?_ GE143.out) | exact HB.out)⟩
          · rw [if_neg c6] at H
            have c6b0 : (((rd_T34 l0 x5_1).f0) == a1_0 && (((rd_T34 l0 x5_1).f1) == a1_1 && (((rd_T34 l0 x5_1).f2) == a1_2 && (((rd_T34 l0 x5_1).f3) == a1_3)))) = false := by simpa using c6
            (try (have c6b1 : decide (((rd_T34 l0 x5_1).f0) = a1_0 && (((rd_T34 l0 x5_1).f1) == a1_1 && (((rd_T34 l0 x5_1).f2) == a1_2 && (((rd_T34 l0 x5_1).f3) == a1_3)))) = false := by simpa using c6))
            (try (have c6b2 : (((rd_T34 l0 x5_1).f0) == a1_0 && (((rd_T34 l0 x5_1).f1) == a1_1 && (((rd_T34 l0 x5_1).f2) == a1_2 && (((rd_T34 l0 x5_1).f3) == a1_3)))) = false := by simpa using c6))
            (try (have c6b3 : ¬ (((rd_T34 l0 x5_1).f0) = a1_0 && (((rd_T34 l0 x5_1).f1) == a1_1 && (((rd_T34 l0 x5_1).f2) == a1_2 && (((rd_T34 l0 x5_1).f3) == a1_3)))) := by simpa using c6))
            clear c6
            have H' := Aside0.mk H
            clear H
            have p144 : 0 ≤ (x5_1 : Int) := of_decide_eq_true (by first | (with_reducible assumption) | assumption)
            have q144 : x5_1 < (l0.length : Int) := of_decide_eq_true (by first | (with_reducible assumption) | assumption)
            obtain ⟨ad144, e144, hx144_0, hx144_1, hx144_2, hx144_3⟩ := at_T34 HR0.out x5_1 p144 q144
            cases e144
            replace hx144_0 := (HB.out.cell (World.block_lt_of_cell? w _ hx144_0)).trans hx144_0
            replace hx144_1 := (HB.out.cell (World.block_lt_of_cell? w _ hx144_1)).trans hx144_1
            replace hx144_2 := (HB.out.cell (World.block_lt_of_cell? w _ hx144_2)).trans hx144_2
            replace hx144_3 := (HB.out.cell (World.block_lt_of_cell? w _ hx144_3)).trans hx144_3
            replace p144 := eq_true p144
            replace q144 := eq_true q144
            have hcz8_0 : wr.cell? ⟨gb143, 0, none⟩ = some (.int .i64 a1_0) := (blk_cell BK143.out 0).trans rfl
            have hcz8_1 : wr.cell? ⟨gb143, 1, none⟩ = some (.int .i64 a1_1) := (blk_cell BK143.out 1).trans rfl
            have hcz8_2 : wr.cell? ⟨gb143, 2, none⟩ = some (.int .i64 a1_2) := (blk_cell BK143.out 2).trans rfl
            have hcz8_3 : wr.cell? ⟨gb143, 3, none⟩ = some (.int .i64 a1_3) := (blk_cell BK143.out 3).trans rfl
            have hfz8_0 := blk_frozen BK143.out 0
            have hfz8_1 := blk_frozen BK143.out 1
            have hfz8_2 := blk_frozen BK143.out 2
            have hfz8_3 := blk_frozen BK143.out 3
            go_wp2
            repeat (go_quiet (fail); try go_wp2)
            go_roundg k1
            case measure => have := HK1.out; omega
            case rel => exact ⟨(wrap64 (x5_1 + 1)), (by first | rfl | (simp; done) | (simp [*]; done)), H', ⟨by have := HK1.out; omega⟩, ⟨by (with_reducible repeat (first | refine blk_drewN ?_ _ | refine blk_drew ?_ | refine blk_alloc ?_ _)); exact BK143.out⟩, ⟨by repeat (first | (with_reducible first | exact HB.out | apply below_alloc | apply pw_below_drewN | apply below_drew1 | refine below_set ?_ GE143.out) | exact HB.out)⟩⟩
        · rw [if_neg c5] at H
          exact absurd H (by simp)
      · rw [if_neg c4] at H
        have c4b0 : decide (x5_1 < (l0.length : Int)) = false := decide_eq_false c4
        clear c4
        obtain rfl := Option.some.inj H
        go_wp2
        repeat (go_quiet (fail); try go_wp2)
        go_ret
        exact ⟨by first | rfl | (simp [errW_none, errW_some] <;> rfl) | (simp [*, errW_none, errW_some] <;> rfl), by repeat (first | (with_reducible first | exact HB.out | apply below_alloc | apply pw_below_drewN | apply below_drew1 | refine below_set ?_ GE143.out) | exact HB.out)⟩

-- NOT PRINTED: function 113 (spec_l03Put)

-- NOT PRINTED: function 97 (spec_l04Atom)

-- NOT PRINTED: function 125 (spec_l04Make)

-- NOT PRINTED: function 91 (spec_l04List)

/-! ### spec_List: OWN: function 33 -/
namespace Hand
open Go.Proofs.Ytkckdibalopagaa.Base
theorem rdI {l : List S34} {i : Nat} (h : i < l.length) : rd_T34 l (i : Int) = l[i] := by
  unfold rd_T34
  rw [Int.toNat_natCast, List.getD_eq_getElem?_getD, List.getElem?_eq_getElem h]
  rfl

/-! a node's rightness -/
def nodeB (f0 f1 f2 f3 k : Int) : Bool :=
  if f0 = 1 then decide (0 ≤ f1) && decide (f1 ≤ 999999) && decide (f2 = 0) && decide (f3 = 0)
  else if f0 = 3 ∨ f0 = 6 then decide (f1 = 0) && (decide (0 ≤ f2) && decide (f2 ≤ k - 1)) && decide (f3 = 0)
  else (decide (2 ≤ f0) && decide (f0 ≤ 9)) && decide (f1 = 0) && (decide (0 ≤ f2) && decide (f2 ≤ k - 1)) && (decide (0 ≤ f3) && decide (f3 ≤ k - 1))
theorem beq_dec (x : Int) : (x == 0) = decide (x = 0) := by
  by_cases h : x = 0 <;> simp [h]

theorem spec_In_in {a b c : Int} (h : b ≤ a) (h' : a ≤ c) : spec_l01In.f a b c = some true := by
  unfold spec_l01In.f
  rw [if_pos h]
  simp [h']
theorem spec_In_out {a b c : Int} (h : a < b ∨ c < a) : spec_l01In.f a b c = some false := by
  unfold spec_l01In.f
  by_cases h0 : a ≥ b
  · rw [if_pos h0]
    have : ¬ a ≤ c := by omega
    simp [this]
  · rw [if_neg h0]

theorem spec_In_b (a b c : Int) : spec_l01In.f a b c = some (decide (b ≤ a) && decide (a ≤ c)) := by
  unfold spec_l01In.f
  by_cases h : a ≥ b
  · rw [if_pos h]; simp [h]
  · rw [if_neg h]
    have : ¬ b ≤ a := h
    simp [this]
theorem spec_One_f (k : Int) : spec_l03One.f k = some (decide (k = 3 ∨ k = 6)) := by
  unfold spec_l03One.f
  by_cases h : k = 3
  · rw [if_pos h]; simp [h]
  · rw [if_neg h]
    by_cases h6 : k = 6 <;> simp [h, h6]
theorem spec_l03Node_j0 (f0 f1 f2 f3 k : Int) (hk : 0 ≤ k ∧ k ≤ 9223372036854775807) (c : Bool) : Ev (fun n => spec_l03Node.j0 n k c f0 f1 f2 f3)
    (!c && (if f0 = 3 ∨ f0 = 6 then decide (f3 = 0) else (decide (0 ≤ f3) && decide (f3 ≤ k - 1)))) := by
  have e : wrap64 (k - 1) = k - 1 := w64 (by omega) (by omega)
  refine ev_end (fun n => ?_)
  rw [spec_l03Node.j0, e]
  simp only [spec_In_b, spec_One_f, Option.bind_some, beq_dec]
  cases c with
  | true => rw [if_pos rfl]; rfl
  | false =>
    rw [if_neg (by simp)]
    by_cases h : f0 = 3 ∨ f0 = 6
    · rw [if_pos (by simpa using h), if_pos h]; simp
    · rw [if_neg (by simpa using h), if_neg h]; simp
theorem spec_l03Node_f (f0 f1 f2 f3 k : Int) (hk : 0 ≤ k ∧ k ≤ 9223372036854775807) : Ev (fun n => spec_l03Node.f n f0 f1 f2 f3 k) (nodeB f0 f1 f2 f3 k) := by
  have e : wrap64 (k - 1) = k - 1 := w64 (by omega) (by omega)
  unfold spec_l03Node.f
  rw [e]
  simp only [spec_In_b, Option.bind_some, beq_dec]
  unfold nodeB
  by_cases h9 : (decide (1 ≤ f0) && decide (f0 ≤ 9)) = true
  · refine evT h9 ?_
    simp only [Bool.and_eq_true, decide_eq_true_eq] at h9
    by_cases h1 : f0 = 1
    · refine ev_cast (evT h1 (ev_some ?_)) (if_pos h1).symm
      by_cases h2 : (decide (0 ≤ f1) && decide (f1 ≤ 999999)) = true
      · rw [if_pos h2, h2]
        by_cases h3 : f2 = 0
        · rw [if_pos h3]; simp [h3]
        · rw [if_neg h3]; simp [h3]
      · rw [if_neg h2]; simp only [Bool.not_eq_true] at h2; rw [h2]; simp
    · refine ev_cast (evF h1 ?_) (if_neg h1).symm
      by_cases hn : f1 = 0
      · refine evT hn (ev_cast (spec_l03Node_j0 f0 f1 f2 f3 k hk _) ?_)
        rw [Bool.not_not]
        by_cases h : f0 = 3 ∨ f0 = 6
        · rw [if_pos h, if_pos h]; simp [hn]
        · rw [if_neg h, if_neg h]
          have h2 : 2 ≤ f0 := by omega
          simp [hn, h2, h9.2]
      · refine evF hn (ev_cast (spec_l03Node_j0 f0 f1 f2 f3 k hk _) ?_)
        by_cases h : f0 = 3 ∨ f0 = 6
        · rw [if_pos h, if_pos h]; simp [hn]
        · rw [if_neg h, if_neg h]; simp [hn]
  · refine ev_cast (evF h9 (Ev.now _)) ?_
    simp only [Bool.and_eq_true, decide_eq_true_eq] at h9
    rw [if_neg (by omega), if_neg (by omega)]
    by_cases h2 : 2 ≤ f0
    · have : ¬ f0 ≤ 9 := by omega
      simp [this]
    · simp [h2]

def nodeOf (l : List S34) (i : Nat) : S34 := rd_T34 l (i : Int)
def rightAt (l : List S34) (i : Nat) : Bool := nodeB (nodeOf l i).f0 (nodeOf l i).f1 (nodeOf l i).f2 (nodeOf l i).f3 (i : Int)

/-! an arena's rightness, as the program tells it: each node right, none like an earlier one -/
def sameN (a b : S34) : Bool := a.f0 == b.f0 && a.f1 == b.f1 && a.f2 == b.f2 && a.f3 == b.f3
def dupAt (l : List S34) (j : Nat) : Bool := (l.take j).any (fun y => sameN y (nodeOf l j))
def aok (l : List S34) : Bool := decide (l.length ≤ 3000) && (List.range l.length).all (fun j => rightAt l j && !dupAt l j)
def wf1 (x : S34) : Bool := (Lit.int .i64 x.f0).wf && (Lit.int .i64 x.f1).wf && (Lit.int .i64 x.f2).wf && (Lit.int .i64 x.f3).wf
theorem aok_true {l : List S34} (h : l.length ≤ 3000) (hall : ∀ j, j < l.length → rightAt l j = true ∧ dupAt l j = false) : aok l = true := by
  unfold aok
  simp only [Bool.and_eq_true, decide_eq_true_eq, List.all_eq_true, List.mem_range]
  exact ⟨h, fun j hj => by rw [(hall j hj).1, (hall j hj).2]; exact ⟨rfl, rfl⟩⟩
theorem aok_false {l : List S34} {j : Nat} (hj : j < l.length) (h : rightAt l j = false ∨ dupAt l j = true) : aok l = false := by
  unfold aok
  rw [Bool.and_eq_false_iff]
  right
  rw [List.all_eq_false]
  refine ⟨j, List.mem_range.2 hj, ?_⟩
  rcases h with h | h <;> simp [h]
theorem aok_big {l : List S34} (h : ¬ l.length ≤ 3000) : aok l = false := by
  unfold aok
  simp [h]
theorem aok_parts {l : List S34} (h : aok l = true) : l.length ≤ 3000 ∧ ∀ j, j < l.length → rightAt l j = true ∧ dupAt l j = false := by
  unfold aok at h
  simp only [Bool.and_eq_true, decide_eq_true_eq, List.all_eq_true, List.mem_range] at h
  exact ⟨h.1, fun j hj => by have := h.2 j hj; simpa using this⟩

/-! the place of the first node that is one -/
def atV (l : List S34) (x : S34) : Int := match l.findIdx? (fun y => sameN y x) with
  | some i => (i : Int)
  | none => -1
theorem sameN_def (y x : S34) : (y.f0 == x.f0 && (y.f1 == x.f1 && (y.f2 == x.f2 && (y.f3 == x.f3)))) = sameN y x := by
  unfold sameN
  simp only [Bool.and_assoc]
theorem atV_hit {l : List S34} {x : S34} {i : Nat} (h : i < l.length) (hi : sameN l[i] x = true) (hno : ∀ j (hj : j < i), sameN (l[j]'(by omega)) x = false) : atV l x = (i : Int) := by
  have : l.findIdx? (fun y => sameN y x) = some i := by
    rw [List.findIdx?_eq_some_iff_getElem]
    exact ⟨h, hi, fun j hj => by simpa using hno j hj⟩
  unfold atV
  rw [this]
theorem atV_miss {l : List S34} {x : S34} (hno : ∀ j (hj : j < l.length), sameN l[j] x = false) : atV l x = -1 := by
  have : l.findIdx? (fun y => sameN y x) = none := by
    rw [List.findIdx?_eq_none_iff]
    intro y hy
    obtain ⟨j, hj, rfl⟩ := List.getElem_of_mem hy
    exact hno j hj
  unfold atV
  rw [this]
theorem spec_At_ev (l : List S34) (hl : l.length ≤ 1048576) (x : S34) : ∀ (d i : Nat), l.length - i = d → i ≤ l.length → (∀ j (hj : j < l.length), j < i → sameN l[j] x = false) → Ev (fun k => spec_l03At.l0 k l (i : Int) x.f0 x.f1 x.f2 x.f3) (atV l x) := by
  intro d
  induction d with
  | zero =>
    intro i hd hi hno
    rw [atV_miss (fun j hj => hno j hj (by omega))]
    exact ev_end (fun k => by rw [spec_l03At.l0, if_neg (by omega)])
  | succ d ih =>
    intro i hd hi hno
    have hlt : i < l.length := by omega
    refine Ev.step (fun k => by rw [spec_l03At.l0, if_pos (by omega), if_pos (by omega), rdI hlt, sameN_def, w64 (x := (i : Int) + 1) (by omega) (by omega)]) ?_
    by_cases hs : sameN l[i] x = true
    · refine ev_cast (evT hs (Ev.now _)) ?_
      rw [atV_hit hlt hs (fun j hj => hno j (by omega) hj)]
    · refine evF hs ?_
      refine ih (i + 1) (by omega) (by omega) (fun j hj hji => ?_)
      by_cases e : j = i
      · subst e
        simpa using hs
      · exact hno j hj (by omega)
theorem spec_At_f (l : List S34) (hl : l.length ≤ 1048576) (x : S34) : Ev (fun k => spec_l03At.f k l x.f0 x.f1 x.f2 x.f3) (atV l x) :=
  spec_At_ev l hl x l.length 0 (by omega) (by omega) (fun j _ h => by omega)
theorem sameN_refl (x : S34) : sameN x x = true := by simp [sameN]
theorem sameN_eq {x y : S34} (h : sameN x y = true) : x = y := by
  cases x
  cases y
  simp [sameN] at h
  simp [h]
theorem nodeOf_get {l : List S34} {j : Nat} (h : j < l.length) : nodeOf l j = l[j] := rdI h
/-- a node is the first of its kind just where it is no repeat -/
theorem atV_self {l : List S34} {j : Nat} (h : j < l.length) : atV l (nodeOf l j) = (j : Int) ↔ dupAt l j = false := by
  rw [nodeOf_get h]
  unfold dupAt
  rw [nodeOf_get h, List.any_eq_false]
  constructor
  · intro he y hy hs
    obtain ⟨i, hi, rfl⟩ := List.getElem_of_mem hy
    have hi2 : i < j := by have h3 := hi; rw [List.length_take] at h3; omega
    rw [List.getElem_take] at hs
    unfold atV at he
    cases hf : l.findIdx? (fun y => sameN y l[j]) with
    | none => rw [hf] at he; have he2 : (-1 : Int) = (j : Int) := he; omega
    | some m =>
      rw [hf] at he
      have he2 : (m : Int) = (j : Int) := he
      rw [List.findIdx?_eq_some_iff_getElem] at hf
      obtain ⟨hm, _, hno⟩ := hf
      have := hno i (by omega)
      simp only [Bool.not_eq_true, Bool.not_eq_false'] at this
      simp [hs] at this
  · intro hall
    refine atV_hit h (sameN_refl _) (fun i hi => ?_)
    have := hall (l[i]'(by omega)) (by
      rw [List.mem_iff_getElem]
      exact ⟨i, by rw [List.length_take]; omega, by rw [List.getElem_take]⟩)
    simpa using this

/-! Put: a node found, or put behind; -1: it can't be -/
def putN (l : List S34) (x : S34) : List S34 × Int :=
  if nodeB x.f0 x.f1 x.f2 x.f3 (l.length : Int) = true then
    (if 0 ≤ atV l x then (l, atV l x) else if 3000 ≤ l.length then (l, -1) else (l ++ [x], (l.length : Int)))
  else (l, -1)
/-- the same on a bench, which may be bad -/
def putB (l : List S34) (bad : Bool) (x : S34) : List S34 × Bool × Int :=
  if bad = true then (l, true, -1)
  else if (putN l x).2 < 0 then (l, true, -1) else ((putN l x).1, false, (putN l x).2)
theorem atV_cases (l : List S34) (x : S34) : atV l x = -1 ∨ (0 ≤ atV l x ∧ atV l x < (l.length : Int) ∧ nodeOf l (atV l x).toNat = x) := by
  unfold atV
  cases hf : l.findIdx? (fun y => sameN y x) with
  | none => exact .inl rfl
  | some m =>
    right
    rw [List.findIdx?_eq_some_iff_getElem] at hf
    obtain ⟨hm, hs, _⟩ := hf
    refine ⟨by simp only; omega, by simp only; omega, ?_⟩
    simp only [Int.toNat_natCast]
    rw [nodeOf_get hm]
    exact sameN_eq (by simpa using hs)
theorem putN_cases (l : List S34) (x : S34) : ((putN l x).1 = l ∧ (putN l x).2 = -1) ∨
    (nodeB x.f0 x.f1 x.f2 x.f3 (l.length : Int) = true ∧ 0 ≤ (putN l x).2 ∧ (((putN l x).1 = l ∧ (putN l x).2 < (l.length : Int) ∧ (putN l x).2 = atV l x) ∨ (atV l x = -1 ∧ l.length < 3000 ∧ (putN l x).1 = l ++ [x] ∧ (putN l x).2 = (l.length : Int)))) := by
  unfold putN
  by_cases h : nodeB x.f0 x.f1 x.f2 x.f3 (l.length : Int) = true
  · rw [if_pos h]
    rcases atV_cases l x with ha | ⟨h0, h1, _⟩
    · rw [if_neg (by omega)]
      by_cases h3 : 3000 ≤ l.length
      · rw [if_pos h3]; exact .inl ⟨rfl, rfl⟩
      · rw [if_neg h3]; exact .inr ⟨h, by simp only; omega, .inr ⟨ha, by omega, rfl, rfl⟩⟩
    · rw [if_pos h0]
      exact .inr ⟨h, h0, .inl ⟨rfl, h1, rfl⟩⟩
  · rw [if_neg h]; exact .inl ⟨rfl, rfl⟩

/-! an arena behind a pointer, and its row in the call's own memory -/
def ArAt (w : World) (base g : Nat) (ok : Nat → Prop) (l : List S34) : Prop :=
  ∃ v, w.heap[g]? = some (.cells #[v] 26 (0, 0)) ∧ base ≤ g ∧ ¬ ok g ∧ Kd.R k34 34 w base ok v l
def Mine (g : Nat) (ok : Nat → Prop) (k : Nat) : Prop := k = g ∨ ok k
theorem ArAt.len {w : World} {base g : Nat} {ok : Nat → Prop} {l : List S34} (h : ArAt w base g ok l) : l.length ≤ 9223372036854775807 := by
  obtain ⟨v, _, _, _, hR⟩ := h
  obtain ⟨A, c, _, _, hC⟩ := Kd.R_reads hR
  exact hC.2.1
/-- what came in and stays -/
theorem ArAt.keep {w w1 : World} {base g : Nat} {ok : Nat → Prop} {l : List S34} (h : ArAt w base g ok l) (hb : Below w.heap.size w w1) : ArAt w1 base g ok l := by
  obtain ⟨v, h1, h2, h3, hR⟩ := h
  exact ⟨v, (hb.block g (blk_lt h1)).trans h1, h2, h3, Kd.R_below hR hb⟩
/-! a bench behind a pointer -/
def BnAt (w : World) (base g : Nat) (ok : Nat → Prop) (l : List S34) (bad : Bool) : Prop :=
  ∃ v, w.heap[g]? = some (.cells #[v, .bool bad] 132 (0, 0)) ∧ base ≤ g ∧ ¬ ok g ∧ Kd.R k34 34 w base ok v l
theorem BnAt.keep {w w1 : World} {base g : Nat} {ok : Nat → Prop} {l : List S34} {bad : Bool} (h : BnAt w base g ok l bad) (hb : Below w.heap.size w w1) : BnAt w1 base g ok l bad := by
  obtain ⟨v, h1, h2, h3, hR⟩ := h
  exact ⟨v, (hb.block g (blk_lt h1)).trans h1, h2, h3, Kd.R_below hR hb⟩

def PutPost (w : World) (base g : Nat) (ok : Nat → Prop) (l : List S34) (n : Int) (e : Ending) (w' : World) : Prop := e = .returned (.int .i64 n) ∧ ArAt w' base g ok l ∧ Below base w w' ∧ Kept w w' (Mine g ok)
set_option maxHeartbeats 8000000 in
set_option maxRecDepth 100000 in
theorem spec_l03Put_at (l : List S34) (x : S34) (w : World) (base g : Nat) (ok : Nat → Prop) (hA : ArAt w base g ok l) (hbase : base ≤ w.heap.size) (hfresh : ∀ k, w.heap.size ≤ k → ok k) (hl : l.length ≤ 1048576) :
    Calls Try.prog 113 #[.pointer (some ⟨g, 0, none⟩), .agg #[.int .i64 x.f0, .int .i64 x.f1, .int .i64 x.f2, .int .i64 x.f3]] w (PutPost w base g ok (putN l x).1 (putN l x).2) := by
  have hu26 := Try.underlying26
  have hu34 := Try.underlying34
  obtain ⟨v, hblk, hbg, hno, hR⟩ := hA
  obtain ⟨A, c, rfl, hlc, hC⟩ := Kd.R_reads hR
  obtain ⟨kn, hK⟩ := spec_l03Node_f x.f0 x.f1 x.f2 x.f3 (l.length : Int) (by omega)
  have HK := Aside0.mk (hK kn (Nat.le_refl _))
  obtain ⟨ka, hK2⟩ := spec_At_f l hl x
  have HK2 := Aside0.mk (hK2 ka (Nat.le_refl _))
  have HG0 := Aside0.mk hblk
  have HR := Aside0.mk hR
  have HC := Aside0.mk hC
  have HL := Aside0.mk hl
  have HBG := Aside0.mk hbg
  have HNO := Aside0.mk hno
  have HBS := Aside0.mk hbase
  have HF := Aside0.mk hfresh
  have HLC := Aside0.mk hlc
  clear hK hK2 hblk hR hC hl hbg hno hbase hfresh hlc
  have hbl : base ≤ w.heap.size := HBS.out
  by_cases hb : nodeB x.f0 x.f1 x.f2 x.f3 (l.length : Int) = true
  · rw [hb] at HK
    clear hbl
    rcases atV_cases l x with ha | ⟨ha, ha1, _⟩
    · have ha0 : ¬ 0 ≤ atV l x := by omega
      rw [ha] at HK2
      by_cases h3 : 3000 ≤ l.length
      · have he : putN l x = (l, -1) := by unfold putN; rw [if_pos hb, if_neg ha0, if_pos h3]
        have HE := Aside0.mk he
        have h30 : decide (3000 ≤ (l.length : Int)) = true := decide_eq_true (by omega)
        have h31 : decide (3000 ≤ l.length) = true := decide_eq_true h3
        clear he hb ha ha0 h3
        go_enter Try.func113, Try.ntmps113
        go_wp2_with (first | ((with_reducible refine gate_dst (N := 3) rfl ?_); refine box_event ?hg (N := 3) ?hd (cs := #[.int .i64 x.f0, .int .i64 x.f1, .int .i64 x.f2, .int .i64 x.f3]) (t := 34) ?hr ?_; (case hd => rfl); (case hg => rfl); (case hr => first | (go_simp; done) | (go_simp; rfl)); intro gb hg1 w3 hbox hb; have BK3 := Aside0.mk hbox; have HB3 := Aside0.mk hb; have GB3 := Aside0.mk hg1; clear hg1 hbox hb))
        have HG3 := Aside0.mk (blk_below HG0.out HB3.out)
        refine start_ (n := 8) (S := fun w' => w'.cell? ⟨g, 0, none⟩ = some (.slice A l.length c) ∧ w'.cell? ⟨gb, 0, none⟩ = some (.int .i64 x.f0) ∧ w'.cell? ⟨gb, 1, none⟩ = some (.int .i64 x.f1) ∧ w'.cell? ⟨gb, 2, none⟩ = some (.int .i64 x.f2) ∧ w'.cell? ⟨gb, 3, none⟩ = some (.int .i64 x.f3)) (ds := []) #[false, false, false, false, false, false, false, false] (by kernel_rfl) rfl rfl ⟨(blk_cell (blk_drew HG3.out) 0).trans rfl, (blk_cell (blk_drew BK3.out) 0).trans rfl, (blk_cell (blk_drew BK3.out) 1).trans rfl, (blk_cell (blk_drew BK3.out) 2).trans rfl, (blk_cell (blk_drew BK3.out) 3).trans rfl⟩ (fun hHeld => ?_)
        refine pure_ (i := 1) (N := some 7) (v := ?_) (a' := ?_) #[false, true, false, false, false, false, false, false] rfl rfl (by kernel_rfl) (fun _ _ _ h => h) (Or.inl ⟨by rfl, ?_⟩) ?_ ?_
        rotate_left
        · intro w'
          go_simp
          with_reducible rfl
        rotate_left
        · simp only [Act.put, List.setIfInBounds_toArray, List.set_cons_zero, List.set_cons_succ, i64_w, i32_w]
          rfl
        refine pure_ (i := 2) (N := some 8) (v := ?_) (a' := ?_) #[false, true, true, false, false, false, false, false] rfl rfl (by kernel_rfl) (fun _ _ _ h => h) (Or.inl ⟨by rfl, ?_⟩) ?_ ?_
        rotate_left
        · intro w'
          go_simp
          with_reducible rfl
        rotate_left
        · simp only [Act.put, List.setIfInBounds_toArray, List.set_cons_zero, List.set_cons_succ, i64_w, i32_w]
          rfl
        refine pure_ (i := 3) (N := some 9) (v := ?_) (a' := ?_) #[false, true, true, true, false, false, false, false] rfl rfl (by kernel_rfl) (fun _ _ _ h => h) (Or.inl ⟨by rfl, ?_⟩) ?_ ?_
        rotate_left
        · intro w'
          go_simp
          with_reducible rfl
        rotate_left
        · simp only [Act.put, List.setIfInBounds_toArray, List.set_cons_zero, List.set_cons_succ, i64_w, i32_w]
          rfl
        refine take_ (i := 0) (N := some 6) (v := ?_) (a' := ?_) #[true, true, true, true, false, false, false, false] rfl rfl (by kernel_rfl) (fun _ _ _ h => h) (Or.inl ⟨by rfl, ?_⟩) hHeld ?_ ?_
        rotate_left
        · rintro w' ⟨s0, s1, s2, s3, s4⟩
          go_simp
          with_reducible rfl
        rotate_left
        · simp only [Act.put, List.setIfInBounds_toArray, List.set_cons_zero, List.set_cons_succ, i64_w, i32_w]
          rfl
        refine take_ (i := 4) (N := some 10) (v := ?_) (a' := ?_) #[true, true, true, true, true, false, false, false] rfl rfl (by kernel_rfl) (fun _ _ _ h => h) (Or.inl ⟨by rfl, ?_⟩) hHeld ?_ ?_
        rotate_left
        · rintro w' ⟨s0, s1, s2, s3, s4⟩
          go_simp
          with_reducible rfl
        rotate_left
        · simp only [Act.put, List.setIfInBounds_toArray, List.set_cons_zero, List.set_cons_succ, i64_w, i32_w]
          rfl
        refine pure_ (i := 5) (N := some 11) (v := ?_) (a' := ?_) #[true, true, true, true, true, true, false, false] rfl rfl (by kernel_rfl) (fun _ _ _ h => h) (Or.inl ⟨by rfl, ?_⟩) ?_ ?_
        rotate_left
        · intro w'
          go_simp
          with_reducible rfl
        rotate_left
        · simp only [Act.put, List.setIfInBounds_toArray, List.set_cons_zero, List.set_cons_succ, i64_w, i32_w]
          rfl
        refine one_ (i := 6) (N := some 12) #[true, true, true, true, true, true, true, false] rfl rfl (by kernel_rfl) (by decide) (fun K hK => ?_)
        refine goes_ Try.func81 (by kernel_rfl) rfl #[.agg #[.int .i64 x.f0, .int .i64 x.f1, .int .i64 x.f2, .int .i64 x.f3], .int .i64 (l.length : Int)] (by rfl) rfl rfl (by simp only [List.map_toArray, List.map_cons, List.map_nil]; rfl) ?_
        with_reducible refine (spec_l03Node.calls kn x.f0 x.f1 x.f2 x.f3 (l.length : Int) true _ HK.out).mono ?_
        rintro e w4 ⟨rfl, hb4⟩
        refine ⟨_, rfl, ?_⟩
        have HG4 := Aside0.mk (blk_below (blk_drew HG3.out) hb4)
        have BK4 := Aside0.mk (blk_below (blk_drew BK3.out) hb4)
        have HB4 := Aside0.mk (below_step (below_drew1 HB3.out) hb4)
        clear hb4
        refine hK.out _ _ ⟨(blk_cell (HG4.out) 0).trans rfl, (blk_cell (BK4.out) 0).trans rfl, (blk_cell (BK4.out) 1).trans rfl, (blk_cell (BK4.out) 2).trans rfl, (blk_cell (BK4.out) 3).trans rfl⟩ (fun hHeld => ?_)
        clear hK K
        refine norm_ (a' := ?_) ?_ ?_
        rotate_left
        · show Act.put _ (some 12) _ = _
          simp only [Act.put, List.setIfInBounds_toArray, List.set_cons_zero, List.set_cons_succ, i64_w, i32_w]
          rfl
        refine pure_ (i := 7) (N := some 13) (v := ?_) (a' := ?_) #[true, true, true, true, true, true, true, true] rfl rfl (by kernel_rfl) (fun _ _ _ h => h) (Or.inl ⟨by rfl, ?_⟩) ?_ ?_
        rotate_left
        · intro w'
          go_simp
          with_reducible rfl
        rotate_left
        · simp only [Act.put, List.setIfInBounds_toArray, List.set_cons_zero, List.set_cons_succ, i64_w, i32_w]
          rfl
        refine done_ (by kernel_rfl) ?_
        have hn0 : w4.cell? ⟨gb, 0, none⟩ = some (.int .i64 x.f0) := (blk_cell BK4.out 0).trans rfl
        have hn1 : w4.cell? ⟨gb, 1, none⟩ = some (.int .i64 x.f1) := (blk_cell BK4.out 1).trans rfl
        have hn2 : w4.cell? ⟨gb, 2, none⟩ = some (.int .i64 x.f2) := (blk_cell BK4.out 2).trans rfl
        have hn3 : w4.cell? ⟨gb, 3, none⟩ = some (.int .i64 x.f3) := (blk_cell BK4.out 3).trans rfl
        have hf0 := blk_frozen BK4.out 0
        have hf1 := blk_frozen BK4.out 1
        have hf2 := blk_frozen BK4.out 2
        have hf3 := blk_frozen BK4.out 3
        have hg0 : w4.cell? ⟨g, 0, none⟩ = some (.slice A l.length c) := (blk_cell HG4.out 0).trans rfl
        have hgf := blk_frozen HG4.out 0
        go_wp2
        refine start_ (n := 7) (S := fun w' => w'.cell? ⟨g, 0, none⟩ = some (.slice A l.length c) ∧ w'.cell? ⟨gb, 0, none⟩ = some (.int .i64 x.f0) ∧ w'.cell? ⟨gb, 1, none⟩ = some (.int .i64 x.f1) ∧ w'.cell? ⟨gb, 2, none⟩ = some (.int .i64 x.f2) ∧ w'.cell? ⟨gb, 3, none⟩ = some (.int .i64 x.f3)) (ds := []) #[false, false, false, false, false, false, false] (by kernel_rfl) rfl rfl ⟨(blk_cell (blk_drew HG4.out) 0).trans rfl, (blk_cell (blk_drew BK4.out) 0).trans rfl, (blk_cell (blk_drew BK4.out) 1).trans rfl, (blk_cell (blk_drew BK4.out) 2).trans rfl, (blk_cell (blk_drew BK4.out) 3).trans rfl⟩ (fun hHeld => ?_)
        refine pure_ (i := 0) (N := some 14) (v := ?_) (a' := ?_) #[true, false, false, false, false, false, false] rfl rfl (by kernel_rfl) (fun _ _ _ h => h) (Or.inl ⟨by rfl, ?_⟩) ?_ ?_
        rotate_left
        · intro w'
          go_simp
          with_reducible rfl
        rotate_left
        · simp only [Act.put, List.setIfInBounds_toArray, List.set_cons_zero, List.set_cons_succ, i64_w, i32_w]
          rfl
        refine pure_ (i := 1) (N := some 15) (v := ?_) (a' := ?_) #[true, true, false, false, false, false, false] rfl rfl (by kernel_rfl) (fun _ _ _ h => h) (Or.inl ⟨by rfl, ?_⟩) ?_ ?_
        rotate_left
        · intro w'
          go_simp
          with_reducible rfl
        rotate_left
        · simp only [Act.put, List.setIfInBounds_toArray, List.set_cons_zero, List.set_cons_succ, i64_w, i32_w]
          rfl
        refine pure_ (i := 2) (N := some 16) (v := ?_) (a' := ?_) #[true, true, true, false, false, false, false] rfl rfl (by kernel_rfl) (fun _ _ _ h => h) (Or.inl ⟨by rfl, ?_⟩) ?_ ?_
        rotate_left
        · intro w'
          go_simp
          with_reducible rfl
        rotate_left
        · simp only [Act.put, List.setIfInBounds_toArray, List.set_cons_zero, List.set_cons_succ, i64_w, i32_w]
          rfl
        refine take_ (i := 3) (N := some 17) (v := ?_) (a' := ?_) #[true, true, true, true, false, false, false] rfl rfl (by kernel_rfl) (fun _ _ _ h => h) (Or.inl ⟨by rfl, ?_⟩) hHeld ?_ ?_
        rotate_left
        · rintro w' ⟨s0, s1, s2, s3, s4⟩
          go_simp
          with_reducible rfl
        rotate_left
        · simp only [Act.put, List.setIfInBounds_toArray, List.set_cons_zero, List.set_cons_succ, i64_w, i32_w]
          rfl
        refine take_ (i := 4) (N := some 18) (v := ?_) (a' := ?_) #[true, true, true, true, true, false, false] rfl rfl (by kernel_rfl) (fun _ _ _ h => h) (Or.inl ⟨by rfl, ?_⟩) hHeld ?_ ?_
        rotate_left
        · rintro w' ⟨s0, s1, s2, s3, s4⟩
          go_simp
          with_reducible rfl
        rotate_left
        · simp only [Act.put, List.setIfInBounds_toArray, List.set_cons_zero, List.set_cons_succ, i64_w, i32_w]
          rfl
        refine one_ (i := 5) (N := some 19) #[true, true, true, true, true, true, false] rfl rfl (by kernel_rfl) (by decide) (fun K hK => ?_)
        refine goes_ Try.func82 (by kernel_rfl) rfl #[.slice A l.length c, .agg #[.int .i64 x.f0, .int .i64 x.f1, .int .i64 x.f2, .int .i64 x.f3]] (by rfl) rfl rfl (by simp only [List.map_toArray, List.map_cons, List.map_nil]; rfl) ?_
        with_reducible refine (spec_l03At.calls ka A c l x.f0 x.f1 x.f2 x.f3 (-1) _ (Kd.C_below HC.out (below_drew1 HB4.out)) HLC.out HK2.out).mono ?_
        rintro e w5 ⟨rfl, hb5⟩
        refine ⟨_, rfl, ?_⟩
        have HG5 := Aside0.mk (blk_below (blk_drew HG4.out) hb5)
        have BK5 := Aside0.mk (blk_below (blk_drew BK4.out) hb5)
        have HB5 := Aside0.mk (below_step (below_drew1 HB4.out) hb5)
        clear hb5
        refine hK.out _ _ ⟨(blk_cell (HG5.out) 0).trans rfl, (blk_cell (BK5.out) 0).trans rfl, (blk_cell (BK5.out) 1).trans rfl, (blk_cell (BK5.out) 2).trans rfl, (blk_cell (BK5.out) 3).trans rfl⟩ (fun hHeld => ?_)
        clear hK K
        refine norm_ (a' := ?_) ?_ ?_
        rotate_left
        · show Act.put _ (some 19) _ = _
          simp only [Act.put, List.setIfInBounds_toArray, List.set_cons_zero, List.set_cons_succ, i64_w, i32_w]
          rfl
        refine pure_ (i := 6) (N := some 5) (v := ?_) (a' := ?_) #[true, true, true, true, true, true, true] rfl rfl (by kernel_rfl) (fun _ _ _ h => h) (Or.inl ⟨by rfl, ?_⟩) ?_ ?_
        rotate_left
        · intro w'
          go_simp
          with_reducible rfl
        rotate_left
        · simp only [Act.put, List.setIfInBounds_toArray, List.set_cons_zero, List.set_cons_succ, i64_w, i32_w]
          rfl
        refine done_ (by kernel_rfl) ?_
        have hn0 : w5.cell? ⟨gb, 0, none⟩ = some (.int .i64 x.f0) := (blk_cell BK5.out 0).trans rfl
        have hn1 : w5.cell? ⟨gb, 1, none⟩ = some (.int .i64 x.f1) := (blk_cell BK5.out 1).trans rfl
        have hn2 : w5.cell? ⟨gb, 2, none⟩ = some (.int .i64 x.f2) := (blk_cell BK5.out 2).trans rfl
        have hn3 : w5.cell? ⟨gb, 3, none⟩ = some (.int .i64 x.f3) := (blk_cell BK5.out 3).trans rfl
        have hf0 := blk_frozen BK5.out 0
        have hf1 := blk_frozen BK5.out 1
        have hf2 := blk_frozen BK5.out 2
        have hf3 := blk_frozen BK5.out 3
        have hg0 : w5.cell? ⟨g, 0, none⟩ = some (.slice A l.length c) := (blk_cell HG5.out 0).trans rfl
        have hgf := blk_frozen HG5.out 0
        go_wp2
        go_ret
        rw [HE.out]
        exact ⟨rfl, ⟨_, HG5.out, HBG.out, HNO.out, Kd.R_below HR.out HB5.out⟩, HB5.out.mono HBS.out, Kept.of_below HB5.out _⟩
      · have he : putN l x = (l ++ [x], (l.length : Int)) := by unfold putN; rw [if_pos hb, if_neg ha0, if_neg h3]
        have HE := Aside0.mk he
        have h30 : decide (3000 ≤ (l.length : Int)) = false := decide_eq_false (by omega)
        have h31 : decide (3000 ≤ l.length) = false := decide_eq_false h3
        have H3 := Aside0.mk h3
        clear he hb ha ha0 h3
        go_enter Try.func113, Try.ntmps113
        go_wp2_with (first | ((with_reducible refine gate_dst (N := 3) rfl ?_); refine box_event ?hg (N := 3) ?hd (cs := #[.int .i64 x.f0, .int .i64 x.f1, .int .i64 x.f2, .int .i64 x.f3]) (t := 34) ?hr ?_; (case hd => rfl); (case hg => rfl); (case hr => first | (go_simp; done) | (go_simp; rfl)); intro gb hg1 w3 hbox hb; have BK3 := Aside0.mk hbox; have HB3 := Aside0.mk hb; have GB3 := Aside0.mk hg1; clear hg1 hbox hb))
        have HG3 := Aside0.mk (blk_below HG0.out HB3.out)
        refine start_ (n := 8) (S := fun w' => w'.cell? ⟨g, 0, none⟩ = some (.slice A l.length c) ∧ w'.cell? ⟨gb, 0, none⟩ = some (.int .i64 x.f0) ∧ w'.cell? ⟨gb, 1, none⟩ = some (.int .i64 x.f1) ∧ w'.cell? ⟨gb, 2, none⟩ = some (.int .i64 x.f2) ∧ w'.cell? ⟨gb, 3, none⟩ = some (.int .i64 x.f3)) (ds := []) #[false, false, false, false, false, false, false, false] (by kernel_rfl) rfl rfl ⟨(blk_cell (blk_drew HG3.out) 0).trans rfl, (blk_cell (blk_drew BK3.out) 0).trans rfl, (blk_cell (blk_drew BK3.out) 1).trans rfl, (blk_cell (blk_drew BK3.out) 2).trans rfl, (blk_cell (blk_drew BK3.out) 3).trans rfl⟩ (fun hHeld => ?_)
        refine pure_ (i := 1) (N := some 7) (v := ?_) (a' := ?_) #[false, true, false, false, false, false, false, false] rfl rfl (by kernel_rfl) (fun _ _ _ h => h) (Or.inl ⟨by rfl, ?_⟩) ?_ ?_
        rotate_left
        · intro w'
          go_simp
          with_reducible rfl
        rotate_left
        · simp only [Act.put, List.setIfInBounds_toArray, List.set_cons_zero, List.set_cons_succ, i64_w, i32_w]
          rfl
        refine pure_ (i := 2) (N := some 8) (v := ?_) (a' := ?_) #[false, true, true, false, false, false, false, false] rfl rfl (by kernel_rfl) (fun _ _ _ h => h) (Or.inl ⟨by rfl, ?_⟩) ?_ ?_
        rotate_left
        · intro w'
          go_simp
          with_reducible rfl
        rotate_left
        · simp only [Act.put, List.setIfInBounds_toArray, List.set_cons_zero, List.set_cons_succ, i64_w, i32_w]
          rfl
        refine pure_ (i := 3) (N := some 9) (v := ?_) (a' := ?_) #[false, true, true, true, false, false, false, false] rfl rfl (by kernel_rfl) (fun _ _ _ h => h) (Or.inl ⟨by rfl, ?_⟩) ?_ ?_
        rotate_left
        · intro w'
          go_simp
          with_reducible rfl
        rotate_left
        · simp only [Act.put, List.setIfInBounds_toArray, List.set_cons_zero, List.set_cons_succ, i64_w, i32_w]
          rfl
        refine take_ (i := 0) (N := some 6) (v := ?_) (a' := ?_) #[true, true, true, true, false, false, false, false] rfl rfl (by kernel_rfl) (fun _ _ _ h => h) (Or.inl ⟨by rfl, ?_⟩) hHeld ?_ ?_
        rotate_left
        · rintro w' ⟨s0, s1, s2, s3, s4⟩
          go_simp
          with_reducible rfl
        rotate_left
        · simp only [Act.put, List.setIfInBounds_toArray, List.set_cons_zero, List.set_cons_succ, i64_w, i32_w]
          rfl
        refine take_ (i := 4) (N := some 10) (v := ?_) (a' := ?_) #[true, true, true, true, true, false, false, false] rfl rfl (by kernel_rfl) (fun _ _ _ h => h) (Or.inl ⟨by rfl, ?_⟩) hHeld ?_ ?_
        rotate_left
        · rintro w' ⟨s0, s1, s2, s3, s4⟩
          go_simp
          with_reducible rfl
        rotate_left
        · simp only [Act.put, List.setIfInBounds_toArray, List.set_cons_zero, List.set_cons_succ, i64_w, i32_w]
          rfl
        refine pure_ (i := 5) (N := some 11) (v := ?_) (a' := ?_) #[true, true, true, true, true, true, false, false] rfl rfl (by kernel_rfl) (fun _ _ _ h => h) (Or.inl ⟨by rfl, ?_⟩) ?_ ?_
        rotate_left
        · intro w'
          go_simp
          with_reducible rfl
        rotate_left
        · simp only [Act.put, List.setIfInBounds_toArray, List.set_cons_zero, List.set_cons_succ, i64_w, i32_w]
          rfl
        refine one_ (i := 6) (N := some 12) #[true, true, true, true, true, true, true, false] rfl rfl (by kernel_rfl) (by decide) (fun K hK => ?_)
        refine goes_ Try.func81 (by kernel_rfl) rfl #[.agg #[.int .i64 x.f0, .int .i64 x.f1, .int .i64 x.f2, .int .i64 x.f3], .int .i64 (l.length : Int)] (by rfl) rfl rfl (by simp only [List.map_toArray, List.map_cons, List.map_nil]; rfl) ?_
        with_reducible refine (spec_l03Node.calls kn x.f0 x.f1 x.f2 x.f3 (l.length : Int) true _ HK.out).mono ?_
        rintro e w4 ⟨rfl, hb4⟩
        refine ⟨_, rfl, ?_⟩
        have HG4 := Aside0.mk (blk_below (blk_drew HG3.out) hb4)
        have BK4 := Aside0.mk (blk_below (blk_drew BK3.out) hb4)
        have HB4 := Aside0.mk (below_step (below_drew1 HB3.out) hb4)
        clear hb4
        refine hK.out _ _ ⟨(blk_cell (HG4.out) 0).trans rfl, (blk_cell (BK4.out) 0).trans rfl, (blk_cell (BK4.out) 1).trans rfl, (blk_cell (BK4.out) 2).trans rfl, (blk_cell (BK4.out) 3).trans rfl⟩ (fun hHeld => ?_)
        clear hK K
        refine norm_ (a' := ?_) ?_ ?_
        rotate_left
        · show Act.put _ (some 12) _ = _
          simp only [Act.put, List.setIfInBounds_toArray, List.set_cons_zero, List.set_cons_succ, i64_w, i32_w]
          rfl
        refine pure_ (i := 7) (N := some 13) (v := ?_) (a' := ?_) #[true, true, true, true, true, true, true, true] rfl rfl (by kernel_rfl) (fun _ _ _ h => h) (Or.inl ⟨by rfl, ?_⟩) ?_ ?_
        rotate_left
        · intro w'
          go_simp
          with_reducible rfl
        rotate_left
        · simp only [Act.put, List.setIfInBounds_toArray, List.set_cons_zero, List.set_cons_succ, i64_w, i32_w]
          rfl
        refine done_ (by kernel_rfl) ?_
        have hn0 : w4.cell? ⟨gb, 0, none⟩ = some (.int .i64 x.f0) := (blk_cell BK4.out 0).trans rfl
        have hn1 : w4.cell? ⟨gb, 1, none⟩ = some (.int .i64 x.f1) := (blk_cell BK4.out 1).trans rfl
        have hn2 : w4.cell? ⟨gb, 2, none⟩ = some (.int .i64 x.f2) := (blk_cell BK4.out 2).trans rfl
        have hn3 : w4.cell? ⟨gb, 3, none⟩ = some (.int .i64 x.f3) := (blk_cell BK4.out 3).trans rfl
        have hf0 := blk_frozen BK4.out 0
        have hf1 := blk_frozen BK4.out 1
        have hf2 := blk_frozen BK4.out 2
        have hf3 := blk_frozen BK4.out 3
        have hg0 : w4.cell? ⟨g, 0, none⟩ = some (.slice A l.length c) := (blk_cell HG4.out 0).trans rfl
        have hgf := blk_frozen HG4.out 0
        go_wp2
        refine start_ (n := 7) (S := fun w' => w'.cell? ⟨g, 0, none⟩ = some (.slice A l.length c) ∧ w'.cell? ⟨gb, 0, none⟩ = some (.int .i64 x.f0) ∧ w'.cell? ⟨gb, 1, none⟩ = some (.int .i64 x.f1) ∧ w'.cell? ⟨gb, 2, none⟩ = some (.int .i64 x.f2) ∧ w'.cell? ⟨gb, 3, none⟩ = some (.int .i64 x.f3)) (ds := []) #[false, false, false, false, false, false, false] (by kernel_rfl) rfl rfl ⟨(blk_cell (blk_drew HG4.out) 0).trans rfl, (blk_cell (blk_drew BK4.out) 0).trans rfl, (blk_cell (blk_drew BK4.out) 1).trans rfl, (blk_cell (blk_drew BK4.out) 2).trans rfl, (blk_cell (blk_drew BK4.out) 3).trans rfl⟩ (fun hHeld => ?_)
        refine pure_ (i := 0) (N := some 14) (v := ?_) (a' := ?_) #[true, false, false, false, false, false, false] rfl rfl (by kernel_rfl) (fun _ _ _ h => h) (Or.inl ⟨by rfl, ?_⟩) ?_ ?_
        rotate_left
        · intro w'
          go_simp
          with_reducible rfl
        rotate_left
        · simp only [Act.put, List.setIfInBounds_toArray, List.set_cons_zero, List.set_cons_succ, i64_w, i32_w]
          rfl
        refine pure_ (i := 1) (N := some 15) (v := ?_) (a' := ?_) #[true, true, false, false, false, false, false] rfl rfl (by kernel_rfl) (fun _ _ _ h => h) (Or.inl ⟨by rfl, ?_⟩) ?_ ?_
        rotate_left
        · intro w'
          go_simp
          with_reducible rfl
        rotate_left
        · simp only [Act.put, List.setIfInBounds_toArray, List.set_cons_zero, List.set_cons_succ, i64_w, i32_w]
          rfl
        refine pure_ (i := 2) (N := some 16) (v := ?_) (a' := ?_) #[true, true, true, false, false, false, false] rfl rfl (by kernel_rfl) (fun _ _ _ h => h) (Or.inl ⟨by rfl, ?_⟩) ?_ ?_
        rotate_left
        · intro w'
          go_simp
          with_reducible rfl
        rotate_left
        · simp only [Act.put, List.setIfInBounds_toArray, List.set_cons_zero, List.set_cons_succ, i64_w, i32_w]
          rfl
        refine take_ (i := 3) (N := some 17) (v := ?_) (a' := ?_) #[true, true, true, true, false, false, false] rfl rfl (by kernel_rfl) (fun _ _ _ h => h) (Or.inl ⟨by rfl, ?_⟩) hHeld ?_ ?_
        rotate_left
        · rintro w' ⟨s0, s1, s2, s3, s4⟩
          go_simp
          with_reducible rfl
        rotate_left
        · simp only [Act.put, List.setIfInBounds_toArray, List.set_cons_zero, List.set_cons_succ, i64_w, i32_w]
          rfl
        refine take_ (i := 4) (N := some 18) (v := ?_) (a' := ?_) #[true, true, true, true, true, false, false] rfl rfl (by kernel_rfl) (fun _ _ _ h => h) (Or.inl ⟨by rfl, ?_⟩) hHeld ?_ ?_
        rotate_left
        · rintro w' ⟨s0, s1, s2, s3, s4⟩
          go_simp
          with_reducible rfl
        rotate_left
        · simp only [Act.put, List.setIfInBounds_toArray, List.set_cons_zero, List.set_cons_succ, i64_w, i32_w]
          rfl
        refine one_ (i := 5) (N := some 19) #[true, true, true, true, true, true, false] rfl rfl (by kernel_rfl) (by decide) (fun K hK => ?_)
        refine goes_ Try.func82 (by kernel_rfl) rfl #[.slice A l.length c, .agg #[.int .i64 x.f0, .int .i64 x.f1, .int .i64 x.f2, .int .i64 x.f3]] (by rfl) rfl rfl (by simp only [List.map_toArray, List.map_cons, List.map_nil]; rfl) ?_
        with_reducible refine (spec_l03At.calls ka A c l x.f0 x.f1 x.f2 x.f3 (-1) _ (Kd.C_below HC.out (below_drew1 HB4.out)) HLC.out HK2.out).mono ?_
        rintro e w5 ⟨rfl, hb5⟩
        refine ⟨_, rfl, ?_⟩
        have HG5 := Aside0.mk (blk_below (blk_drew HG4.out) hb5)
        have BK5 := Aside0.mk (blk_below (blk_drew BK4.out) hb5)
        have HB5 := Aside0.mk (below_step (below_drew1 HB4.out) hb5)
        clear hb5
        refine hK.out _ _ ⟨(blk_cell (HG5.out) 0).trans rfl, (blk_cell (BK5.out) 0).trans rfl, (blk_cell (BK5.out) 1).trans rfl, (blk_cell (BK5.out) 2).trans rfl, (blk_cell (BK5.out) 3).trans rfl⟩ (fun hHeld => ?_)
        clear hK K
        refine norm_ (a' := ?_) ?_ ?_
        rotate_left
        · show Act.put _ (some 19) _ = _
          simp only [Act.put, List.setIfInBounds_toArray, List.set_cons_zero, List.set_cons_succ, i64_w, i32_w]
          rfl
        refine pure_ (i := 6) (N := some 5) (v := ?_) (a' := ?_) #[true, true, true, true, true, true, true] rfl rfl (by kernel_rfl) (fun _ _ _ h => h) (Or.inl ⟨by rfl, ?_⟩) ?_ ?_
        rotate_left
        · intro w'
          go_simp
          with_reducible rfl
        rotate_left
        · simp only [Act.put, List.setIfInBounds_toArray, List.set_cons_zero, List.set_cons_succ, i64_w, i32_w]
          rfl
        refine done_ (by kernel_rfl) ?_
        have hn0 : w5.cell? ⟨gb, 0, none⟩ = some (.int .i64 x.f0) := (blk_cell BK5.out 0).trans rfl
        have hn1 : w5.cell? ⟨gb, 1, none⟩ = some (.int .i64 x.f1) := (blk_cell BK5.out 1).trans rfl
        have hn2 : w5.cell? ⟨gb, 2, none⟩ = some (.int .i64 x.f2) := (blk_cell BK5.out 2).trans rfl
        have hn3 : w5.cell? ⟨gb, 3, none⟩ = some (.int .i64 x.f3) := (blk_cell BK5.out 3).trans rfl
        have hf0 := blk_frozen BK5.out 0
        have hf1 := blk_frozen BK5.out 1
        have hf2 := blk_frozen BK5.out 2
        have hf3 := blk_frozen BK5.out 3
        have hg0 : w5.cell? ⟨g, 0, none⟩ = some (.slice A l.length c) := (blk_cell HG5.out 0).trans rfl
        have hgf := blk_frozen HG5.out 0
        go_wp2
        have HRw := Aside0.mk (Kd.R_below (Kd.R_elderB HR.out gb (by rw [GB3.out]; exact Nat.le_refl _)) HB5.out)
        have HS5 := Aside0.mk (below_size HB5.out)
        have HGB := Aside0.mk (show gb < w5.heap.size from blk_lt BK5.out)
        refine start_ (n := 11) (S := fun w' => w'.cell? ⟨g, 0, none⟩ = some (.slice A l.length c) ∧ w'.cell? ⟨gb, 0, none⟩ = some (.int .i64 x.f0) ∧ w'.cell? ⟨gb, 1, none⟩ = some (.int .i64 x.f1) ∧ w'.cell? ⟨gb, 2, none⟩ = some (.int .i64 x.f2) ∧ w'.cell? ⟨gb, 3, none⟩ = some (.int .i64 x.f3)) (ds := [10]) #[false, false, false, false, false, false, false, false, false, false, false] (by kernel_rfl) rfl rfl ⟨(blk_cell (blk_drew HG5.out) 0).trans rfl, (blk_cell (blk_drew BK5.out) 0).trans rfl, (blk_cell (blk_drew BK5.out) 1).trans rfl, (blk_cell (blk_drew BK5.out) 2).trans rfl, (blk_cell (blk_drew BK5.out) 3).trans rfl⟩ (fun hHeld => ?_)
        refine pure_ (i := 0) (N := some 31) (v := ?_) (a' := ?_) #[true, false, false, false, false, false, false, false, false, false, false] rfl rfl (by kernel_rfl) (fun _ _ _ h => h) (Or.inl ⟨by rfl, ?_⟩) ?_ ?_
        rotate_left
        · intro w'
          go_simp
          with_reducible rfl
        rotate_left
        · simp only [Act.put, List.setIfInBounds_toArray, List.set_cons_zero, List.set_cons_succ, i64_w, i32_w]
          rfl
        refine pure_ (i := 1) (N := some 32) (v := ?_) (a' := ?_) #[true, true, false, false, false, false, false, false, false, false, false] rfl rfl (by kernel_rfl) (fun _ _ _ h => h) (Or.inl ⟨by rfl, ?_⟩) ?_ ?_
        rotate_left
        · intro w'
          go_simp
          with_reducible rfl
        rotate_left
        · simp only [Act.put, List.setIfInBounds_toArray, List.set_cons_zero, List.set_cons_succ, i64_w, i32_w]
          rfl
        refine pure_ (i := 2) (N := some 33) (v := ?_) (a' := ?_) #[true, true, true, false, false, false, false, false, false, false, false] rfl rfl (by kernel_rfl) (fun _ _ _ h => h) (Or.inl ⟨by rfl, ?_⟩) ?_ ?_
        rotate_left
        · intro w'
          go_simp
          with_reducible rfl
        rotate_left
        · simp only [Act.put, List.setIfInBounds_toArray, List.set_cons_zero, List.set_cons_succ, i64_w, i32_w]
          rfl
        refine pure_ (i := 3) (N := some 34) (v := ?_) (a' := ?_) #[true, true, true, true, false, false, false, false, false, false, false] rfl rfl (by kernel_rfl) (fun _ _ _ h => h) (Or.inl ⟨by rfl, ?_⟩) ?_ ?_
        rotate_left
        · intro w'
          go_simp
          with_reducible rfl
        rotate_left
        · simp only [Act.put, List.setIfInBounds_toArray, List.set_cons_zero, List.set_cons_succ, i64_w, i32_w]
          rfl
        refine take_ (i := 4) (N := some 35) (v := ?_) (a' := ?_) #[true, true, true, true, true, false, false, false, false, false, false] rfl rfl (by kernel_rfl) (fun _ _ _ h => h) (Or.inl ⟨by rfl, ?_⟩) hHeld ?_ ?_
        rotate_left
        · rintro w' ⟨s0, s1, s2, s3, s4⟩
          go_simp
          with_reducible rfl
        rotate_left
        · simp only [Act.put, List.setIfInBounds_toArray, List.set_cons_zero, List.set_cons_succ, i64_w, i32_w]
          rfl
        refine take_ (i := 5) (N := some 36) (v := ?_) (a' := ?_) #[true, true, true, true, true, true, false, false, false, false, false] rfl rfl (by kernel_rfl) (fun _ _ _ h => h) (Or.inl ⟨by rfl, ?_⟩) hHeld ?_ ?_
        rotate_left
        · rintro w' ⟨s0, s1, s2, s3, s4⟩
          go_simp
          with_reducible rfl
        rotate_left
        · simp only [Act.put, List.setIfInBounds_toArray, List.set_cons_zero, List.set_cons_succ, i64_w, i32_w]
          rfl
        refine one_ (i := 6) (N := some 37) #[true, true, true, true, true, true, true, false, false, false, false] rfl rfl (by kernel_rfl) (by decide) (fun K hK => ?_)
        refine value_ (w1 := ?_) (v := ?_) (by rfl) rfl ?_ ?_
        rotate_left 2
        · go_simp
          constructor
          · rfl
          · rfl
        refine hK.out _ _ ⟨(blk_cell (blk_alloc (blk_drew HG5.out) _) 0).trans rfl, (blk_cell (blk_alloc (blk_drew BK5.out) _) 0).trans rfl, (blk_cell (blk_alloc (blk_drew BK5.out) _) 1).trans rfl, (blk_cell (blk_alloc (blk_drew BK5.out) _) 2).trans rfl, (blk_cell (blk_alloc (blk_drew BK5.out) _) 3).trans rfl⟩ (fun hHeld => ?_)
        clear hK K
        refine norm_ (a' := ?_) ?_ ?_
        rotate_left
        · show Act.put _ (some 37) _ = _
          simp only [Act.put, List.setIfInBounds_toArray, List.set_cons_zero, List.set_cons_succ, i64_w, i32_w]
          rfl
        refine one_ (i := 7) (N := some 38) #[true, true, true, true, true, true, true, true, false, false, false] rfl rfl (by kernel_rfl) (by decide) (fun K hK => ?_)
        refine Kd.R_append_step k34 (w0 := w) (W := w5.drew) base (by rfl) (.tmp 35) (.tmp 37) 24 34 (.agg #[.int .i64 0, .int .i64 0, .int .i64 0, .int .i64 0]) 32 rfl Try.underlying24 info34 rfl (by decide) (by decide) (.slice A l.length c) l x [.int .i64 x.f0, .int .i64 x.f1, .int .i64 x.f2, .int .i64 x.f3] (fun k => ok k ∧ k ≠ gb) (fun _ => False) rfl rfl (k34_mkM _ _ _ x) (fun _ h => h.elim) (fun k hk => ⟨HF.out k (Nat.le_trans HS5.out hk), fun e => Nat.lt_irrefl _ (Nat.lt_of_lt_of_le HGB.out (e ▸ hk))⟩) (Kd.R_drew HRw.out) ((below_drew1 HB5.out).mono HBS.out) (Nat.le_trans HBS.out HS5.out) (Nat.le_trans (Nat.mul_le_mul_right 32 (Nat.lt_of_not_le H3.out)) (by decide)) ?_
        intro v1 w7 ho hb hg hat
        have hne : ∀ k, (Value.slice A l.length c).ownBlock = some k → ok k ∧ k ≠ gb := HRw.out.1
        have HG7 := Aside0.mk (blk_grown (blk_drew HG5.out) hg (fun e => HNO.out (hne _ e.symm).1))
        have BK7 := Aside0.mk (blk_grown (blk_drew BK5.out) hg (fun e => (hne _ e.symm).2 rfl))
        have HK7 := Aside0.mk (Kept.of_grown (S := Mine g ok) hg (Kept.drew (Kept.of_below HB5.out _)) (fun k hk => .inl (.inr (hne k hk).1)))
        have HB7 := Aside0.mk hb
        obtain ⟨A1, c1, rfl, hlc1, _⟩ := Kd.R_reads ho
        have HO7 := Aside0.mk ho
        have hg07 : w7.cell? ⟨g, 0, none⟩ = some (.slice A l.length c) := (blk_cell HG7.out 0).trans rfl
        have hgf7 := blk_frozen HG7.out 0
        clear ho hb hg hat hne hlc1
        refine hK.out _ _ ⟨(blk_cell HG7.out 0).trans rfl, (blk_cell BK7.out 0).trans rfl, (blk_cell BK7.out 1).trans rfl, (blk_cell BK7.out 2).trans rfl, (blk_cell BK7.out 3).trans rfl⟩ (fun hHeld => ?_)
        clear hK K
        refine norm_ (a' := ?_) ?_ ?_
        rotate_left
        · show Act.put _ (some 38) _ = _
          simp only [Act.put, List.setIfInBounds_toArray, List.set_cons_zero, List.set_cons_succ, i64_w, i32_w]
          rfl
        refine pure_ (i := 8) (N := some 39) (v := ?_) (a' := ?_) #[true, true, true, true, true, true, true, true, true, false, false] rfl rfl (by kernel_rfl) (fun _ _ _ h => h) (Or.inl ⟨by rfl, ?_⟩) ?_ ?_
        rotate_left
        · intro w'
          go_simp
          with_reducible rfl
        rotate_left
        · simp only [Act.put, List.setIfInBounds_toArray, List.set_cons_zero, List.set_cons_succ, i64_w, i32_w]
          rfl
        refine pure_ (i := 9) (N := some 40) (v := ?_) (a' := ?_) #[true, true, true, true, true, true, true, true, true, true, false] rfl rfl (by kernel_rfl) (fun _ _ _ h => h) (Or.inl ⟨by rfl, ?_⟩) ?_ ?_
        rotate_left
        · intro w'
          go_simp
          with_reducible rfl
        rotate_left
        · simp only [Act.put, List.setIfInBounds_toArray, List.set_cons_zero, List.set_cons_succ, i64_w, i32_w]
          rfl
        refine last_ (i := 10) (N := none) #[true, true, true, true, true, true, true, true, true, true, true] rfl rfl (by kernel_rfl) (by decide) (fun K hK => ?_)
        refine skip_ (w1 := ?_) (by rfl) rfl ?_ ?_
        rotate_left
        · go_simp
          rfl
        refine hK.out _ _ ?_
        clear hK K
        refine done_ (by kernel_rfl) ?_
        obtain ⟨w8, hw8⟩ : ∃ w8, w7.setCell ⟨g, 0, none⟩ (.slice A1 (l.length + 1) c1) = w8 := ⟨_, rfl⟩
        rw [hw8]
        have HG8 := Aside0.mk (show w8.heap[g]? = some (.cells #[.slice A1 (l.length + 1) c1] 26 (0, 0)) by rw [← hw8]; exact blk_put HG7.out 0 _ rfl)
        have HB8 := Aside0.mk (show Below base w w8 by rw [← hw8]; exact HB7.out.setCell HBG.out _)
        have HK8 := Aside0.mk (show Kept w w8 (Mine g ok) by rw [← hw8]; exact Kept.setCell HK7.out (.inl (.inl rfl)) _)
        have HO8 := Aside0.mk (show Kd.R k34 34 w8 base (fun k => ok k ∧ k ≠ gb) (.slice A1 (l ++ [x]).length c1) (l ++ [x]) by rw [← hw8]; exact Kd.R_far HO7.out (fun k hk e => HNO.out (by have h1 := hk.1; rwa [show k = g from e] at h1)) _)
        clear hw8
        have hg08 : w8.cell? ⟨g, 0, none⟩ = some (.slice A1 (l.length + 1) c1) := (blk_cell HG8.out 0).trans rfl
        have hgf8 := blk_frozen HG8.out 0
        have hlt8 : l.length ≤ 1048576 := HL.out
        go_wp2
        go_ret
        rw [HE.out]
        refine ⟨by first | rfl | (congr 2; omega) | (simp; omega), ⟨_, HG8.out, HBG.out, HNO.out, ?_⟩, HB8.out, HK8.out⟩
        have hO := Kd.R_mono HO8.out (fun _ hk => hk.1)
        rw [List.length_append] at hO
        exact hO
    · have he : putN l x = (l, atV l x) := by unfold putN; rw [if_pos hb, if_pos ha]
      have HE := Aside0.mk he
      clear he hb
      generalize atV l x = q at ha ha1 HE HK2
      have hq0 : decide (0 ≤ q) = true := decide_eq_true ha
      clear ha ha1
      go_enter Try.func113, Try.ntmps113
      go_wp2_with (first | ((with_reducible refine gate_dst (N := 3) rfl ?_); refine box_event ?hg (N := 3) ?hd (cs := #[.int .i64 x.f0, .int .i64 x.f1, .int .i64 x.f2, .int .i64 x.f3]) (t := 34) ?hr ?_; (case hd => rfl); (case hg => rfl); (case hr => first | (go_simp; done) | (go_simp; rfl)); intro gb hg1 w3 hbox hb; have BK3 := Aside0.mk hbox; have HB3 := Aside0.mk hb; have GB3 := Aside0.mk hg1; clear hg1 hbox hb))
      have HG3 := Aside0.mk (blk_below HG0.out HB3.out)
      refine start_ (n := 8) (S := fun w' => w'.cell? ⟨g, 0, none⟩ = some (.slice A l.length c) ∧ w'.cell? ⟨gb, 0, none⟩ = some (.int .i64 x.f0) ∧ w'.cell? ⟨gb, 1, none⟩ = some (.int .i64 x.f1) ∧ w'.cell? ⟨gb, 2, none⟩ = some (.int .i64 x.f2) ∧ w'.cell? ⟨gb, 3, none⟩ = some (.int .i64 x.f3)) (ds := []) #[false, false, false, false, false, false, false, false] (by kernel_rfl) rfl rfl ⟨(blk_cell (blk_drew HG3.out) 0).trans rfl, (blk_cell (blk_drew BK3.out) 0).trans rfl, (blk_cell (blk_drew BK3.out) 1).trans rfl, (blk_cell (blk_drew BK3.out) 2).trans rfl, (blk_cell (blk_drew BK3.out) 3).trans rfl⟩ (fun hHeld => ?_)
      refine pure_ (i := 1) (N := some 7) (v := ?_) (a' := ?_) #[false, true, false, false, false, false, false, false] rfl rfl (by kernel_rfl) (fun _ _ _ h => h) (Or.inl ⟨by rfl, ?_⟩) ?_ ?_
      rotate_left
      · intro w'
        go_simp
        with_reducible rfl
      rotate_left
      · simp only [Act.put, List.setIfInBounds_toArray, List.set_cons_zero, List.set_cons_succ, i64_w, i32_w]
        rfl
      refine pure_ (i := 2) (N := some 8) (v := ?_) (a' := ?_) #[false, true, true, false, false, false, false, false] rfl rfl (by kernel_rfl) (fun _ _ _ h => h) (Or.inl ⟨by rfl, ?_⟩) ?_ ?_
      rotate_left
      · intro w'
        go_simp
        with_reducible rfl
      rotate_left
      · simp only [Act.put, List.setIfInBounds_toArray, List.set_cons_zero, List.set_cons_succ, i64_w, i32_w]
        rfl
      refine pure_ (i := 3) (N := some 9) (v := ?_) (a' := ?_) #[false, true, true, true, false, false, false, false] rfl rfl (by kernel_rfl) (fun _ _ _ h => h) (Or.inl ⟨by rfl, ?_⟩) ?_ ?_
      rotate_left
      · intro w'
        go_simp
        with_reducible rfl
      rotate_left
      · simp only [Act.put, List.setIfInBounds_toArray, List.set_cons_zero, List.set_cons_succ, i64_w, i32_w]
        rfl
      refine take_ (i := 0) (N := some 6) (v := ?_) (a' := ?_) #[true, true, true, true, false, false, false, false] rfl rfl (by kernel_rfl) (fun _ _ _ h => h) (Or.inl ⟨by rfl, ?_⟩) hHeld ?_ ?_
      rotate_left
      · rintro w' ⟨s0, s1, s2, s3, s4⟩
        go_simp
        with_reducible rfl
      rotate_left
      · simp only [Act.put, List.setIfInBounds_toArray, List.set_cons_zero, List.set_cons_succ, i64_w, i32_w]
        rfl
      refine take_ (i := 4) (N := some 10) (v := ?_) (a' := ?_) #[true, true, true, true, true, false, false, false] rfl rfl (by kernel_rfl) (fun _ _ _ h => h) (Or.inl ⟨by rfl, ?_⟩) hHeld ?_ ?_
      rotate_left
      · rintro w' ⟨s0, s1, s2, s3, s4⟩
        go_simp
        with_reducible rfl
      rotate_left
      · simp only [Act.put, List.setIfInBounds_toArray, List.set_cons_zero, List.set_cons_succ, i64_w, i32_w]
        rfl
      refine pure_ (i := 5) (N := some 11) (v := ?_) (a' := ?_) #[true, true, true, true, true, true, false, false] rfl rfl (by kernel_rfl) (fun _ _ _ h => h) (Or.inl ⟨by rfl, ?_⟩) ?_ ?_
      rotate_left
      · intro w'
        go_simp
        with_reducible rfl
      rotate_left
      · simp only [Act.put, List.setIfInBounds_toArray, List.set_cons_zero, List.set_cons_succ, i64_w, i32_w]
        rfl
      refine one_ (i := 6) (N := some 12) #[true, true, true, true, true, true, true, false] rfl rfl (by kernel_rfl) (by decide) (fun K hK => ?_)
      refine goes_ Try.func81 (by kernel_rfl) rfl #[.agg #[.int .i64 x.f0, .int .i64 x.f1, .int .i64 x.f2, .int .i64 x.f3], .int .i64 (l.length : Int)] (by rfl) rfl rfl (by simp only [List.map_toArray, List.map_cons, List.map_nil]; rfl) ?_
      with_reducible refine (spec_l03Node.calls kn x.f0 x.f1 x.f2 x.f3 (l.length : Int) true _ HK.out).mono ?_
      rintro e w4 ⟨rfl, hb4⟩
      refine ⟨_, rfl, ?_⟩
      have HG4 := Aside0.mk (blk_below (blk_drew HG3.out) hb4)
      have BK4 := Aside0.mk (blk_below (blk_drew BK3.out) hb4)
      have HB4 := Aside0.mk (below_step (below_drew1 HB3.out) hb4)
      clear hb4
      refine hK.out _ _ ⟨(blk_cell (HG4.out) 0).trans rfl, (blk_cell (BK4.out) 0).trans rfl, (blk_cell (BK4.out) 1).trans rfl, (blk_cell (BK4.out) 2).trans rfl, (blk_cell (BK4.out) 3).trans rfl⟩ (fun hHeld => ?_)
      clear hK K
      refine norm_ (a' := ?_) ?_ ?_
      rotate_left
      · show Act.put _ (some 12) _ = _
        simp only [Act.put, List.setIfInBounds_toArray, List.set_cons_zero, List.set_cons_succ, i64_w, i32_w]
        rfl
      refine pure_ (i := 7) (N := some 13) (v := ?_) (a' := ?_) #[true, true, true, true, true, true, true, true] rfl rfl (by kernel_rfl) (fun _ _ _ h => h) (Or.inl ⟨by rfl, ?_⟩) ?_ ?_
      rotate_left
      · intro w'
        go_simp
        with_reducible rfl
      rotate_left
      · simp only [Act.put, List.setIfInBounds_toArray, List.set_cons_zero, List.set_cons_succ, i64_w, i32_w]
        rfl
      refine done_ (by kernel_rfl) ?_
      have hn0 : w4.cell? ⟨gb, 0, none⟩ = some (.int .i64 x.f0) := (blk_cell BK4.out 0).trans rfl
      have hn1 : w4.cell? ⟨gb, 1, none⟩ = some (.int .i64 x.f1) := (blk_cell BK4.out 1).trans rfl
      have hn2 : w4.cell? ⟨gb, 2, none⟩ = some (.int .i64 x.f2) := (blk_cell BK4.out 2).trans rfl
      have hn3 : w4.cell? ⟨gb, 3, none⟩ = some (.int .i64 x.f3) := (blk_cell BK4.out 3).trans rfl
      have hf0 := blk_frozen BK4.out 0
      have hf1 := blk_frozen BK4.out 1
      have hf2 := blk_frozen BK4.out 2
      have hf3 := blk_frozen BK4.out 3
      have hg0 : w4.cell? ⟨g, 0, none⟩ = some (.slice A l.length c) := (blk_cell HG4.out 0).trans rfl
      have hgf := blk_frozen HG4.out 0
      go_wp2
      refine start_ (n := 7) (S := fun w' => w'.cell? ⟨g, 0, none⟩ = some (.slice A l.length c) ∧ w'.cell? ⟨gb, 0, none⟩ = some (.int .i64 x.f0) ∧ w'.cell? ⟨gb, 1, none⟩ = some (.int .i64 x.f1) ∧ w'.cell? ⟨gb, 2, none⟩ = some (.int .i64 x.f2) ∧ w'.cell? ⟨gb, 3, none⟩ = some (.int .i64 x.f3)) (ds := []) #[false, false, false, false, false, false, false] (by kernel_rfl) rfl rfl ⟨(blk_cell (blk_drew HG4.out) 0).trans rfl, (blk_cell (blk_drew BK4.out) 0).trans rfl, (blk_cell (blk_drew BK4.out) 1).trans rfl, (blk_cell (blk_drew BK4.out) 2).trans rfl, (blk_cell (blk_drew BK4.out) 3).trans rfl⟩ (fun hHeld => ?_)
      refine pure_ (i := 0) (N := some 14) (v := ?_) (a' := ?_) #[true, false, false, false, false, false, false] rfl rfl (by kernel_rfl) (fun _ _ _ h => h) (Or.inl ⟨by rfl, ?_⟩) ?_ ?_
      rotate_left
      · intro w'
        go_simp
        with_reducible rfl
      rotate_left
      · simp only [Act.put, List.setIfInBounds_toArray, List.set_cons_zero, List.set_cons_succ, i64_w, i32_w]
        rfl
      refine pure_ (i := 1) (N := some 15) (v := ?_) (a' := ?_) #[true, true, false, false, false, false, false] rfl rfl (by kernel_rfl) (fun _ _ _ h => h) (Or.inl ⟨by rfl, ?_⟩) ?_ ?_
      rotate_left
      · intro w'
        go_simp
        with_reducible rfl
      rotate_left
      · simp only [Act.put, List.setIfInBounds_toArray, List.set_cons_zero, List.set_cons_succ, i64_w, i32_w]
        rfl
      refine pure_ (i := 2) (N := some 16) (v := ?_) (a' := ?_) #[true, true, true, false, false, false, false] rfl rfl (by kernel_rfl) (fun _ _ _ h => h) (Or.inl ⟨by rfl, ?_⟩) ?_ ?_
      rotate_left
      · intro w'
        go_simp
        with_reducible rfl
      rotate_left
      · simp only [Act.put, List.setIfInBounds_toArray, List.set_cons_zero, List.set_cons_succ, i64_w, i32_w]
        rfl
      refine take_ (i := 3) (N := some 17) (v := ?_) (a' := ?_) #[true, true, true, true, false, false, false] rfl rfl (by kernel_rfl) (fun _ _ _ h => h) (Or.inl ⟨by rfl, ?_⟩) hHeld ?_ ?_
      rotate_left
      · rintro w' ⟨s0, s1, s2, s3, s4⟩
        go_simp
        with_reducible rfl
      rotate_left
      · simp only [Act.put, List.setIfInBounds_toArray, List.set_cons_zero, List.set_cons_succ, i64_w, i32_w]
        rfl
      refine take_ (i := 4) (N := some 18) (v := ?_) (a' := ?_) #[true, true, true, true, true, false, false] rfl rfl (by kernel_rfl) (fun _ _ _ h => h) (Or.inl ⟨by rfl, ?_⟩) hHeld ?_ ?_
      rotate_left
      · rintro w' ⟨s0, s1, s2, s3, s4⟩
        go_simp
        with_reducible rfl
      rotate_left
      · simp only [Act.put, List.setIfInBounds_toArray, List.set_cons_zero, List.set_cons_succ, i64_w, i32_w]
        rfl
      refine one_ (i := 5) (N := some 19) #[true, true, true, true, true, true, false] rfl rfl (by kernel_rfl) (by decide) (fun K hK => ?_)
      refine goes_ Try.func82 (by kernel_rfl) rfl #[.slice A l.length c, .agg #[.int .i64 x.f0, .int .i64 x.f1, .int .i64 x.f2, .int .i64 x.f3]] (by rfl) rfl rfl (by simp only [List.map_toArray, List.map_cons, List.map_nil]; rfl) ?_
      with_reducible refine (spec_l03At.calls ka A c l x.f0 x.f1 x.f2 x.f3 q _ (Kd.C_below HC.out (below_drew1 HB4.out)) HLC.out HK2.out).mono ?_
      rintro e w5 ⟨rfl, hb5⟩
      refine ⟨_, rfl, ?_⟩
      have HG5 := Aside0.mk (blk_below (blk_drew HG4.out) hb5)
      have BK5 := Aside0.mk (blk_below (blk_drew BK4.out) hb5)
      have HB5 := Aside0.mk (below_step (below_drew1 HB4.out) hb5)
      clear hb5
      refine hK.out _ _ ⟨(blk_cell (HG5.out) 0).trans rfl, (blk_cell (BK5.out) 0).trans rfl, (blk_cell (BK5.out) 1).trans rfl, (blk_cell (BK5.out) 2).trans rfl, (blk_cell (BK5.out) 3).trans rfl⟩ (fun hHeld => ?_)
      clear hK K
      refine norm_ (a' := ?_) ?_ ?_
      rotate_left
      · show Act.put _ (some 19) _ = _
        simp only [Act.put, List.setIfInBounds_toArray, List.set_cons_zero, List.set_cons_succ, i64_w, i32_w]
        rfl
      refine pure_ (i := 6) (N := some 5) (v := ?_) (a' := ?_) #[true, true, true, true, true, true, true] rfl rfl (by kernel_rfl) (fun _ _ _ h => h) (Or.inl ⟨by rfl, ?_⟩) ?_ ?_
      rotate_left
      · intro w'
        go_simp
        with_reducible rfl
      rotate_left
      · simp only [Act.put, List.setIfInBounds_toArray, List.set_cons_zero, List.set_cons_succ, i64_w, i32_w]
        rfl
      refine done_ (by kernel_rfl) ?_
      have hn0 : w5.cell? ⟨gb, 0, none⟩ = some (.int .i64 x.f0) := (blk_cell BK5.out 0).trans rfl
      have hn1 : w5.cell? ⟨gb, 1, none⟩ = some (.int .i64 x.f1) := (blk_cell BK5.out 1).trans rfl
      have hn2 : w5.cell? ⟨gb, 2, none⟩ = some (.int .i64 x.f2) := (blk_cell BK5.out 2).trans rfl
      have hn3 : w5.cell? ⟨gb, 3, none⟩ = some (.int .i64 x.f3) := (blk_cell BK5.out 3).trans rfl
      have hf0 := blk_frozen BK5.out 0
      have hf1 := blk_frozen BK5.out 1
      have hf2 := blk_frozen BK5.out 2
      have hf3 := blk_frozen BK5.out 3
      have hg0 : w5.cell? ⟨g, 0, none⟩ = some (.slice A l.length c) := (blk_cell HG5.out 0).trans rfl
      have hgf := blk_frozen HG5.out 0
      go_wp2
      go_ret
      rw [HE.out]
      exact ⟨rfl, ⟨_, HG5.out, HBG.out, HNO.out, Kd.R_below HR.out HB5.out⟩, HB5.out.mono HBS.out, Kept.of_below HB5.out _⟩
  · have hb0 : nodeB x.f0 x.f1 x.f2 x.f3 (l.length : Int) = false := by simpa using hb
    rw [hb0] at HK
    have he : putN l x = (l, -1) := by unfold putN; rw [if_neg hb]
    have HE := Aside0.mk he
    clear he hb hb0 hbl
    go_enter Try.func113, Try.ntmps113
    go_wp2_with (first | ((with_reducible refine gate_dst (N := 3) rfl ?_); refine box_event ?hg (N := 3) ?hd (cs := #[.int .i64 x.f0, .int .i64 x.f1, .int .i64 x.f2, .int .i64 x.f3]) (t := 34) ?hr ?_; (case hd => rfl); (case hg => rfl); (case hr => first | (go_simp; done) | (go_simp; rfl)); intro gb hg1 w3 hbox hb; have BK3 := Aside0.mk hbox; have HB3 := Aside0.mk hb; have GB3 := Aside0.mk hg1; clear hg1 hbox hb))
    have HG3 := Aside0.mk (blk_below HG0.out HB3.out)
    refine start_ (n := 8) (S := fun w' => w'.cell? ⟨g, 0, none⟩ = some (.slice A l.length c) ∧ w'.cell? ⟨gb, 0, none⟩ = some (.int .i64 x.f0) ∧ w'.cell? ⟨gb, 1, none⟩ = some (.int .i64 x.f1) ∧ w'.cell? ⟨gb, 2, none⟩ = some (.int .i64 x.f2) ∧ w'.cell? ⟨gb, 3, none⟩ = some (.int .i64 x.f3)) (ds := []) #[false, false, false, false, false, false, false, false] (by kernel_rfl) rfl rfl ⟨(blk_cell (blk_drew HG3.out) 0).trans rfl, (blk_cell (blk_drew BK3.out) 0).trans rfl, (blk_cell (blk_drew BK3.out) 1).trans rfl, (blk_cell (blk_drew BK3.out) 2).trans rfl, (blk_cell (blk_drew BK3.out) 3).trans rfl⟩ (fun hHeld => ?_)
    refine pure_ (i := 1) (N := some 7) (v := ?_) (a' := ?_) #[false, true, false, false, false, false, false, false] rfl rfl (by kernel_rfl) (fun _ _ _ h => h) (Or.inl ⟨by rfl, ?_⟩) ?_ ?_
    rotate_left
    · intro w'
      go_simp
      with_reducible rfl
    rotate_left
    · simp only [Act.put, List.setIfInBounds_toArray, List.set_cons_zero, List.set_cons_succ, i64_w, i32_w]
      rfl
    refine pure_ (i := 2) (N := some 8) (v := ?_) (a' := ?_) #[false, true, true, false, false, false, false, false] rfl rfl (by kernel_rfl) (fun _ _ _ h => h) (Or.inl ⟨by rfl, ?_⟩) ?_ ?_
    rotate_left
    · intro w'
      go_simp
      with_reducible rfl
    rotate_left
    · simp only [Act.put, List.setIfInBounds_toArray, List.set_cons_zero, List.set_cons_succ, i64_w, i32_w]
      rfl
    refine pure_ (i := 3) (N := some 9) (v := ?_) (a' := ?_) #[false, true, true, true, false, false, false, false] rfl rfl (by kernel_rfl) (fun _ _ _ h => h) (Or.inl ⟨by rfl, ?_⟩) ?_ ?_
    rotate_left
    · intro w'
      go_simp
      with_reducible rfl
    rotate_left
    · simp only [Act.put, List.setIfInBounds_toArray, List.set_cons_zero, List.set_cons_succ, i64_w, i32_w]
      rfl
    refine take_ (i := 0) (N := some 6) (v := ?_) (a' := ?_) #[true, true, true, true, false, false, false, false] rfl rfl (by kernel_rfl) (fun _ _ _ h => h) (Or.inl ⟨by rfl, ?_⟩) hHeld ?_ ?_
    rotate_left
    · rintro w' ⟨s0, s1, s2, s3, s4⟩
      go_simp
      with_reducible rfl
    rotate_left
    · simp only [Act.put, List.setIfInBounds_toArray, List.set_cons_zero, List.set_cons_succ, i64_w, i32_w]
      rfl
    refine take_ (i := 4) (N := some 10) (v := ?_) (a' := ?_) #[true, true, true, true, true, false, false, false] rfl rfl (by kernel_rfl) (fun _ _ _ h => h) (Or.inl ⟨by rfl, ?_⟩) hHeld ?_ ?_
    rotate_left
    · rintro w' ⟨s0, s1, s2, s3, s4⟩
      go_simp
      with_reducible rfl
    rotate_left
    · simp only [Act.put, List.setIfInBounds_toArray, List.set_cons_zero, List.set_cons_succ, i64_w, i32_w]
      rfl
    refine pure_ (i := 5) (N := some 11) (v := ?_) (a' := ?_) #[true, true, true, true, true, true, false, false] rfl rfl (by kernel_rfl) (fun _ _ _ h => h) (Or.inl ⟨by rfl, ?_⟩) ?_ ?_
    rotate_left
    · intro w'
      go_simp
      with_reducible rfl
    rotate_left
    · simp only [Act.put, List.setIfInBounds_toArray, List.set_cons_zero, List.set_cons_succ, i64_w, i32_w]
      rfl
    refine one_ (i := 6) (N := some 12) #[true, true, true, true, true, true, true, false] rfl rfl (by kernel_rfl) (by decide) (fun K hK => ?_)
    refine goes_ Try.func81 (by kernel_rfl) rfl #[.agg #[.int .i64 x.f0, .int .i64 x.f1, .int .i64 x.f2, .int .i64 x.f3], .int .i64 (l.length : Int)] (by rfl) rfl rfl (by simp only [List.map_toArray, List.map_cons, List.map_nil]; rfl) ?_
    with_reducible refine (spec_l03Node.calls kn x.f0 x.f1 x.f2 x.f3 (l.length : Int) false _ HK.out).mono ?_
    rintro e w4 ⟨rfl, hb4⟩
    refine ⟨_, rfl, ?_⟩
    have HG4 := Aside0.mk (blk_below (blk_drew HG3.out) hb4)
    have BK4 := Aside0.mk (blk_below (blk_drew BK3.out) hb4)
    have HB4 := Aside0.mk (below_step (below_drew1 HB3.out) hb4)
    clear hb4
    refine hK.out _ _ ⟨(blk_cell (HG4.out) 0).trans rfl, (blk_cell (BK4.out) 0).trans rfl, (blk_cell (BK4.out) 1).trans rfl, (blk_cell (BK4.out) 2).trans rfl, (blk_cell (BK4.out) 3).trans rfl⟩ (fun hHeld => ?_)
    clear hK K
    refine norm_ (a' := ?_) ?_ ?_
    rotate_left
    · show Act.put _ (some 12) _ = _
      simp only [Act.put, List.setIfInBounds_toArray, List.set_cons_zero, List.set_cons_succ, i64_w, i32_w]
      rfl
    refine pure_ (i := 7) (N := some 13) (v := ?_) (a' := ?_) #[true, true, true, true, true, true, true, true] rfl rfl (by kernel_rfl) (fun _ _ _ h => h) (Or.inl ⟨by rfl, ?_⟩) ?_ ?_
    rotate_left
    · intro w'
      go_simp
      with_reducible rfl
    rotate_left
    · simp only [Act.put, List.setIfInBounds_toArray, List.set_cons_zero, List.set_cons_succ, i64_w, i32_w]
      rfl
    refine done_ (by kernel_rfl) ?_
    have hn0 : w4.cell? ⟨gb, 0, none⟩ = some (.int .i64 x.f0) := (blk_cell BK4.out 0).trans rfl
    have hn1 : w4.cell? ⟨gb, 1, none⟩ = some (.int .i64 x.f1) := (blk_cell BK4.out 1).trans rfl
    have hn2 : w4.cell? ⟨gb, 2, none⟩ = some (.int .i64 x.f2) := (blk_cell BK4.out 2).trans rfl
    have hn3 : w4.cell? ⟨gb, 3, none⟩ = some (.int .i64 x.f3) := (blk_cell BK4.out 3).trans rfl
    have hf0 := blk_frozen BK4.out 0
    have hf1 := blk_frozen BK4.out 1
    have hf2 := blk_frozen BK4.out 2
    have hf3 := blk_frozen BK4.out 3
    have hg0 : w4.cell? ⟨g, 0, none⟩ = some (.slice A l.length c) := (blk_cell HG4.out 0).trans rfl
    have hgf := blk_frozen HG4.out 0
    go_wp2
    go_ret
    rw [HE.out]
    exact ⟨rfl, ⟨_, HG4.out, HBG.out, HNO.out, Kd.R_below HR.out HB4.out⟩, HB4.out.mono HBS.out, Kept.of_below HB4.out _⟩

/-! what l03Put wants and leaves, in one word -/
def ArS (w : World) (base g : Nat) (ok : Nat → Prop) (l : List S34) : Prop := ArAt w base g ok l ∧ (∀ k, w.heap.size ≤ k → ok k) ∧ l.length ≤ 1048576
theorem ArAt.size {w : World} {base g : Nat} {ok : Nat → Prop} {l : List S34} (h : ArAt w base g ok l) : base ≤ g ∧ g < w.heap.size := by
  obtain ⟨v, h1, h2, _, _⟩ := h
  exact ⟨h2, blk_lt h1⟩
theorem ArS.keep {w w1 : World} {base g : Nat} {ok : Nat → Prop} {l : List S34} (h : ArS w base g ok l) (hb : Below w.heap.size w w1) : ArS w1 base g ok l :=
  ⟨h.1.keep hb, fun k hk => h.2.1 k (Nat.le_trans hb.size hk), h.2.2⟩
def ArPost (w : World) (base g : Nat) (ok : Nat → Prop) (r : List S34 × Int) (e : Ending) (w' : World) : Prop := e = .returned (.int .i64 r.2) ∧ ArS w' base g ok r.1 ∧ Below base w w' ∧ Kept w w' (Mine g ok)
theorem putN_len {l : List S34} {x : S34} (h : l.length ≤ 1048576) : (putN l x).1.length ≤ 1048576 := by
  rcases putN_cases l x with ⟨h1, _⟩ | ⟨_, _, ⟨h1, _⟩ | ⟨_, h2, h1, _⟩⟩
  · rw [h1]; exact h
  · rw [h1]; exact h
  · rw [h1, List.length_append, List.length_singleton]; omega
theorem spec_put (l : List S34) (x : S34) (w : World) (base g : Nat) (ok : Nat → Prop) (h : ArS w base g ok l) :
    Calls Try.prog 113 #[.pointer (some ⟨g, 0, none⟩), .agg #[.int .i64 x.f0, .int .i64 x.f1, .int .i64 x.f2, .int .i64 x.f3]] w (ArPost w base g ok (putN l x)) := by
  have hs := h.1.size
  refine (spec_l03Put_at l x w base g ok h.1 (by omega) h.2.1 h.2.2).mono ?_
  rintro e w' ⟨he, hA, hb, hk⟩
  exact ⟨he, ⟨hA, fun k hk' => h.2.1 k (Nat.le_trans hb.size hk'), putN_len h.2.2⟩, hb, hk⟩
theorem ArPost.trans {w w1 w2 : World} {base g : Nat} {ok : Nat → Prop} {r : List S34 × Int} {e : Ending} (hb : Below base w w1) (hk : Kept w w1 (Mine g ok)) (h : ArPost w1 base g ok r e w2) : ArPost w base g ok r e w2 :=
  ⟨h.1, h.2.1, hb.trans h.2.2.1, hk.then_ h.2.2.2 (fun _ h => .inl h)⟩
theorem spec_atom (l : List S34) (n : Int) (w : World) (base g : Nat) (ok : Nat → Prop) (h : ArS w base g ok l) :
    Calls Try.prog 97 #[.pointer (some ⟨g, 0, none⟩), .int .i64 n] w (ArPost w base g ok (putN l ⟨1, n, 0, 0⟩)) := by
  have HA := Aside0.mk h
  clear h
  go_enter Try.func97, Try.ntmps97
  go_wp2_with (go_at_call 113; refine (spec_put l ⟨1, n, 0, 0⟩ _ base g ok HA.out).mono ?_; rintro e w' ⟨rfl, hA, hb, hk⟩)
  go_ret
  exact ⟨rfl, hA, hb, hk⟩

/-! List: a chain of pairs -/
def pairN (l : List S34) (x k : Int) : List S34 × Int := if x < 0 ∨ k < 0 then (l, -1) else putN l ⟨2, 0, x, k⟩
def listN (l : List S34) (xs : List Int) : List S34 × Int := xs.foldr (fun x s => pairN s.1 x s.2) (putN l ⟨1, 0, 0, 0⟩)
/-- a bench's state and a place -/
def ofB (s : List S34 × Bool × Int) (kind x y : Int) : List S34 × Bool × Int := putB s.1 s.2.1 ⟨kind, 0, x, y⟩
def listB (l : List S34) (bad : Bool) (xs : List Int) : List S34 × Bool × Int := xs.foldr (fun x s => ofB s 2 x s.2.2) (putB l bad ⟨1, 0, 0, 0⟩)
def endN (l0 : List S34) (s : List S34 × Bool × Int) : List S34 × Int := if s.2.1 = true ∨ s.2.2 < 0 then (l0, -1) else (s.1, s.2.2)

theorem pairN_len {l : List S34} {x k : Int} (h : l.length ≤ 1048576) : (pairN l x k).1.length ≤ 1048576 := by
  unfold pairN
  split
  · exact h
  · exact putN_len h
theorem ArS.here {w : World} {base g : Nat} {ok : Nat → Prop} {l : List S34} (h : ArS w base g ok l) (n : Int) : ArPost w base g ok (l, n) (.returned (.int .i64 n)) w :=
  ⟨rfl, h, Below.refl _ _, Kept.refl _ _⟩
theorem ArPost.before {w w1 w2 : World} {base g : Nat} {ok : Nat → Prop} {r : List S34 × Int} {e : Ending} (hs : base ≤ w.heap.size) (hb : Below w.heap.size w w1) (h : ArPost w1 base g ok r e w2) : ArPost w base g ok r e w2 :=
  h.trans (hb.mono hs) (Kept.of_below hb _)
set_option maxRecDepth 100000 in
theorem spec_pair (l : List S34) (x k : Int) (w : World) (base g : Nat) (ok : Nat → Prop) (h : ArS w base g ok l) :
    Calls Try.prog 125 #[.pointer (some ⟨g, 0, none⟩), .int .i64 2, .int .i64 x, .int .i64 k] w (ArPost w base g ok (pairN l x k)) := by
  have hbs : base ≤ w.heap.size := by have := h.1.size; omega
  have HBS := Aside0.mk hbs
  have HA := Aside0.mk h
  clear h hbs
  have H1 := Aside0.mk (spec_One_f 2)
  by_cases hx : x < 0
  · have he : pairN l x k = (l, -1) := by unfold pairN; rw [if_pos (.inl hx)]
    have HE := Aside0.mk he
    have hd : decide (x < 0) = true := decide_eq_true hx
    clear he hx
    go_enter Try.func125, Try.ntmps125
    go_wp2_with (go_at_call 111; refine (spec_l03One.calls 2 false _ H1.out).mono ?_; rintro e w1 ⟨rfl, hb1⟩; have HB1 := Aside0.mk hb1; clear hb1)
    go_ret
    rw [HE.out]
    exact (HA.out.keep (HB1.out.below)).here (-1) |>.before HBS.out (HB1.out.below)
  · have hd : decide (x < 0) = false := decide_eq_false hx
    by_cases hk : k < 0
    · have he : pairN l x k = (l, -1) := by unfold pairN; rw [if_pos (.inr hk)]
      have HE := Aside0.mk he
      have hd2 : decide (k < 0) = true := decide_eq_true hk
      clear he hx hk
      go_enter Try.func125, Try.ntmps125
      go_wp2_with (go_at_call 111; refine (spec_l03One.calls 2 false _ H1.out).mono ?_; rintro e w1 ⟨rfl, hb1⟩; have HB1 := Aside0.mk hb1; clear hb1)
      go_ret
      rw [HE.out]
      exact (HA.out.keep (HB1.out.below)).here (-1) |>.before HBS.out (HB1.out.below)
    · have he : pairN l x k = putN l ⟨2, 0, x, k⟩ := by unfold pairN; rw [if_neg (by omega)]
      have HE := Aside0.mk he
      have hd2 : decide (k < 0) = false := decide_eq_false hk
      clear he hx hk
      go_enter Try.func125, Try.ntmps125
      go_wp2_with (first
        | (go_at_call 111; refine (spec_l03One.calls 2 false _ H1.out).mono ?_; rintro e w1 ⟨rfl, hb1⟩; have HB1 := Aside0.mk hb1; clear hb1)
        | (go_at_call 113; refine (spec_put l ⟨2, 0, x, k⟩ _ base g ok (HA.out.keep (HB1.out.below))).mono ?_; rintro e w2 hp; have HP := Aside0.mk hp; obtain ⟨rfl, _⟩ := hp))
      go_ret
      rw [HE.out]
      exact HP.out.before HBS.out (HB1.out.below)
theorem listN_len {l : List S34} (h : l.length ≤ 1048576) (xs : List Int) : (listN l xs).1.length ≤ 1048576 := by
  induction xs with
  | nil => exact putN_len (x := ⟨1, 0, 0, 0⟩) h
  | cons x xs ih => exact pairN_len ih
theorem listN_drop (l : List S34) (xs : List Int) (i : Nat) (h : i < xs.length) : listN l (xs.drop i) = pairN (listN l (xs.drop (i + 1))).1 xs[i] (listN l (xs.drop (i + 1))).2 := by
  rw [List.drop_eq_getElem_cons h]
  rfl
theorem rd_get {xs : List Int} {i : Int} (h0 : 0 ≤ i) (h : i.toNat < xs.length) : rd xs i = xs[i.toNat] := by
  unfold rd
  rw [List.getD_eq_getElem?_getD, List.getElem?_eq_getElem h]
  rfl
set_option maxHeartbeats 2000000 in
set_option maxRecDepth 100000 in
theorem spec_list (l : List S34) (A1 : Option Addr) (c1 : Nat) (xs : List Int) (w w0 : World) (base g : Nat) (ok : Nat → Prop) (h : ArS w base g ok l) (hr1 : Kd.C (Kd.int .i64) w0 A1 xs.length xs) (hc1 : xs.length ≤ c1) (h0 : Below w0.heap.size w0 w) (hb0 : w0.heap.size ≤ base) (hx : xs.length ≤ 9223372036854775807) :
    Calls Try.prog 91 #[.pointer (some ⟨g, 0, none⟩), .slice A1 xs.length c1] w (ArPost w base g ok (listN l xs)) := by
  have HA := Aside0.mk h
  have HR := Aside0.mk hr1
  have H0 := Aside0.mk h0
  have HB0 := Aside0.mk hb0
  have HX := Aside0.mk hx
  clear h hr1 h0 hb0 hc1
  go_enter Try.func91, Try.ntmps91
  go_wp2_with (go_at_call 97; refine (spec_atom l 0 _ base g ok HA.out).mono ?_; rintro e w1 hp; have HP := Aside0.mk hp; obtain ⟨rfl, _⟩ := hp)
  go_loopw [5, 6] (fun vk vi wr => ∃ (i : Int) (s : List S34 × Int), -1 ≤ i ∧ i < xs.length ∧ vi = .int .i64 i ∧ vk = .int .i64 s.2 ∧ Aside0 (s = listN l (xs.drop (i + 1).toNat)) ∧ Aside0 (ArS wr base g ok s.1 ∧ Below base w wr ∧ Kept w wr (Mine g ok))) (fun _ i _ => (intOf i + 1).toNat)
  case atStart => 
    refine ⟨(xs.length : Int) - 1, (putN l ⟨1, 0, 0, 0⟩), by omega, by omega, rfl, rfl, ⟨?_⟩, ⟨HP.out.2⟩⟩
    rw [List.drop_eq_nil_of_le (show xs.length ≤ ((xs.length : Int) - 1 + 1).toNat by omega)]; rfl
  case round =>
    obtain ⟨i, s, h0, h1, rfl, rfl, HS, HI⟩ := hrel
    have Hi := Aside0.mk h0
    have Hj := Aside0.mk h1
    by_cases hlt : 0 ≤ i
    · obtain ⟨ad, e1, x0⟩ := Kd.at_int HR.out i hlt h1
      cases e1
      replace x0 := ((H0.out.trans (HI.out.2.1.mono HB0.out)).cell (World.block_lt_of_cell? w0 _ x0)).trans x0
      have Hlt := Aside0.mk hlt
      have hg1 : ∀ h : i.toNat < xs.length, rd xs i = xs[i.toNat]'h := fun h => rd_get hlt h
      have HG1 := Aside0.mk hg1
      have p0 : (0 ≤ i) = True := eq_true hlt
      have p1 : (i < (xs.length : Int)) = True := eq_true h1
      have p2 : decide (0 ≤ i) = true := decide_eq_true hlt
      generalize rd xs i = q at x0 HG1
      clear h0 h1 hlt hg1
      go_wp2_with (go_at_call 125; refine (spec_pair s.1 q s.2 _ base g ok HI.out.1).mono ?_; rintro e w2 hp; have HP2 := Aside0.mk hp; obtain ⟨rfl, _⟩ := hp)
      go_roundw
      case rel =>
        have hii := Hi.out
        have hij := Hlt.out
        have hjj := Hj.out
        have hxx := HX.out
        refine ⟨i - 1, pairN s.1 q s.2, by omega, by omega, by first | rfl | (simp only [Value.int.injEq, true_and]; exact w64 (by omega) (by omega)), rfl, ⟨?_⟩, ⟨HP2.out.2.1, HI.out.2.1.trans HP2.out.2.2.1, HI.out.2.2.then_ HP2.out.2.2.2 (fun _ h => .inl h)⟩⟩
        rw [show (i - 1 + 1).toNat = i.toNat by omega, listN_drop l xs i.toNat (by omega), show i.toNat + 1 = (i + 1).toNat by omega, ← HS.out, HG1.out (by omega)]
      case measure => have hii := Hi.out; have hij := Hlt.out; have hll := HX.out; have hjj := Hj.out; have hw := w64 (x := i - 1) (by omega) (by omega); simp only [intOf]; simp; try rw [hw]; omega
    · obtain rfl : i = -1 := by omega
      have he : listN l xs = s := by rw [HS.out]; rfl
      have HE := Aside0.mk he
      clear h0 h1 hlt he
      go_wp2
      go_ret
      rw [HE.out]
      exact ⟨rfl, HI.out⟩

theorem top_own {w w4 w7 : World} {g gr : Nat} {A : Option Addr} {c : Nat} {l : List S34} {u : Value} (ho : Kd.R k34 34 w7 w4.heap.size (fun k => w4.heap.size ≤ k ∧ k ≠ g) (.slice A l.length c) l) (hs : w.heap.size ≤ w4.heap.size) (hg : gr < w4.heap.size) : Kd.R k34 34 (w7.setCell ⟨gr, 0, none⟩ u) w.heap.size (fun _ => True) (.slice A l.length c) l :=
  Kd.R_lower (Kd.R_mono (Kd.R_far (p := ⟨gr, 0, none⟩) ho (fun k hk e => by have e' : k = gr := e; have := hk.1; omega) _) (fun _ _ => trivial)) hs

theorem copyS_f {l : List S34} (h : l.length ≤ 1048576) : spec_l03Copy.f l = some l := by
  unfold spec_l03Copy.f
  simp only [Option.bind_some, List.length_nil, List.nil_append]
  rw [if_pos (by omega)]
theorem ArS.made {w4 w5 w6 : World} {g : Nat} {A : Option Addr} {c : Nat} {l : List S34} (ho : Kd.R k34 34 w5 w4.heap.size (fun _ => True) (.slice A l.length c) l) (h45 : w4.heap.size ≤ w5.heap.size) (hg : g = w5.heap.size) (h6 : Below w5.heap.size w5 w6)
    (hbk : w6.heap[g]? = some (.cells #[.slice none 0 0] 26 (0, 0))) (hl : l.length ≤ 1048576) : ArS (w6.setCell ⟨g, 0, none⟩ (.slice A l.length c)) w4.heap.size g (fun k => w4.heap.size ≤ k ∧ k ≠ g) l := by
  have hlt : g < w6.heap.size := blk_lt hbk
  refine ⟨⟨_, blk_put hbk 0 _ rfl, by omega, fun h => h.2 rfl, ?_⟩, fun k hk => ?_, hl⟩
  · exact Kd.R_far (p := ⟨g, 0, none⟩) (Kd.R_below (Kd.R_mono (Kd.R_bound ho) (fun k hk => ⟨hk.2.1, by have := hk.2.2.1; omega⟩)) h6) (fun k hk => hk.2) _
  · have hs : (w6.setCell ⟨g, 0, none⟩ (.slice A l.length c)).heap.size = w6.heap.size := by simp [World.setCell]
    rw [hs] at hk
    exact ⟨by have := h6.size; omega, by omega⟩
theorem top_below {w w4 w5 w6 w7 : World} {g : Nat} {u : Value} (h4 : Below w.heap.size w w4) (h5 : Below w4.heap.size w4 w5) (h6 : Below w5.heap.size w5 w6) (hg : g = w5.heap.size) (h7 : Below w4.heap.size (w6.setCell ⟨g, 0, none⟩ u) w7) : Below w.heap.size w w7 :=
  (below_set (below_step (below_step h4 h5) h6) (by rw [hg]; have := h4.size; have := h5.size; omega)).trans (h7.mono h4.size)
theorem top_blk {w6 w7 : World} {b : Nat} {g k : Nat} {u : Value} {o : Obj} (hb : w6.heap[k]? = some o) (hk : k < b) (hne : k ≠ g) (h7 : Below b (w6.setCell ⟨g, 0, none⟩ u) w7) : w7.heap[k]? = some o :=
  (h7.block k hk).trans ((Below.heap_setCell w6 ⟨g, 0, none⟩ u k hne).trans hb)
theorem top_copy {w w7 w8 : World} {gr : Nat} {A : Option Addr} {c : Nat} {l : List S34} {u : Value} (ho : Kd.R k34 34 w8 w7.heap.size (fun _ => True) (.slice A l.length c) l) (hs : w.heap.size ≤ w7.heap.size) (hg : gr < w7.heap.size) : Kd.R k34 34 (w8.setCell ⟨gr, 0, none⟩ u) w.heap.size (fun _ => True) (.slice A l.length c) l :=
  Kd.R_lower (Kd.R_mono (Kd.R_far (p := ⟨gr, 0, none⟩) (Kd.R_mono (Kd.R_bound ho) (fun k hk => (show w7.heap.size ≤ k from hk.2.1))) (fun k hk e => by have e' : k = gr := e; omega) _) (fun _ _ => trivial)) hs

theorem spec_list' {l : List S34} {A1 : Option Addr} {c1 : Nat} {xs : List Int} {w w0 : World} {base g : Nat} {ok : Nat → Prop} {s : List S34 × Int} (h : ArS w base g ok l) (hr1 : Kd.C (Kd.int .i64) w0 A1 xs.length xs) (hc1 : xs.length ≤ c1) (h0 : Below w0.heap.size w0 w) (hb0 : w0.heap.size ≤ base) (hx : xs.length ≤ 9223372036854775807) (hs : listN l xs = s) :
    Calls Try.prog 91 #[.pointer (some ⟨g, 0, none⟩), .slice A1 xs.length c1] w (ArPost w base g ok s) := hs ▸ spec_list l A1 c1 xs w w0 base g ok h hr1 hc1 h0 hb0 hx
end Hand
open Hand in
def spec_List.f (l0_0 : List S34) (l1 : List Int) : Option (List S34 × Int) := if l0_0.length ≤ 1048576 then (if (listN l0_0 l1).2 < 0 then some (l0_0, -1) else some (listN l0_0 l1)) else none
open Hand in
set_option maxHeartbeats 8000000 in
set_option maxRecDepth 100000 in
theorem spec_List.calls (A0_0 : Option Addr) (c0_0 : Nat) (l0_0 : List (S34)) (A1 : Option Addr) (c1 : Nat) (l1 : List Int) (r1 : List (S34)) (r2 : Int) (w : World) (hr0_0 : Kd.C k34 w A0_0 l0_0.length l0_0) (hc0_0 : l0_0.length ≤ c0_0) (hr1 : Kd.C (Kd.int .i64) w A1 l1.length l1) (hc1 : l1.length ≤ c1) (h : spec_List.f l0_0 l1 = some (r1, r2)) :
    Calls Try.prog 33 #[.agg #[.slice A0_0 l0_0.length c0_0], .slice A1 l1.length c1] w fun e w' => ∃ v0_ : Value, e = .returned (.tuple #[.agg #[v0_], .int .i64 r2]) ∧ Kd.R k34 34 w' w.heap.size (fun _ => True) v0_ r1 ∧ Below w.heap.size w w' := by
  have hu26 := Try.underlying26
  unfold spec_List.f at h
  by_cases hl : l0_0.length ≤ 1048576
  · rw [if_pos hl] at h
    have HCF := Aside0.mk (copyS_f hl)
    have HL := Aside0.mk hl
    have HR0 := Aside0.mk hr0_0
    have HC0 := Aside0.mk hc0_0
    have HX := Aside0.mk (show l1.length ≤ 9223372036854775807 from hr1.2.1)
    have HR1 := Aside0.mk hr1
    have HC1 := Aside0.mk hc1
    clear hr1 hc1
    clear hl hr0_0 hc0_0
    obtain ⟨s, hs⟩ : ∃ s, listN l0_0 l1 = s := ⟨_, rfl⟩
    rw [hs] at h
    have HS := Aside0.mk hs
    clear hs
    by_cases hk : s.2 < 0
    · rw [if_pos hk] at h
      have hkd : decide (s.2 < 0) = true := decide_eq_true hk
      simp only [Option.some.injEq, Prod.mk.injEq] at h
      obtain ⟨rfl, rfl⟩ := h
      clear hk
      go_enter Try.func33, Try.ntmps33
      go_wp2_with (first
        | ((with_reducible refine gate_dst (N := 2) rfl ?_); refine box_event ?hg (N := 2) ?hd (cs := #[.slice A0_0 l0_0.length c0_0]) (t := 26) ?hr ?_; (case hd => rfl); (case hg => rfl); (case hr => first | (go_simp; done) | (go_simp; rfl)); intro ga hg1 w3 hbox hb; have BKa := Aside0.mk hbox; have HB3 := Aside0.mk hb; have GA := Aside0.mk hg1; clear hg1 hbox hb)
        | ((with_reducible refine gate_dst (N := 4) rfl ?_); refine box_event ?hg (N := 4) ?hd (cs := #[.slice none 0 0]) (t := 26) ?hr ?_; (case hd => rfl); (case hg => rfl); (case hr => first | (go_simp; done) | (go_simp; rfl)); intro gr hg1 w4 hbox hb; have BKr := Aside0.mk hbox; have HB4 := Aside0.mk hb; have GR := Aside0.mk hg1; clear hg1 hbox hb; have HBw4 := Aside0.mk (below_step HB3.out HB4.out); have BKa4 := Aside0.mk (blk_below BKa.out HB4.out); have hca4 : w4.cell? ⟨ga, 0, none⟩ = some (.slice A0_0 l0_0.length c0_0) := (blk_cell BKa4.out 0).trans rfl)
        | (go_at_call 90; ((with_reducible refine (spec_l03Copy.calls A0_0 c0_0 l0_0 l0_0 _ (Kd.C_below HR0.out HBw4.out) HC0.out HCF.out).mono ?_); rintro e w5 ⟨v0, rfl, ho, hb⟩); have HO5 := Aside0.mk ho; have HB5 := Aside0.mk hb; obtain ⟨Ao, co, rfl, hlo, _⟩ := Kd.R_reads ho; clear ho hb hlo)
        | ((with_reducible refine gate_dst (N := 6) rfl ?_); refine box_event ?hg (N := 6) ?hd (cs := #[.slice none 0 0]) (t := 26) ?hr ?_; (case hd => rfl); (case hg => rfl); (case hr => first | (go_simp; done) | (go_simp; rfl)); intro g hg1 w6 hbox hb; have BK6 := Aside0.mk hbox; have HB6 := Aside0.mk hb; have GB6 := Aside0.mk hg1; clear hg1 hbox hb; have hcg6 : w6.cell? ⟨g, 0, none⟩ = some (.slice none 0 0) := (blk_cell BK6.out 0).trans rfl; have hfg6 := blk_frozen BK6.out 0; have HA6 := Aside0.mk (ArS.made HO5.out HB5.out.size GB6.out HB6.out BK6.out HL.out))
        | (go_at_call 91; ((with_reducible refine (spec_list' HA6.out HR1.out HC1.out (below_set (below_step (below_step HBw4.out HB5.out) HB6.out) (by rw [GB6.out]; exact Nat.le_trans HBw4.out.size HB5.out.size)) HBw4.out.size HX.out HS.out).mono ?_); rintro e w7 hp); have HP7 := Aside0.mk hp; obtain ⟨rfl, _, _⟩ := hp; obtain ⟨v7, hv7, _, _, hr7⟩ := HP7.out.2.1.1; obtain ⟨A7, c7, rfl, hl7, _⟩ := Kd.R_reads hr7; have HR7 := Aside0.mk hr7; have HG7 := Aside0.mk hv7; have HB7 := Aside0.mk (top_below HBw4.out HB5.out HB6.out GB6.out HP7.out.2.2.1); have BKr7 := Aside0.mk (top_blk (blk_below (blk_below BKr.out HB5.out) HB6.out) (blk_lt BKr.out) (by rw [GB6.out]; exact Nat.ne_of_lt (Nat.lt_of_lt_of_le (blk_lt BKr.out) HB5.out.size)) HP7.out.2.2.1); have BKa7 := Aside0.mk (top_blk (blk_below (blk_below BKa4.out HB5.out) HB6.out) (blk_lt BKa4.out) (by rw [GB6.out]; exact Nat.ne_of_lt (Nat.lt_of_lt_of_le (blk_lt BKa4.out) HB5.out.size)) HP7.out.2.2.1); clear hr7 hv7 hl7; have hcg7 : w7.cell? ⟨g, 0, none⟩ = some (.slice A7 s.1.length c7) := (blk_cell HG7.out 0).trans rfl; have hcr7 : w7.cell? ⟨gr, 0, none⟩ = some (.slice none 0 0) := (blk_cell BKr7.out 0).trans rfl; have hfr7 := blk_frozen BKr7.out 0; have hca7 : w7.cell? ⟨ga, 0, none⟩ = some (.slice A0_0 l0_0.length c0_0) := (blk_cell BKa7.out 0).trans rfl))
      go_wp2_with (go_at_call 90; ((with_reducible refine (spec_l03Copy.calls A0_0 c0_0 l0_0 l0_0 _ (Kd.C_below HR0.out HB7.out) HC0.out HCF.out).mono ?_); rintro e w8 ⟨v8, rfl, ho, hb⟩); have HO8 := Aside0.mk ho; have HB8 := Aside0.mk hb; obtain ⟨A8, c8, rfl, hlo, _⟩ := Kd.R_reads ho; clear ho hb hlo; have BKr8 := Aside0.mk (blk_below BKr7.out HB8.out); have hcr8 : w8.cell? ⟨gr, 0, none⟩ = some (.slice none 0 0) := (blk_cell BKr8.out 0).trans rfl; have hfr8 := blk_frozen BKr8.out 0)
      refine bodyPost_ret (results_ct rfl _ _ gr 26 #[.slice A8 l0_0.length c8] (0, 0) _ rfl (blk_put BKr8.out 0 _ rfl) Try.underlying26 rfl (by kernel_rfl)) rfl ?_
      exact ⟨_, rfl, top_copy HO8.out HB7.out.size (blk_lt BKr7.out), below_set (below_step HB7.out HB8.out) (by rw [GR.out]; exact HB3.out.size)⟩
    · rw [if_neg hk] at h
      have hkd : decide (s.2 < 0) = false := decide_eq_false hk
      obtain rfl := Option.some.inj h
      clear hk h
      go_enter Try.func33, Try.ntmps33
      go_wp2_with (first
        | ((with_reducible refine gate_dst (N := 2) rfl ?_); refine box_event ?hg (N := 2) ?hd (cs := #[.slice A0_0 l0_0.length c0_0]) (t := 26) ?hr ?_; (case hd => rfl); (case hg => rfl); (case hr => first | (go_simp; done) | (go_simp; rfl)); intro ga hg1 w3 hbox hb; have BKa := Aside0.mk hbox; have HB3 := Aside0.mk hb; have GA := Aside0.mk hg1; clear hg1 hbox hb)
        | ((with_reducible refine gate_dst (N := 4) rfl ?_); refine box_event ?hg (N := 4) ?hd (cs := #[.slice none 0 0]) (t := 26) ?hr ?_; (case hd => rfl); (case hg => rfl); (case hr => first | (go_simp; done) | (go_simp; rfl)); intro gr hg1 w4 hbox hb; have BKr := Aside0.mk hbox; have HB4 := Aside0.mk hb; have GR := Aside0.mk hg1; clear hg1 hbox hb; have HBw4 := Aside0.mk (below_step HB3.out HB4.out); have BKa4 := Aside0.mk (blk_below BKa.out HB4.out); have hca4 : w4.cell? ⟨ga, 0, none⟩ = some (.slice A0_0 l0_0.length c0_0) := (blk_cell BKa4.out 0).trans rfl)
        | (go_at_call 90; ((with_reducible refine (spec_l03Copy.calls A0_0 c0_0 l0_0 l0_0 _ (Kd.C_below HR0.out HBw4.out) HC0.out HCF.out).mono ?_); rintro e w5 ⟨v0, rfl, ho, hb⟩); have HO5 := Aside0.mk ho; have HB5 := Aside0.mk hb; obtain ⟨Ao, co, rfl, hlo, _⟩ := Kd.R_reads ho; clear ho hb hlo)
        | ((with_reducible refine gate_dst (N := 6) rfl ?_); refine box_event ?hg (N := 6) ?hd (cs := #[.slice none 0 0]) (t := 26) ?hr ?_; (case hd => rfl); (case hg => rfl); (case hr => first | (go_simp; done) | (go_simp; rfl)); intro g hg1 w6 hbox hb; have BK6 := Aside0.mk hbox; have HB6 := Aside0.mk hb; have GB6 := Aside0.mk hg1; clear hg1 hbox hb; have hcg6 : w6.cell? ⟨g, 0, none⟩ = some (.slice none 0 0) := (blk_cell BK6.out 0).trans rfl; have hfg6 := blk_frozen BK6.out 0; have HA6 := Aside0.mk (ArS.made HO5.out HB5.out.size GB6.out HB6.out BK6.out HL.out))
        | (go_at_call 91; ((with_reducible refine (spec_list' HA6.out HR1.out HC1.out (below_set (below_step (below_step HBw4.out HB5.out) HB6.out) (by rw [GB6.out]; exact Nat.le_trans HBw4.out.size HB5.out.size)) HBw4.out.size HX.out HS.out).mono ?_); rintro e w7 hp); have HP7 := Aside0.mk hp; obtain ⟨rfl, _, _⟩ := hp; obtain ⟨v7, hv7, _, _, hr7⟩ := HP7.out.2.1.1; obtain ⟨A7, c7, rfl, hl7, _⟩ := Kd.R_reads hr7; have HR7 := Aside0.mk hr7; have HG7 := Aside0.mk hv7; have HB7 := Aside0.mk (top_below HBw4.out HB5.out HB6.out GB6.out HP7.out.2.2.1); have BKr7 := Aside0.mk (top_blk (blk_below (blk_below BKr.out HB5.out) HB6.out) (blk_lt BKr.out) (by rw [GB6.out]; exact Nat.ne_of_lt (Nat.lt_of_lt_of_le (blk_lt BKr.out) HB5.out.size)) HP7.out.2.2.1); have BKa7 := Aside0.mk (top_blk (blk_below (blk_below BKa4.out HB5.out) HB6.out) (blk_lt BKa4.out) (by rw [GB6.out]; exact Nat.ne_of_lt (Nat.lt_of_lt_of_le (blk_lt BKa4.out) HB5.out.size)) HP7.out.2.2.1); clear hr7 hv7 hl7; have hcg7 : w7.cell? ⟨g, 0, none⟩ = some (.slice A7 r1.length c7) := (blk_cell HG7.out 0).trans rfl; have hcr7 : w7.cell? ⟨gr, 0, none⟩ = some (.slice none 0 0) := (blk_cell BKr7.out 0).trans rfl; have hfr7 := blk_frozen BKr7.out 0; have hca7 : w7.cell? ⟨ga, 0, none⟩ = some (.slice A0_0 l0_0.length c0_0) := (blk_cell BKa7.out 0).trans rfl))
      refine bodyPost_ret (results_ct rfl _ _ gr 26 #[.slice A7 r1.length c7] (0, 0) _ rfl (blk_put BKr7.out 0 _ rfl) Try.underlying26 rfl (by kernel_rfl)) rfl ?_
      exact ⟨_, rfl, top_own HR7.out HBw4.out.size (blk_lt BKr.out), below_set HB7.out (by rw [GR.out]; exact HB3.out.size)⟩
  · rw [if_neg hl] at h
    cases h
namespace Hand

end Hand

/-! ### laws_toIntS: function 34 -/
def laws_toIntS.l0 : Nat → List Int → List Int → Int → Option (List Int)
  | 0, _, _, _ => none
  | k + 1, x0, x3, x4 => if x4 < (x0.length : Int) then (if 0 ≤ x4 then (if x4 < (x3.length : Int) then (laws_toIntS.l0 k x0 (x3.set (x4 : Int).toNat (rd x0 x4)) (wrap64 (x4 + 1))) else (none)) else (none)) else (some x3)
def laws_toIntS.f (k : Nat) (l0 : List Int) : Option (List Int) := if 0 ≤ (l0.length : Int) then (if ((l0.length : Int) : Int).toNat ≤ 35184372088832 then (laws_toIntS.l0 k l0 (List.replicate ((l0.length : Int) : Int).toNat 0) 0) else (none)) else (none)
theorem laws_toIntS.mono_l : ∀ k, (∀ y0 y1 y2, LeO (laws_toIntS.l0 k y0 y1 y2) (laws_toIntS.l0 (k + 1) y0 y1 y2))
  | 0 => fun _ _ _ r h => by simp [laws_toIntS.l0] at h
  | k + 1 => by
    have ih0 := laws_toIntS.mono_l k
    · intro y0 y1 y2
      unfold laws_toIntS.l0
      repeat' first
      | (with_reducible exact ih0 _ _ _)
      | (with_reducible exact LeO.refl _)
      | (with_reducible exact LeO.none _)
      | (with_reducible refine LeO.ite ?_ ?_)
      | (with_reducible refine LeO.bind ?_ (fun _ => ?_))
      | exact ih0 _ _ _
      | exact LeO.none _
      | refine LeO.ite ?_ ?_
      | refine LeO.bind ?_ (fun _ => ?_)
theorem laws_toIntS.mono : ∀ a0 k, LeO (laws_toIntS.f k a0) (laws_toIntS.f (k + 1) a0) := by
  intro a0 k
  have ih0 := laws_toIntS.mono_l k
  unfold laws_toIntS.f
  repeat' first
      | (with_reducible exact ih0 _ _ _)
      | (with_reducible exact LeO.refl _)
      | (with_reducible exact LeO.none _)
      | (with_reducible refine LeO.ite ?_ ?_)
      | (with_reducible refine LeO.bind ?_ (fun _ => ?_))
      | exact ih0 _ _ _
      | exact LeO.none _
      | refine LeO.ite ?_ ?_
      | refine LeO.bind ?_ (fun _ => ?_)
set_option maxHeartbeats 8000000 in
set_option maxRecDepth 100000 in
theorem laws_toIntS.calls (k : Nat) (A0 : Option Addr) (c0 : Nat) (l0 : List Int) (r : List Int) (w : World) (hr0 : Kd.C (Kd.int .i64) w A0 l0.length l0) (hc0 : l0.length ≤ c0) (h : laws_toIntS.f k l0 = some r) :
    Calls Try.prog 34 #[.slice A0 l0.length c0] w fun e w' => ∃ v0_ : Value, e = .returned (v0_) ∧ Kd.R (Kd.int .i64) 3 w' w.heap.size (fun _ => True) v0_ r ∧ Below w.heap.size w w' := by
  have HR0 := Aside0.mk hr0
  have HC0 := Aside0.mk hc0
  clear hr0 hc0
  have HB := Aside0.mk (Below.refl w.heap.size w)
  have H : (if 0 ≤ (l0.length : Int) then (if ((l0.length : Int) : Int).toNat ≤ 35184372088832 then (laws_toIntS.l0 k l0 (List.replicate ((l0.length : Int) : Int).toNat 0) 0) else (none)) else (none)) = some r := h
  clear h
  by_cases c2 : 0 ≤ (l0.length : Int)
  · rw [if_pos c2] at H
    have c2b0 := eq_true c2
    have c2b1 : decide (0 ≤ (l0.length : Int)) = true := decide_eq_true c2
    clear c2
    by_cases c3 : ((l0.length : Int) : Int).toNat ≤ 35184372088832
    · rw [if_pos c3] at H
      have c3b0 := eq_true c3
      have c3b1 : decide (((l0.length : Int) : Int).toNat ≤ 35184372088832) = true := decide_eq_true c3
      clear c3
      obtain ⟨y154, hy154⟩ : ∃ y_ : List Int, y_ = (List.replicate ((l0.length : Int) : Int).toNat 0) := ⟨_, rfl⟩
      replace H : (laws_toIntS.l0 k l0 y154 0) = some r := by first | (rw [hy154]; with_reducible exact H) | (have H2_ := (Option.bind_some _ _).symm.trans H; rw [hy154]; with_reducible exact H2_) | (have H2_ := (Option.bind_some _ _).symm.trans H; with_reducible exact H2_) | with_reducible exact H | (rw [hy154]; exact H) | exact H
      have Ny154 := Aside0.mk hy154
      clear hy154
      have H' := Aside0.mk H
      clear H
      go_enter Try.func34, Try.ntmps34
      go_wp2_with (first | ((with_reducible refine gate_dst (N := 7) rfl ?_); refine Kd.R_make (Kd.int .i64) _ 3 rfl (N := 7) rfl 27 _ _ rfl (l0.length : Int) rfl rfl Try.underlying27 (.int .i64 0) 8 info3 rfl (by decide) (by omega) 0 (ok := fun _ => True) (okp := fun _ => True) rfl (fun _ hk => hk) trivial (of_decide_eq_true (by first | (with_reducible assumption) | assumption)) (Nat.le_trans (Nat.mul_le_mul_right _ (of_decide_eq_true (by first | (with_reducible assumption) | assumption) : (l0.length : Int).toNat ≤ 35184372088832)) (by omega)) (Below.refl _ _) (Nat.le_refl _) ?_; intro v155 w4 ho5 hb hg_ hnew_; clear hg_ hnew_; (first | rw [← Ny154.out] at ho5 | (simp only [Int.reduceToNat] at ho5; rw [← Ny154.out] at ho5)); have n0_ := Aside0.mk (Kd.R_lower ho5 (below_size (by repeat (first | (with_reducible first | exact HB.out | apply below_alloc | apply pw_below_drewN | apply below_drew1) | exact HB.out)))); have n1_ := Aside0.mk (below_step (by repeat (first | (with_reducible first | exact HB.out | apply below_alloc | apply pw_below_drewN | apply below_drew1) | exact HB.out)) hb); clear HB; have HO156 := n0_; have HB := n1_; clear n0_ n1_; clear hb ho5))
      go_loopg [4] k (fun kq v4 w' => ∃ (x3_1 : List Int) (x4_1 : Int), v4 = .int .i64 x4_1 ∧ Aside0 (laws_toIntS.l0 kq l0 x3_1 x4_1 = some r) ∧ Aside0 (kq ≤ k) ∧ Aside0 (Kd.R (Kd.int .i64) 3 w' w.heap.size (fun _ => True) v155 x3_1) ∧ Aside0 (Below w.heap.size w w'))
      case atStart => exact ⟨(y154), (0), (by first | rfl | (simp; done) | (simp [*]; done)), H', ⟨Nat.le_refl _⟩, ⟨by (with_reducible repeat (first | apply Kd.R_alloc | apply Kd.R_drewN | apply Kd.R_drew)); exact HO156.out⟩, ⟨by repeat (first | (with_reducible first | exact HB.out | apply below_alloc | apply pw_below_drewN | apply below_drew1) | exact HB.out)⟩⟩
      case round =>
        clear H'
        try clear c2
        try clear c2b0
        try clear c2b1
        try clear p2
        try clear c3
        try clear c3b0
        try clear c3b1
        obtain ⟨x3_1, x4_1, rfl, HA, HK1, HO_3, HB⟩ := hrel
        cases gk with
        | zero => exact absurd HA.out (by simp [laws_toIntS.l0])
        | succ k1 =>
          have H := HA.out
          clear HA
          simp only [laws_toIntS.l0] at H
          by_cases c6 : x4_1 < (l0.length : Int)
          · rw [if_pos c6] at H
            have c6b0 : decide (x4_1 < (l0.length : Int)) = true := decide_eq_true c6
            clear c6
            by_cases c7 : 0 ≤ x4_1
            · rw [if_pos c7] at H
              have c7b0 : decide (0 ≤ x4_1) = true := decide_eq_true c7
              clear c7
              by_cases c8 : x4_1 < (x3_1.length : Int)
              · rw [if_pos c8] at H
                have c8b0 : decide (x4_1 < (x3_1.length : Int)) = true := decide_eq_true c8
                clear c8
                obtain ⟨y158, hy158⟩ : ∃ y_ : List Int, y_ = (x3_1.set (x4_1 : Int).toNat (rd l0 x4_1)) := ⟨_, rfl⟩
                replace H : (laws_toIntS.l0 k1 l0 y158 (wrap64 (x4_1 + 1))) = some r := by first | (rw [hy158]; with_reducible exact H) | (have H2_ := (Option.bind_some _ _).symm.trans H; rw [hy158]; with_reducible exact H2_) | (have H2_ := (Option.bind_some _ _).symm.trans H; with_reducible exact H2_) | with_reducible exact H | (rw [hy158]; exact H) | exact H
                have Ny158 := Aside0.mk hy158
                clear hy158
                have H' := Aside0.mk H
                clear H
                have p157 : 0 ≤ (x4_1 : Int) := of_decide_eq_true (by first | (with_reducible assumption) | assumption)
                have q157 : x4_1 < (l0.length : Int) := of_decide_eq_true (by first | (with_reducible assumption) | assumption)
                obtain ⟨ad157, e157, hx157_0⟩ := Kd.at_int HR0.out x4_1 p157 q157
                cases e157
                replace hx157_0 := (HB.out.cell (World.block_lt_of_cell? w _ hx157_0)).trans hx157_0
                replace p157 := eq_true p157
                replace q157 := eq_true q157
                have p9 : 0 ≤ (x4_1 : Int) := of_decide_eq_true (by first | (with_reducible assumption) | assumption)
                have q9 : (x4_1 : Int) < ((x3_1.length : Int) : Int) := of_decide_eq_true (by first | (with_reducible assumption) | assumption)
                obtain ⟨go9, co9, eo9, gb9, gl9, cl9, HG9⟩ := Kd.R_form HO_3.out (by omega)
                (first | cases eo9 | (injection eo9 with ea_ en_ ec_; (first | subst ea_ | (injection ea_ with ea_; subst ea_)); subst ec_; clear en_))
                have GB9 := Aside0.mk gb9
                have GG9 := Aside0.mk HG9
                clear gb9 gl9 HG9
                obtain ⟨hx9_0, hf9_0⟩ := Kd.R_celln 0 HO_3.out (x4_1 : Int) p9 q9
                replace p9 := eq_true p9
                replace q9 := eq_true q9
                have HP10 := Kd.R_putg HO_3.out (x4_1 : Int) (rd l0 x4_1)
                go_wp2_with (first | ((with_reducible refine gate_store (t := 3) (p := 20) rfl ?_); refine store_event (t := 3) (p := 20) (v := ?vo_w11) (w1 := (wr.setCell ⟨go9, (x4_1 : Int).toNat, none⟩ (.int .i64 (rd l0 x4_1)))) ?hg ?ho ?hn ?hr ?_; (case ho => rfl); (case hg => rfl); (case hn => rfl); (case hr => first | (go_simp; done) | (go_simp; rfl)); intro w11 hw; have hg : wr.grownBy w11 (some go9) := (by rw [hw]; exact HP10.2); have hp_ : Kd.R (Kd.int .i64) 3 w11 w.heap.size (fun _ => True) (.slice (some ⟨go9, 0, none⟩) x3_1.length co9) y158 := (by rw [hw, Ny158.out]; exact HP10.1); clear HP10; have n0_ := Aside0.mk (hp_); have n1_ := Aside0.mk ((by rw [hw]; exact below_set (HB.out) GB9.out : Below w.heap.size w w11)); clear HO_3; clear HB; have HO_3 := n0_; have HB := n1_; clear n0_ n1_; clear hg hw hp_))
                go_roundg k1
                case measure => have := HK1.out; omega
                case rel => exact ⟨(y158), (wrap64 (x4_1 + 1)), (by first | rfl | (simp; done) | (simp [*]; done)), H', ⟨by have := HK1.out; omega⟩, ⟨by (with_reducible repeat (first | apply Kd.R_alloc | apply Kd.R_drewN | apply Kd.R_drew)); exact HO_3.out⟩, ⟨by repeat (first | (with_reducible first | exact HB.out | apply below_alloc | apply pw_below_drewN | apply below_drew1) | exact HB.out)⟩⟩
              · rw [if_neg c8] at H
                exact absurd H (by simp)
            · rw [if_neg c7] at H
              exact absurd H (by simp)
          · rw [if_neg c6] at H
            have c6b0 : decide (x4_1 < (l0.length : Int)) = false := decide_eq_false c6
            clear c6
            obtain rfl := Option.some.inj H
            go_wp2
            go_ret
            exact ⟨_, by first | rfl | (simp [errW_none, errW_some] <;> rfl) | (simp [*, errW_none, errW_some] <;> rfl), by (with_reducible repeat (first | apply Kd.R_alloc | apply Kd.R_drewN | apply Kd.R_drew)); exact HO_3.out, by repeat (first | (with_reducible first | exact HB.out | apply below_alloc | apply pw_below_drewN | apply below_drew1) | exact HB.out)⟩
    · rw [if_neg c3] at H
      exact absurd H (by simp)
  · rw [if_neg c2] at H
    exact absurd H (by simp)

/-! ### impl_copyArena: function 103 -/
def impl_copyArena.f (l0_0 : List (S34)) : Option ((List (S34))) := (some (([] : List (S34)) : List (S34))).bind fun y161 => (if y161.length + l0_0.length < 4398046511104 then (some (y161 ++ l0_0)) else (none))
set_option maxHeartbeats 8000000 in
set_option maxRecDepth 100000 in
theorem impl_copyArena.calls (A0_0 : Option Addr) (c0_0 : Nat) (l0_0 : List (S34)) (r : List (S34)) (w : World) (hr0_0 : Kd.C k34 w A0_0 l0_0.length l0_0) (hc0_0 : l0_0.length ≤ c0_0) (h : impl_copyArena.f l0_0 = some r) :
    Calls Try.prog 103 #[.agg #[.slice A0_0 l0_0.length c0_0]] w fun e w' => ∃ v0_ : Value, e = .returned (.agg #[v0_]) ∧ Kd.R k34 34 w' w.heap.size (fun _ => True) v0_ r ∧ Below w.heap.size w w' := by
  have hu26 := Try.underlying26
  have HR0_0 := Aside0.mk hr0_0
  have HC0_0 := Aside0.mk hc0_0
  clear hr0_0 hc0_0
  have HB := Aside0.mk (Below.refl w.heap.size w)
  have H : ((some (([] : List (S34)) : List (S34))).bind fun y161 => (if y161.length + l0_0.length < 4398046511104 then (some (y161 ++ l0_0)) else (none))) = some r := h
  clear h
  obtain ⟨y161, hy161⟩ : ∃ y_ : List (S34), y_ = (([] : List (S34))) := ⟨_, rfl⟩
  replace H : (if y161.length + l0_0.length < 4398046511104 then (some (y161 ++ l0_0)) else (none)) = some r := by first | (rw [hy161]; with_reducible exact H) | (have H2_ := (Option.bind_some _ _).symm.trans H; rw [hy161]; with_reducible exact H2_) | (have H2_ := (Option.bind_some _ _).symm.trans H; with_reducible exact H2_) | with_reducible exact H | (rw [hy161]; exact H) | exact H
  have Ny161 := Aside0.mk hy161
  clear hy161
  by_cases c2 : y161.length + l0_0.length < 4398046511104
  · rw [if_pos c2] at H
    have LMc2 := Aside0.mk c2
    clear c2
    obtain ⟨y164, hy164⟩ : ∃ y_ : List (S34), y_ = (y161 ++ l0_0) := ⟨_, rfl⟩
    replace H : (some y164) = some r := by first | (rw [hy164]; with_reducible exact H) | (have H2_ := (Option.bind_some _ _).symm.trans H; rw [hy164]; with_reducible exact H2_) | (have H2_ := (Option.bind_some _ _).symm.trans H; with_reducible exact H2_) | with_reducible exact H | (rw [hy164]; exact H) | exact H
    have Ny164 := Aside0.mk hy164
    clear hy164
    obtain rfl := Option.some.inj H
    go_enter Try.func103, Try.ntmps103
    go_wp2_with (first | ((with_reducible refine gate_dst (N := 1) rfl ?_); refine box_event ?hg (N := 1) ?hd (cs := #[.slice A0_0 l0_0.length c0_0]) (t := 26) ?hr ?_; (case hd => rfl); (case hg => rfl); (case hr => first | (go_simp; done) | (go_simp; rfl)); intro gb159 hg w3 hbox hb; have n0_ := Aside0.mk (below_step (by repeat (first | (with_reducible first | exact HB.out | apply below_alloc | apply pw_below_drewN | apply below_drew1) | exact HB.out)) hb); have n1_ := Aside0.mk (hbox); have n2_ := Aside0.mk ((by rw [hg]; exact (below_size (by repeat (first | (with_reducible first | exact HB.out | apply below_alloc | apply pw_below_drewN | apply below_drew1) | exact HB.out))) : w.heap.size ≤ gb159)); have n3_ := Aside0.mk ((by rw [hg]; exact (below_size (by repeat (first | (with_reducible first | exact HB.out | apply below_alloc | apply pw_below_drewN | apply below_drew1) | exact HB.out))) : w.heap.size ≤ gb159)); clear HB; have HB := n0_; have BK159 := n1_; have GW159 := n2_; have GE159 := n3_; clear n0_ n1_ n2_ n3_; clear hb hbox hg) | ((with_reducible refine gate_dst (N := 2) rfl ?_); refine box_event ?hg (N := 2) ?hd (cs := #[.slice none 0 0]) (t := 26) ?hr ?_; (case hd => rfl); (case hg => rfl); (case hr => first | (go_simp; done) | (go_simp; rfl)); intro gb160 hg w4 hbox hb; have n0_ := Aside0.mk (blk_below (g := gb159) (o := .cells #[.slice A0_0 l0_0.length c0_0] 26 (0, 0)) (by (with_reducible repeat (first | refine blk_drewN ?_ _ | refine blk_drew ?_ | refine blk_alloc ?_ _)); exact BK159.out) hb); have n1_ := Aside0.mk (below_step (by repeat (first | (with_reducible first | exact HB.out | apply below_alloc | apply pw_below_drewN | apply below_drew1 | refine below_set ?_ GE159.out) | exact HB.out)) hb); have n2_ := Aside0.mk (hbox); have n3_ := Aside0.mk ((by rw [hg]; exact (below_size (by repeat (first | (with_reducible first | exact HB.out | apply below_alloc | apply pw_below_drewN | apply below_drew1 | refine below_set ?_ GE159.out) | exact HB.out))) : w.heap.size ≤ gb160)); have n4_ := Aside0.mk ((by rw [hg]; exact (below_size (by repeat (first | (with_reducible first | exact HB.out | apply below_alloc | apply pw_below_drewN | apply below_drew1 | refine below_set ?_ GE159.out) | exact HB.out))) : w.heap.size ≤ gb160)); have n5_ := Aside0.mk ((by rw [hg]; exact Nat.ne_of_lt (blk_lt (g := gb159) (o := .cells #[.slice A0_0 l0_0.length c0_0] 26 (0, 0)) (by (with_reducible repeat (first | refine blk_drewN ?_ _ | refine blk_drew ?_ | refine blk_alloc ?_ _)); exact BK159.out)) : gb159 ≠ gb160)); have n6_ := Aside0.mk ((by rw [hg]; exact Nat.ne_of_gt (blk_lt (g := gb159) (o := .cells #[.slice A0_0 l0_0.length c0_0] 26 (0, 0)) (by (with_reducible repeat (first | refine blk_drewN ?_ _ | refine blk_drew ?_ | refine blk_alloc ?_ _)); exact BK159.out)) : gb160 ≠ gb159)); clear BK159; clear HB; have BK159 := n0_; have HB := n1_; have BK160 := n2_; have GW160 := n3_; have GE160 := n4_; have NB159_160 := n5_; have NB160_159 := n6_; clear n0_ n1_ n2_ n3_ n4_ n5_ n6_; clear hb hbox hg) | ((with_reducible refine gate_dst (N := 3) rfl ?_); refine Kd.R_lit k34 _ 34 ?hg (N := 3) ?hd (xs := ([] : List (S34))) (inner := []) (ok := fun _ => True) (okp := fun _ => True) ?hr ?hp (fun _ hk => hk) trivial (Below.refl _ _) (Nat.le_refl _) (by simp) ?_; (case hd => rfl); (case hg => rfl); (case hr => first | (go_simp; done) | (go_simp; rfl)); (case hp => exact (Reps.none _ _)); intro v162 w5 ho6 hb hg_ hnew_; clear hg_ hnew_; (first | rw [← Ny161.out] at ho6 | (simp only [Int.reduceToNat] at ho6; rw [← Ny161.out] at ho6)); have n0_ := Aside0.mk (Kd.R_lower ho6 (below_size (by repeat (first | (with_reducible first | exact HB.out | apply below_alloc | apply pw_below_drewN | apply below_drew1 | refine below_set ?_ GE159.out | refine below_set ?_ GE160.out) | exact HB.out)))); have n1_ := Aside0.mk (blk_below (g := gb159) (o := .cells #[.slice A0_0 l0_0.length c0_0] 26 (0, 0)) (by (with_reducible repeat (first | refine blk_drewN ?_ _ | refine blk_drew ?_ | refine blk_alloc ?_ _)); exact BK159.out) hb); have n2_ := Aside0.mk (blk_below (g := gb160) (o := .cells #[.slice none 0 0] 26 (0, 0)) (by (with_reducible repeat (first | refine blk_drewN ?_ _ | refine blk_drew ?_ | refine blk_alloc ?_ _)); exact BK160.out) hb); have n3_ := Aside0.mk (below_step (by repeat (first | (with_reducible first | exact HB.out | apply below_alloc | apply pw_below_drewN | apply below_drew1 | refine below_set ?_ GE159.out | refine below_set ?_ GE160.out) | exact HB.out)) hb); clear BK159; clear BK160; clear HB; have HO163 := n0_; have BK159 := n1_; have BK160 := n2_; have HB := n3_; clear n0_ n1_ n2_ n3_; clear hb ho6; have hnb7 := NB159_160.out; have hnc7 := NB160_159.out; have hcz8_0 : w5.cell? ⟨gb159, 0, none⟩ = some (.slice A0_0 l0_0.length c0_0) := (blk_cell BK159.out 0).trans rfl; have hfz8_0 := blk_frozen BK159.out 0) | ((with_reducible refine gate_builtin (b := .append) (xs := #[.tmp 3, .tmp 5]) rfl ?_); at_builtin; refine Kd.R_append_rows k34 (w0 := w) w.heap.size rfl (.tmp 3) (.tmp 5) 24 34 (.agg #[(.int .i64 0), (.int .i64 0), (.int .i64 0), (.int .i64 0)]) 32 rfl Try.underlying24 info34 rfl (by decide) (by omega) v162 y161 l0_0 _ _ _ (fun _ => True) (fun _ => False) rfl rfl ?aO ?aR (fun _ _ h => h) (fun _ h => h.elim) ?aF ?aB ?aS ?aL ?_; (case aR => repeat (first | exact (Kd.C_below HR0_0.out HB.out) | (with_reducible refine Kd.C_alloc ?_ _) | (with_reducible refine Kd.C_drewN ?_ _) | (with_reducible refine Kd.C_drew ?_))); (case aB => exact (by repeat (first | (with_reducible first | exact HB.out | apply below_alloc | apply pw_below_drewN | apply below_drew1 | refine below_set ?_ GE159.out | refine below_set ?_ GE160.out) | exact HB.out))); (case aF => exact (fun _ _ => trivial)); (case aO => exact (by (with_reducible repeat (first | apply Kd.R_alloc | apply Kd.R_drewN | apply Kd.R_drew)); exact HO163.out)); (case aS => exact (below_size (by repeat (first | (with_reducible first | exact HB.out | apply below_alloc | apply pw_below_drewN | apply below_drew1 | refine below_set ?_ GE159.out | refine below_set ?_ GE160.out) | exact HB.out)))); (case aL => have := LMc2.out; omega); intro v165 w9 ho hb hg hat; rw [← Ny164.out] at ho; have n0_ := Aside0.mk (blk_grown (g := gb159) (o := .cells #[.slice A0_0 l0_0.length c0_0] 26 (0, 0)) (by (with_reducible repeat (first | refine blk_drewN ?_ _ | refine blk_drew ?_ | refine blk_alloc ?_ _)); exact BK159.out) hg (Kd.R_ne HO163.out BK159.out (by decide))); have n1_ := Aside0.mk (blk_grown (g := gb160) (o := .cells #[.slice none 0 0] 26 (0, 0)) (by (with_reducible repeat (first | refine blk_drewN ?_ _ | refine blk_drew ?_ | refine blk_alloc ?_ _)); exact BK160.out) hg (Kd.R_ne HO163.out BK160.out (by decide))); have n2_ := Aside0.mk (hb); have n3_ := Aside0.mk (ho); clear BK159; clear BK160; clear HB; clear HO163; have BK159 := n0_; have BK160 := n1_; have HB := n2_; have HO166 := n3_; clear n0_ n1_ n2_ n3_; clear ho hb hg hat; obtain ⟨Ao10, co10, eo10⟩ := Kd.R_slice HO166.out; subst eo10; have hcz11_0 : w9.cell? ⟨gb160, 0, none⟩ = some (.slice none 0 0) := (blk_cell BK160.out 0).trans rfl; have hfz11_0 := blk_frozen BK160.out 0))
    refine bodyPost_ret (results_cell_row rfl _ _ gb160 26 #[.slice Ao10 y164.length co10] (0, 0) _ rfl (by (with_reducible repeat (first | refine blk_drewN ?_ _ | refine blk_drew ?_ | refine blk_alloc ?_ _)); refine blk_put (cs := #[.slice none 0 0]) ?_ 0 _ rfl; (with_reducible repeat (first | refine blk_drewN ?_ _ | refine blk_drew ?_ | refine blk_alloc ?_ _)); exact BK160.out) Try.underlying26 rfl (by kernel_rfl)) rfl ?_
    exact ⟨_, by first | rfl | (simp [errW_none, errW_some] <;> rfl) | (simp [*, errW_none, errW_some] <;> rfl), by (with_reducible repeat (first | apply Kd.R_alloc | apply Kd.R_drewN | apply Kd.R_drew)); exact Kd.R_mono (Kd.R_far (p := ⟨gb160, 0, none⟩) (Kd.R_types HO166.out BK160.out (by decide)) (fun _ hk => hk.2) (.slice Ao10 y164.length co10)) (fun _ hk => trivial), by repeat (first | (with_reducible first | exact HB.out | apply below_alloc | apply pw_below_drewN | apply below_drew1 | refine below_set ?_ GE159.out | refine below_set ?_ GE160.out) | exact HB.out)⟩
  · rw [if_neg c2] at H
    exact absurd H (by simp)

-- NOT PRINTED: function 92 (impl_benchOf)

/-! ### impl_within: function 75 -/
def impl_within.f (a0 : Int) (a1 : Int) (a2 : Int) : Option (Bool) := if a0 ≥ a1 then (some (decide (a0 ≤ a2))) else (some false)
set_option maxHeartbeats 8000000 in
set_option maxRecDepth 100000 in
theorem impl_within.calls (a0 : Int) (a1 : Int) (a2 : Int) (r : Bool) (w : World) (h : impl_within.f a0 a1 a2 = some r) :
    Calls Try.prog 75 #[.int .i64 a0, .int .i64 a1, .int .i64 a2] w fun e w' => e = .returned (.bool r) ∧ Drawn0 w w' := by
  have H : (if a0 ≥ a1 then (some (decide (a0 ≤ a2))) else (some false)) = some r := h
  clear h
  by_cases c4 : a0 ≥ a1
  · rw [if_pos c4] at H
    have c4b0 : decide (a1 ≤ a0) = true := decide_eq_true c4
    clear c4
    obtain rfl := Option.some.inj H
    go_enter Try.func75, Try.ntmps75
    go_wp2
    go_ret
    exact ⟨by first | rfl | (simp; done) | (simp [*]; done), by repeat (first | exact Drawn0.refl _ | apply Drawn0.step)⟩
  · rw [if_neg c4] at H
    have c4b0 : decide (a1 ≤ a0) = false := decide_eq_false c4
    clear c4
    obtain rfl := Option.some.inj H
    go_enter Try.func75, Try.ntmps75
    go_wp2
    go_ret
    exact ⟨by first | rfl | (simp; done) | (simp [*]; done), by repeat (first | exact Drawn0.refl _ | apply Drawn0.step)⟩

end Go.Proofs.Ytkckdibalopagaa.SFnExactList
