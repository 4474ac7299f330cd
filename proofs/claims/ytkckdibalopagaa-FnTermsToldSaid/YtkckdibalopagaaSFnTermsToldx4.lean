-- Began as a print of the kit over stubs (wip/stub.py); the sections that are named OWN are this session's.
import Derived.Test.YtkckdibalopagaaSFnTermsToldx0
import Derived.Test.YtkckdibalopagaaSFnTermsToldx3
import Derived.Test.YtkckdibalopagaaRBase
import Derived.Test.YtkckdibalopagaaRMapOnce
import Derived.RegionTactic
import Derived.BigRegion
import Derived.Carry
import Derived.DeepKeys4
import Derived.Test.YtkckdibalopagaaRShort
namespace Go.Proofs.Ytkckdibalopagaa.SFnTermsTold
open Go.RowKit Go.Proofs.YtkckdibalopagaaW.PrintWords Go.Proofs.YtkckdibalopagaaW.PrintLast Go.Proofs.YtkckdibalopagaaW.PrintMore Go.Proofs.Ytkckdibalopagaa.Short
attribute [local go_sem] max2_int min2_int max_two min_two max_three min_three max_four min_four   -- for this text's walks alone
set_option linter.unusedVariables false
set_option linter.unusedSimpArgs false

/-! ### impl_nodeRight: function 84 -/
def impl_nodeRight.j0 : Nat → Int → Bool → Int → Int → Int → Int → Option (Bool)
  | 0, _, _, _, _, _, _ => none
  | k + 1, x1, x22, x115000, x115001, x115002, x115003 => if x22 = true then (if x115001 = 0 then ((impl_within.f x115002 0 (wrap64 (x1 - 1))).bind fun t116 => (if t116 = true then (some (x115003 == 0)) else (some false))) else (some false)) else ((impl_within.f x115000 2 9).bind fun t117 => (if t117 = true then (if x115001 = 0 then ((impl_within.f x115002 0 (wrap64 (x1 - 1))).bind fun t118 => (if t118 = true then ((impl_within.f x115003 0 (wrap64 (x1 - 1))).bind fun t119 => (some t119)) else (some false))) else (some false)) else (some false)))
def impl_nodeRight.f (k : Nat) (a0_0 : Int) (a0_1 : Int) (a0_2 : Int) (a0_3 : Int) (a1 : Int) : Option (Bool) := if a0_0 = 1 then ((impl_within.f a0_1 0 999999).bind fun t115 => (if t115 = true then (if a0_2 = 0 then (some (a0_3 == 0)) else (some false)) else (some false))) else (if a0_0 = 3 then (impl_nodeRight.j0 k a1 (a0_0 == 3) a0_0 a0_1 a0_2 a0_3) else (impl_nodeRight.j0 k a1 (a0_0 == 6) a0_0 a0_1 a0_2 a0_3))
set_option maxHeartbeats 8000000 in
set_option maxRecDepth 100000 in
theorem impl_nodeRight.calls (k : Nat) (a0_0 : Int) (a0_1 : Int) (a0_2 : Int) (a0_3 : Int) (a1 : Int) (r : Bool) (w : World) (h : impl_nodeRight.f k a0_0 a0_1 a0_2 a0_3 a1 = some r) :
  Calls Try.prog 84 #[.agg #[.int .i64 a0_0, .int .i64 a0_1, .int .i64 a0_2, .int .i64 a0_3], .int .i64 a1] w fun e w' => e = .returned (.bool r) ∧ Below w.heap.size w w' := by
 have hu34 := Try.underlying34
 have HB := Aside0.mk (Below.refl w.heap.size w)
 have H : (if a0_0 = 1 then ((impl_within.f a0_1 0 999999).bind fun t115 => (if t115 = true then (if a0_2 = 0 then (some (a0_3 == 0)) else (some false)) else (some false))) else (if a0_0 = 3 then (impl_nodeRight.j0 k a1 (a0_0 == 3) a0_0 a0_1 a0_2 a0_3) else (impl_nodeRight.j0 k a1 (a0_0 == 6) a0_0 a0_1 a0_2 a0_3))) = some r := h
 clear h
 by_cases c3 : a0_0 = 1
 ·rw [if_pos c3] at H
  have c3b0 : (a0_0 == 1) = true := beq_iff_eq.mpr c3
  have c3b1 : (a0_0 != 1) = false := bne_eq_false_iff_eq.mpr c3
  clear c3
  replace H := Option.bind_eq_some_iff.mp H
  obtain ⟨t115, A40, H⟩ := H
  replace H : (if t115 = true then (if a0_2 = 0 then (some (a0_3 == 0)) else (some false)) else (some false)) = some r := H
  have A4 := Aside0.mk A40
  clear A40
  by_cases c5 : t115 = true
  ·subst c5
   have H1 : (if a0_2 = 0 then (some (a0_3 == 0)) else (some false)) = some r := by rw [if_pos rfl] at H; exact H
   clear H
   have H := H1
   clear H1
   by_cases c6 : a0_2 = 0
   ·rw [if_pos c6] at H
    have c6b0 : (a0_2 == 0) = true := beq_iff_eq.mpr c6
    have c6b1 : (a0_2 != 0) = false := bne_eq_false_iff_eq.mpr c6
    clear c6
    obtain rfl := Option.some.inj H
    go_enter Try.func84, Try.ntmps84
    go_wp2_with (first | ((with_reducible refine gate_dst (N := 2) rfl ?_); refine box_event ?hg (N := 2) ?hd (cs := #[.int .i64 a0_0, .int .i64 a0_1, .int .i64 a0_2, .int .i64 a0_3]) (t := 34) ?hr ?_; (case hd => rfl); (case hg => rfl); (case hr => first | (go_simp; done) | (go_simp; rfl)); intro gb114 hg w7 hbox hb; have n0_ := Aside0.mk (below_step (bw HB.out) hb); have n1_ := Aside0.mk (hbox); have n2_ := Aside0.mk ((by rw [hg]; exact (below_size (bw HB.out)) : w.heap.size ≤ gb114)); have n3_ := Aside0.mk ((by rw [hg]; exact (below_size (bw HB.out)) : w.heap.size ≤ gb114)); clear HB; have HB := n0_; have BK114 := n1_; have GW114 := n2_; have GE114 := n3_; clear n0_ n1_ n2_ n3_ hb hbox hg; have hcz8_0 : w7.cell? ⟨gb114, 0, none⟩ = some (.int .i64 a0_0) := (blk_cell BK114.out 0).trans rfl; have hcz8_1 : w7.cell? ⟨gb114, 1, none⟩ = some (.int .i64 a0_1) := (blk_cell BK114.out 1).trans rfl; have hcz8_2 : w7.cell? ⟨gb114, 2, none⟩ = some (.int .i64 a0_2) := (blk_cell BK114.out 2).trans rfl; have hcz8_3 : w7.cell? ⟨gb114, 3, none⟩ = some (.int .i64 a0_3) := (blk_cell BK114.out 3).trans rfl; have hfz8_0 := blk_frozen BK114.out 0; have hfz8_1 := blk_frozen BK114.out 1; have hfz8_2 := blk_frozen BK114.out 2; have hfz8_3 := blk_frozen BK114.out 3) | ((with_reducible refine gate_callee (f := 75) rfl ?_); refine goesL_ (some 11) rfl rfl Try.func75 (by kernel_rfl) rfl #[.int .i64 a0_1, .int .i64 0, .int .i64 999999] rfl ar ?_; (with_reducible refine (impl_within.calls a0_1 0 999999 true _ A4.out).mono ?_); rintro e w' ⟨rfl, ⟨nd, rfl⟩⟩; refine ⟨_, rfl, ?_⟩))
    go_ret
    exact ⟨by first | rfl | (simp [errW_none, errW_some] <;> rfl) | (simp [*, errW_none, errW_some] <;> rfl), bw HB.out⟩
   ·rw [if_neg c6] at H
    have c6b0 : (a0_2 == 0) = false := beq_eq_false_iff_ne.mpr c6
    have c6b1 : (a0_2 != 0) = true := bne_iff_ne.mpr c6
    obtain rfl := Option.some.inj H
    go_enter Try.func84, Try.ntmps84
    go_wp2_with (first | ((with_reducible refine gate_dst (N := 2) rfl ?_); refine box_event ?hg (N := 2) ?hd (cs := #[.int .i64 a0_0, .int .i64 a0_1, .int .i64 a0_2, .int .i64 a0_3]) (t := 34) ?hr ?_; (case hd => rfl); (case hg => rfl); (case hr => first | (go_simp; done) | (go_simp; rfl)); intro gb114 hg w9 hbox hb; have n0_ := Aside0.mk (below_step (bw HB.out) hb); have n1_ := Aside0.mk (hbox); have n2_ := Aside0.mk ((by rw [hg]; exact (below_size (bw HB.out)) : w.heap.size ≤ gb114)); have n3_ := Aside0.mk ((by rw [hg]; exact (below_size (bw HB.out)) : w.heap.size ≤ gb114)); clear HB; have HB := n0_; have BK114 := n1_; have GW114 := n2_; have GE114 := n3_; clear n0_ n1_ n2_ n3_ hb hbox hg; have hcz10_0 : w9.cell? ⟨gb114, 0, none⟩ = some (.int .i64 a0_0) := (blk_cell BK114.out 0).trans rfl; have hcz10_1 : w9.cell? ⟨gb114, 1, none⟩ = some (.int .i64 a0_1) := (blk_cell BK114.out 1).trans rfl; have hcz10_2 : w9.cell? ⟨gb114, 2, none⟩ = some (.int .i64 a0_2) := (blk_cell BK114.out 2).trans rfl; have hcz10_3 : w9.cell? ⟨gb114, 3, none⟩ = some (.int .i64 a0_3) := (blk_cell BK114.out 3).trans rfl; have hfz10_0 := blk_frozen BK114.out 0; have hfz10_1 := blk_frozen BK114.out 1; have hfz10_2 := blk_frozen BK114.out 2; have hfz10_3 := blk_frozen BK114.out 3) | ((with_reducible refine gate_callee (f := 75) rfl ?_); refine goesL_ (some 11) rfl rfl Try.func75 (by kernel_rfl) rfl #[.int .i64 a0_1, .int .i64 0, .int .i64 999999] rfl ar ?_; (with_reducible refine (impl_within.calls a0_1 0 999999 true _ A4.out).mono ?_); rintro e w' ⟨rfl, ⟨nd, rfl⟩⟩; refine ⟨_, rfl, ?_⟩))
    go_ret
    exact ⟨by first | rfl | (simp [errW_none, errW_some] <;> rfl) | (simp [*, errW_none, errW_some] <;> rfl), bw HB.out⟩
  ·replace c5 := Bool.eq_false_iff.mpr c5
   subst c5
   have H1 : (some false) = some r := by rw [if_neg (show ¬ (false = true) by decide)] at H; exact H
   clear H
   have H := H1
   clear H1
   obtain rfl := Option.some.inj H
   go_enter Try.func84, Try.ntmps84
   go_wp2_with (first | ((with_reducible refine gate_dst (N := 2) rfl ?_); refine box_event ?hg (N := 2) ?hd (cs := #[.int .i64 a0_0, .int .i64 a0_1, .int .i64 a0_2, .int .i64 a0_3]) (t := 34) ?hr ?_; (case hd => rfl); (case hg => rfl); (case hr => first | (go_simp; done) | (go_simp; rfl)); intro gb114 hg w11 hbox hb; have n0_ := Aside0.mk (below_step (bw HB.out) hb); have n1_ := Aside0.mk (hbox); have n2_ := Aside0.mk ((by rw [hg]; exact (below_size (bw HB.out)) : w.heap.size ≤ gb114)); have n3_ := Aside0.mk ((by rw [hg]; exact (below_size (bw HB.out)) : w.heap.size ≤ gb114)); clear HB; have HB := n0_; have BK114 := n1_; have GW114 := n2_; have GE114 := n3_; clear n0_ n1_ n2_ n3_ hb hbox hg; have hcz12_0 : w11.cell? ⟨gb114, 0, none⟩ = some (.int .i64 a0_0) := (blk_cell BK114.out 0).trans rfl; have hcz12_1 : w11.cell? ⟨gb114, 1, none⟩ = some (.int .i64 a0_1) := (blk_cell BK114.out 1).trans rfl; have hcz12_2 : w11.cell? ⟨gb114, 2, none⟩ = some (.int .i64 a0_2) := (blk_cell BK114.out 2).trans rfl; have hcz12_3 : w11.cell? ⟨gb114, 3, none⟩ = some (.int .i64 a0_3) := (blk_cell BK114.out 3).trans rfl; have hfz12_0 := blk_frozen BK114.out 0; have hfz12_1 := blk_frozen BK114.out 1; have hfz12_2 := blk_frozen BK114.out 2; have hfz12_3 := blk_frozen BK114.out 3) | ((with_reducible refine gate_callee (f := 75) rfl ?_); refine goesL_ (some 11) rfl rfl Try.func75 (by kernel_rfl) rfl #[.int .i64 a0_1, .int .i64 0, .int .i64 999999] rfl ar ?_; (with_reducible refine (impl_within.calls a0_1 0 999999 false _ A4.out).mono ?_); rintro e w' ⟨rfl, ⟨nd, rfl⟩⟩; refine ⟨_, rfl, ?_⟩))
   go_ret
   exact ⟨by first | rfl | (simp [errW_none, errW_some] <;> rfl) | (simp [*, errW_none, errW_some] <;> rfl), bw HB.out⟩
 ·rw [if_neg c3] at H
  have c3b0 : (a0_0 == 1) = false := beq_eq_false_iff_ne.mpr c3
  have c3b1 : (a0_0 != 1) = true := bne_iff_ne.mpr c3
  have HC13 := Aside0.mk H
  clear H
  go_enter Try.func84, Try.ntmps84
  go_upto_if 22 with (first | ((with_reducible refine gate_dst (N := 2) rfl ?_); refine box_event ?hg (N := 2) ?hd (cs := #[.int .i64 a0_0, .int .i64 a0_1, .int .i64 a0_2, .int .i64 a0_3]) (t := 34) ?hr ?_; (case hd => rfl); (case hg => rfl); (case hr => first | (go_simp; done) | (go_simp; rfl)); intro gb114 hg w14 hbox hb; have n0_ := Aside0.mk (below_step (bw HB.out) hb); have n1_ := Aside0.mk (hbox); have n2_ := Aside0.mk ((by rw [hg]; exact (below_size (bw HB.out)) : w.heap.size ≤ gb114)); have n3_ := Aside0.mk ((by rw [hg]; exact (below_size (bw HB.out)) : w.heap.size ≤ gb114)); clear HB; have HB := n0_; have BK114 := n1_; have GW114 := n2_; have GE114 := n3_; clear n0_ n1_ n2_ n3_ hb hbox hg; have hcz15_0 : w14.cell? ⟨gb114, 0, none⟩ = some (.int .i64 a0_0) := (blk_cell BK114.out 0).trans rfl; have hcz15_1 : w14.cell? ⟨gb114, 1, none⟩ = some (.int .i64 a0_1) := (blk_cell BK114.out 1).trans rfl; have hcz15_2 : w14.cell? ⟨gb114, 2, none⟩ = some (.int .i64 a0_2) := (blk_cell BK114.out 2).trans rfl; have hcz15_3 : w14.cell? ⟨gb114, 3, none⟩ = some (.int .i64 a0_3) := (blk_cell BK114.out 3).trans rfl; have hfz15_0 := blk_frozen BK114.out 0; have hfz15_1 := blk_frozen BK114.out 1; have hfz15_2 := blk_frozen BK114.out 2; have hfz15_3 := blk_frozen BK114.out 3))
  (try simp only [Act.put, List.setIfInBounds_toArray, List.set_cons_zero, List.set_cons_succ])
  go_cut [22] (fun v22 wc => ∃ (kq : Nat) (x22_12 : Bool), v22 = .bool x22_12 ∧ Aside0 (impl_nodeRight.j0 kq a1 x22_12 a0_0 a0_1 a0_2 a0_3 = some r) ∧ Aside0 (kq ≤ k) ∧ Aside0 (wc.heap[gb114]? = some (.cells #[.int .i64 a0_0, .int .i64 a0_1, .int .i64 a0_2, .int .i64 a0_3] 34 (0, 0))) ∧ Aside0 (Below w.heap.size w wc))
  case first =>
   have H := HC13.out
   clear HC13
   by_cases c16 : a0_0 = 3
   ·rw [if_pos c16] at H
    have c16b0 : (a0_0 == 3) = true := beq_iff_eq.mpr c16
    have c16b1 : (a0_0 != 3) = false := bne_eq_false_iff_eq.mpr c16
    clear c16
    (first | rw [c16b0] | (simp only [i64_w, i32_w]; rw [c16b0]) | skip)
    have H' := Aside0.mk H
    clear H
    go_wp2
    go_meet
    case rel => exact ⟨_, ((a0_0 == 3)), (by first | rfl | (simp; done) | (simp [*]; done)), H', ⟨by first | omega | exact Nat.le_refl _⟩, ⟨bl BK114.out⟩, ⟨bw HB.out⟩⟩
   ·rw [if_neg c16] at H
    have c16b0 : (a0_0 == 3) = false := beq_eq_false_iff_ne.mpr c16
    have c16b1 : (a0_0 != 3) = true := bne_iff_ne.mpr c16
    (first | rw [c16b0] | (simp only [i64_w, i32_w]; rw [c16b0]) | skip)
    have H' := Aside0.mk H
    clear H
    go_wp2
    go_meet
    case rel => exact ⟨_, ((a0_0 == 6)), (by first | rfl | (simp; done) | (simp [*]; done)), H', ⟨by first | omega | exact Nat.le_refl _⟩, ⟨bl BK114.out⟩, ⟨bw HB.out⟩⟩
  case rest =>
   clear HC13
   try clear c1
   try clear p2
   try clear c3
   try clear c3b0
   try clear c3b1
   try clear c5
   try clear c6
   try clear c6b0
   try clear c6b1
   try clear c7
   try clear c8
   try clear c16
   try clear c16b0
   try clear c16b1
   try clear hcz10_0
   try clear hcz10_1
   try clear hcz10_2
   try clear hcz10_3
   try clear hcz12_0
   try clear hcz12_1
   try clear hcz12_2
   try clear hcz12_3
   try clear hcz15_0
   try clear hcz15_1
   try clear hcz15_2
   try clear hcz15_3
   try clear hcz8_0
   try clear hcz8_1
   try clear hcz8_2
   try clear hcz8_3
   try clear hfz10_0
   try clear hfz10_1
   try clear hfz10_2
   try clear hfz10_3
   try clear hfz12_0
   try clear hfz12_1
   try clear hfz12_2
   try clear hfz12_3
   try clear hfz15_0
   try clear hfz15_1
   try clear hfz15_2
   try clear hfz15_3
   try clear hfz8_0
   try clear hfz8_1
   try clear hfz8_2
   try clear hfz8_3
   obtain ⟨kq, x22_12, rfl, HA, HJ12, BK114, HB⟩ := hcut
   cases kq with
   | zero => exact absurd HA.out (by simp [impl_nodeRight.j0])
   | succ kj12 =>
    have H := HA.out
    clear HA
    simp only [impl_nodeRight.j0] at H
    by_cases c17 : x22_12 = true
    ·subst c17
     have H1 : (if a0_1 = 0 then ((impl_within.f a0_2 0 (wrap64 (a1 - 1))).bind fun t116 => (if t116 = true then (some (a0_3 == 0)) else (some false))) else (some false)) = some r := by rw [if_pos rfl] at H; exact H
     clear H
     have H := H1
     clear H1
     by_cases c18 : a0_1 = 0
     ·rw [if_pos c18] at H
      have c18b0 : (a0_1 == 0) = true := beq_iff_eq.mpr c18
      have c18b1 : (a0_1 != 0) = false := bne_eq_false_iff_eq.mpr c18
      clear c18
      replace H := Option.bind_eq_some_iff.mp H
      obtain ⟨t116, A190, H⟩ := H
      replace H : (if t116 = true then (some (a0_3 == 0)) else (some false)) = some r := H
      have A19 := Aside0.mk A190
      clear A190
      by_cases c20 : t116 = true
      ·subst c20
       have H1 : (some (a0_3 == 0)) = some r := by rw [if_pos rfl] at H; exact H
       clear H
       have H := H1
       clear H1
       obtain rfl := Option.some.inj H
       have hcz21_0 : wc.cell? ⟨gb114, 0, none⟩ = some (.int .i64 a0_0) := (blk_cell BK114.out 0).trans rfl
       have hcz21_1 : wc.cell? ⟨gb114, 1, none⟩ = some (.int .i64 a0_1) := (blk_cell BK114.out 1).trans rfl
       have hcz21_2 : wc.cell? ⟨gb114, 2, none⟩ = some (.int .i64 a0_2) := (blk_cell BK114.out 2).trans rfl
       have hcz21_3 : wc.cell? ⟨gb114, 3, none⟩ = some (.int .i64 a0_3) := (blk_cell BK114.out 3).trans rfl
       have hfz21_0 := blk_frozen BK114.out 0
       have hfz21_1 := blk_frozen BK114.out 1
       have hfz21_2 := blk_frozen BK114.out 2
       have hfz21_3 := blk_frozen BK114.out 3
       go_wp2_with (first | (go_at_call 75; (with_reducible refine (impl_within.calls a0_2 0 (wrap64 (a1 - 1)) true _ A19.out).mono ?_); rintro e w' ⟨rfl, ⟨nd, rfl⟩⟩))
       go_ret
       exact ⟨by first | rfl | (simp [errW_none, errW_some] <;> rfl) | (simp [*, errW_none, errW_some] <;> rfl), bw HB.out⟩
      ·replace c20 := Bool.eq_false_iff.mpr c20
       subst c20
       have H1 : (some false) = some r := by rw [if_neg (show ¬ (false = true) by decide)] at H; exact H
       clear H
       have H := H1
       clear H1
       obtain rfl := Option.some.inj H
       have hcz22_0 : wc.cell? ⟨gb114, 0, none⟩ = some (.int .i64 a0_0) := (blk_cell BK114.out 0).trans rfl
       have hcz22_1 : wc.cell? ⟨gb114, 1, none⟩ = some (.int .i64 a0_1) := (blk_cell BK114.out 1).trans rfl
       have hcz22_2 : wc.cell? ⟨gb114, 2, none⟩ = some (.int .i64 a0_2) := (blk_cell BK114.out 2).trans rfl
       have hcz22_3 : wc.cell? ⟨gb114, 3, none⟩ = some (.int .i64 a0_3) := (blk_cell BK114.out 3).trans rfl
       have hfz22_0 := blk_frozen BK114.out 0
       have hfz22_1 := blk_frozen BK114.out 1
       have hfz22_2 := blk_frozen BK114.out 2
       have hfz22_3 := blk_frozen BK114.out 3
       go_wp2_with (first | (go_at_call 75; (with_reducible refine (impl_within.calls a0_2 0 (wrap64 (a1 - 1)) false _ A19.out).mono ?_); rintro e w' ⟨rfl, ⟨nd, rfl⟩⟩))
       go_ret
       exact ⟨by first | rfl | (simp [errW_none, errW_some] <;> rfl) | (simp [*, errW_none, errW_some] <;> rfl), bw HB.out⟩
     ·rw [if_neg c18] at H
      have c18b0 : (a0_1 == 0) = false := beq_eq_false_iff_ne.mpr c18
      have c18b1 : (a0_1 != 0) = true := bne_iff_ne.mpr c18
      obtain rfl := Option.some.inj H
      have hcz23_0 : wc.cell? ⟨gb114, 0, none⟩ = some (.int .i64 a0_0) := (blk_cell BK114.out 0).trans rfl
      have hcz23_1 : wc.cell? ⟨gb114, 1, none⟩ = some (.int .i64 a0_1) := (blk_cell BK114.out 1).trans rfl
      have hcz23_2 : wc.cell? ⟨gb114, 2, none⟩ = some (.int .i64 a0_2) := (blk_cell BK114.out 2).trans rfl
      have hcz23_3 : wc.cell? ⟨gb114, 3, none⟩ = some (.int .i64 a0_3) := (blk_cell BK114.out 3).trans rfl
      have hfz23_0 := blk_frozen BK114.out 0
      have hfz23_1 := blk_frozen BK114.out 1
      have hfz23_2 := blk_frozen BK114.out 2
      have hfz23_3 := blk_frozen BK114.out 3
      go_wp2
      go_ret
      exact ⟨by first | rfl | (simp [errW_none, errW_some] <;> rfl) | (simp [*, errW_none, errW_some] <;> rfl), bw HB.out⟩
    ·replace c17 := Bool.eq_false_iff.mpr c17
     subst c17
     have H1 : ((impl_within.f a0_0 2 9).bind fun t117 => (if t117 = true then (if a0_1 = 0 then ((impl_within.f a0_2 0 (wrap64 (a1 - 1))).bind fun t118 => (if t118 = true then ((impl_within.f a0_3 0 (wrap64 (a1 - 1))).bind fun t119 => (some t119)) else (some false))) else (some false)) else (some false))) = some r := by rw [if_neg (show ¬ (false = true) by decide)] at H; exact H
     clear H
     have H := H1
     clear H1
     replace H := Option.bind_eq_some_iff.mp H
     obtain ⟨t117, A240, H⟩ := H
     replace H : (if t117 = true then (if a0_1 = 0 then ((impl_within.f a0_2 0 (wrap64 (a1 - 1))).bind fun t118 => (if t118 = true then ((impl_within.f a0_3 0 (wrap64 (a1 - 1))).bind fun t119 => (some t119)) else (some false))) else (some false)) else (some false)) = some r := H
     have A24 := Aside0.mk A240
     clear A240
     by_cases c25 : t117 = true
     ·subst c25
      have H1 : (if a0_1 = 0 then ((impl_within.f a0_2 0 (wrap64 (a1 - 1))).bind fun t118 => (if t118 = true then ((impl_within.f a0_3 0 (wrap64 (a1 - 1))).bind fun t119 => (some t119)) else (some false))) else (some false)) = some r := by rw [if_pos rfl] at H; exact H
      clear H
      have H := H1
      clear H1
      by_cases c26 : a0_1 = 0
      ·rw [if_pos c26] at H
       have c26b0 : (a0_1 == 0) = true := beq_iff_eq.mpr c26
       have c26b1 : (a0_1 != 0) = false := bne_eq_false_iff_eq.mpr c26
       clear c26
       replace H := Option.bind_eq_some_iff.mp H
       obtain ⟨t118, A270, H⟩ := H
       replace H : (if t118 = true then ((impl_within.f a0_3 0 (wrap64 (a1 - 1))).bind fun t119 => (some t119)) else (some false)) = some r := H
       have A27 := Aside0.mk A270
       clear A270
       by_cases c28 : t118 = true
       ·subst c28
        have H1 : ((impl_within.f a0_3 0 (wrap64 (a1 - 1))).bind fun t119 => (some t119)) = some r := by rw [if_pos rfl] at H; exact H
        clear H
        have H := H1
        clear H1
        replace H := Option.bind_eq_some_iff.mp H
        obtain ⟨t119, A290, H⟩ := H
        replace H : (some t119) = some r := H
        have A29 := Aside0.mk A290
        clear A290
        obtain rfl := Option.some.inj H
        have hcz30_0 : wc.cell? ⟨gb114, 0, none⟩ = some (.int .i64 a0_0) := (blk_cell BK114.out 0).trans rfl
        have hcz30_1 : wc.cell? ⟨gb114, 1, none⟩ = some (.int .i64 a0_1) := (blk_cell BK114.out 1).trans rfl
        have hcz30_2 : wc.cell? ⟨gb114, 2, none⟩ = some (.int .i64 a0_2) := (blk_cell BK114.out 2).trans rfl
        have hcz30_3 : wc.cell? ⟨gb114, 3, none⟩ = some (.int .i64 a0_3) := (blk_cell BK114.out 3).trans rfl
        have hfz30_0 := blk_frozen BK114.out 0
        have hfz30_1 := blk_frozen BK114.out 1
        have hfz30_2 := blk_frozen BK114.out 2
        have hfz30_3 := blk_frozen BK114.out 3
        go_wp2_with (first | ((with_reducible refine gate_callee (f := 75) rfl ?_); refine goesL_ (some 42) rfl rfl Try.func75 (by kernel_rfl) rfl #[.int .i64 a0_0, .int .i64 2, .int .i64 9] rfl ar ?_; (with_reducible refine (impl_within.calls a0_0 2 9 true _ A24.out).mono ?_); rintro e w' ⟨rfl, ⟨nd, rfl⟩⟩; refine ⟨_, rfl, ?_⟩) | (go_at_call 75; (with_reducible refine (impl_within.calls a0_2 0 (wrap64 (a1 - 1)) true _ A27.out).mono ?_); rintro e w' ⟨rfl, ⟨nd, rfl⟩⟩) | (go_at_call 75; (with_reducible refine (impl_within.calls a0_3 0 (wrap64 (a1 - 1)) t119 _ A29.out).mono ?_); rintro e w' ⟨rfl, ⟨nd, rfl⟩⟩))
        go_ret
        exact ⟨by first | rfl | (simp [errW_none, errW_some] <;> rfl) | (simp [*, errW_none, errW_some] <;> rfl), bw HB.out⟩
       ·replace c28 := Bool.eq_false_iff.mpr c28
        subst c28
        have H1 : (some false) = some r := by rw [if_neg (show ¬ (false = true) by decide)] at H; exact H
        clear H
        have H := H1
        clear H1
        obtain rfl := Option.some.inj H
        have hcz31_0 : wc.cell? ⟨gb114, 0, none⟩ = some (.int .i64 a0_0) := (blk_cell BK114.out 0).trans rfl
        have hcz31_1 : wc.cell? ⟨gb114, 1, none⟩ = some (.int .i64 a0_1) := (blk_cell BK114.out 1).trans rfl
        have hcz31_2 : wc.cell? ⟨gb114, 2, none⟩ = some (.int .i64 a0_2) := (blk_cell BK114.out 2).trans rfl
        have hcz31_3 : wc.cell? ⟨gb114, 3, none⟩ = some (.int .i64 a0_3) := (blk_cell BK114.out 3).trans rfl
        have hfz31_0 := blk_frozen BK114.out 0
        have hfz31_1 := blk_frozen BK114.out 1
        have hfz31_2 := blk_frozen BK114.out 2
        have hfz31_3 := blk_frozen BK114.out 3
        go_wp2_with (first | ((with_reducible refine gate_callee (f := 75) rfl ?_); refine goesL_ (some 42) rfl rfl Try.func75 (by kernel_rfl) rfl #[.int .i64 a0_0, .int .i64 2, .int .i64 9] rfl ar ?_; (with_reducible refine (impl_within.calls a0_0 2 9 true _ A24.out).mono ?_); rintro e w' ⟨rfl, ⟨nd, rfl⟩⟩; refine ⟨_, rfl, ?_⟩) | (go_at_call 75; (with_reducible refine (impl_within.calls a0_2 0 (wrap64 (a1 - 1)) false _ A27.out).mono ?_); rintro e w' ⟨rfl, ⟨nd, rfl⟩⟩))
        go_ret
        exact ⟨by first | rfl | (simp [errW_none, errW_some] <;> rfl) | (simp [*, errW_none, errW_some] <;> rfl), bw HB.out⟩
      ·rw [if_neg c26] at H
       have c26b0 : (a0_1 == 0) = false := beq_eq_false_iff_ne.mpr c26
       have c26b1 : (a0_1 != 0) = true := bne_iff_ne.mpr c26
       obtain rfl := Option.some.inj H
       have hcz32_0 : wc.cell? ⟨gb114, 0, none⟩ = some (.int .i64 a0_0) := (blk_cell BK114.out 0).trans rfl
       have hcz32_1 : wc.cell? ⟨gb114, 1, none⟩ = some (.int .i64 a0_1) := (blk_cell BK114.out 1).trans rfl
       have hcz32_2 : wc.cell? ⟨gb114, 2, none⟩ = some (.int .i64 a0_2) := (blk_cell BK114.out 2).trans rfl
       have hcz32_3 : wc.cell? ⟨gb114, 3, none⟩ = some (.int .i64 a0_3) := (blk_cell BK114.out 3).trans rfl
       have hfz32_0 := blk_frozen BK114.out 0
       have hfz32_1 := blk_frozen BK114.out 1
       have hfz32_2 := blk_frozen BK114.out 2
       have hfz32_3 := blk_frozen BK114.out 3
       go_wp2_with (first | ((with_reducible refine gate_callee (f := 75) rfl ?_); refine goesL_ (some 42) rfl rfl Try.func75 (by kernel_rfl) rfl #[.int .i64 a0_0, .int .i64 2, .int .i64 9] rfl ar ?_; (with_reducible refine (impl_within.calls a0_0 2 9 true _ A24.out).mono ?_); rintro e w' ⟨rfl, ⟨nd, rfl⟩⟩; refine ⟨_, rfl, ?_⟩))
       go_ret
       exact ⟨by first | rfl | (simp [errW_none, errW_some] <;> rfl) | (simp [*, errW_none, errW_some] <;> rfl), bw HB.out⟩
     ·replace c25 := Bool.eq_false_iff.mpr c25
      subst c25
      have H1 : (some false) = some r := by rw [if_neg (show ¬ (false = true) by decide)] at H; exact H
      clear H
      have H := H1
      clear H1
      obtain rfl := Option.some.inj H
      have hcz33_0 : wc.cell? ⟨gb114, 0, none⟩ = some (.int .i64 a0_0) := (blk_cell BK114.out 0).trans rfl
      have hcz33_1 : wc.cell? ⟨gb114, 1, none⟩ = some (.int .i64 a0_1) := (blk_cell BK114.out 1).trans rfl
      have hcz33_2 : wc.cell? ⟨gb114, 2, none⟩ = some (.int .i64 a0_2) := (blk_cell BK114.out 2).trans rfl
      have hcz33_3 : wc.cell? ⟨gb114, 3, none⟩ = some (.int .i64 a0_3) := (blk_cell BK114.out 3).trans rfl
      have hfz33_0 := blk_frozen BK114.out 0
      have hfz33_1 := blk_frozen BK114.out 1
      have hfz33_2 := blk_frozen BK114.out 2
      have hfz33_3 := blk_frozen BK114.out 3
      go_wp2_with (first | ((with_reducible refine gate_callee (f := 75) rfl ?_); refine goesL_ (some 42) rfl rfl Try.func75 (by kernel_rfl) rfl #[.int .i64 a0_0, .int .i64 2, .int .i64 9] rfl ar ?_; (with_reducible refine (impl_within.calls a0_0 2 9 false _ A24.out).mono ?_); rintro e w' ⟨rfl, ⟨nd, rfl⟩⟩; refine ⟨_, rfl, ?_⟩))
      go_ret
      exact ⟨by first | rfl | (simp [errW_none, errW_some] <;> rfl) | (simp [*, errW_none, errW_some] <;> rfl), bw HB.out⟩

/-! ### impl_ArenaOk: OWN: function 27 -/
namespace Hand
open Go.WideMaps Go.Proofs.Ytkckdibalopagaa.Base
/-! a node's rightness -/
def nodeB (f0 f1 f2 f3 k : Int) : Bool :=
  if f0 = 1 then decide (0 ≤ f1) && decide (f1 ≤ 999999) && decide (f2 = 0) && decide (f3 = 0)
  else if f0 = 3 ∨ f0 = 6 then decide (f1 = 0) && (decide (0 ≤ f2) && decide (f2 ≤ k - 1)) && decide (f3 = 0)
  else (decide (2 ≤ f0) && decide (f0 ≤ 9)) && decide (f1 = 0) && (decide (0 ≤ f2) && decide (f2 ≤ k - 1)) && (decide (0 ≤ f3) && decide (f3 ≤ k - 1))
theorem beq_dec (x : Int) : (x == 0) = decide (x = 0) := by
 by_cases h : x = 0 <;> simp [h]

theorem impl_within_b (a b c : Int) : impl_within.f a b c = some (decide (b ≤ a) && decide (a ≤ c)) := by
 unfold impl_within.f
 by_cases h : a ≥ b
 ·rw [if_pos h]; simp [h]
 ·rw [if_neg h]
  have : ¬ b ≤ a := h
  simp [this]
theorem impl_nodeRight_j0 (f0 f1 f2 f3 k : Int) (hk : 0 ≤ k ∧ k ≤ 9223372036854775807) (c : Bool) : Ev (fun n => impl_nodeRight.j0 n k c f0 f1 f2 f3)
  (if c = true then decide (f1 = 0) && (decide (0 ≤ f2) && decide (f2 ≤ k - 1)) && decide (f3 = 0) else (decide (2 ≤ f0) && decide (f0 ≤ 9)) && decide (f1 = 0) && (decide (0 ≤ f2) && decide (f2 ≤ k - 1)) && (decide (0 ≤ f3) && decide (f3 ≤ k - 1))) := by
 have e : wrap64 (k - 1) = k - 1 := w64 (by omega) (by omega)
 refine ev_end (fun n => ?_)
 rw [impl_nodeRight.j0, e]
 simp only [impl_within_b, Option.bind_some, beq_dec]
 cases c with
 | true =>
  rw [if_pos rfl, if_pos rfl]
  by_cases h1 : f1 = 0
  ·rw [if_pos h1]
   by_cases h2 : (decide (0 ≤ f2) && decide (f2 ≤ k - 1)) = true
   ·rw [if_pos h2, h2]; simp [h1]
   ·rw [if_neg h2]; simp only [Bool.not_eq_true] at h2; rw [h2]; simp
  ·rw [if_neg h1]; simp [h1]
 | false =>
  rw [if_neg (show ¬ (false = true) by simp), if_neg (show ¬ (false = true) by simp)]
  by_cases h0 : (decide (2 ≤ f0) && decide (f0 ≤ 9)) = true
  ·rw [if_pos h0, h0]
   by_cases h1 : f1 = 0
   ·rw [if_pos h1]
    by_cases h2 : (decide (0 ≤ f2) && decide (f2 ≤ k - 1)) = true
    ·rw [if_pos h2, h2]; simp [h1]
    ·rw [if_neg h2]; simp only [Bool.not_eq_true] at h2; rw [h2]; simp
   ·rw [if_neg h1]; simp [h1]
  ·rw [if_neg h0]; simp only [Bool.not_eq_true] at h0; rw [h0]; simp
theorem impl_nodeRight_f (f0 f1 f2 f3 k : Int) (hk : 0 ≤ k ∧ k ≤ 9223372036854775807) : Ev (fun n => impl_nodeRight.f n f0 f1 f2 f3 k) (nodeB f0 f1 f2 f3 k) := by
 unfold nodeB
 by_cases h1 : f0 = 1
 ·refine ev_cast (evT h1 ?_) (if_pos h1).symm
  refine ev_some ?_
  simp only [impl_within_b, Option.bind_some, beq_dec]
  by_cases h2 : (decide (0 ≤ f1) && decide (f1 ≤ 999999)) = true
  ·rw [if_pos h2, h2]
   by_cases h3 : f2 = 0
   ·rw [if_pos h3]; simp [h3]
   ·rw [if_neg h3]; simp [h3]
  ·rw [if_neg h2]; simp only [Bool.not_eq_true] at h2; rw [h2]; simp
 ·refine ev_cast (evF h1 ?_) (if_neg h1).symm
  by_cases h3 : f0 = 3
  ·refine evT h3 (ev_cast (impl_nodeRight_j0 f0 f1 f2 f3 k hk (f0 == 3)) ?_)
   rw [if_pos (by simp [h3]), if_pos (Or.inl h3)]
  ·refine evF h3 (ev_cast (impl_nodeRight_j0 f0 f1 f2 f3 k hk (f0 == 6)) ?_)
   by_cases h6 : f0 = 6
   ·rw [if_pos (by simp [h6]), if_pos (Or.inr h6)]
   ·rw [if_neg (by simp [h6]), if_neg (by simp [h3, h6])]

def nodeOf (l : List S34) (i : Nat) : S34 := rd_T34 l (i : Int)
def rightAt (l : List S34) (i : Nat) : Bool := nodeB (nodeOf l i).f0 (nodeOf l i).f1 (nodeOf l i).f2 (nodeOf l i).f3 (i : Int)

/-! an arena's rightness, as the program tells it: each node right, none like an earlier one -/
def sameN (a b : S34) : Bool := a.f0 == b.f0 && a.f1 == b.f1 && a.f2 == b.f2 && a.f3 == b.f3
def dupAt (l : List S34) (j : Nat) : Bool := (l.take j).any (fun y => sameN y (nodeOf l j))
def aok (l : List S34) : Bool := decide (l.length ≤ 3000) && (List.range l.length).all (fun j => rightAt l j && !dupAt l j)
def wf1 (x : S34) : Bool := (Lit.int .i64 x.f0).wf && (Lit.int .i64 x.f1).wf && (Lit.int .i64 x.f2).wf && (Lit.int .i64 x.f3).wf
theorem aok_true {l : List S34} (h : l.length ≤ 3000) (hall : ∀ j, j < l.length → rightAt l j = true ∧ dupAt l j = false) : aok l = true := by
 unfold aok
 simp only [Bool.and_eq_true, decide_eq_true_eq, List.all_eq_true, List.mem_range]
 exact ⟨h, fun j hj => by rw [(hall j hj).1, (hall j hj).2]; exact ⟨rfl, rfl⟩⟩
theorem aok_false {l : List S34} {j : Nat} (hj : j < l.length) (h : rightAt l j = false ∨ dupAt l j = true) : aok l = false := by
 unfold aok
 rw [Bool.and_eq_false_iff]
 right
 rw [List.all_eq_false]
 refine ⟨j, List.mem_range.2 hj, ?_⟩
 rcases h with h | h <;> simp [h]
theorem aok_big {l : List S34} (h : ¬ l.length ≤ 3000) : aok l = false := by
 unfold aok
 simp [h]
theorem aok_parts {l : List S34} (h : aok l = true) : l.length ≤ 3000 ∧ ∀ j, j < l.length → rightAt l j = true ∧ dupAt l j = false := by
 unfold aok at h
 simp only [Bool.and_eq_true, decide_eq_true_eq, List.all_eq_true, List.mem_range] at h
 exact ⟨h.1, fun j hj => by have := h.2 j hj; simpa using this⟩

theorem rdI {l : List S34} {i : Nat} (h : i < l.length) : rd_T34 l (i : Int) = l[i] := by
 unfold rd_T34
 rw [Int.toNat_natCast, List.getD_eq_getElem?_getD, List.getElem?_eq_getElem h]
 rfl
theorem lawK : KeyLaw Try.prog 34 := deep_law_laid (m := 3) (by kernel_rfl) (by omega) (of_decide_eq_true (by kernel_rfl)) (by kernel_rfl) (by rw [Try.underlying34])
theorem keyOf_node (a b c d : Int) (ha : (Lit.int .i64 a).wf = true) (hb : (Lit.int .i64 b).wf = true) (hc : (Lit.int .i64 c).wf = true) (hd : (Lit.int .i64 d).wf = true) : keyOf Try.prog 34 (.agg #[.int .i64 a, .int .i64 b, .int .i64 c, .int .i64 d]) = some (.string (keyBytes [.int .i64 a, .int .i64 b, .int .i64 c, .int .i64 d])) := by
 have hk : Try.prog.keyType 34 = true := by kernel_rfl
 have hcN : Try.prog.cellsOf 34 = 4 := by kernel_rfl
 have hcI : Try.prog.cellsOf 3 = 1 := by kernel_rfl
 obtain ⟨m, hm⟩ : ∃ m, Try.prog.types.size = m + 1 := ⟨Try.prog.types.size - 1, by have : 0 < Try.prog.types.size := of_decide_eq_true (by kernel_rfl); omega⟩
 unfold keyOf
 simp only [Try.underlying34]
 rw [if_pos (by simp [hk, Value.formed, Try.underlying34, hcN]), hm]
 unfold Program.keyLits
 simp only [Try.underlying34, Value.cells]
 rw [if_pos (by rw [hcN]; exact ⟨rfl, by simp⟩)]
 simp [hcI, Program.keyLits, Try.underlying3, ha, hb, hc, hd]
theorem zeroI (u : World) : (zeroValue 3).run Try.prog u = .ok (.int .i64 0) u := by kernel_rfl
def nv (x : S34) : Value := .agg #[.int .i64 x.f0, .int .i64 x.f1, .int .i64 x.f2, .int .i64 x.f3]
theorem nv_inj {x y : S34} (h : nv x = nv y) : x = y := by
 cases x
 cases y
 simp [nv] at h
 simp [h]
theorem sameN_iff {x y : S34} : sameN x y = true ↔ x = y := by
 cases x
 cases y
 simp [sameN, and_assoc]
theorem dup_iff (l : List S34) (j : Nat) : nv (nodeOf l j) ∈ (l.take j).map nv ↔ dupAt l j = true := by
 unfold dupAt
 rw [List.any_eq_true]
 constructor
 ·intro h
  obtain ⟨y, hy, he⟩ := List.mem_map.1 h
  exact ⟨y, hy, sameN_iff.2 (nv_inj he)⟩
 ·rintro ⟨y, hy, he⟩
  exact List.mem_map.2 ⟨y, hy, by rw [sameN_iff.1 he]⟩
theorem wf1_parts {x : S34} (h : wf1 x = true) : (Lit.int .i64 x.f0).wf = true ∧ (Lit.int .i64 x.f1).wf = true ∧ (Lit.int .i64 x.f2).wf = true ∧ (Lit.int .i64 x.f3).wf = true := by
 unfold wf1 at h
 simp only [Bool.and_eq_true] at h
 exact ⟨h.1.1.1, h.1.1.2, h.1.2, h.2⟩
end Hand
open Hand in
def impl_ArenaOk.f (l0_0 : List (S34)) : Option (Bool) := if l0_0.all wf1 = true then some (aok l0_0) else none
open Go.WideMaps Go.Proofs.Ytkckdibalopagaa.Base Hand in
set_option maxHeartbeats 8000000 in
set_option maxRecDepth 100000 in
theorem impl_ArenaOk.calls (A0_0 : Option Addr) (c0_0 : Nat) (l0_0 : List (S34)) (r : Bool) (w : World) (hr0_0 : Kd.C k34 w A0_0 l0_0.length l0_0) (hc0_0 : l0_0.length ≤ c0_0) (h : impl_ArenaOk.f l0_0 = some r) :
  Calls Try.prog 27 #[.agg #[.slice A0_0 l0_0.length c0_0]] w fun e w' => e = .returned (.bool r) ∧ Below w.heap.size w w' := by
 have hu26 := Try.underlying26
 have hmm := @run_makeMap Try.prog
 unfold impl_ArenaOk.f at h
 by_cases hwf : l0_0.all wf1 = true
 ·rw [if_pos hwf] at h
  obtain rfl := Option.some.inj h
  have HR := Aside0.mk hr0_0
  have HW := Aside0.mk hwf
  clear hr0_0 h hwf
  by_cases hlen : l0_0.length ≤ 3000
  ·have hd : decide (3000 < l0_0.length) = false := decide_eq_false (by omega)
   have HL := Aside0.mk hlen
   go_enter Try.func27, Try.ntmps27
   go_wp2
   go_loopw [14] (fun v wr => ∃ i : Int, 0 ≤ i ∧ i ≤ l0_0.length ∧ v = .int .i64 i ∧ Aside0 (Once Try.prog 34 wr (w.heap.size + 1) ((l0_0.take i.toNat).map nv)) ∧ Aside0 (∀ j, j < i.toNat → rightAt l0_0 j = true ∧ dupAt l0_0 j = false) ∧ Aside0 (Below w.heap.size w wr)) (fun i _ => l0_0.length - (intOf i).toNat)
   case atStart => exact ⟨0, by omega, by omega, rfl, ⟨by have := Once.made Try.prog 34 (w.alloc (.cells #[.slice A0_0 l0_0.length c0_0] 26)); simpa using this⟩, ⟨fun j hj => by simp at hj⟩, ⟨by repeat (first | exact Below.refl _ _ | apply below_alloc)⟩⟩
   case round =>
    clear hlen
    obtain ⟨i, h0, h1, rfl, HO, HA, HB⟩ := hrel
    have Hi := Aside0.mk h0
    have Hj := Aside0.mk h1
    by_cases hlt : i < l0_0.length
    ·obtain ⟨ad, e1, x0, x1, x2, x3⟩ := at_T34 HR.out i h0 hlt
     cases e1
     have Hlt := Aside0.mk hlt
     obtain ⟨nd, hnd⟩ : ∃ nd, rd_T34 l0_0 i = nd := ⟨_, rfl⟩
     rw [hnd] at x0 x1 x2 x3
     have enode : nodeOf l0_0 i.toNat = nd := by unfold nodeOf; rw [Int.toNat_of_nonneg h0]; exact hnd
     have hmem : nd ∈ l0_0 := by
      rw [← hnd]
      unfold rd_T34
      rw [List.getD_eq_getElem?_getD, List.getElem?_eq_getElem (by omega)]
      exact List.getElem_mem _
     obtain ⟨w0, w1, w2, w3⟩ := wf1_parts (List.all_eq_true.1 HW.out nd hmem)
     obtain ⟨K, hK⟩ := impl_nodeRight_f nd.f0 nd.f1 nd.f2 nd.f3 i (by have := HL.out; omega)
     have hK := hK K (Nat.le_refl _)
     have eright : rightAt l0_0 i.toNat = nodeB nd.f0 nd.f1 nd.f2 nd.f3 i := by unfold rightAt; rw [enode, Int.toNat_of_nonneg h0]
     obtain ⟨b, hb⟩ : ∃ b, nodeB nd.f0 nd.f1 nd.f2 nd.f3 i = b := ⟨_, rfl⟩
     rw [hb] at hK eright
     have HK := Aside0.mk hK
     have ER := Aside0.mk eright
     have EN := Aside0.mk enode
     replace x0 := (HB.out.cell (World.block_lt_of_cell? w _ x0)).trans x0
     replace x1 := (HB.out.cell (World.block_lt_of_cell? w _ x1)).trans x1
     replace x2 := (HB.out.cell (World.block_lt_of_cell? w _ x2)).trans x2
     replace x3 := (HB.out.cell (World.block_lt_of_cell? w _ x3)).trans x3
     have p0 : (0 ≤ i) = True := eq_true h0
     have p1 : (i < (l0_0.length : Int)) = True := eq_true hlt
     have p2 : decide (i < (l0_0.length : Int)) = true := decide_eq_true hlt
     clear h0 h1 hlt hnd enode hmem hK eright hb
     by_cases hin : nv nd ∈ (l0_0.take i.toNat).map nv
     ·go_wp2
      generalize hu : wr.alloc (Obj.cells #[Value.int IntKind.i64 nd.f0, Value.int IntKind.i64 nd.f1, Value.int IntKind.i64 nd.f2, Value.int IntKind.i64 nd.f3] 34) = u
      have HO2 : Once Try.prog 34 u.drew (w.heap.size + 1) ((l0_0.take i.toNat).map nv) := HO.out.move (by rw [← hu]; exact _root_.Go.heap_alloc_old wr _ HO.out.lt)
      have hBlt := HO.out.lt
      obtain ⟨st, u2, u3, f1, f2, f3, f4, hg, hl⟩ := once_present lawK Try.underlying90 HO2 (keyOf_node nd.f0 nd.f1 nd.f2 nd.f3 w0 w1 w2 w3) hin
      have n0 : u.cell? ⟨wr.heap.size, 0, none⟩ = some (.int .i64 nd.f0) := by rw [← hu]; simp
      have n1 : u.cell? ⟨wr.heap.size, 1, none⟩ = some (.int .i64 nd.f1) := by rw [← hu]; simp
      have n2 : u.cell? ⟨wr.heap.size, 2, none⟩ = some (.int .i64 nd.f2) := by rw [← hu]; simp
      have n3 : u.cell? ⟨wr.heap.size, 3, none⟩ = some (.int .i64 nd.f3) := by rw [← hu]; simp
      have hne : some wr.heap.size ≠ some (w.heap.size + 1) := by intro e; injection e with e; omega
      have m0 : u3.cell? ⟨wr.heap.size, 0, none⟩ = some (.int .i64 nd.f0) := cell_grown (W := u.drew) hg n0 hne
      have m1 : u3.cell? ⟨wr.heap.size, 1, none⟩ = some (.int .i64 nd.f1) := cell_grown (W := u.drew) hg n1 hne
      have m2 : u3.cell? ⟨wr.heap.size, 2, none⟩ = some (.int .i64 nd.f2) := cell_grown (W := u.drew) hg n2 hne
      have m3 : u3.cell? ⟨wr.heap.size, 3, none⟩ = some (.int .i64 nd.f3) := cell_grown (W := u.drew) hg n3 hne
      have hB3 : w.heap.size + 1 < u3.heap.size := Nat.lt_of_lt_of_le HO2.lt hg.size
      have HB3 := Aside0.mk hB3
      have Hg := Aside0.mk hg
      have Hl := Aside0.mk hl
      have Hu := Aside0.mk hu
      have Hin := Aside0.mk hin
      have Hne := Aside0.mk hne
      have HBlt := Aside0.mk hBlt
      clear hg hl hu hin HO2 hne hBlt hB3
      have hz := aok_false (l := l0_0) (j := i.toNat) (by have := Hi.out; have := Hlt.out; omega) (.inr ((dup_iff l0_0 i.toNat).1 (by rw [EN.out]; exact Hin.out)))
      have HZ := Aside0.mk hz
      clear hz
      go_region
      cases b with
      | true =>
       go_wp2_with (go_at_call 84; refine (impl_nodeRight.calls K nd.f0 nd.f1 nd.f2 nd.f3 i true _ HK.out).mono ?_; rintro e w5 ⟨rfl, hb5⟩; have f5 := Hl.out w5 (hb5.block _ HB3.out); have k0 := (hb5.cell (World.block_lt_of_cell? u3 _ m0)).trans m0; have k1 := (hb5.cell (World.block_lt_of_cell? u3 _ m1)).trans m1; have k2 := (hb5.cell (World.block_lt_of_cell? u3 _ m2)).trans m2; have k3 := (hb5.cell (World.block_lt_of_cell? u3 _ m3)).trans m3; have H5 := Aside0.mk hb5; clear hb5)
       go_ret
       refine ⟨?_, ?_⟩
       ·have hz := HZ.out
        rw [hz]; rfl
       ·have hu1 : Below w.heap.size w u := by rw [← Hu.out]; exact below_alloc HB.out _
        have hu2 : Below w.heap.size w u3 := hu1.drew.grown Hg.out (hu1.drew.size) (fun b hb => by injection hb with hb; omega)
        exact hu2.trans (H5.out.mono hu2.size)
      | false =>
       go_wp2_with (go_at_call 84; refine (impl_nodeRight.calls K nd.f0 nd.f1 nd.f2 nd.f3 i false _ HK.out).mono ?_; rintro e w5 ⟨rfl, hb5⟩; have H5 := Aside0.mk hb5; clear hb5)
       go_ret
       refine ⟨?_, ?_⟩
       ·have hz := HZ.out
        rw [hz]; rfl
       ·have hu1 : Below w.heap.size w u := by rw [← Hu.out]; exact below_alloc HB.out _
        have hu2 : Below w.heap.size w u3 := hu1.drew.grown Hg.out (hu1.drew.size) (fun b hb => by injection hb with hb; omega)
        exact hu2.trans (H5.out.mono hu2.size)
     ·go_wp2
      generalize hu : wr.alloc (Obj.cells #[Value.int IntKind.i64 nd.f0, Value.int IntKind.i64 nd.f1, Value.int IntKind.i64 nd.f2, Value.int IntKind.i64 nd.f3] 34) = u
      have HO2 : Once Try.prog 34 u.drew (w.heap.size + 1) ((l0_0.take i.toNat).map nv) := HO.out.move (by rw [← hu]; exact _root_.Go.heap_alloc_old wr _ HO.out.lt)
      have hBlt := HO.out.lt
      obtain ⟨st, u2, u3, f1, f2, f3, f4, HO3, hg, hl⟩ := once_absent lawK Try.underlying90 zeroI HO2 (keyOf_node nd.f0 nd.f1 nd.f2 nd.f3 w0 w1 w2 w3) hin
      have n0 : u.cell? ⟨wr.heap.size, 0, none⟩ = some (.int .i64 nd.f0) := by rw [← hu]; simp
      have n1 : u.cell? ⟨wr.heap.size, 1, none⟩ = some (.int .i64 nd.f1) := by rw [← hu]; simp
      have n2 : u.cell? ⟨wr.heap.size, 2, none⟩ = some (.int .i64 nd.f2) := by rw [← hu]; simp
      have n3 : u.cell? ⟨wr.heap.size, 3, none⟩ = some (.int .i64 nd.f3) := by rw [← hu]; simp
      have hne : some wr.heap.size ≠ some (w.heap.size + 1) := by intro e; injection e with e; omega
      have m0 : u3.cell? ⟨wr.heap.size, 0, none⟩ = some (.int .i64 nd.f0) := cell_grown (W := u.drew) hg n0 hne
      have m1 : u3.cell? ⟨wr.heap.size, 1, none⟩ = some (.int .i64 nd.f1) := cell_grown (W := u.drew) hg n1 hne
      have m2 : u3.cell? ⟨wr.heap.size, 2, none⟩ = some (.int .i64 nd.f2) := cell_grown (W := u.drew) hg n2 hne
      have m3 : u3.cell? ⟨wr.heap.size, 3, none⟩ = some (.int .i64 nd.f3) := cell_grown (W := u.drew) hg n3 hne
      have H3 := Aside0.mk HO3
      have Hg := Aside0.mk hg
      have Hl := Aside0.mk hl
      have Hu := Aside0.mk hu
      have Hin := Aside0.mk hin
      have Hne := Aside0.mk hne
      have HBlt := Aside0.mk hBlt
      clear HO3 hg hl hu hin HO2 hne hBlt
      go_region
      cases b with
      | true =>
       go_wp2_with (go_at_call 84; refine (impl_nodeRight.calls K nd.f0 nd.f1 nd.f2 nd.f3 i true _ HK.out).mono ?_; rintro e w5 ⟨rfl, hb5⟩; have f5 := Hl.out w5 (hb5.block _ H3.out.lt); have k0 := (hb5.cell (World.block_lt_of_cell? u3 _ m0)).trans m0; have k1 := (hb5.cell (World.block_lt_of_cell? u3 _ m1)).trans m1; have k2 := (hb5.cell (World.block_lt_of_cell? u3 _ m2)).trans m2; have k3 := (hb5.cell (World.block_lt_of_cell? u3 _ m3)).trans m3; have H5 := Aside0.mk hb5; clear hb5)
       go_roundw
       case rel =>
        have hl3 := HL.out
        have hii := Hi.out
        have hij := Hlt.out
        have ei : (i + 1).toNat = i.toNat + 1 := by omega
        have etake : (l0_0.take (i + 1).toNat).map nv = (l0_0.take i.toNat).map nv ++ [nv nd] := by
         rw [ei, List.take_succ_eq_append_getElem (by omega), List.map_append, List.map_singleton]
         congr 2
         rw [← EN.out]
         unfold nodeOf
         rw [rdI (by omega)]
        refine ⟨i + 1, by omega, by omega, by first | rfl | (simp only [Value.int.injEq, true_and]; exact w64 (by omega) (by omega)), ⟨by rw [etake]; exact H3.out.move (H5.out.block _ H3.out.lt)⟩, ⟨fun j hj => ?_⟩, ⟨?_⟩⟩
        ·by_cases hji : j = i.toNat
         ·rw [hji]
          refine ⟨ER.out, ?_⟩
          have := mt (dup_iff l0_0 i.toNat).2 (by rw [EN.out]; exact Hin.out)
          simpa using this
         ·exact HA.out j (by omega)
        ·have hu1 : Below w.heap.size w u := by rw [← Hu.out]; exact below_alloc HB.out _
         have hu2 : Below w.heap.size w u3 := hu1.drew.grown Hg.out (hu1.drew.size) (fun b hb => by injection hb with hb; omega)
         exact hu2.trans (H5.out.mono hu2.size)
       case measure => have hii := Hi.out; have hij := Hlt.out; have hl3 := HL.out; have hw := w64 (x := i + 1) (by omega) (by omega); simp only [intOf]; simp; rw [hw]; omega
      | false =>
       go_wp2_with (go_at_call 84; refine (impl_nodeRight.calls K nd.f0 nd.f1 nd.f2 nd.f3 i false _ HK.out).mono ?_; rintro e w5 ⟨rfl, hb5⟩; have H5 := Aside0.mk hb5; clear hb5)
       go_ret
       refine ⟨?_, ?_⟩
       ·have hz := aok_false (l := l0_0) (j := i.toNat) (by have := Hi.out; have := Hlt.out; omega) (.inl ER.out)
        rw [hz]; rfl
       ·have hu1 : Below w.heap.size w u := by rw [← Hu.out]; exact below_alloc HB.out _
        have hu2 : Below w.heap.size w u3 := hu1.drew.grown Hg.out (hu1.drew.size) (fun b hb => by injection hb with hb; omega)
        exact hu2.trans (H5.out.mono hu2.size)
    ·obtain rfl : i = (l0_0.length : Int) := by omega
     have hz := aok_true (l := l0_0) HL.out (fun j hj => HA.out j (by omega))
     have HZ := Aside0.mk hz
     clear hz h0 h1 hlt
     go_wp2
     go_ret
     refine ⟨?_, HB.out⟩
     have hz := HZ.out
     rw [hz]; rfl
  ·have hd : decide (3000 < l0_0.length) = true := decide_eq_true (by omega)
   have hz := aok_big hlen
   have HZ := Aside0.mk hz
   clear hz
   go_enter Try.func27, Try.ntmps27
   go_wp2
   go_ret
   refine ⟨?_, by repeat (first | exact Below.refl _ _ | apply below_alloc)⟩
   have hz := HZ.out
   rw [hz]; rfl
 ·rw [if_neg hwf] at h
  cases h

end Go.Proofs.Ytkckdibalopagaa.SFnTermsTold
