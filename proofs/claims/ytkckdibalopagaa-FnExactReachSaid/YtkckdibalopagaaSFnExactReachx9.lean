-- Began as a print of the kit over stubs (wip/stub.py); the sections that are named OWN are this session's.
import Derived.Test.YtkckdibalopagaaSFnExactReachx0
import Derived.Test.YtkckdibalopagaaRShort
namespace Go.Proofs.Ytkckdibalopagaa.SFnExactReach
open Go.RowKit Go.Proofs.YtkckdibalopagaaW.PrintWords Go.Proofs.YtkckdibalopagaaW.PrintLast Go.Proofs.YtkckdibalopagaaW.PrintMore Go.Proofs.Ytkckdibalopagaa.Short
attribute [local go_sem] max2_int min2_int max_two min_two max_three min_three max_four min_four   -- for this text's walks alone
set_option linter.unusedVariables false
set_option linter.unusedSimpArgs false

/-! ### spec_l05Made: function 119 -/
def spec_l05Made.j0 : Nat → List Bool → List Int → Int → Bool → Int → Int → Int → Int → Option (Bool)
  | 0, _, _, _, _, _, _, _, _ => none
  | k + 1, x1, x2, x16, x22, x195000, x195001, x195002, x195003 => if x22 = true then (if 0 ≤ x195002 then (if x195002 < (x1.length : Int) then (some (rdOf false x1 x195002)) else (none)) else (none)) else (if x16 = 7 then (if 0 ≤ x195002 then (if x195002 < (x1.length : Int) then (if rdOf false x1 x195002 = true then (if 0 ≤ x195003 then (if x195003 < (x2.length : Int) then (if (rd x2 x195003) ≥ 0 then (if 0 ≤ (rd x2 x195003) then (if (rd x2 x195003) < (x1.length : Int) then (if rdOf false x1 (rd x2 x195003) = true then (some true) else (if x195003 < (x1.length : Int) then (if rdOf false x1 x195003 = true then (if x195002 < (x2.length : Int) then (if (rd x2 x195002) ≥ 0 then (if 0 ≤ (rd x2 x195002) then (if (rd x2 x195002) < (x1.length : Int) then (some (rdOf false x1 (rd x2 x195002))) else (none)) else (none)) else (some false)) else (none)) else (some false)) else (none))) else (none)) else (none)) else (if x195003 < (x1.length : Int) then (if rdOf false x1 x195003 = true then (if x195002 < (x2.length : Int) then (if (rd x2 x195002) ≥ 0 then (if 0 ≤ (rd x2 x195002) then (if (rd x2 x195002) < (x1.length : Int) then (some (rdOf false x1 (rd x2 x195002))) else (none)) else (none)) else (some false)) else (none)) else (some false)) else (none))) else (none)) else (none)) else (if 0 ≤ x195003 then (if x195003 < (x1.length : Int) then (if rdOf false x1 x195003 = true then (if x195002 < (x2.length : Int) then (if (rd x2 x195002) ≥ 0 then (if 0 ≤ (rd x2 x195002) then (if (rd x2 x195002) < (x1.length : Int) then (some (rdOf false x1 (rd x2 x195002))) else (none)) else (none)) else (some false)) else (none)) else (some false)) else (none)) else (none))) else (none)) else (none)) else (if 0 ≤ x195002 then (if x195002 < (x1.length : Int) then (if rdOf false x1 x195002 = true then (if 0 ≤ x195003 then (if x195003 < (x1.length : Int) then (some (rdOf false x1 x195003)) else (none)) else (none)) else (some false)) else (none)) else (none)))
def spec_l05Made.f (k : Nat) (l0_0 : List (S34)) (l1 : List Bool) (l2 : List Int) (a3 : Int) : Option (Bool) := if 0 ≤ a3 then (if a3 < (l0_0.length : Int) then (if ((rd_T34 l0_0 a3).f0) = 1 then (some (decide (((rd_T34 l0_0 a3).f1) < 1000))) else (if ((rd_T34 l0_0 a3).f0) = 3 then (spec_l05Made.j0 k l1 l2 ((rd_T34 l0_0 a3).f0) (((rd_T34 l0_0 a3).f0) == 3) ((rd_T34 l0_0 a3).f0) ((rd_T34 l0_0 a3).f1) ((rd_T34 l0_0 a3).f2) ((rd_T34 l0_0 a3).f3)) else (spec_l05Made.j0 k l1 l2 ((rd_T34 l0_0 a3).f0) (((rd_T34 l0_0 a3).f0) == 6) ((rd_T34 l0_0 a3).f0) ((rd_T34 l0_0 a3).f1) ((rd_T34 l0_0 a3).f2) ((rd_T34 l0_0 a3).f3)))) else (none)) else (none)
set_option maxHeartbeats 8000000 in
set_option maxRecDepth 100000 in
theorem spec_l05Made.calls (k : Nat) (A0_0 : Option Addr) (c0_0 : Nat) (l0_0 : List (S34)) (A1 : Option Addr) (c1 : Nat) (l1 : List Bool) (A2 : Option Addr) (c2 : Nat) (l2 : List Int) (a3 : Int) (r : Bool) (w : World) (hr0_0 : Kd.C k34 w A0_0 l0_0.length l0_0) (hc0_0 : l0_0.length ≤ c0_0) (hr1 : Kd.C Kd.bool w A1 l1.length l1) (hc1 : l1.length ≤ c1) (hr2 : Kd.C (Kd.int .i64) w A2 l2.length l2) (hc2 : l2.length ≤ c2) (h : spec_l05Made.f k l0_0 l1 l2 a3 = some r) :
  Calls Try.prog 119 #[.agg #[.slice A0_0 l0_0.length c0_0], .slice A1 l1.length c1, .slice A2 l2.length c2, .int .i64 a3] w fun e w' => e = .returned (.bool r) ∧ Below w.heap.size w w' := by
 have hu26 := Try.underlying26
 have hu34 := Try.underlying34
 have HR0_0 := Aside0.mk hr0_0
 have HC0_0 := Aside0.mk hc0_0
 clear hr0_0 hc0_0
 have HR1 := Aside0.mk hr1
 have HC1 := Aside0.mk hc1
 clear hr1 hc1
 have HR2 := Aside0.mk hr2
 have HC2 := Aside0.mk hc2
 clear hr2 hc2
 have HB := Aside0.mk (Below.refl w.heap.size w)
 have H : (if 0 ≤ a3 then (if a3 < (l0_0.length : Int) then (if ((rd_T34 l0_0 a3).f0) = 1 then (some (decide (((rd_T34 l0_0 a3).f1) < 1000))) else (if ((rd_T34 l0_0 a3).f0) = 3 then (spec_l05Made.j0 k l1 l2 ((rd_T34 l0_0 a3).f0) (((rd_T34 l0_0 a3).f0) == 3) ((rd_T34 l0_0 a3).f0) ((rd_T34 l0_0 a3).f1) ((rd_T34 l0_0 a3).f2) ((rd_T34 l0_0 a3).f3)) else (spec_l05Made.j0 k l1 l2 ((rd_T34 l0_0 a3).f0) (((rd_T34 l0_0 a3).f0) == 6) ((rd_T34 l0_0 a3).f0) ((rd_T34 l0_0 a3).f1) ((rd_T34 l0_0 a3).f2) ((rd_T34 l0_0 a3).f3)))) else (none)) else (none)) = some r := h
 clear h
 by_cases c5 : 0 ≤ a3
 ·rw [if_pos c5] at H
  have c5b0 : decide (0 ≤ a3) = true := decide_eq_true c5
  clear c5
  by_cases c6 : a3 < (l0_0.length : Int)
  ·rw [if_pos c6] at H
   have c6b0 : decide (a3 < (l0_0.length : Int)) = true := decide_eq_true c6
   clear c6
   by_cases c7 : ((rd_T34 l0_0 a3).f0) = 1
   ·rw [if_pos c7] at H
    have c7b0 : (((rd_T34 l0_0 a3).f0) == 1) = true := beq_iff_eq.mpr c7
    have c7b1 : (((rd_T34 l0_0 a3).f0) != 1) = false := bne_eq_false_iff_eq.mpr c7
    clear c7
    obtain rfl := Option.some.inj H
    go_enter Try.func119, Try.ntmps119
    go_wp2_with (first | ((with_reducible refine gate_dst (N := 4) rfl ?_); refine box_event ?hg (N := 4) ?hd (cs := #[.slice A0_0 l0_0.length c0_0]) (t := 26) ?hr ?_; (case hd => rfl); (case hg => rfl); (case hr => first | (go_simp; done) | (go_simp; rfl)); intro gb192 hg w8 hbox hb; have n0_ := Aside0.mk (below_step (bw HB.out) hb); have n1_ := Aside0.mk (hbox); have n2_ := Aside0.mk ((by rw [hg]; exact (below_size (bw HB.out)) : w.heap.size ≤ gb192)); have n3_ := Aside0.mk ((by rw [hg]; exact (below_size (bw HB.out)) : w.heap.size ≤ gb192)); clear HB; have HB := n0_; have BK192 := n1_; have GW192 := n2_; have GE192 := n3_; clear n0_ n1_ n2_ n3_ hb hbox hg; have hcz9_0 : w8.cell? ⟨gb192, 0, none⟩ = some (.slice A0_0 l0_0.length c0_0) := (blk_cell BK192.out 0).trans rfl; have hfz9_0 := blk_frozen BK192.out 0; have p193 : 0 ≤ (a3 : Int) := oda; have q193 : a3 < (l0_0.length : Int) := oda; obtain ⟨ad193, e193, hx193_0, hx193_1, hx193_2, hx193_3⟩ := at_T34 HR0_0.out a3 p193 q193; cases e193; replace hx193_0 := (HB.out.cell (World.block_lt_of_cell? w _ hx193_0)).trans hx193_0; replace hx193_1 := (HB.out.cell (World.block_lt_of_cell? w _ hx193_1)).trans hx193_1; replace hx193_2 := (HB.out.cell (World.block_lt_of_cell? w _ hx193_2)).trans hx193_2; replace hx193_3 := (HB.out.cell (World.block_lt_of_cell? w _ hx193_3)).trans hx193_3; replace p193 := eq_true p193; replace q193 := eq_true q193) | ((with_reducible refine gate_dst (N := 9) rfl ?_); refine box_event ?hg (N := 9) ?hd (cs := #[.int .i64 0, .int .i64 0, .int .i64 0, .int .i64 0]) (t := 34) ?hr ?_; (case hd => rfl); (case hg => rfl); (case hr => first | (go_simp; done) | (go_simp; rfl)); intro gb194 hg w10 hbox hb; have n0_ := Aside0.mk (blk_below (g := gb192) (o := .cells #[.slice (some ad193) l0_0.length c0_0] 26 (0, 0)) (bl BK192.out) hb); have n1_ := Aside0.mk (below_step (bw HB.out) hb); have n2_ := Aside0.mk (hbox); have n3_ := Aside0.mk ((by rw [hg]; exact (below_size (bw HB.out)) : w.heap.size ≤ gb194)); have n4_ := Aside0.mk ((by rw [hg]; exact (below_size (bw HB.out)) : w.heap.size ≤ gb194)); have n5_ := Aside0.mk ((by rw [hg]; exact Nat.ne_of_lt (blk_lt (g := gb192) (o := .cells #[.slice (some ad193) l0_0.length c0_0] 26 (0, 0)) (bl BK192.out)) : gb192 ≠ gb194)); have n6_ := Aside0.mk ((by rw [hg]; exact Nat.ne_of_gt (blk_lt (g := gb192) (o := .cells #[.slice (some ad193) l0_0.length c0_0] 26 (0, 0)) (bl BK192.out)) : gb194 ≠ gb192)); clear BK192 HB; have BK192 := n0_; have HB := n1_; have BK194 := n2_; have GW194 := n3_; have GE194 := n4_; have NB192_194 := n5_; have NB194_192 := n6_; clear n0_ n1_ n2_ n3_ n4_ n5_ n6_ hb hbox hg; have hnb11 := NB194_192.out; have hnc11 := NB192_194.out; have hcz12_0 : w10.cell? ⟨gb194, 0, none⟩ = some (.int .i64 0) := (blk_cell BK194.out 0).trans rfl; have hcz12_1 : w10.cell? ⟨gb194, 1, none⟩ = some (.int .i64 0) := (blk_cell BK194.out 1).trans rfl; have hcz12_2 : w10.cell? ⟨gb194, 2, none⟩ = some (.int .i64 0) := (blk_cell BK194.out 2).trans rfl; have hcz12_3 : w10.cell? ⟨gb194, 3, none⟩ = some (.int .i64 0) := (blk_cell BK194.out 3).trans rfl; have hfz12_0 := blk_frozen BK194.out 0; have hfz12_1 := blk_frozen BK194.out 1; have hfz12_2 := blk_frozen BK194.out 2; have hfz12_3 := blk_frozen BK194.out 3))
    go_ret
    exact ⟨by first | rfl | (simp [errW_none, errW_some] <;> rfl) | (simp [*, errW_none, errW_some] <;> rfl), bw HB.out⟩
   ·rw [if_neg c7] at H
    have c7b0 : (((rd_T34 l0_0 a3).f0) == 1) = false := beq_eq_false_iff_ne.mpr c7
    have c7b1 : (((rd_T34 l0_0 a3).f0) != 1) = true := bne_iff_ne.mpr c7
    have HC13 := Aside0.mk H
    clear H
    go_enter Try.func119, Try.ntmps119
    go_upto_if 22 with (first | ((with_reducible refine gate_dst (N := 4) rfl ?_); refine box_event ?hg (N := 4) ?hd (cs := #[.slice A0_0 l0_0.length c0_0]) (t := 26) ?hr ?_; (case hd => rfl); (case hg => rfl); (case hr => first | (go_simp; done) | (go_simp; rfl)); intro gb192 hg w14 hbox hb; have n0_ := Aside0.mk (below_step (bw HB.out) hb); have n1_ := Aside0.mk (hbox); have n2_ := Aside0.mk ((by rw [hg]; exact (below_size (bw HB.out)) : w.heap.size ≤ gb192)); have n3_ := Aside0.mk ((by rw [hg]; exact (below_size (bw HB.out)) : w.heap.size ≤ gb192)); clear HB; have HB := n0_; have BK192 := n1_; have GW192 := n2_; have GE192 := n3_; clear n0_ n1_ n2_ n3_ hb hbox hg; have hcz15_0 : w14.cell? ⟨gb192, 0, none⟩ = some (.slice A0_0 l0_0.length c0_0) := (blk_cell BK192.out 0).trans rfl; have hfz15_0 := blk_frozen BK192.out 0; have p193 : 0 ≤ (a3 : Int) := oda; have q193 : a3 < (l0_0.length : Int) := oda; obtain ⟨ad193, e193, hx193_0, hx193_1, hx193_2, hx193_3⟩ := at_T34 HR0_0.out a3 p193 q193; cases e193; replace hx193_0 := (HB.out.cell (World.block_lt_of_cell? w _ hx193_0)).trans hx193_0; replace hx193_1 := (HB.out.cell (World.block_lt_of_cell? w _ hx193_1)).trans hx193_1; replace hx193_2 := (HB.out.cell (World.block_lt_of_cell? w _ hx193_2)).trans hx193_2; replace hx193_3 := (HB.out.cell (World.block_lt_of_cell? w _ hx193_3)).trans hx193_3; replace p193 := eq_true p193; replace q193 := eq_true q193) | ((with_reducible refine gate_dst (N := 9) rfl ?_); refine box_event ?hg (N := 9) ?hd (cs := #[.int .i64 0, .int .i64 0, .int .i64 0, .int .i64 0]) (t := 34) ?hr ?_; (case hd => rfl); (case hg => rfl); (case hr => first | (go_simp; done) | (go_simp; rfl)); intro gb194 hg w16 hbox hb; have n0_ := Aside0.mk (blk_below (g := gb192) (o := .cells #[.slice (some ad193) l0_0.length c0_0] 26 (0, 0)) (bl BK192.out) hb); have n1_ := Aside0.mk (below_step (bw HB.out) hb); have n2_ := Aside0.mk (hbox); have n3_ := Aside0.mk ((by rw [hg]; exact (below_size (bw HB.out)) : w.heap.size ≤ gb194)); have n4_ := Aside0.mk ((by rw [hg]; exact (below_size (bw HB.out)) : w.heap.size ≤ gb194)); have n5_ := Aside0.mk ((by rw [hg]; exact Nat.ne_of_lt (blk_lt (g := gb192) (o := .cells #[.slice (some ad193) l0_0.length c0_0] 26 (0, 0)) (bl BK192.out)) : gb192 ≠ gb194)); have n6_ := Aside0.mk ((by rw [hg]; exact Nat.ne_of_gt (blk_lt (g := gb192) (o := .cells #[.slice (some ad193) l0_0.length c0_0] 26 (0, 0)) (bl BK192.out)) : gb194 ≠ gb192)); clear BK192 HB; have BK192 := n0_; have HB := n1_; have BK194 := n2_; have GW194 := n3_; have GE194 := n4_; have NB192_194 := n5_; have NB194_192 := n6_; clear n0_ n1_ n2_ n3_ n4_ n5_ n6_ hb hbox hg; have hnb17 := NB194_192.out; have hnc17 := NB192_194.out; have hcz18_0 : w16.cell? ⟨gb194, 0, none⟩ = some (.int .i64 0) := (blk_cell BK194.out 0).trans rfl; have hcz18_1 : w16.cell? ⟨gb194, 1, none⟩ = some (.int .i64 0) := (blk_cell BK194.out 1).trans rfl; have hcz18_2 : w16.cell? ⟨gb194, 2, none⟩ = some (.int .i64 0) := (blk_cell BK194.out 2).trans rfl; have hcz18_3 : w16.cell? ⟨gb194, 3, none⟩ = some (.int .i64 0) := (blk_cell BK194.out 3).trans rfl; have hfz18_0 := blk_frozen BK194.out 0; have hfz18_1 := blk_frozen BK194.out 1; have hfz18_2 := blk_frozen BK194.out 2; have hfz18_3 := blk_frozen BK194.out 3))
    (try simp only [Act.put, List.setIfInBounds_toArray, List.set_cons_zero, List.set_cons_succ])
    go_cut [22] (fun v22 wc => ∃ (kq : Nat) (x22_12 : Bool), v22 = .bool x22_12 ∧ Aside0 (spec_l05Made.j0 kq l1 l2 ((rd_T34 l0_0 a3).f0) x22_12 ((rd_T34 l0_0 a3).f0) ((rd_T34 l0_0 a3).f1) ((rd_T34 l0_0 a3).f2) ((rd_T34 l0_0 a3).f3) = some r) ∧ Aside0 (kq ≤ k) ∧ Aside0 (wc.heap[gb192]? = some (.cells #[(.slice (some ad193) l0_0.length c0_0)] 26 (0, 0))) ∧ Aside0 (wc.heap[gb194]? = some (.cells #[.int .i64 ((rd_T34 l0_0 a3).f0), .int .i64 ((rd_T34 l0_0 a3).f1), .int .i64 ((rd_T34 l0_0 a3).f2), .int .i64 ((rd_T34 l0_0 a3).f3)] 34 (0, 0))) ∧ Aside0 (Below w.heap.size w wc))
    case first =>
     have H := HC13.out
     clear HC13
     by_cases c19 : ((rd_T34 l0_0 a3).f0) = 3
     ·rw [if_pos c19] at H
      have c19b0 : (((rd_T34 l0_0 a3).f0) == 3) = true := beq_iff_eq.mpr c19
      have c19b1 : (((rd_T34 l0_0 a3).f0) != 3) = false := bne_eq_false_iff_eq.mpr c19
      clear c19
      (first | rw [c19b0] | (simp only [i64_w, i32_w]; rw [c19b0]) | skip)
      have H' := Aside0.mk H
      clear H
      go_wp2
      go_meet
      case rel => exact ⟨_, ((((rd_T34 l0_0 a3).f0) == 3)), (by first | rfl | (simp; done) | (simp [*]; done)), H', ⟨by first | omega | exact Nat.le_refl _⟩, ⟨by (with_reducible repeat (first | refine blk_drewN ?_ _ | refine blk_drew ?_ | refine blk_alloc ?_ _)); refine blk_far ?_ NB192_194.out _; (with_reducible repeat (first | refine blk_drewN ?_ _ | refine blk_drew ?_ | refine blk_alloc ?_ _)); refine blk_far ?_ NB192_194.out _; (with_reducible repeat (first | refine blk_drewN ?_ _ | refine blk_drew ?_ | refine blk_alloc ?_ _)); refine blk_far ?_ NB192_194.out _; (with_reducible repeat (first | refine blk_drewN ?_ _ | refine blk_drew ?_ | refine blk_alloc ?_ _)); refine blk_far ?_ NB192_194.out _; (with_reducible repeat (first | refine blk_drewN ?_ _ | refine blk_drew ?_ | refine blk_alloc ?_ _)); exact BK192.out⟩, ⟨by (with_reducible repeat (first | refine blk_drewN ?_ _ | refine blk_drew ?_ | refine blk_alloc ?_ _)); refine blk_put (cs := #[.int .i64 ((rd_T34 l0_0 a3).f0), .int .i64 ((rd_T34 l0_0 a3).f1), .int .i64 ((rd_T34 l0_0 a3).f2), .int .i64 0]) ?_ 3 _ rfl; (with_reducible repeat (first | refine blk_drewN ?_ _ | refine blk_drew ?_ | refine blk_alloc ?_ _)); refine blk_put (cs := #[.int .i64 ((rd_T34 l0_0 a3).f0), .int .i64 ((rd_T34 l0_0 a3).f1), .int .i64 0, .int .i64 0]) ?_ 2 _ rfl; (with_reducible repeat (first | refine blk_drewN ?_ _ | refine blk_drew ?_ | refine blk_alloc ?_ _)); refine blk_put (cs := #[.int .i64 ((rd_T34 l0_0 a3).f0), .int .i64 0, .int .i64 0, .int .i64 0]) ?_ 1 _ rfl; (with_reducible repeat (first | refine blk_drewN ?_ _ | refine blk_drew ?_ | refine blk_alloc ?_ _)); refine blk_put (cs := #[.int .i64 0, .int .i64 0, .int .i64 0, .int .i64 0]) ?_ 0 _ rfl; (with_reducible repeat (first | refine blk_drewN ?_ _ | refine blk_drew ?_ | refine blk_alloc ?_ _)); exact BK194.out⟩, ⟨bw HB.out⟩⟩
     ·rw [if_neg c19] at H
      have c19b0 : (((rd_T34 l0_0 a3).f0) == 3) = false := beq_eq_false_iff_ne.mpr c19
      have c19b1 : (((rd_T34 l0_0 a3).f0) != 3) = true := bne_iff_ne.mpr c19
      (first | rw [c19b0] | (simp only [i64_w, i32_w]; rw [c19b0]) | skip)
      have H' := Aside0.mk H
      clear H
      go_wp2
      go_meet
      case rel => exact ⟨_, ((((rd_T34 l0_0 a3).f0) == 6)), (by first | rfl | (simp; done) | (simp [*]; done)), H', ⟨by first | omega | exact Nat.le_refl _⟩, ⟨by (with_reducible repeat (first | refine blk_drewN ?_ _ | refine blk_drew ?_ | refine blk_alloc ?_ _)); refine blk_far ?_ NB192_194.out _; (with_reducible repeat (first | refine blk_drewN ?_ _ | refine blk_drew ?_ | refine blk_alloc ?_ _)); refine blk_far ?_ NB192_194.out _; (with_reducible repeat (first | refine blk_drewN ?_ _ | refine blk_drew ?_ | refine blk_alloc ?_ _)); refine blk_far ?_ NB192_194.out _; (with_reducible repeat (first | refine blk_drewN ?_ _ | refine blk_drew ?_ | refine blk_alloc ?_ _)); refine blk_far ?_ NB192_194.out _; (with_reducible repeat (first | refine blk_drewN ?_ _ | refine blk_drew ?_ | refine blk_alloc ?_ _)); exact BK192.out⟩, ⟨by (with_reducible repeat (first | refine blk_drewN ?_ _ | refine blk_drew ?_ | refine blk_alloc ?_ _)); refine blk_put (cs := #[.int .i64 ((rd_T34 l0_0 a3).f0), .int .i64 ((rd_T34 l0_0 a3).f1), .int .i64 ((rd_T34 l0_0 a3).f2), .int .i64 0]) ?_ 3 _ rfl; (with_reducible repeat (first | refine blk_drewN ?_ _ | refine blk_drew ?_ | refine blk_alloc ?_ _)); refine blk_put (cs := #[.int .i64 ((rd_T34 l0_0 a3).f0), .int .i64 ((rd_T34 l0_0 a3).f1), .int .i64 0, .int .i64 0]) ?_ 2 _ rfl; (with_reducible repeat (first | refine blk_drewN ?_ _ | refine blk_drew ?_ | refine blk_alloc ?_ _)); refine blk_put (cs := #[.int .i64 ((rd_T34 l0_0 a3).f0), .int .i64 0, .int .i64 0, .int .i64 0]) ?_ 1 _ rfl; (with_reducible repeat (first | refine blk_drewN ?_ _ | refine blk_drew ?_ | refine blk_alloc ?_ _)); refine blk_put (cs := #[.int .i64 0, .int .i64 0, .int .i64 0, .int .i64 0]) ?_ 0 _ rfl; (with_reducible repeat (first | refine blk_drewN ?_ _ | refine blk_drew ?_ | refine blk_alloc ?_ _)); exact BK194.out⟩, ⟨bw HB.out⟩⟩
    case rest =>
     clear HC13
     try clear c1
     try clear p1
     try clear q1
     try clear hx1
     try clear c2
     try clear p2
     try clear c5
     try clear c5b0
     try clear c6
     try clear c6b0
     try clear c7
     try clear c7b0
     try clear c7b1
     try clear c11
     try clear c17
     try clear c19
     try clear c19b0
     try clear c19b1
     try clear p19
     try clear q19
     try clear hx19
     try clear hcz12_0
     try clear hcz12_1
     try clear hcz12_2
     try clear hcz12_3
     try clear hcz15_0
     try clear hcz18_0
     try clear hcz18_1
     try clear hcz18_2
     try clear hcz18_3
     try clear hcz9_0
     try clear hfz12_0
     try clear hfz12_1
     try clear hfz12_2
     try clear hfz12_3
     try clear hfz15_0
     try clear hfz18_0
     try clear hfz18_1
     try clear hfz18_2
     try clear hfz18_3
     try clear hfz9_0
     try clear hx193_0
     try clear hx193_1
     try clear hx193_2
     try clear hx193_3
     try clear p193
     try clear q193
     obtain ⟨kq, x22_12, rfl, HA, HJ12, BK192, BK194, HB⟩ := hcut
     cases kq with
     | zero => exact absurd HA.out (by simp [spec_l05Made.j0])
     | succ kj12 =>
      have H := HA.out
      clear HA
      simp only [spec_l05Made.j0] at H
      by_cases c20 : x22_12 = true
      ·subst c20
       have H1 : (if 0 ≤ ((rd_T34 l0_0 a3).f2) then (if ((rd_T34 l0_0 a3).f2) < (l1.length : Int) then (some (rdOf false l1 ((rd_T34 l0_0 a3).f2))) else (none)) else (none)) = some r := by rw [if_pos rfl] at H; exact H
       clear H
       have H := H1
       clear H1
       by_cases c21 : 0 ≤ ((rd_T34 l0_0 a3).f2)
       ·rw [if_pos c21] at H
        have c21b0 : decide (0 ≤ ((rd_T34 l0_0 a3).f2)) = true := decide_eq_true c21
        clear c21
        by_cases c22 : ((rd_T34 l0_0 a3).f2) < (l1.length : Int)
        ·rw [if_pos c22] at H
         have c22b0 : decide (((rd_T34 l0_0 a3).f2) < (l1.length : Int)) = true := decide_eq_true c22
         clear c22
         obtain rfl := Option.some.inj H
         have hnb23 := NB194_192.out
         have hnc23 := NB192_194.out
         have hcz24_0 : wc.cell? ⟨gb194, 0, none⟩ = some (.int .i64 ((rd_T34 l0_0 a3).f0)) := (blk_cell BK194.out 0).trans rfl
         have hcz24_1 : wc.cell? ⟨gb194, 1, none⟩ = some (.int .i64 ((rd_T34 l0_0 a3).f1)) := (blk_cell BK194.out 1).trans rfl
         have hcz24_2 : wc.cell? ⟨gb194, 2, none⟩ = some (.int .i64 ((rd_T34 l0_0 a3).f2)) := (blk_cell BK194.out 2).trans rfl
         have hcz24_3 : wc.cell? ⟨gb194, 3, none⟩ = some (.int .i64 ((rd_T34 l0_0 a3).f3)) := (blk_cell BK194.out 3).trans rfl
         have hfz24_0 := blk_frozen BK194.out 0
         have hfz24_1 := blk_frozen BK194.out 1
         have hfz24_2 := blk_frozen BK194.out 2
         have hfz24_3 := blk_frozen BK194.out 3
         have p195 : 0 ≤ (((rd_T34 l0_0 a3).f2) : Int) := oda
         have q195 : ((rd_T34 l0_0 a3).f2) < (l1.length : Int) := oda
         obtain ⟨ad195, e195, hx195_0⟩ := Kd.at_bool HR1.out ((rd_T34 l0_0 a3).f2) p195 q195
         cases e195
         replace hx195_0 := (HB.out.cell (World.block_lt_of_cell? w _ hx195_0)).trans hx195_0
         replace p195 := eq_true p195
         replace q195 := eq_true q195
         go_wp2
         go_ret
         exact ⟨by first | rfl | (simp [errW_none, errW_some] <;> rfl) | (simp [*, errW_none, errW_some] <;> rfl), bw HB.out⟩
        ·rw [if_neg c22] at H
         exact absurd H (by simp)
       ·rw [if_neg c21] at H
        exact absurd H (by simp)
      ·replace c20 := Bool.eq_false_iff.mpr c20
       subst c20
       have H1 : (if ((rd_T34 l0_0 a3).f0) = 7 then (if 0 ≤ ((rd_T34 l0_0 a3).f2) then (if ((rd_T34 l0_0 a3).f2) < (l1.length : Int) then (if rdOf false l1 ((rd_T34 l0_0 a3).f2) = true then (if 0 ≤ ((rd_T34 l0_0 a3).f3) then (if ((rd_T34 l0_0 a3).f3) < (l2.length : Int) then (if (rd l2 ((rd_T34 l0_0 a3).f3)) ≥ 0 then (if 0 ≤ (rd l2 ((rd_T34 l0_0 a3).f3)) then (if (rd l2 ((rd_T34 l0_0 a3).f3)) < (l1.length : Int) then (if rdOf false l1 (rd l2 ((rd_T34 l0_0 a3).f3)) = true then (some true) else (if ((rd_T34 l0_0 a3).f3) < (l1.length : Int) then (if rdOf false l1 ((rd_T34 l0_0 a3).f3) = true then (if ((rd_T34 l0_0 a3).f2) < (l2.length : Int) then (if (rd l2 ((rd_T34 l0_0 a3).f2)) ≥ 0 then (if 0 ≤ (rd l2 ((rd_T34 l0_0 a3).f2)) then (if (rd l2 ((rd_T34 l0_0 a3).f2)) < (l1.length : Int) then (some (rdOf false l1 (rd l2 ((rd_T34 l0_0 a3).f2)))) else (none)) else (none)) else (some false)) else (none)) else (some false)) else (none))) else (none)) else (none)) else (if ((rd_T34 l0_0 a3).f3) < (l1.length : Int) then (if rdOf false l1 ((rd_T34 l0_0 a3).f3) = true then (if ((rd_T34 l0_0 a3).f2) < (l2.length : Int) then (if (rd l2 ((rd_T34 l0_0 a3).f2)) ≥ 0 then (if 0 ≤ (rd l2 ((rd_T34 l0_0 a3).f2)) then (if (rd l2 ((rd_T34 l0_0 a3).f2)) < (l1.length : Int) then (some (rdOf false l1 (rd l2 ((rd_T34 l0_0 a3).f2)))) else (none)) else (none)) else (some false)) else (none)) else (some false)) else (none))) else (none)) else (none)) else (if 0 ≤ ((rd_T34 l0_0 a3).f3) then (if ((rd_T34 l0_0 a3).f3) < (l1.length : Int) then (if rdOf false l1 ((rd_T34 l0_0 a3).f3) = true then (if ((rd_T34 l0_0 a3).f2) < (l2.length : Int) then (if (rd l2 ((rd_T34 l0_0 a3).f2)) ≥ 0 then (if 0 ≤ (rd l2 ((rd_T34 l0_0 a3).f2)) then (if (rd l2 ((rd_T34 l0_0 a3).f2)) < (l1.length : Int) then (some (rdOf false l1 (rd l2 ((rd_T34 l0_0 a3).f2)))) else (none)) else (none)) else (some false)) else (none)) else (some false)) else (none)) else (none))) else (none)) else (none)) else (if 0 ≤ ((rd_T34 l0_0 a3).f2) then (if ((rd_T34 l0_0 a3).f2) < (l1.length : Int) then (if rdOf false l1 ((rd_T34 l0_0 a3).f2) = true then (if 0 ≤ ((rd_T34 l0_0 a3).f3) then (if ((rd_T34 l0_0 a3).f3) < (l1.length : Int) then (some (rdOf false l1 ((rd_T34 l0_0 a3).f3))) else (none)) else (none)) else (some false)) else (none)) else (none))) = some r := by rw [if_neg (show ¬ (false = true) by decide)] at H; exact H
       clear H
       have H := H1
       clear H1
       by_cases c25 : ((rd_T34 l0_0 a3).f0) = 7
       ·rw [if_pos c25] at H
        have c25b0 : (((rd_T34 l0_0 a3).f0) == 7) = true := beq_iff_eq.mpr c25
        have c25b1 : (((rd_T34 l0_0 a3).f0) != 7) = false := bne_eq_false_iff_eq.mpr c25
        clear c25
        by_cases c26 : 0 ≤ ((rd_T34 l0_0 a3).f2)
        ·rw [if_pos c26] at H
         have c26b0 : decide (0 ≤ ((rd_T34 l0_0 a3).f2)) = true := decide_eq_true c26
         clear c26
         by_cases c27 : ((rd_T34 l0_0 a3).f2) < (l1.length : Int)
         ·rw [if_pos c27] at H
          have c27b0 : decide (((rd_T34 l0_0 a3).f2) < (l1.length : Int)) = true := decide_eq_true c27
          clear c27
          obtain ⟨bq28, hbq28⟩ : ∃ b_ : Bool, b_ = (rdOf false l1 ((rd_T34 l0_0 a3).f2)) := ⟨_, rfl⟩
          replace H : (if bq28 = true then (if 0 ≤ ((rd_T34 l0_0 a3).f3) then (if ((rd_T34 l0_0 a3).f3) < (l2.length : Int) then (if (rd l2 ((rd_T34 l0_0 a3).f3)) ≥ 0 then (if 0 ≤ (rd l2 ((rd_T34 l0_0 a3).f3)) then (if (rd l2 ((rd_T34 l0_0 a3).f3)) < (l1.length : Int) then (if rdOf false l1 (rd l2 ((rd_T34 l0_0 a3).f3)) = true then (some true) else (if ((rd_T34 l0_0 a3).f3) < (l1.length : Int) then (if rdOf false l1 ((rd_T34 l0_0 a3).f3) = true then (if ((rd_T34 l0_0 a3).f2) < (l2.length : Int) then (if (rd l2 ((rd_T34 l0_0 a3).f2)) ≥ 0 then (if 0 ≤ (rd l2 ((rd_T34 l0_0 a3).f2)) then (if (rd l2 ((rd_T34 l0_0 a3).f2)) < (l1.length : Int) then (some (rdOf false l1 (rd l2 ((rd_T34 l0_0 a3).f2)))) else (none)) else (none)) else (some false)) else (none)) else (some false)) else (none))) else (none)) else (none)) else (if ((rd_T34 l0_0 a3).f3) < (l1.length : Int) then (if rdOf false l1 ((rd_T34 l0_0 a3).f3) = true then (if ((rd_T34 l0_0 a3).f2) < (l2.length : Int) then (if (rd l2 ((rd_T34 l0_0 a3).f2)) ≥ 0 then (if 0 ≤ (rd l2 ((rd_T34 l0_0 a3).f2)) then (if (rd l2 ((rd_T34 l0_0 a3).f2)) < (l1.length : Int) then (some (rdOf false l1 (rd l2 ((rd_T34 l0_0 a3).f2)))) else (none)) else (none)) else (some false)) else (none)) else (some false)) else (none))) else (none)) else (none)) else (if 0 ≤ ((rd_T34 l0_0 a3).f3) then (if ((rd_T34 l0_0 a3).f3) < (l1.length : Int) then (if rdOf false l1 ((rd_T34 l0_0 a3).f3) = true then (if ((rd_T34 l0_0 a3).f2) < (l2.length : Int) then (if (rd l2 ((rd_T34 l0_0 a3).f2)) ≥ 0 then (if 0 ≤ (rd l2 ((rd_T34 l0_0 a3).f2)) then (if (rd l2 ((rd_T34 l0_0 a3).f2)) < (l1.length : Int) then (some (rdOf false l1 (rd l2 ((rd_T34 l0_0 a3).f2)))) else (none)) else (none)) else (some false)) else (none)) else (some false)) else (none)) else (none))) = some r := by rw [← hbq28] at H; exact H
          have Nbq28 := Aside0.mk hbq28
          clear hbq28
          by_cases c29 : bq28 = true
          ·subst c29
           have H1 : (if 0 ≤ ((rd_T34 l0_0 a3).f3) then (if ((rd_T34 l0_0 a3).f3) < (l2.length : Int) then (if (rd l2 ((rd_T34 l0_0 a3).f3)) ≥ 0 then (if 0 ≤ (rd l2 ((rd_T34 l0_0 a3).f3)) then (if (rd l2 ((rd_T34 l0_0 a3).f3)) < (l1.length : Int) then (if rdOf false l1 (rd l2 ((rd_T34 l0_0 a3).f3)) = true then (some true) else (if ((rd_T34 l0_0 a3).f3) < (l1.length : Int) then (if rdOf false l1 ((rd_T34 l0_0 a3).f3) = true then (if ((rd_T34 l0_0 a3).f2) < (l2.length : Int) then (if (rd l2 ((rd_T34 l0_0 a3).f2)) ≥ 0 then (if 0 ≤ (rd l2 ((rd_T34 l0_0 a3).f2)) then (if (rd l2 ((rd_T34 l0_0 a3).f2)) < (l1.length : Int) then (some (rdOf false l1 (rd l2 ((rd_T34 l0_0 a3).f2)))) else (none)) else (none)) else (some false)) else (none)) else (some false)) else (none))) else (none)) else (none)) else (if ((rd_T34 l0_0 a3).f3) < (l1.length : Int) then (if rdOf false l1 ((rd_T34 l0_0 a3).f3) = true then (if ((rd_T34 l0_0 a3).f2) < (l2.length : Int) then (if (rd l2 ((rd_T34 l0_0 a3).f2)) ≥ 0 then (if 0 ≤ (rd l2 ((rd_T34 l0_0 a3).f2)) then (if (rd l2 ((rd_T34 l0_0 a3).f2)) < (l1.length : Int) then (some (rdOf false l1 (rd l2 ((rd_T34 l0_0 a3).f2)))) else (none)) else (none)) else (some false)) else (none)) else (some false)) else (none))) else (none)) else (none)) = some r := by rw [if_pos rfl] at H; exact H
           clear H
           have H := H1
           clear H1
           by_cases c30 : 0 ≤ ((rd_T34 l0_0 a3).f3)
           ·rw [if_pos c30] at H
            have c30b0 : decide (0 ≤ ((rd_T34 l0_0 a3).f3)) = true := decide_eq_true c30
            clear c30
            by_cases c31 : ((rd_T34 l0_0 a3).f3) < (l2.length : Int)
            ·rw [if_pos c31] at H
             have c31b0 : decide (((rd_T34 l0_0 a3).f3) < (l2.length : Int)) = true := decide_eq_true c31
             clear c31
             by_cases c32 : (rd l2 ((rd_T34 l0_0 a3).f3)) ≥ 0
             ·rw [if_pos c32] at H
              have c32b0 : decide (0 ≤ (rd l2 ((rd_T34 l0_0 a3).f3))) = true := decide_eq_true c32
              clear c32
              by_cases c33 : 0 ≤ (rd l2 ((rd_T34 l0_0 a3).f3))
              ·rw [if_pos c33] at H
               have c33b0 : decide (0 ≤ (rd l2 ((rd_T34 l0_0 a3).f3))) = true := decide_eq_true c33
               clear c33
               by_cases c34 : (rd l2 ((rd_T34 l0_0 a3).f3)) < (l1.length : Int)
               ·rw [if_pos c34] at H
                have c34b0 : decide ((rd l2 ((rd_T34 l0_0 a3).f3)) < (l1.length : Int)) = true := decide_eq_true c34
                clear c34
                obtain ⟨bq35, hbq35⟩ : ∃ b_ : Bool, b_ = (rdOf false l1 (rd l2 ((rd_T34 l0_0 a3).f3))) := ⟨_, rfl⟩
                replace H : (if bq35 = true then (some true) else (if ((rd_T34 l0_0 a3).f3) < (l1.length : Int) then (if rdOf false l1 ((rd_T34 l0_0 a3).f3) = true then (if ((rd_T34 l0_0 a3).f2) < (l2.length : Int) then (if (rd l2 ((rd_T34 l0_0 a3).f2)) ≥ 0 then (if 0 ≤ (rd l2 ((rd_T34 l0_0 a3).f2)) then (if (rd l2 ((rd_T34 l0_0 a3).f2)) < (l1.length : Int) then (some (rdOf false l1 (rd l2 ((rd_T34 l0_0 a3).f2)))) else (none)) else (none)) else (some false)) else (none)) else (some false)) else (none))) = some r := by rw [← hbq35] at H; exact H
                have Nbq35 := Aside0.mk hbq35
                clear hbq35
                by_cases c36 : bq35 = true
                ·subst c36
                 have H1 : (some true) = some r := by rw [if_pos rfl] at H; exact H
                 clear H
                 have H := H1
                 clear H1
                 obtain rfl := Option.some.inj H
                 have hnb37 := NB194_192.out
                 have hnc37 := NB192_194.out
                 have hcz38_0 : wc.cell? ⟨gb194, 0, none⟩ = some (.int .i64 ((rd_T34 l0_0 a3).f0)) := (blk_cell BK194.out 0).trans rfl
                 have hcz38_1 : wc.cell? ⟨gb194, 1, none⟩ = some (.int .i64 ((rd_T34 l0_0 a3).f1)) := (blk_cell BK194.out 1).trans rfl
                 have hcz38_2 : wc.cell? ⟨gb194, 2, none⟩ = some (.int .i64 ((rd_T34 l0_0 a3).f2)) := (blk_cell BK194.out 2).trans rfl
                 have hcz38_3 : wc.cell? ⟨gb194, 3, none⟩ = some (.int .i64 ((rd_T34 l0_0 a3).f3)) := (blk_cell BK194.out 3).trans rfl
                 have hfz38_0 := blk_frozen BK194.out 0
                 have hfz38_1 := blk_frozen BK194.out 1
                 have hfz38_2 := blk_frozen BK194.out 2
                 have hfz38_3 := blk_frozen BK194.out 3
                 have p196 : 0 ≤ (((rd_T34 l0_0 a3).f2) : Int) := oda
                 have q196 : ((rd_T34 l0_0 a3).f2) < (l1.length : Int) := oda
                 obtain ⟨ad196, e196, hx196_0⟩ := Kd.at_bool HR1.out ((rd_T34 l0_0 a3).f2) p196 q196
                 (try rw [← Nbq28.out] at hx196_0)
                 (try rw [← Nbq35.out] at hx196_0)
                 cases e196
                 replace hx196_0 := (HB.out.cell (World.block_lt_of_cell? w _ hx196_0)).trans hx196_0
                 replace p196 := eq_true p196
                 replace q196 := eq_true q196
                 have p197 : 0 ≤ (((rd_T34 l0_0 a3).f3) : Int) := oda
                 have q197 : ((rd_T34 l0_0 a3).f3) < (l2.length : Int) := oda
                 obtain ⟨ad197, e197, hx197_0⟩ := Kd.at_int HR2.out ((rd_T34 l0_0 a3).f3) p197 q197
                 cases e197
                 replace hx197_0 := (HB.out.cell (World.block_lt_of_cell? w _ hx197_0)).trans hx197_0
                 replace p197 := eq_true p197
                 replace q197 := eq_true q197
                 have p198 : 0 ≤ (((rd_T34 l0_0 a3).f3) : Int) := oda
                 have q198 : ((rd_T34 l0_0 a3).f3) < (l2.length : Int) := oda
                 obtain ⟨ad198, e198, hx198_0⟩ := Kd.at_int HR2.out ((rd_T34 l0_0 a3).f3) p198 q198
                 obtain rfl : ad197 = ad198 := (by injection e198)
                 replace hx198_0 := (HB.out.cell (World.block_lt_of_cell? w _ hx198_0)).trans hx198_0
                 replace p198 := eq_true p198
                 replace q198 := eq_true q198
                 have p199 : 0 ≤ ((rd l2 ((rd_T34 l0_0 a3).f3)) : Int) := oda
                 have q199 : (rd l2 ((rd_T34 l0_0 a3).f3)) < (l1.length : Int) := oda
                 obtain ⟨ad199, e199, hx199_0⟩ := Kd.at_bool HR1.out (rd l2 ((rd_T34 l0_0 a3).f3)) p199 q199
                 (try rw [← Nbq28.out] at hx199_0)
                 (try rw [← Nbq35.out] at hx199_0)
                 obtain rfl : ad196 = ad199 := (by injection e199)
                 replace hx199_0 := (HB.out.cell (World.block_lt_of_cell? w _ hx199_0)).trans hx199_0
                 replace p199 := eq_true p199
                 replace q199 := eq_true q199
                 go_wp2
                 go_ret
                 exact ⟨by first | rfl | (simp [errW_none, errW_some] <;> rfl) | (simp [*, errW_none, errW_some] <;> rfl), bw HB.out⟩
                ·replace c36 := Bool.eq_false_iff.mpr c36
                 subst c36
                 have H1 : (if ((rd_T34 l0_0 a3).f3) < (l1.length : Int) then (if rdOf false l1 ((rd_T34 l0_0 a3).f3) = true then (if ((rd_T34 l0_0 a3).f2) < (l2.length : Int) then (if (rd l2 ((rd_T34 l0_0 a3).f2)) ≥ 0 then (if 0 ≤ (rd l2 ((rd_T34 l0_0 a3).f2)) then (if (rd l2 ((rd_T34 l0_0 a3).f2)) < (l1.length : Int) then (some (rdOf false l1 (rd l2 ((rd_T34 l0_0 a3).f2)))) else (none)) else (none)) else (some false)) else (none)) else (some false)) else (none)) = some r := by rw [if_neg (show ¬ (false = true) by decide)] at H; exact H
                 clear H
                 have H := H1
                 clear H1
                 by_cases c39 : ((rd_T34 l0_0 a3).f3) < (l1.length : Int)
                 ·rw [if_pos c39] at H
                  have c39b0 : decide (((rd_T34 l0_0 a3).f3) < (l1.length : Int)) = true := decide_eq_true c39
                  clear c39
                  obtain ⟨bq40, hbq40⟩ : ∃ b_ : Bool, b_ = (rdOf false l1 ((rd_T34 l0_0 a3).f3)) := ⟨_, rfl⟩
                  replace H : (if bq40 = true then (if ((rd_T34 l0_0 a3).f2) < (l2.length : Int) then (if (rd l2 ((rd_T34 l0_0 a3).f2)) ≥ 0 then (if 0 ≤ (rd l2 ((rd_T34 l0_0 a3).f2)) then (if (rd l2 ((rd_T34 l0_0 a3).f2)) < (l1.length : Int) then (some (rdOf false l1 (rd l2 ((rd_T34 l0_0 a3).f2)))) else (none)) else (none)) else (some false)) else (none)) else (some false)) = some r := by rw [← hbq40] at H; exact H
                  have Nbq40 := Aside0.mk hbq40
                  clear hbq40
                  by_cases c41 : bq40 = true
                  ·subst c41
                   have H1 : (if ((rd_T34 l0_0 a3).f2) < (l2.length : Int) then (if (rd l2 ((rd_T34 l0_0 a3).f2)) ≥ 0 then (if 0 ≤ (rd l2 ((rd_T34 l0_0 a3).f2)) then (if (rd l2 ((rd_T34 l0_0 a3).f2)) < (l1.length : Int) then (some (rdOf false l1 (rd l2 ((rd_T34 l0_0 a3).f2)))) else (none)) else (none)) else (some false)) else (none)) = some r := by rw [if_pos rfl] at H; exact H
                   clear H
                   have H := H1
                   clear H1
                   by_cases c42 : ((rd_T34 l0_0 a3).f2) < (l2.length : Int)
                   ·rw [if_pos c42] at H
                    have c42b0 : decide (((rd_T34 l0_0 a3).f2) < (l2.length : Int)) = true := decide_eq_true c42
                    clear c42
                    by_cases c43 : (rd l2 ((rd_T34 l0_0 a3).f2)) ≥ 0
                    ·rw [if_pos c43] at H
                     have c43b0 : decide (0 ≤ (rd l2 ((rd_T34 l0_0 a3).f2))) = true := decide_eq_true c43
                     clear c43
                     by_cases c44 : 0 ≤ (rd l2 ((rd_T34 l0_0 a3).f2))
                     ·rw [if_pos c44] at H
                      have c44b0 : decide (0 ≤ (rd l2 ((rd_T34 l0_0 a3).f2))) = true := decide_eq_true c44
                      clear c44
                      by_cases c45 : (rd l2 ((rd_T34 l0_0 a3).f2)) < (l1.length : Int)
                      ·rw [if_pos c45] at H
                       have c45b0 : decide ((rd l2 ((rd_T34 l0_0 a3).f2)) < (l1.length : Int)) = true := decide_eq_true c45
                       clear c45
                       obtain rfl := Option.some.inj H
                       have hnb46 := NB194_192.out
                       have hnc46 := NB192_194.out
                       have hcz47_0 : wc.cell? ⟨gb194, 0, none⟩ = some (.int .i64 ((rd_T34 l0_0 a3).f0)) := (blk_cell BK194.out 0).trans rfl
                       have hcz47_1 : wc.cell? ⟨gb194, 1, none⟩ = some (.int .i64 ((rd_T34 l0_0 a3).f1)) := (blk_cell BK194.out 1).trans rfl
                       have hcz47_2 : wc.cell? ⟨gb194, 2, none⟩ = some (.int .i64 ((rd_T34 l0_0 a3).f2)) := (blk_cell BK194.out 2).trans rfl
                       have hcz47_3 : wc.cell? ⟨gb194, 3, none⟩ = some (.int .i64 ((rd_T34 l0_0 a3).f3)) := (blk_cell BK194.out 3).trans rfl
                       have hfz47_0 := blk_frozen BK194.out 0
                       have hfz47_1 := blk_frozen BK194.out 1
                       have hfz47_2 := blk_frozen BK194.out 2
                       have hfz47_3 := blk_frozen BK194.out 3
                       have p196 : 0 ≤ (((rd_T34 l0_0 a3).f2) : Int) := oda
                       have q196 : ((rd_T34 l0_0 a3).f2) < (l1.length : Int) := oda
                       obtain ⟨ad196, e196, hx196_0⟩ := Kd.at_bool HR1.out ((rd_T34 l0_0 a3).f2) p196 q196
                       (try rw [← Nbq28.out] at hx196_0)
                       (try rw [← Nbq35.out] at hx196_0)
                       (try rw [← Nbq40.out] at hx196_0)
                       cases e196
                       replace hx196_0 := (HB.out.cell (World.block_lt_of_cell? w _ hx196_0)).trans hx196_0
                       replace p196 := eq_true p196
                       replace q196 := eq_true q196
                       have p197 : 0 ≤ (((rd_T34 l0_0 a3).f3) : Int) := oda
                       have q197 : ((rd_T34 l0_0 a3).f3) < (l2.length : Int) := oda
                       obtain ⟨ad197, e197, hx197_0⟩ := Kd.at_int HR2.out ((rd_T34 l0_0 a3).f3) p197 q197
                       cases e197
                       replace hx197_0 := (HB.out.cell (World.block_lt_of_cell? w _ hx197_0)).trans hx197_0
                       replace p197 := eq_true p197
                       replace q197 := eq_true q197
                       have p198 : 0 ≤ (((rd_T34 l0_0 a3).f3) : Int) := oda
                       have q198 : ((rd_T34 l0_0 a3).f3) < (l2.length : Int) := oda
                       obtain ⟨ad198, e198, hx198_0⟩ := Kd.at_int HR2.out ((rd_T34 l0_0 a3).f3) p198 q198
                       obtain rfl : ad197 = ad198 := (by injection e198)
                       replace hx198_0 := (HB.out.cell (World.block_lt_of_cell? w _ hx198_0)).trans hx198_0
                       replace p198 := eq_true p198
                       replace q198 := eq_true q198
                       have p199 : 0 ≤ ((rd l2 ((rd_T34 l0_0 a3).f3)) : Int) := oda
                       have q199 : (rd l2 ((rd_T34 l0_0 a3).f3)) < (l1.length : Int) := oda
                       obtain ⟨ad199, e199, hx199_0⟩ := Kd.at_bool HR1.out (rd l2 ((rd_T34 l0_0 a3).f3)) p199 q199
                       (try rw [← Nbq28.out] at hx199_0)
                       (try rw [← Nbq35.out] at hx199_0)
                       (try rw [← Nbq40.out] at hx199_0)
                       obtain rfl : ad196 = ad199 := (by injection e199)
                       replace hx199_0 := (HB.out.cell (World.block_lt_of_cell? w _ hx199_0)).trans hx199_0
                       replace p199 := eq_true p199
                       replace q199 := eq_true q199
                       have p200 : 0 ≤ (((rd_T34 l0_0 a3).f3) : Int) := oda
                       have q200 : ((rd_T34 l0_0 a3).f3) < (l1.length : Int) := oda
                       obtain ⟨ad200, e200, hx200_0⟩ := Kd.at_bool HR1.out ((rd_T34 l0_0 a3).f3) p200 q200
                       (try rw [← Nbq28.out] at hx200_0)
                       (try rw [← Nbq35.out] at hx200_0)
                       (try rw [← Nbq40.out] at hx200_0)
                       obtain rfl : ad196 = ad200 := (by injection e200)
                       replace hx200_0 := (HB.out.cell (World.block_lt_of_cell? w _ hx200_0)).trans hx200_0
                       replace p200 := eq_true p200
                       replace q200 := eq_true q200
                       have p201 : 0 ≤ (((rd_T34 l0_0 a3).f2) : Int) := oda
                       have q201 : ((rd_T34 l0_0 a3).f2) < (l2.length : Int) := oda
                       obtain ⟨ad201, e201, hx201_0⟩ := Kd.at_int HR2.out ((rd_T34 l0_0 a3).f2) p201 q201
                       obtain rfl : ad197 = ad201 := (by injection e201)
                       replace hx201_0 := (HB.out.cell (World.block_lt_of_cell? w _ hx201_0)).trans hx201_0
                       replace p201 := eq_true p201
                       replace q201 := eq_true q201
                       have p202 : 0 ≤ (((rd_T34 l0_0 a3).f2) : Int) := oda
                       have q202 : ((rd_T34 l0_0 a3).f2) < (l2.length : Int) := oda
                       obtain ⟨ad202, e202, hx202_0⟩ := Kd.at_int HR2.out ((rd_T34 l0_0 a3).f2) p202 q202
                       obtain rfl : ad197 = ad202 := (by injection e202)
                       replace hx202_0 := (HB.out.cell (World.block_lt_of_cell? w _ hx202_0)).trans hx202_0
                       replace p202 := eq_true p202
                       replace q202 := eq_true q202
                       have p203 : 0 ≤ ((rd l2 ((rd_T34 l0_0 a3).f2)) : Int) := oda
                       have q203 : (rd l2 ((rd_T34 l0_0 a3).f2)) < (l1.length : Int) := oda
                       obtain ⟨ad203, e203, hx203_0⟩ := Kd.at_bool HR1.out (rd l2 ((rd_T34 l0_0 a3).f2)) p203 q203
                       (try rw [← Nbq28.out] at hx203_0)
                       (try rw [← Nbq35.out] at hx203_0)
                       (try rw [← Nbq40.out] at hx203_0)
                       obtain rfl : ad196 = ad203 := (by injection e203)
                       replace hx203_0 := (HB.out.cell (World.block_lt_of_cell? w _ hx203_0)).trans hx203_0
                       replace p203 := eq_true p203
                       replace q203 := eq_true q203
                       go_wp2
                       go_ret
                       exact ⟨by first | rfl | (simp [errW_none, errW_some] <;> rfl) | (simp [*, errW_none, errW_some] <;> rfl), bw HB.out⟩
                      ·rw [if_neg c45] at H
                       exact absurd H (by simp)
                     ·rw [if_neg c44] at H
                      exact absurd H (by simp)
                    ·rw [if_neg c43] at H
                     have c43b0 : decide (0 ≤ (rd l2 ((rd_T34 l0_0 a3).f2))) = false := decide_eq_false c43
                     clear c43
                     obtain rfl := Option.some.inj H
                     have hnb48 := NB194_192.out
                     have hnc48 := NB192_194.out
                     have hcz49_0 : wc.cell? ⟨gb194, 0, none⟩ = some (.int .i64 ((rd_T34 l0_0 a3).f0)) := (blk_cell BK194.out 0).trans rfl
                     have hcz49_1 : wc.cell? ⟨gb194, 1, none⟩ = some (.int .i64 ((rd_T34 l0_0 a3).f1)) := (blk_cell BK194.out 1).trans rfl
                     have hcz49_2 : wc.cell? ⟨gb194, 2, none⟩ = some (.int .i64 ((rd_T34 l0_0 a3).f2)) := (blk_cell BK194.out 2).trans rfl
                     have hcz49_3 : wc.cell? ⟨gb194, 3, none⟩ = some (.int .i64 ((rd_T34 l0_0 a3).f3)) := (blk_cell BK194.out 3).trans rfl
                     have hfz49_0 := blk_frozen BK194.out 0
                     have hfz49_1 := blk_frozen BK194.out 1
                     have hfz49_2 := blk_frozen BK194.out 2
                     have hfz49_3 := blk_frozen BK194.out 3
                     have p196 : 0 ≤ (((rd_T34 l0_0 a3).f2) : Int) := oda
                     have q196 : ((rd_T34 l0_0 a3).f2) < (l1.length : Int) := oda
                     obtain ⟨ad196, e196, hx196_0⟩ := Kd.at_bool HR1.out ((rd_T34 l0_0 a3).f2) p196 q196
                     (try rw [← Nbq28.out] at hx196_0)
                     (try rw [← Nbq35.out] at hx196_0)
                     (try rw [← Nbq40.out] at hx196_0)
                     cases e196
                     replace hx196_0 := (HB.out.cell (World.block_lt_of_cell? w _ hx196_0)).trans hx196_0
                     replace p196 := eq_true p196
                     replace q196 := eq_true q196
                     have p197 : 0 ≤ (((rd_T34 l0_0 a3).f3) : Int) := oda
                     have q197 : ((rd_T34 l0_0 a3).f3) < (l2.length : Int) := oda
                     obtain ⟨ad197, e197, hx197_0⟩ := Kd.at_int HR2.out ((rd_T34 l0_0 a3).f3) p197 q197
                     cases e197
                     replace hx197_0 := (HB.out.cell (World.block_lt_of_cell? w _ hx197_0)).trans hx197_0
                     replace p197 := eq_true p197
                     replace q197 := eq_true q197
                     have p198 : 0 ≤ (((rd_T34 l0_0 a3).f3) : Int) := oda
                     have q198 : ((rd_T34 l0_0 a3).f3) < (l2.length : Int) := oda
                     obtain ⟨ad198, e198, hx198_0⟩ := Kd.at_int HR2.out ((rd_T34 l0_0 a3).f3) p198 q198
                     obtain rfl : ad197 = ad198 := (by injection e198)
                     replace hx198_0 := (HB.out.cell (World.block_lt_of_cell? w _ hx198_0)).trans hx198_0
                     replace p198 := eq_true p198
                     replace q198 := eq_true q198
                     have p199 : 0 ≤ ((rd l2 ((rd_T34 l0_0 a3).f3)) : Int) := oda
                     have q199 : (rd l2 ((rd_T34 l0_0 a3).f3)) < (l1.length : Int) := oda
                     obtain ⟨ad199, e199, hx199_0⟩ := Kd.at_bool HR1.out (rd l2 ((rd_T34 l0_0 a3).f3)) p199 q199
                     (try rw [← Nbq28.out] at hx199_0)
                     (try rw [← Nbq35.out] at hx199_0)
                     (try rw [← Nbq40.out] at hx199_0)
                     obtain rfl : ad196 = ad199 := (by injection e199)
                     replace hx199_0 := (HB.out.cell (World.block_lt_of_cell? w _ hx199_0)).trans hx199_0
                     replace p199 := eq_true p199
                     replace q199 := eq_true q199
                     have p200 : 0 ≤ (((rd_T34 l0_0 a3).f3) : Int) := oda
                     have q200 : ((rd_T34 l0_0 a3).f3) < (l1.length : Int) := oda
                     obtain ⟨ad200, e200, hx200_0⟩ := Kd.at_bool HR1.out ((rd_T34 l0_0 a3).f3) p200 q200
                     (try rw [← Nbq28.out] at hx200_0)
                     (try rw [← Nbq35.out] at hx200_0)
                     (try rw [← Nbq40.out] at hx200_0)
                     obtain rfl : ad196 = ad200 := (by injection e200)
                     replace hx200_0 := (HB.out.cell (World.block_lt_of_cell? w _ hx200_0)).trans hx200_0
                     replace p200 := eq_true p200
                     replace q200 := eq_true q200
                     have p201 : 0 ≤ (((rd_T34 l0_0 a3).f2) : Int) := oda
                     have q201 : ((rd_T34 l0_0 a3).f2) < (l2.length : Int) := oda
                     obtain ⟨ad201, e201, hx201_0⟩ := Kd.at_int HR2.out ((rd_T34 l0_0 a3).f2) p201 q201
                     obtain rfl : ad197 = ad201 := (by injection e201)
                     replace hx201_0 := (HB.out.cell (World.block_lt_of_cell? w _ hx201_0)).trans hx201_0
                     replace p201 := eq_true p201
                     replace q201 := eq_true q201
                     go_wp2
                     go_ret
                     exact ⟨by first | rfl | (simp [errW_none, errW_some] <;> rfl) | (simp [*, errW_none, errW_some] <;> rfl), bw HB.out⟩
                   ·rw [if_neg c42] at H
                    exact absurd H (by simp)
                  ·replace c41 := Bool.eq_false_iff.mpr c41
                   subst c41
                   have H1 : (some false) = some r := by rw [if_neg (show ¬ (false = true) by decide)] at H; exact H
                   clear H
                   have H := H1
                   clear H1
                   obtain rfl := Option.some.inj H
                   have hnb50 := NB194_192.out
                   have hnc50 := NB192_194.out
                   have hcz51_0 : wc.cell? ⟨gb194, 0, none⟩ = some (.int .i64 ((rd_T34 l0_0 a3).f0)) := (blk_cell BK194.out 0).trans rfl
                   have hcz51_1 : wc.cell? ⟨gb194, 1, none⟩ = some (.int .i64 ((rd_T34 l0_0 a3).f1)) := (blk_cell BK194.out 1).trans rfl
                   have hcz51_2 : wc.cell? ⟨gb194, 2, none⟩ = some (.int .i64 ((rd_T34 l0_0 a3).f2)) := (blk_cell BK194.out 2).trans rfl
                   have hcz51_3 : wc.cell? ⟨gb194, 3, none⟩ = some (.int .i64 ((rd_T34 l0_0 a3).f3)) := (blk_cell BK194.out 3).trans rfl
                   have hfz51_0 := blk_frozen BK194.out 0
                   have hfz51_1 := blk_frozen BK194.out 1
                   have hfz51_2 := blk_frozen BK194.out 2
                   have hfz51_3 := blk_frozen BK194.out 3
                   have p196 : 0 ≤ (((rd_T34 l0_0 a3).f2) : Int) := oda
                   have q196 : ((rd_T34 l0_0 a3).f2) < (l1.length : Int) := oda
                   obtain ⟨ad196, e196, hx196_0⟩ := Kd.at_bool HR1.out ((rd_T34 l0_0 a3).f2) p196 q196
                   (try rw [← Nbq28.out] at hx196_0)
                   (try rw [← Nbq35.out] at hx196_0)
                   (try rw [← Nbq40.out] at hx196_0)
                   cases e196
                   replace hx196_0 := (HB.out.cell (World.block_lt_of_cell? w _ hx196_0)).trans hx196_0
                   replace p196 := eq_true p196
                   replace q196 := eq_true q196
                   have p197 : 0 ≤ (((rd_T34 l0_0 a3).f3) : Int) := oda
                   have q197 : ((rd_T34 l0_0 a3).f3) < (l2.length : Int) := oda
                   obtain ⟨ad197, e197, hx197_0⟩ := Kd.at_int HR2.out ((rd_T34 l0_0 a3).f3) p197 q197
                   cases e197
                   replace hx197_0 := (HB.out.cell (World.block_lt_of_cell? w _ hx197_0)).trans hx197_0
                   replace p197 := eq_true p197
                   replace q197 := eq_true q197
                   have p198 : 0 ≤ (((rd_T34 l0_0 a3).f3) : Int) := oda
                   have q198 : ((rd_T34 l0_0 a3).f3) < (l2.length : Int) := oda
                   obtain ⟨ad198, e198, hx198_0⟩ := Kd.at_int HR2.out ((rd_T34 l0_0 a3).f3) p198 q198
                   obtain rfl : ad197 = ad198 := (by injection e198)
                   replace hx198_0 := (HB.out.cell (World.block_lt_of_cell? w _ hx198_0)).trans hx198_0
                   replace p198 := eq_true p198
                   replace q198 := eq_true q198
                   have p199 : 0 ≤ ((rd l2 ((rd_T34 l0_0 a3).f3)) : Int) := oda
                   have q199 : (rd l2 ((rd_T34 l0_0 a3).f3)) < (l1.length : Int) := oda
                   obtain ⟨ad199, e199, hx199_0⟩ := Kd.at_bool HR1.out (rd l2 ((rd_T34 l0_0 a3).f3)) p199 q199
                   (try rw [← Nbq28.out] at hx199_0)
                   (try rw [← Nbq35.out] at hx199_0)
                   (try rw [← Nbq40.out] at hx199_0)
                   obtain rfl : ad196 = ad199 := (by injection e199)
                   replace hx199_0 := (HB.out.cell (World.block_lt_of_cell? w _ hx199_0)).trans hx199_0
                   replace p199 := eq_true p199
                   replace q199 := eq_true q199
                   have p200 : 0 ≤ (((rd_T34 l0_0 a3).f3) : Int) := oda
                   have q200 : ((rd_T34 l0_0 a3).f3) < (l1.length : Int) := oda
                   obtain ⟨ad200, e200, hx200_0⟩ := Kd.at_bool HR1.out ((rd_T34 l0_0 a3).f3) p200 q200
                   (try rw [← Nbq28.out] at hx200_0)
                   (try rw [← Nbq35.out] at hx200_0)
                   (try rw [← Nbq40.out] at hx200_0)
                   obtain rfl : ad196 = ad200 := (by injection e200)
                   replace hx200_0 := (HB.out.cell (World.block_lt_of_cell? w _ hx200_0)).trans hx200_0
                   replace p200 := eq_true p200
                   replace q200 := eq_true q200
                   go_wp2
                   go_ret
                   exact ⟨by first | rfl | (simp [errW_none, errW_some] <;> rfl) | (simp [*, errW_none, errW_some] <;> rfl), bw HB.out⟩
                 ·rw [if_neg c39] at H
                  exact absurd H (by simp)
               ·rw [if_neg c34] at H
                exact absurd H (by simp)
              ·rw [if_neg c33] at H
               exact absurd H (by simp)
             ·rw [if_neg c32] at H
              have c32b0 : decide (0 ≤ (rd l2 ((rd_T34 l0_0 a3).f3))) = false := decide_eq_false c32
              clear c32
              by_cases c52 : ((rd_T34 l0_0 a3).f3) < (l1.length : Int)
              ·rw [if_pos c52] at H
               have c52b0 : decide (((rd_T34 l0_0 a3).f3) < (l1.length : Int)) = true := decide_eq_true c52
               clear c52
               obtain ⟨bq53, hbq53⟩ : ∃ b_ : Bool, b_ = (rdOf false l1 ((rd_T34 l0_0 a3).f3)) := ⟨_, rfl⟩
               replace H : (if bq53 = true then (if ((rd_T34 l0_0 a3).f2) < (l2.length : Int) then (if (rd l2 ((rd_T34 l0_0 a3).f2)) ≥ 0 then (if 0 ≤ (rd l2 ((rd_T34 l0_0 a3).f2)) then (if (rd l2 ((rd_T34 l0_0 a3).f2)) < (l1.length : Int) then (some (rdOf false l1 (rd l2 ((rd_T34 l0_0 a3).f2)))) else (none)) else (none)) else (some false)) else (none)) else (some false)) = some r := by rw [← hbq53] at H; exact H
               have Nbq53 := Aside0.mk hbq53
               clear hbq53
               by_cases c54 : bq53 = true
               ·subst c54
                have H1 : (if ((rd_T34 l0_0 a3).f2) < (l2.length : Int) then (if (rd l2 ((rd_T34 l0_0 a3).f2)) ≥ 0 then (if 0 ≤ (rd l2 ((rd_T34 l0_0 a3).f2)) then (if (rd l2 ((rd_T34 l0_0 a3).f2)) < (l1.length : Int) then (some (rdOf false l1 (rd l2 ((rd_T34 l0_0 a3).f2)))) else (none)) else (none)) else (some false)) else (none)) = some r := by rw [if_pos rfl] at H; exact H
                clear H
                have H := H1
                clear H1
                by_cases c55 : ((rd_T34 l0_0 a3).f2) < (l2.length : Int)
                ·rw [if_pos c55] at H
                 have c55b0 : decide (((rd_T34 l0_0 a3).f2) < (l2.length : Int)) = true := decide_eq_true c55
                 clear c55
                 by_cases c56 : (rd l2 ((rd_T34 l0_0 a3).f2)) ≥ 0
                 ·rw [if_pos c56] at H
                  have c56b0 : decide (0 ≤ (rd l2 ((rd_T34 l0_0 a3).f2))) = true := decide_eq_true c56
                  clear c56
                  by_cases c57 : 0 ≤ (rd l2 ((rd_T34 l0_0 a3).f2))
                  ·rw [if_pos c57] at H
                   have c57b0 : decide (0 ≤ (rd l2 ((rd_T34 l0_0 a3).f2))) = true := decide_eq_true c57
                   clear c57
                   by_cases c58 : (rd l2 ((rd_T34 l0_0 a3).f2)) < (l1.length : Int)
                   ·rw [if_pos c58] at H
                    have c58b0 : decide ((rd l2 ((rd_T34 l0_0 a3).f2)) < (l1.length : Int)) = true := decide_eq_true c58
                    clear c58
                    obtain rfl := Option.some.inj H
                    have hnb59 := NB194_192.out
                    have hnc59 := NB192_194.out
                    have hcz60_0 : wc.cell? ⟨gb194, 0, none⟩ = some (.int .i64 ((rd_T34 l0_0 a3).f0)) := (blk_cell BK194.out 0).trans rfl
                    have hcz60_1 : wc.cell? ⟨gb194, 1, none⟩ = some (.int .i64 ((rd_T34 l0_0 a3).f1)) := (blk_cell BK194.out 1).trans rfl
                    have hcz60_2 : wc.cell? ⟨gb194, 2, none⟩ = some (.int .i64 ((rd_T34 l0_0 a3).f2)) := (blk_cell BK194.out 2).trans rfl
                    have hcz60_3 : wc.cell? ⟨gb194, 3, none⟩ = some (.int .i64 ((rd_T34 l0_0 a3).f3)) := (blk_cell BK194.out 3).trans rfl
                    have hfz60_0 := blk_frozen BK194.out 0
                    have hfz60_1 := blk_frozen BK194.out 1
                    have hfz60_2 := blk_frozen BK194.out 2
                    have hfz60_3 := blk_frozen BK194.out 3
                    have p196 : 0 ≤ (((rd_T34 l0_0 a3).f2) : Int) := oda
                    have q196 : ((rd_T34 l0_0 a3).f2) < (l1.length : Int) := oda
                    obtain ⟨ad196, e196, hx196_0⟩ := Kd.at_bool HR1.out ((rd_T34 l0_0 a3).f2) p196 q196
                    (try rw [← Nbq28.out] at hx196_0)
                    (try rw [← Nbq53.out] at hx196_0)
                    cases e196
                    replace hx196_0 := (HB.out.cell (World.block_lt_of_cell? w _ hx196_0)).trans hx196_0
                    replace p196 := eq_true p196
                    replace q196 := eq_true q196
                    have p197 : 0 ≤ (((rd_T34 l0_0 a3).f3) : Int) := oda
                    have q197 : ((rd_T34 l0_0 a3).f3) < (l2.length : Int) := oda
                    obtain ⟨ad197, e197, hx197_0⟩ := Kd.at_int HR2.out ((rd_T34 l0_0 a3).f3) p197 q197
                    cases e197
                    replace hx197_0 := (HB.out.cell (World.block_lt_of_cell? w _ hx197_0)).trans hx197_0
                    replace p197 := eq_true p197
                    replace q197 := eq_true q197
                    have p204 : 0 ≤ (((rd_T34 l0_0 a3).f3) : Int) := oda
                    have q204 : ((rd_T34 l0_0 a3).f3) < (l1.length : Int) := oda
                    obtain ⟨ad204, e204, hx204_0⟩ := Kd.at_bool HR1.out ((rd_T34 l0_0 a3).f3) p204 q204
                    (try rw [← Nbq28.out] at hx204_0)
                    (try rw [← Nbq53.out] at hx204_0)
                    obtain rfl : ad196 = ad204 := (by injection e204)
                    replace hx204_0 := (HB.out.cell (World.block_lt_of_cell? w _ hx204_0)).trans hx204_0
                    replace p204 := eq_true p204
                    replace q204 := eq_true q204
                    have p205 : 0 ≤ (((rd_T34 l0_0 a3).f2) : Int) := oda
                    have q205 : ((rd_T34 l0_0 a3).f2) < (l2.length : Int) := oda
                    obtain ⟨ad205, e205, hx205_0⟩ := Kd.at_int HR2.out ((rd_T34 l0_0 a3).f2) p205 q205
                    obtain rfl : ad197 = ad205 := (by injection e205)
                    replace hx205_0 := (HB.out.cell (World.block_lt_of_cell? w _ hx205_0)).trans hx205_0
                    replace p205 := eq_true p205
                    replace q205 := eq_true q205
                    have p206 : 0 ≤ (((rd_T34 l0_0 a3).f2) : Int) := oda
                    have q206 : ((rd_T34 l0_0 a3).f2) < (l2.length : Int) := oda
                    obtain ⟨ad206, e206, hx206_0⟩ := Kd.at_int HR2.out ((rd_T34 l0_0 a3).f2) p206 q206
                    obtain rfl : ad197 = ad206 := (by injection e206)
                    replace hx206_0 := (HB.out.cell (World.block_lt_of_cell? w _ hx206_0)).trans hx206_0
                    replace p206 := eq_true p206
                    replace q206 := eq_true q206
                    have p207 : 0 ≤ ((rd l2 ((rd_T34 l0_0 a3).f2)) : Int) := oda
                    have q207 : (rd l2 ((rd_T34 l0_0 a3).f2)) < (l1.length : Int) := oda
                    obtain ⟨ad207, e207, hx207_0⟩ := Kd.at_bool HR1.out (rd l2 ((rd_T34 l0_0 a3).f2)) p207 q207
                    (try rw [← Nbq28.out] at hx207_0)
                    (try rw [← Nbq53.out] at hx207_0)
                    obtain rfl : ad196 = ad207 := (by injection e207)
                    replace hx207_0 := (HB.out.cell (World.block_lt_of_cell? w _ hx207_0)).trans hx207_0
                    replace p207 := eq_true p207
                    replace q207 := eq_true q207
                    go_wp2
                    go_ret
                    exact ⟨by first | rfl | (simp [errW_none, errW_some] <;> rfl) | (simp [*, errW_none, errW_some] <;> rfl), bw HB.out⟩
                   ·rw [if_neg c58] at H
                    exact absurd H (by simp)
                  ·rw [if_neg c57] at H
                   exact absurd H (by simp)
                 ·rw [if_neg c56] at H
                  have c56b0 : decide (0 ≤ (rd l2 ((rd_T34 l0_0 a3).f2))) = false := decide_eq_false c56
                  clear c56
                  obtain rfl := Option.some.inj H
                  have hnb61 := NB194_192.out
                  have hnc61 := NB192_194.out
                  have hcz62_0 : wc.cell? ⟨gb194, 0, none⟩ = some (.int .i64 ((rd_T34 l0_0 a3).f0)) := (blk_cell BK194.out 0).trans rfl
                  have hcz62_1 : wc.cell? ⟨gb194, 1, none⟩ = some (.int .i64 ((rd_T34 l0_0 a3).f1)) := (blk_cell BK194.out 1).trans rfl
                  have hcz62_2 : wc.cell? ⟨gb194, 2, none⟩ = some (.int .i64 ((rd_T34 l0_0 a3).f2)) := (blk_cell BK194.out 2).trans rfl
                  have hcz62_3 : wc.cell? ⟨gb194, 3, none⟩ = some (.int .i64 ((rd_T34 l0_0 a3).f3)) := (blk_cell BK194.out 3).trans rfl
                  have hfz62_0 := blk_frozen BK194.out 0
                  have hfz62_1 := blk_frozen BK194.out 1
                  have hfz62_2 := blk_frozen BK194.out 2
                  have hfz62_3 := blk_frozen BK194.out 3
                  have p196 : 0 ≤ (((rd_T34 l0_0 a3).f2) : Int) := oda
                  have q196 : ((rd_T34 l0_0 a3).f2) < (l1.length : Int) := oda
                  obtain ⟨ad196, e196, hx196_0⟩ := Kd.at_bool HR1.out ((rd_T34 l0_0 a3).f2) p196 q196
                  (try rw [← Nbq28.out] at hx196_0)
                  (try rw [← Nbq53.out] at hx196_0)
                  cases e196
                  replace hx196_0 := (HB.out.cell (World.block_lt_of_cell? w _ hx196_0)).trans hx196_0
                  replace p196 := eq_true p196
                  replace q196 := eq_true q196
                  have p197 : 0 ≤ (((rd_T34 l0_0 a3).f3) : Int) := oda
                  have q197 : ((rd_T34 l0_0 a3).f3) < (l2.length : Int) := oda
                  obtain ⟨ad197, e197, hx197_0⟩ := Kd.at_int HR2.out ((rd_T34 l0_0 a3).f3) p197 q197
                  cases e197
                  replace hx197_0 := (HB.out.cell (World.block_lt_of_cell? w _ hx197_0)).trans hx197_0
                  replace p197 := eq_true p197
                  replace q197 := eq_true q197
                  have p204 : 0 ≤ (((rd_T34 l0_0 a3).f3) : Int) := oda
                  have q204 : ((rd_T34 l0_0 a3).f3) < (l1.length : Int) := oda
                  obtain ⟨ad204, e204, hx204_0⟩ := Kd.at_bool HR1.out ((rd_T34 l0_0 a3).f3) p204 q204
                  (try rw [← Nbq28.out] at hx204_0)
                  (try rw [← Nbq53.out] at hx204_0)
                  obtain rfl : ad196 = ad204 := (by injection e204)
                  replace hx204_0 := (HB.out.cell (World.block_lt_of_cell? w _ hx204_0)).trans hx204_0
                  replace p204 := eq_true p204
                  replace q204 := eq_true q204
                  have p205 : 0 ≤ (((rd_T34 l0_0 a3).f2) : Int) := oda
                  have q205 : ((rd_T34 l0_0 a3).f2) < (l2.length : Int) := oda
                  obtain ⟨ad205, e205, hx205_0⟩ := Kd.at_int HR2.out ((rd_T34 l0_0 a3).f2) p205 q205
                  obtain rfl : ad197 = ad205 := (by injection e205)
                  replace hx205_0 := (HB.out.cell (World.block_lt_of_cell? w _ hx205_0)).trans hx205_0
                  replace p205 := eq_true p205
                  replace q205 := eq_true q205
                  go_wp2
                  go_ret
                  exact ⟨by first | rfl | (simp [errW_none, errW_some] <;> rfl) | (simp [*, errW_none, errW_some] <;> rfl), bw HB.out⟩
                ·rw [if_neg c55] at H
                 exact absurd H (by simp)
               ·replace c54 := Bool.eq_false_iff.mpr c54
                subst c54
                have H1 : (some false) = some r := by rw [if_neg (show ¬ (false = true) by decide)] at H; exact H
                clear H
                have H := H1
                clear H1
                obtain rfl := Option.some.inj H
                have hnb63 := NB194_192.out
                have hnc63 := NB192_194.out
                have hcz64_0 : wc.cell? ⟨gb194, 0, none⟩ = some (.int .i64 ((rd_T34 l0_0 a3).f0)) := (blk_cell BK194.out 0).trans rfl
                have hcz64_1 : wc.cell? ⟨gb194, 1, none⟩ = some (.int .i64 ((rd_T34 l0_0 a3).f1)) := (blk_cell BK194.out 1).trans rfl
                have hcz64_2 : wc.cell? ⟨gb194, 2, none⟩ = some (.int .i64 ((rd_T34 l0_0 a3).f2)) := (blk_cell BK194.out 2).trans rfl
                have hcz64_3 : wc.cell? ⟨gb194, 3, none⟩ = some (.int .i64 ((rd_T34 l0_0 a3).f3)) := (blk_cell BK194.out 3).trans rfl
                have hfz64_0 := blk_frozen BK194.out 0
                have hfz64_1 := blk_frozen BK194.out 1
                have hfz64_2 := blk_frozen BK194.out 2
                have hfz64_3 := blk_frozen BK194.out 3
                have p196 : 0 ≤ (((rd_T34 l0_0 a3).f2) : Int) := oda
                have q196 : ((rd_T34 l0_0 a3).f2) < (l1.length : Int) := oda
                obtain ⟨ad196, e196, hx196_0⟩ := Kd.at_bool HR1.out ((rd_T34 l0_0 a3).f2) p196 q196
                (try rw [← Nbq28.out] at hx196_0)
                (try rw [← Nbq53.out] at hx196_0)
                cases e196
                replace hx196_0 := (HB.out.cell (World.block_lt_of_cell? w _ hx196_0)).trans hx196_0
                replace p196 := eq_true p196
                replace q196 := eq_true q196
                have p197 : 0 ≤ (((rd_T34 l0_0 a3).f3) : Int) := oda
                have q197 : ((rd_T34 l0_0 a3).f3) < (l2.length : Int) := oda
                obtain ⟨ad197, e197, hx197_0⟩ := Kd.at_int HR2.out ((rd_T34 l0_0 a3).f3) p197 q197
                cases e197
                replace hx197_0 := (HB.out.cell (World.block_lt_of_cell? w _ hx197_0)).trans hx197_0
                replace p197 := eq_true p197
                replace q197 := eq_true q197
                have p204 : 0 ≤ (((rd_T34 l0_0 a3).f3) : Int) := oda
                have q204 : ((rd_T34 l0_0 a3).f3) < (l1.length : Int) := oda
                obtain ⟨ad204, e204, hx204_0⟩ := Kd.at_bool HR1.out ((rd_T34 l0_0 a3).f3) p204 q204
                (try rw [← Nbq28.out] at hx204_0)
                (try rw [← Nbq53.out] at hx204_0)
                obtain rfl : ad196 = ad204 := (by injection e204)
                replace hx204_0 := (HB.out.cell (World.block_lt_of_cell? w _ hx204_0)).trans hx204_0
                replace p204 := eq_true p204
                replace q204 := eq_true q204
                go_wp2
                go_ret
                exact ⟨by first | rfl | (simp [errW_none, errW_some] <;> rfl) | (simp [*, errW_none, errW_some] <;> rfl), bw HB.out⟩
              ·rw [if_neg c52] at H
               exact absurd H (by simp)
            ·rw [if_neg c31] at H
             exact absurd H (by simp)
           ·rw [if_neg c30] at H
            exact absurd H (by simp)
          ·replace c29 := Bool.eq_false_iff.mpr c29
           subst c29
           have H1 : (if 0 ≤ ((rd_T34 l0_0 a3).f3) then (if ((rd_T34 l0_0 a3).f3) < (l1.length : Int) then (if rdOf false l1 ((rd_T34 l0_0 a3).f3) = true then (if ((rd_T34 l0_0 a3).f2) < (l2.length : Int) then (if (rd l2 ((rd_T34 l0_0 a3).f2)) ≥ 0 then (if 0 ≤ (rd l2 ((rd_T34 l0_0 a3).f2)) then (if (rd l2 ((rd_T34 l0_0 a3).f2)) < (l1.length : Int) then (some (rdOf false l1 (rd l2 ((rd_T34 l0_0 a3).f2)))) else (none)) else (none)) else (some false)) else (none)) else (some false)) else (none)) else (none)) = some r := by rw [if_neg (show ¬ (false = true) by decide)] at H; exact H
           clear H
           have H := H1
           clear H1
           by_cases c65 : 0 ≤ ((rd_T34 l0_0 a3).f3)
           ·rw [if_pos c65] at H
            have c65b0 : decide (0 ≤ ((rd_T34 l0_0 a3).f3)) = true := decide_eq_true c65
            clear c65
            by_cases c66 : ((rd_T34 l0_0 a3).f3) < (l1.length : Int)
            ·rw [if_pos c66] at H
             have c66b0 : decide (((rd_T34 l0_0 a3).f3) < (l1.length : Int)) = true := decide_eq_true c66
             clear c66
             obtain ⟨bq67, hbq67⟩ : ∃ b_ : Bool, b_ = (rdOf false l1 ((rd_T34 l0_0 a3).f3)) := ⟨_, rfl⟩
             replace H : (if bq67 = true then (if ((rd_T34 l0_0 a3).f2) < (l2.length : Int) then (if (rd l2 ((rd_T34 l0_0 a3).f2)) ≥ 0 then (if 0 ≤ (rd l2 ((rd_T34 l0_0 a3).f2)) then (if (rd l2 ((rd_T34 l0_0 a3).f2)) < (l1.length : Int) then (some (rdOf false l1 (rd l2 ((rd_T34 l0_0 a3).f2)))) else (none)) else (none)) else (some false)) else (none)) else (some false)) = some r := by rw [← hbq67] at H; exact H
             have Nbq67 := Aside0.mk hbq67
             clear hbq67
             by_cases c68 : bq67 = true
             ·subst c68
              have H1 : (if ((rd_T34 l0_0 a3).f2) < (l2.length : Int) then (if (rd l2 ((rd_T34 l0_0 a3).f2)) ≥ 0 then (if 0 ≤ (rd l2 ((rd_T34 l0_0 a3).f2)) then (if (rd l2 ((rd_T34 l0_0 a3).f2)) < (l1.length : Int) then (some (rdOf false l1 (rd l2 ((rd_T34 l0_0 a3).f2)))) else (none)) else (none)) else (some false)) else (none)) = some r := by rw [if_pos rfl] at H; exact H
              clear H
              have H := H1
              clear H1
              by_cases c69 : ((rd_T34 l0_0 a3).f2) < (l2.length : Int)
              ·rw [if_pos c69] at H
               have c69b0 : decide (((rd_T34 l0_0 a3).f2) < (l2.length : Int)) = true := decide_eq_true c69
               clear c69
               by_cases c70 : (rd l2 ((rd_T34 l0_0 a3).f2)) ≥ 0
               ·rw [if_pos c70] at H
                have c70b0 : decide (0 ≤ (rd l2 ((rd_T34 l0_0 a3).f2))) = true := decide_eq_true c70
                clear c70
                by_cases c71 : 0 ≤ (rd l2 ((rd_T34 l0_0 a3).f2))
                ·rw [if_pos c71] at H
                 have c71b0 : decide (0 ≤ (rd l2 ((rd_T34 l0_0 a3).f2))) = true := decide_eq_true c71
                 clear c71
                 by_cases c72 : (rd l2 ((rd_T34 l0_0 a3).f2)) < (l1.length : Int)
                 ·rw [if_pos c72] at H
                  have c72b0 : decide ((rd l2 ((rd_T34 l0_0 a3).f2)) < (l1.length : Int)) = true := decide_eq_true c72
                  clear c72
                  obtain rfl := Option.some.inj H
                  have hnb73 := NB194_192.out
                  have hnc73 := NB192_194.out
                  have hcz74_0 : wc.cell? ⟨gb194, 0, none⟩ = some (.int .i64 ((rd_T34 l0_0 a3).f0)) := (blk_cell BK194.out 0).trans rfl
                  have hcz74_1 : wc.cell? ⟨gb194, 1, none⟩ = some (.int .i64 ((rd_T34 l0_0 a3).f1)) := (blk_cell BK194.out 1).trans rfl
                  have hcz74_2 : wc.cell? ⟨gb194, 2, none⟩ = some (.int .i64 ((rd_T34 l0_0 a3).f2)) := (blk_cell BK194.out 2).trans rfl
                  have hcz74_3 : wc.cell? ⟨gb194, 3, none⟩ = some (.int .i64 ((rd_T34 l0_0 a3).f3)) := (blk_cell BK194.out 3).trans rfl
                  have hfz74_0 := blk_frozen BK194.out 0
                  have hfz74_1 := blk_frozen BK194.out 1
                  have hfz74_2 := blk_frozen BK194.out 2
                  have hfz74_3 := blk_frozen BK194.out 3
                  have p196 : 0 ≤ (((rd_T34 l0_0 a3).f2) : Int) := oda
                  have q196 : ((rd_T34 l0_0 a3).f2) < (l1.length : Int) := oda
                  obtain ⟨ad196, e196, hx196_0⟩ := Kd.at_bool HR1.out ((rd_T34 l0_0 a3).f2) p196 q196
                  (try rw [← Nbq28.out] at hx196_0)
                  (try rw [← Nbq67.out] at hx196_0)
                  cases e196
                  replace hx196_0 := (HB.out.cell (World.block_lt_of_cell? w _ hx196_0)).trans hx196_0
                  replace p196 := eq_true p196
                  replace q196 := eq_true q196
                  have p208 : 0 ≤ (((rd_T34 l0_0 a3).f3) : Int) := oda
                  have q208 : ((rd_T34 l0_0 a3).f3) < (l1.length : Int) := oda
                  obtain ⟨ad208, e208, hx208_0⟩ := Kd.at_bool HR1.out ((rd_T34 l0_0 a3).f3) p208 q208
                  (try rw [← Nbq28.out] at hx208_0)
                  (try rw [← Nbq67.out] at hx208_0)
                  obtain rfl : ad196 = ad208 := (by injection e208)
                  replace hx208_0 := (HB.out.cell (World.block_lt_of_cell? w _ hx208_0)).trans hx208_0
                  replace p208 := eq_true p208
                  replace q208 := eq_true q208
                  have p209 : 0 ≤ (((rd_T34 l0_0 a3).f2) : Int) := oda
                  have q209 : ((rd_T34 l0_0 a3).f2) < (l2.length : Int) := oda
                  obtain ⟨ad209, e209, hx209_0⟩ := Kd.at_int HR2.out ((rd_T34 l0_0 a3).f2) p209 q209
                  cases e209
                  replace hx209_0 := (HB.out.cell (World.block_lt_of_cell? w _ hx209_0)).trans hx209_0
                  replace p209 := eq_true p209
                  replace q209 := eq_true q209
                  have p210 : 0 ≤ (((rd_T34 l0_0 a3).f2) : Int) := oda
                  have q210 : ((rd_T34 l0_0 a3).f2) < (l2.length : Int) := oda
                  obtain ⟨ad210, e210, hx210_0⟩ := Kd.at_int HR2.out ((rd_T34 l0_0 a3).f2) p210 q210
                  obtain rfl : ad209 = ad210 := (by injection e210)
                  replace hx210_0 := (HB.out.cell (World.block_lt_of_cell? w _ hx210_0)).trans hx210_0
                  replace p210 := eq_true p210
                  replace q210 := eq_true q210
                  have p211 : 0 ≤ ((rd l2 ((rd_T34 l0_0 a3).f2)) : Int) := oda
                  have q211 : (rd l2 ((rd_T34 l0_0 a3).f2)) < (l1.length : Int) := oda
                  obtain ⟨ad211, e211, hx211_0⟩ := Kd.at_bool HR1.out (rd l2 ((rd_T34 l0_0 a3).f2)) p211 q211
                  (try rw [← Nbq28.out] at hx211_0)
                  (try rw [← Nbq67.out] at hx211_0)
                  obtain rfl : ad196 = ad211 := (by injection e211)
                  replace hx211_0 := (HB.out.cell (World.block_lt_of_cell? w _ hx211_0)).trans hx211_0
                  replace p211 := eq_true p211
                  replace q211 := eq_true q211
                  go_wp2
                  go_ret
                  exact ⟨by first | rfl | (simp [errW_none, errW_some] <;> rfl) | (simp [*, errW_none, errW_some] <;> rfl), bw HB.out⟩
                 ·rw [if_neg c72] at H
                  exact absurd H (by simp)
                ·rw [if_neg c71] at H
                 exact absurd H (by simp)
               ·rw [if_neg c70] at H
                have c70b0 : decide (0 ≤ (rd l2 ((rd_T34 l0_0 a3).f2))) = false := decide_eq_false c70
                clear c70
                obtain rfl := Option.some.inj H
                have hnb75 := NB194_192.out
                have hnc75 := NB192_194.out
                have hcz76_0 : wc.cell? ⟨gb194, 0, none⟩ = some (.int .i64 ((rd_T34 l0_0 a3).f0)) := (blk_cell BK194.out 0).trans rfl
                have hcz76_1 : wc.cell? ⟨gb194, 1, none⟩ = some (.int .i64 ((rd_T34 l0_0 a3).f1)) := (blk_cell BK194.out 1).trans rfl
                have hcz76_2 : wc.cell? ⟨gb194, 2, none⟩ = some (.int .i64 ((rd_T34 l0_0 a3).f2)) := (blk_cell BK194.out 2).trans rfl
                have hcz76_3 : wc.cell? ⟨gb194, 3, none⟩ = some (.int .i64 ((rd_T34 l0_0 a3).f3)) := (blk_cell BK194.out 3).trans rfl
                have hfz76_0 := blk_frozen BK194.out 0
                have hfz76_1 := blk_frozen BK194.out 1
                have hfz76_2 := blk_frozen BK194.out 2
                have hfz76_3 := blk_frozen BK194.out 3
                have p196 : 0 ≤ (((rd_T34 l0_0 a3).f2) : Int) := oda
                have q196 : ((rd_T34 l0_0 a3).f2) < (l1.length : Int) := oda
                obtain ⟨ad196, e196, hx196_0⟩ := Kd.at_bool HR1.out ((rd_T34 l0_0 a3).f2) p196 q196
                (try rw [← Nbq28.out] at hx196_0)
                (try rw [← Nbq67.out] at hx196_0)
                cases e196
                replace hx196_0 := (HB.out.cell (World.block_lt_of_cell? w _ hx196_0)).trans hx196_0
                replace p196 := eq_true p196
                replace q196 := eq_true q196
                have p208 : 0 ≤ (((rd_T34 l0_0 a3).f3) : Int) := oda
                have q208 : ((rd_T34 l0_0 a3).f3) < (l1.length : Int) := oda
                obtain ⟨ad208, e208, hx208_0⟩ := Kd.at_bool HR1.out ((rd_T34 l0_0 a3).f3) p208 q208
                (try rw [← Nbq28.out] at hx208_0)
                (try rw [← Nbq67.out] at hx208_0)
                obtain rfl : ad196 = ad208 := (by injection e208)
                replace hx208_0 := (HB.out.cell (World.block_lt_of_cell? w _ hx208_0)).trans hx208_0
                replace p208 := eq_true p208
                replace q208 := eq_true q208
                have p209 : 0 ≤ (((rd_T34 l0_0 a3).f2) : Int) := oda
                have q209 : ((rd_T34 l0_0 a3).f2) < (l2.length : Int) := oda
                obtain ⟨ad209, e209, hx209_0⟩ := Kd.at_int HR2.out ((rd_T34 l0_0 a3).f2) p209 q209
                cases e209
                replace hx209_0 := (HB.out.cell (World.block_lt_of_cell? w _ hx209_0)).trans hx209_0
                replace p209 := eq_true p209
                replace q209 := eq_true q209
                go_wp2
                go_ret
                exact ⟨by first | rfl | (simp [errW_none, errW_some] <;> rfl) | (simp [*, errW_none, errW_some] <;> rfl), bw HB.out⟩
              ·rw [if_neg c69] at H
               exact absurd H (by simp)
             ·replace c68 := Bool.eq_false_iff.mpr c68
              subst c68
              have H1 : (some false) = some r := by rw [if_neg (show ¬ (false = true) by decide)] at H; exact H
              clear H
              have H := H1
              clear H1
              obtain rfl := Option.some.inj H
              have hnb77 := NB194_192.out
              have hnc77 := NB192_194.out
              have hcz78_0 : wc.cell? ⟨gb194, 0, none⟩ = some (.int .i64 ((rd_T34 l0_0 a3).f0)) := (blk_cell BK194.out 0).trans rfl
              have hcz78_1 : wc.cell? ⟨gb194, 1, none⟩ = some (.int .i64 ((rd_T34 l0_0 a3).f1)) := (blk_cell BK194.out 1).trans rfl
              have hcz78_2 : wc.cell? ⟨gb194, 2, none⟩ = some (.int .i64 ((rd_T34 l0_0 a3).f2)) := (blk_cell BK194.out 2).trans rfl
              have hcz78_3 : wc.cell? ⟨gb194, 3, none⟩ = some (.int .i64 ((rd_T34 l0_0 a3).f3)) := (blk_cell BK194.out 3).trans rfl
              have hfz78_0 := blk_frozen BK194.out 0
              have hfz78_1 := blk_frozen BK194.out 1
              have hfz78_2 := blk_frozen BK194.out 2
              have hfz78_3 := blk_frozen BK194.out 3
              have p196 : 0 ≤ (((rd_T34 l0_0 a3).f2) : Int) := oda
              have q196 : ((rd_T34 l0_0 a3).f2) < (l1.length : Int) := oda
              obtain ⟨ad196, e196, hx196_0⟩ := Kd.at_bool HR1.out ((rd_T34 l0_0 a3).f2) p196 q196
              (try rw [← Nbq28.out] at hx196_0)
              (try rw [← Nbq67.out] at hx196_0)
              cases e196
              replace hx196_0 := (HB.out.cell (World.block_lt_of_cell? w _ hx196_0)).trans hx196_0
              replace p196 := eq_true p196
              replace q196 := eq_true q196
              have p208 : 0 ≤ (((rd_T34 l0_0 a3).f3) : Int) := oda
              have q208 : ((rd_T34 l0_0 a3).f3) < (l1.length : Int) := oda
              obtain ⟨ad208, e208, hx208_0⟩ := Kd.at_bool HR1.out ((rd_T34 l0_0 a3).f3) p208 q208
              (try rw [← Nbq28.out] at hx208_0)
              (try rw [← Nbq67.out] at hx208_0)
              obtain rfl : ad196 = ad208 := (by injection e208)
              replace hx208_0 := (HB.out.cell (World.block_lt_of_cell? w _ hx208_0)).trans hx208_0
              replace p208 := eq_true p208
              replace q208 := eq_true q208
              go_wp2
              go_ret
              exact ⟨by first | rfl | (simp [errW_none, errW_some] <;> rfl) | (simp [*, errW_none, errW_some] <;> rfl), bw HB.out⟩
            ·rw [if_neg c66] at H
             exact absurd H (by simp)
           ·rw [if_neg c65] at H
            exact absurd H (by simp)
         ·rw [if_neg c27] at H
          exact absurd H (by simp)
        ·rw [if_neg c26] at H
         exact absurd H (by simp)
       ·rw [if_neg c25] at H
        have c25b0 : (((rd_T34 l0_0 a3).f0) == 7) = false := beq_eq_false_iff_ne.mpr c25
        have c25b1 : (((rd_T34 l0_0 a3).f0) != 7) = true := bne_iff_ne.mpr c25
        by_cases c79 : 0 ≤ ((rd_T34 l0_0 a3).f2)
        ·rw [if_pos c79] at H
         have c79b0 : decide (0 ≤ ((rd_T34 l0_0 a3).f2)) = true := decide_eq_true c79
         clear c79
         by_cases c80 : ((rd_T34 l0_0 a3).f2) < (l1.length : Int)
         ·rw [if_pos c80] at H
          have c80b0 : decide (((rd_T34 l0_0 a3).f2) < (l1.length : Int)) = true := decide_eq_true c80
          clear c80
          obtain ⟨bq81, hbq81⟩ : ∃ b_ : Bool, b_ = (rdOf false l1 ((rd_T34 l0_0 a3).f2)) := ⟨_, rfl⟩
          replace H : (if bq81 = true then (if 0 ≤ ((rd_T34 l0_0 a3).f3) then (if ((rd_T34 l0_0 a3).f3) < (l1.length : Int) then (some (rdOf false l1 ((rd_T34 l0_0 a3).f3))) else (none)) else (none)) else (some false)) = some r := by rw [← hbq81] at H; exact H
          have Nbq81 := Aside0.mk hbq81
          clear hbq81
          by_cases c82 : bq81 = true
          ·subst c82
           have H1 : (if 0 ≤ ((rd_T34 l0_0 a3).f3) then (if ((rd_T34 l0_0 a3).f3) < (l1.length : Int) then (some (rdOf false l1 ((rd_T34 l0_0 a3).f3))) else (none)) else (none)) = some r := by rw [if_pos rfl] at H; exact H
           clear H
           have H := H1
           clear H1
           by_cases c83 : 0 ≤ ((rd_T34 l0_0 a3).f3)
           ·rw [if_pos c83] at H
            have c83b0 : decide (0 ≤ ((rd_T34 l0_0 a3).f3)) = true := decide_eq_true c83
            clear c83
            by_cases c84 : ((rd_T34 l0_0 a3).f3) < (l1.length : Int)
            ·rw [if_pos c84] at H
             have c84b0 : decide (((rd_T34 l0_0 a3).f3) < (l1.length : Int)) = true := decide_eq_true c84
             clear c84
             obtain rfl := Option.some.inj H
             have hnb85 := NB194_192.out
             have hnc85 := NB192_194.out
             have hcz86_0 : wc.cell? ⟨gb194, 0, none⟩ = some (.int .i64 ((rd_T34 l0_0 a3).f0)) := (blk_cell BK194.out 0).trans rfl
             have hcz86_1 : wc.cell? ⟨gb194, 1, none⟩ = some (.int .i64 ((rd_T34 l0_0 a3).f1)) := (blk_cell BK194.out 1).trans rfl
             have hcz86_2 : wc.cell? ⟨gb194, 2, none⟩ = some (.int .i64 ((rd_T34 l0_0 a3).f2)) := (blk_cell BK194.out 2).trans rfl
             have hcz86_3 : wc.cell? ⟨gb194, 3, none⟩ = some (.int .i64 ((rd_T34 l0_0 a3).f3)) := (blk_cell BK194.out 3).trans rfl
             have hfz86_0 := blk_frozen BK194.out 0
             have hfz86_1 := blk_frozen BK194.out 1
             have hfz86_2 := blk_frozen BK194.out 2
             have hfz86_3 := blk_frozen BK194.out 3
             have p212 : 0 ≤ (((rd_T34 l0_0 a3).f2) : Int) := oda
             have q212 : ((rd_T34 l0_0 a3).f2) < (l1.length : Int) := oda
             obtain ⟨ad212, e212, hx212_0⟩ := Kd.at_bool HR1.out ((rd_T34 l0_0 a3).f2) p212 q212
             (try rw [← Nbq81.out] at hx212_0)
             cases e212
             replace hx212_0 := (HB.out.cell (World.block_lt_of_cell? w _ hx212_0)).trans hx212_0
             replace p212 := eq_true p212
             replace q212 := eq_true q212
             have p213 : 0 ≤ (((rd_T34 l0_0 a3).f3) : Int) := oda
             have q213 : ((rd_T34 l0_0 a3).f3) < (l1.length : Int) := oda
             obtain ⟨ad213, e213, hx213_0⟩ := Kd.at_bool HR1.out ((rd_T34 l0_0 a3).f3) p213 q213
             (try rw [← Nbq81.out] at hx213_0)
             obtain rfl : ad212 = ad213 := (by injection e213)
             replace hx213_0 := (HB.out.cell (World.block_lt_of_cell? w _ hx213_0)).trans hx213_0
             replace p213 := eq_true p213
             replace q213 := eq_true q213
             go_wp2
             go_ret
             exact ⟨by first | rfl | (simp [errW_none, errW_some] <;> rfl) | (simp [*, errW_none, errW_some] <;> rfl), bw HB.out⟩
            ·rw [if_neg c84] at H
             exact absurd H (by simp)
           ·rw [if_neg c83] at H
            exact absurd H (by simp)
          ·replace c82 := Bool.eq_false_iff.mpr c82
           subst c82
           have H1 : (some false) = some r := by rw [if_neg (show ¬ (false = true) by decide)] at H; exact H
           clear H
           have H := H1
           clear H1
           obtain rfl := Option.some.inj H
           have hnb87 := NB194_192.out
           have hnc87 := NB192_194.out
           have hcz88_0 : wc.cell? ⟨gb194, 0, none⟩ = some (.int .i64 ((rd_T34 l0_0 a3).f0)) := (blk_cell BK194.out 0).trans rfl
           have hcz88_1 : wc.cell? ⟨gb194, 1, none⟩ = some (.int .i64 ((rd_T34 l0_0 a3).f1)) := (blk_cell BK194.out 1).trans rfl
           have hcz88_2 : wc.cell? ⟨gb194, 2, none⟩ = some (.int .i64 ((rd_T34 l0_0 a3).f2)) := (blk_cell BK194.out 2).trans rfl
           have hcz88_3 : wc.cell? ⟨gb194, 3, none⟩ = some (.int .i64 ((rd_T34 l0_0 a3).f3)) := (blk_cell BK194.out 3).trans rfl
           have hfz88_0 := blk_frozen BK194.out 0
           have hfz88_1 := blk_frozen BK194.out 1
           have hfz88_2 := blk_frozen BK194.out 2
           have hfz88_3 := blk_frozen BK194.out 3
           have p212 : 0 ≤ (((rd_T34 l0_0 a3).f2) : Int) := oda
           have q212 : ((rd_T34 l0_0 a3).f2) < (l1.length : Int) := oda
           obtain ⟨ad212, e212, hx212_0⟩ := Kd.at_bool HR1.out ((rd_T34 l0_0 a3).f2) p212 q212
           (try rw [← Nbq81.out] at hx212_0)
           cases e212
           replace hx212_0 := (HB.out.cell (World.block_lt_of_cell? w _ hx212_0)).trans hx212_0
           replace p212 := eq_true p212
           replace q212 := eq_true q212
           go_wp2
           go_ret
           exact ⟨by first | rfl | (simp [errW_none, errW_some] <;> rfl) | (simp [*, errW_none, errW_some] <;> rfl), bw HB.out⟩
         ·rw [if_neg c80] at H
          exact absurd H (by simp)
        ·rw [if_neg c79] at H
         exact absurd H (by simp)
  ·rw [if_neg c6] at H
   exact absurd H (by simp)
 ·rw [if_neg c5] at H
  exact absurd H (by simp)

end Go.Proofs.Ytkckdibalopagaa.SFnExactReach
