-- Began as a print of the kit over stubs (wip/stub.py); the sections that are named OWN are this session's.
import Derived.Test.YtkckdibalopagaaSFnReachesx0
import Derived.Test.YtkckdibalopagaaVShort
namespace Go.Proofs.Ytkckdibalopagaa.SFnReaches
open Go.RowKit Go.Proofs.YtkckdibalopagaaW.PrintWords Go.Proofs.YtkckdibalopagaaW.PrintLast Go.Proofs.YtkckdibalopagaaW.PrintMore Go.Proofs.Ytkckdibalopagaa.Short
attribute [local go_sem] max2_int min2_int max_two min_two max_three min_three max_four min_four   -- for this text's walks alone
set_option linter.unusedVariables false
set_option linter.unusedSimpArgs false

/-! ### spec_l05Made: function 119 -/
def spec_l05Made.j0 : Nat → List Bool → List Int → Int → Bool → Int → Int → Int → Int → Option (Bool)
  | 0, _, _, _, _, _, _, _, _ => none
  | k + 1, x1, x2, x16, x22, x360000, x360001, x360002, x360003 => if x22 = true then (if 0 ≤ x360002 then (if x360002 < (x1.length : Int) then (some (rdOf false x1 x360002)) else (none)) else (none)) else (if x16 = 7 then (if 0 ≤ x360002 then (if x360002 < (x1.length : Int) then (if rdOf false x1 x360002 = true then (if 0 ≤ x360003 then (if x360003 < (x2.length : Int) then (if (rd x2 x360003) ≥ 0 then (if 0 ≤ (rd x2 x360003) then (if (rd x2 x360003) < (x1.length : Int) then (if rdOf false x1 (rd x2 x360003) = true then (some true) else (if x360003 < (x1.length : Int) then (if rdOf false x1 x360003 = true then (if x360002 < (x2.length : Int) then (if (rd x2 x360002) ≥ 0 then (if 0 ≤ (rd x2 x360002) then (if (rd x2 x360002) < (x1.length : Int) then (some (rdOf false x1 (rd x2 x360002))) else (none)) else (none)) else (some false)) else (none)) else (some false)) else (none))) else (none)) else (none)) else (if x360003 < (x1.length : Int) then (if rdOf false x1 x360003 = true then (if x360002 < (x2.length : Int) then (if (rd x2 x360002) ≥ 0 then (if 0 ≤ (rd x2 x360002) then (if (rd x2 x360002) < (x1.length : Int) then (some (rdOf false x1 (rd x2 x360002))) else (none)) else (none)) else (some false)) else (none)) else (some false)) else (none))) else (none)) else (none)) else (if 0 ≤ x360003 then (if x360003 < (x1.length : Int) then (if rdOf false x1 x360003 = true then (if x360002 < (x2.length : Int) then (if (rd x2 x360002) ≥ 0 then (if 0 ≤ (rd x2 x360002) then (if (rd x2 x360002) < (x1.length : Int) then (some (rdOf false x1 (rd x2 x360002))) else (none)) else (none)) else (some false)) else (none)) else (some false)) else (none)) else (none))) else (none)) else (none)) else (if 0 ≤ x360002 then (if x360002 < (x1.length : Int) then (if rdOf false x1 x360002 = true then (if 0 ≤ x360003 then (if x360003 < (x1.length : Int) then (some (rdOf false x1 x360003)) else (none)) else (none)) else (some false)) else (none)) else (none)))
def spec_l05Made.f (k : Nat) (l0_0 : List (S34)) (l1 : List Bool) (l2 : List Int) (a3 : Int) : Option (Bool) := if 0 ≤ a3 then (if a3 < (l0_0.length : Int) then (if ((rd_T34 l0_0 a3).f0) = 1 then (some (decide (((rd_T34 l0_0 a3).f1) < 1000))) else (if ((rd_T34 l0_0 a3).f0) = 3 then (spec_l05Made.j0 k l1 l2 ((rd_T34 l0_0 a3).f0) (((rd_T34 l0_0 a3).f0) == 3) ((rd_T34 l0_0 a3).f0) ((rd_T34 l0_0 a3).f1) ((rd_T34 l0_0 a3).f2) ((rd_T34 l0_0 a3).f3)) else (spec_l05Made.j0 k l1 l2 ((rd_T34 l0_0 a3).f0) (((rd_T34 l0_0 a3).f0) == 6) ((rd_T34 l0_0 a3).f0) ((rd_T34 l0_0 a3).f1) ((rd_T34 l0_0 a3).f2) ((rd_T34 l0_0 a3).f3)))) else (none)) else (none)
set_option maxHeartbeats 8000000 in
set_option maxRecDepth 100000 in
theorem spec_l05Made.calls (k : Nat) (A0_0 : Option Addr) (c0_0 : Nat) (l0_0 : List (S34)) (A1 : Option Addr) (c1 : Nat) (l1 : List Bool) (A2 : Option Addr) (c2 : Nat) (l2 : List Int) (a3 : Int) (r : Bool) (w : World) (hr0_0 : Kd.C k34 w A0_0 l0_0.length l0_0) (hc0_0 : l0_0.length ≤ c0_0) (hr1 : Kd.C Kd.bool w A1 l1.length l1) (hc1 : l1.length ≤ c1) (hr2 : Kd.C (Kd.int .i64) w A2 l2.length l2) (hc2 : l2.length ≤ c2) (h : spec_l05Made.f k l0_0 l1 l2 a3 = some r) :
  Calls Try.prog 119 #[.agg #[.slice A0_0 l0_0.length c0_0], .slice A1 l1.length c1, .slice A2 l2.length c2, .int .i64 a3] w fun e w' => e = .returned (.bool r) ∧ Below w.heap.size w w' := by
 have hu26 := Try.underlying26
 have hu34 := Try.underlying34
 have HR0_0 := Aside0.mk hr0_0
 have HC0_0 := Aside0.mk hc0_0
 clear hr0_0 hc0_0
 have HR1 := Aside0.mk hr1
 have HC1 := Aside0.mk hc1
 clear hr1 hc1
 have HR2 := Aside0.mk hr2
 have HC2 := Aside0.mk hc2
 clear hr2 hc2
 have HB := Aside0.mk (Below.refl w.heap.size w)
 have H : (if 0 ≤ a3 then (if a3 < (l0_0.length : Int) then (if ((rd_T34 l0_0 a3).f0) = 1 then (some (decide (((rd_T34 l0_0 a3).f1) < 1000))) else (if ((rd_T34 l0_0 a3).f0) = 3 then (spec_l05Made.j0 k l1 l2 ((rd_T34 l0_0 a3).f0) (((rd_T34 l0_0 a3).f0) == 3) ((rd_T34 l0_0 a3).f0) ((rd_T34 l0_0 a3).f1) ((rd_T34 l0_0 a3).f2) ((rd_T34 l0_0 a3).f3)) else (spec_l05Made.j0 k l1 l2 ((rd_T34 l0_0 a3).f0) (((rd_T34 l0_0 a3).f0) == 6) ((rd_T34 l0_0 a3).f0) ((rd_T34 l0_0 a3).f1) ((rd_T34 l0_0 a3).f2) ((rd_T34 l0_0 a3).f3)))) else (none)) else (none)) = some r := h
 clear h
 by_cases c5 : 0 ≤ a3
 ·rw [if_pos c5] at H
  have c5b0 : decide (0 ≤ a3) = true := decide_eq_true c5
  clear c5
  by_cases c6 : a3 < (l0_0.length : Int)
  ·rw [if_pos c6] at H
   have c6b0 : decide (a3 < (l0_0.length : Int)) = true := decide_eq_true c6
   clear c6
   by_cases c7 : ((rd_T34 l0_0 a3).f0) = 1
   ·rw [if_pos c7] at H
    have c7b0 : (((rd_T34 l0_0 a3).f0) == 1) = true := beq_iff_eq.mpr c7
    have c7b1 : (((rd_T34 l0_0 a3).f0) != 1) = false := bne_eq_false_iff_eq.mpr c7
    clear c7
    obtain rfl := Option.some.inj H
    go_enter Try.func119, Try.ntmps119
    go_wp2_with (first | ((with_reducible refine gate_dst (N := 4) rfl ?_); refine box_event ?hg (N := 4) ?hd (cs := #[.slice A0_0 l0_0.length c0_0]) (t := 26) ?hr ?_; (case hd => rfl); (case hg => rfl); (case hr => first | (go_simp; done) | (go_simp; rfl)); intro gb357 hg w8 hbox hb; have n0_ := Aside0.mk (below_step (bw HB.out) hb); have n1_ := Aside0.mk (hbox); have n2_ := Aside0.mk ((by rw [hg]; exact (below_size (bw HB.out)) : w.heap.size ≤ gb357)); have n3_ := Aside0.mk ((by rw [hg]; exact (below_size (bw HB.out)) : w.heap.size ≤ gb357)); clear HB; have HB := n0_; have BK357 := n1_; have GW357 := n2_; have GE357 := n3_; clear n0_ n1_ n2_ n3_ hb hbox hg; have hcz9_0 : w8.cell? ⟨gb357, 0, none⟩ = some (.slice A0_0 l0_0.length c0_0) := (blk_cell BK357.out 0).trans rfl; have hfz9_0 := blk_frozen BK357.out 0; have p358 : 0 ≤ (a3 : Int) := oda; have q358 : a3 < (l0_0.length : Int) := oda; obtain ⟨ad358, e358, hx358_0, hx358_1, hx358_2, hx358_3⟩ := at_T34 HR0_0.out a3 p358 q358; cases e358; replace hx358_0 := (HB.out.cell (World.block_lt_of_cell? w _ hx358_0)).trans hx358_0; replace hx358_1 := (HB.out.cell (World.block_lt_of_cell? w _ hx358_1)).trans hx358_1; replace hx358_2 := (HB.out.cell (World.block_lt_of_cell? w _ hx358_2)).trans hx358_2; replace hx358_3 := (HB.out.cell (World.block_lt_of_cell? w _ hx358_3)).trans hx358_3; replace p358 := eq_true p358; replace q358 := eq_true q358) | ((with_reducible refine gate_dst (N := 9) rfl ?_); refine box_event ?hg (N := 9) ?hd (cs := #[.int .i64 0, .int .i64 0, .int .i64 0, .int .i64 0]) (t := 34) ?hr ?_; (case hd => rfl); (case hg => rfl); (case hr => first | (go_simp; done) | (go_simp; rfl)); intro gb359 hg w10 hbox hb; have n0_ := Aside0.mk (blk_below (g := gb357) (o := .cells #[.slice (some ad358) l0_0.length c0_0] 26 (0, 0)) (bl BK357.out) hb); have n1_ := Aside0.mk (below_step (bw HB.out) hb); have n2_ := Aside0.mk (hbox); have n3_ := Aside0.mk ((by rw [hg]; exact (below_size (bw HB.out)) : w.heap.size ≤ gb359)); have n4_ := Aside0.mk ((by rw [hg]; exact (below_size (bw HB.out)) : w.heap.size ≤ gb359)); have n5_ := Aside0.mk ((by rw [hg]; exact Nat.ne_of_lt (blk_lt (g := gb357) (o := .cells #[.slice (some ad358) l0_0.length c0_0] 26 (0, 0)) (bl BK357.out)) : gb357 ≠ gb359)); have n6_ := Aside0.mk ((by rw [hg]; exact Nat.ne_of_gt (blk_lt (g := gb357) (o := .cells #[.slice (some ad358) l0_0.length c0_0] 26 (0, 0)) (bl BK357.out)) : gb359 ≠ gb357)); clear BK357 HB; have BK357 := n0_; have HB := n1_; have BK359 := n2_; have GW359 := n3_; have GE359 := n4_; have NB357_359 := n5_; have NB359_357 := n6_; clear n0_ n1_ n2_ n3_ n4_ n5_ n6_ hb hbox hg; have hnb11 := NB359_357.out; have hnc11 := NB357_359.out; have hcz12_0 : w10.cell? ⟨gb359, 0, none⟩ = some (.int .i64 0) := (blk_cell BK359.out 0).trans rfl; have hcz12_1 : w10.cell? ⟨gb359, 1, none⟩ = some (.int .i64 0) := (blk_cell BK359.out 1).trans rfl; have hcz12_2 : w10.cell? ⟨gb359, 2, none⟩ = some (.int .i64 0) := (blk_cell BK359.out 2).trans rfl; have hcz12_3 : w10.cell? ⟨gb359, 3, none⟩ = some (.int .i64 0) := (blk_cell BK359.out 3).trans rfl; have hfz12_0 := blk_frozen BK359.out 0; have hfz12_1 := blk_frozen BK359.out 1; have hfz12_2 := blk_frozen BK359.out 2; have hfz12_3 := blk_frozen BK359.out 3))
    go_ret
    exact ⟨by first | rfl | (simp [errW_none, errW_some] <;> rfl) | (simp [*, errW_none, errW_some] <;> rfl), bw HB.out⟩
   ·rw [if_neg c7] at H
    have c7b0 : (((rd_T34 l0_0 a3).f0) == 1) = false := beq_eq_false_iff_ne.mpr c7
    have c7b1 : (((rd_T34 l0_0 a3).f0) != 1) = true := bne_iff_ne.mpr c7
    have HC13 := Aside0.mk H
    clear H
    go_enter Try.func119, Try.ntmps119
    go_upto_if 22 with (first | ((with_reducible refine gate_dst (N := 4) rfl ?_); refine box_event ?hg (N := 4) ?hd (cs := #[.slice A0_0 l0_0.length c0_0]) (t := 26) ?hr ?_; (case hd => rfl); (case hg => rfl); (case hr => first | (go_simp; done) | (go_simp; rfl)); intro gb357 hg w14 hbox hb; have n0_ := Aside0.mk (below_step (bw HB.out) hb); have n1_ := Aside0.mk (hbox); have n2_ := Aside0.mk ((by rw [hg]; exact (below_size (bw HB.out)) : w.heap.size ≤ gb357)); have n3_ := Aside0.mk ((by rw [hg]; exact (below_size (bw HB.out)) : w.heap.size ≤ gb357)); clear HB; have HB := n0_; have BK357 := n1_; have GW357 := n2_; have GE357 := n3_; clear n0_ n1_ n2_ n3_ hb hbox hg; have hcz15_0 : w14.cell? ⟨gb357, 0, none⟩ = some (.slice A0_0 l0_0.length c0_0) := (blk_cell BK357.out 0).trans rfl; have hfz15_0 := blk_frozen BK357.out 0; have p358 : 0 ≤ (a3 : Int) := oda; have q358 : a3 < (l0_0.length : Int) := oda; obtain ⟨ad358, e358, hx358_0, hx358_1, hx358_2, hx358_3⟩ := at_T34 HR0_0.out a3 p358 q358; cases e358; replace hx358_0 := (HB.out.cell (World.block_lt_of_cell? w _ hx358_0)).trans hx358_0; replace hx358_1 := (HB.out.cell (World.block_lt_of_cell? w _ hx358_1)).trans hx358_1; replace hx358_2 := (HB.out.cell (World.block_lt_of_cell? w _ hx358_2)).trans hx358_2; replace hx358_3 := (HB.out.cell (World.block_lt_of_cell? w _ hx358_3)).trans hx358_3; replace p358 := eq_true p358; replace q358 := eq_true q358) | ((with_reducible refine gate_dst (N := 9) rfl ?_); refine box_event ?hg (N := 9) ?hd (cs := #[.int .i64 0, .int .i64 0, .int .i64 0, .int .i64 0]) (t := 34) ?hr ?_; (case hd => rfl); (case hg => rfl); (case hr => first | (go_simp; done) | (go_simp; rfl)); intro gb359 hg w16 hbox hb; have n0_ := Aside0.mk (blk_below (g := gb357) (o := .cells #[.slice (some ad358) l0_0.length c0_0] 26 (0, 0)) (bl BK357.out) hb); have n1_ := Aside0.mk (below_step (bw HB.out) hb); have n2_ := Aside0.mk (hbox); have n3_ := Aside0.mk ((by rw [hg]; exact (below_size (bw HB.out)) : w.heap.size ≤ gb359)); have n4_ := Aside0.mk ((by rw [hg]; exact (below_size (bw HB.out)) : w.heap.size ≤ gb359)); have n5_ := Aside0.mk ((by rw [hg]; exact Nat.ne_of_lt (blk_lt (g := gb357) (o := .cells #[.slice (some ad358) l0_0.length c0_0] 26 (0, 0)) (bl BK357.out)) : gb357 ≠ gb359)); have n6_ := Aside0.mk ((by rw [hg]; exact Nat.ne_of_gt (blk_lt (g := gb357) (o := .cells #[.slice (some ad358) l0_0.length c0_0] 26 (0, 0)) (bl BK357.out)) : gb359 ≠ gb357)); clear BK357 HB; have BK357 := n0_; have HB := n1_; have BK359 := n2_; have GW359 := n3_; have GE359 := n4_; have NB357_359 := n5_; have NB359_357 := n6_; clear n0_ n1_ n2_ n3_ n4_ n5_ n6_ hb hbox hg; have hnb17 := NB359_357.out; have hnc17 := NB357_359.out; have hcz18_0 : w16.cell? ⟨gb359, 0, none⟩ = some (.int .i64 0) := (blk_cell BK359.out 0).trans rfl; have hcz18_1 : w16.cell? ⟨gb359, 1, none⟩ = some (.int .i64 0) := (blk_cell BK359.out 1).trans rfl; have hcz18_2 : w16.cell? ⟨gb359, 2, none⟩ = some (.int .i64 0) := (blk_cell BK359.out 2).trans rfl; have hcz18_3 : w16.cell? ⟨gb359, 3, none⟩ = some (.int .i64 0) := (blk_cell BK359.out 3).trans rfl; have hfz18_0 := blk_frozen BK359.out 0; have hfz18_1 := blk_frozen BK359.out 1; have hfz18_2 := blk_frozen BK359.out 2; have hfz18_3 := blk_frozen BK359.out 3))
    (try simp only [Act.put, List.setIfInBounds_toArray, List.set_cons_zero, List.set_cons_succ])
    go_cut [22] (fun v22 wc => ∃ (kq : Nat) (x22_12 : Bool), v22 = .bool x22_12 ∧ Aside0 (spec_l05Made.j0 kq l1 l2 ((rd_T34 l0_0 a3).f0) x22_12 ((rd_T34 l0_0 a3).f0) ((rd_T34 l0_0 a3).f1) ((rd_T34 l0_0 a3).f2) ((rd_T34 l0_0 a3).f3) = some r) ∧ Aside0 (kq ≤ k) ∧ Aside0 (wc.heap[gb357]? = some (.cells #[(.slice (some ad358) l0_0.length c0_0)] 26 (0, 0))) ∧ Aside0 (wc.heap[gb359]? = some (.cells #[.int .i64 ((rd_T34 l0_0 a3).f0), .int .i64 ((rd_T34 l0_0 a3).f1), .int .i64 ((rd_T34 l0_0 a3).f2), .int .i64 ((rd_T34 l0_0 a3).f3)] 34 (0, 0))) ∧ Aside0 (Below w.heap.size w wc))
    case first =>
     have H := HC13.out
     clear HC13
     by_cases c19 : ((rd_T34 l0_0 a3).f0) = 3
     ·rw [if_pos c19] at H
      have c19b0 : (((rd_T34 l0_0 a3).f0) == 3) = true := beq_iff_eq.mpr c19
      have c19b1 : (((rd_T34 l0_0 a3).f0) != 3) = false := bne_eq_false_iff_eq.mpr c19
      clear c19
      (first | rw [c19b0] | (simp only [i64_w, i32_w]; rw [c19b0]) | skip)
      have H' := Aside0.mk H
      clear H
      go_wp2
      go_meet
      case rel => exact ⟨_, ((((rd_T34 l0_0 a3).f0) == 3)), (by first | rfl | (simp; done) | (simp [*]; done)), H', ⟨by first | omega | exact Nat.le_refl _⟩, ⟨by (with_reducible repeat (first | refine blk_drewN ?_ _ | refine blk_drew ?_ | refine blk_alloc ?_ _)); refine blk_far ?_ NB357_359.out _; (with_reducible repeat (first | refine blk_drewN ?_ _ | refine blk_drew ?_ | refine blk_alloc ?_ _)); refine blk_far ?_ NB357_359.out _; (with_reducible repeat (first | refine blk_drewN ?_ _ | refine blk_drew ?_ | refine blk_alloc ?_ _)); refine blk_far ?_ NB357_359.out _; (with_reducible repeat (first | refine blk_drewN ?_ _ | refine blk_drew ?_ | refine blk_alloc ?_ _)); refine blk_far ?_ NB357_359.out _; exact bl BK357.out⟩, ⟨by (with_reducible repeat (first | refine blk_drewN ?_ _ | refine blk_drew ?_ | refine blk_alloc ?_ _)); refine blk_put (cs := #[.int .i64 ((rd_T34 l0_0 a3).f0), .int .i64 ((rd_T34 l0_0 a3).f1), .int .i64 ((rd_T34 l0_0 a3).f2), .int .i64 0]) ?_ 3 _ rfl; (with_reducible repeat (first | refine blk_drewN ?_ _ | refine blk_drew ?_ | refine blk_alloc ?_ _)); refine blk_put (cs := #[.int .i64 ((rd_T34 l0_0 a3).f0), .int .i64 ((rd_T34 l0_0 a3).f1), .int .i64 0, .int .i64 0]) ?_ 2 _ rfl; (with_reducible repeat (first | refine blk_drewN ?_ _ | refine blk_drew ?_ | refine blk_alloc ?_ _)); refine blk_put (cs := #[.int .i64 ((rd_T34 l0_0 a3).f0), .int .i64 0, .int .i64 0, .int .i64 0]) ?_ 1 _ rfl; (with_reducible repeat (first | refine blk_drewN ?_ _ | refine blk_drew ?_ | refine blk_alloc ?_ _)); refine blk_put (cs := #[.int .i64 0, .int .i64 0, .int .i64 0, .int .i64 0]) ?_ 0 _ rfl; exact bl BK359.out⟩, ⟨bw HB.out⟩⟩
     ·rw [if_neg c19] at H
      have c19b0 : (((rd_T34 l0_0 a3).f0) == 3) = false := beq_eq_false_iff_ne.mpr c19
      have c19b1 : (((rd_T34 l0_0 a3).f0) != 3) = true := bne_iff_ne.mpr c19
      (first | rw [c19b0] | (simp only [i64_w, i32_w]; rw [c19b0]) | skip)
      have H' := Aside0.mk H
      clear H
      go_wp2
      go_meet
      case rel => exact ⟨_, ((((rd_T34 l0_0 a3).f0) == 6)), (by first | rfl | (simp; done) | (simp [*]; done)), H', ⟨by first | omega | exact Nat.le_refl _⟩, ⟨by (with_reducible repeat (first | refine blk_drewN ?_ _ | refine blk_drew ?_ | refine blk_alloc ?_ _)); refine blk_far ?_ NB357_359.out _; (with_reducible repeat (first | refine blk_drewN ?_ _ | refine blk_drew ?_ | refine blk_alloc ?_ _)); refine blk_far ?_ NB357_359.out _; (with_reducible repeat (first | refine blk_drewN ?_ _ | refine blk_drew ?_ | refine blk_alloc ?_ _)); refine blk_far ?_ NB357_359.out _; (with_reducible repeat (first | refine blk_drewN ?_ _ | refine blk_drew ?_ | refine blk_alloc ?_ _)); refine blk_far ?_ NB357_359.out _; exact bl BK357.out⟩, ⟨by (with_reducible repeat (first | refine blk_drewN ?_ _ | refine blk_drew ?_ | refine blk_alloc ?_ _)); refine blk_put (cs := #[.int .i64 ((rd_T34 l0_0 a3).f0), .int .i64 ((rd_T34 l0_0 a3).f1), .int .i64 ((rd_T34 l0_0 a3).f2), .int .i64 0]) ?_ 3 _ rfl; (with_reducible repeat (first | refine blk_drewN ?_ _ | refine blk_drew ?_ | refine blk_alloc ?_ _)); refine blk_put (cs := #[.int .i64 ((rd_T34 l0_0 a3).f0), .int .i64 ((rd_T34 l0_0 a3).f1), .int .i64 0, .int .i64 0]) ?_ 2 _ rfl; (with_reducible repeat (first | refine blk_drewN ?_ _ | refine blk_drew ?_ | refine blk_alloc ?_ _)); refine blk_put (cs := #[.int .i64 ((rd_T34 l0_0 a3).f0), .int .i64 0, .int .i64 0, .int .i64 0]) ?_ 1 _ rfl; (with_reducible repeat (first | refine blk_drewN ?_ _ | refine blk_drew ?_ | refine blk_alloc ?_ _)); refine blk_put (cs := #[.int .i64 0, .int .i64 0, .int .i64 0, .int .i64 0]) ?_ 0 _ rfl; exact bl BK359.out⟩, ⟨bw HB.out⟩⟩
    case rest =>
     clear HC13
     try clear c1
     try clear c2
     try clear p2
     try clear p3
     try clear q3
     try clear hx3
     try clear c5
     try clear c5b0
     try clear c6
     try clear c6b0
     try clear c7
     try clear c7b0
     try clear c7b1
     try clear c11
     try clear c17
     try clear c19
     try clear c19b0
     try clear c19b1
     try clear hcz12_0
     try clear hcz12_1
     try clear hcz12_2
     try clear hcz12_3
     try clear hcz15_0
     try clear hcz18_0
     try clear hcz18_1
     try clear hcz18_2
     try clear hcz18_3
     try clear hcz9_0
     try clear hfz12_0
     try clear hfz12_1
     try clear hfz12_2
     try clear hfz12_3
     try clear hfz15_0
     try clear hfz18_0
     try clear hfz18_1
     try clear hfz18_2
     try clear hfz18_3
     try clear hfz9_0
     try clear hx358_0
     try clear hx358_1
     try clear hx358_2
     try clear hx358_3
     try clear p358
     try clear q358
     obtain ⟨kq, x22_12, rfl, HA, HJ12, BK357, BK359, HB⟩ := hcut
     cases kq with
     | zero => exact absurd HA.out (by simp [spec_l05Made.j0])
     | succ kj12 =>
      have H := HA.out
      clear HA
      simp only [spec_l05Made.j0] at H
      by_cases c20 : x22_12 = true
      ·subst c20
       have H1 : (if 0 ≤ ((rd_T34 l0_0 a3).f2) then (if ((rd_T34 l0_0 a3).f2) < (l1.length : Int) then (some (rdOf false l1 ((rd_T34 l0_0 a3).f2))) else (none)) else (none)) = some r := by rw [if_pos rfl] at H; exact H
       clear H
       have H := H1
       clear H1
       by_cases c21 : 0 ≤ ((rd_T34 l0_0 a3).f2)
       ·rw [if_pos c21] at H
        have c21b0 : decide (0 ≤ ((rd_T34 l0_0 a3).f2)) = true := decide_eq_true c21
        clear c21
        by_cases c22 : ((rd_T34 l0_0 a3).f2) < (l1.length : Int)
        ·rw [if_pos c22] at H
         have c22b0 : decide (((rd_T34 l0_0 a3).f2) < (l1.length : Int)) = true := decide_eq_true c22
         clear c22
         obtain rfl := Option.some.inj H
         have hnb23 := NB359_357.out
         have hnc23 := NB357_359.out
         have hcz24_0 : wc.cell? ⟨gb359, 0, none⟩ = some (.int .i64 ((rd_T34 l0_0 a3).f0)) := (blk_cell BK359.out 0).trans rfl
         have hcz24_1 : wc.cell? ⟨gb359, 1, none⟩ = some (.int .i64 ((rd_T34 l0_0 a3).f1)) := (blk_cell BK359.out 1).trans rfl
         have hcz24_2 : wc.cell? ⟨gb359, 2, none⟩ = some (.int .i64 ((rd_T34 l0_0 a3).f2)) := (blk_cell BK359.out 2).trans rfl
         have hcz24_3 : wc.cell? ⟨gb359, 3, none⟩ = some (.int .i64 ((rd_T34 l0_0 a3).f3)) := (blk_cell BK359.out 3).trans rfl
         have hfz24_0 := blk_frozen BK359.out 0
         have hfz24_1 := blk_frozen BK359.out 1
         have hfz24_2 := blk_frozen BK359.out 2
         have hfz24_3 := blk_frozen BK359.out 3
         have p360 : 0 ≤ (((rd_T34 l0_0 a3).f2) : Int) := oda
         have q360 : ((rd_T34 l0_0 a3).f2) < (l1.length : Int) := oda
         obtain ⟨ad360, e360, hx360_0⟩ := Kd.at_bool HR1.out ((rd_T34 l0_0 a3).f2) p360 q360
         cases e360
         replace hx360_0 := (HB.out.cell (World.block_lt_of_cell? w _ hx360_0)).trans hx360_0
         replace p360 := eq_true p360
         replace q360 := eq_true q360
         go_wp2
         go_ret
         exact ⟨by first | rfl | (simp [errW_none, errW_some] <;> rfl) | (simp [*, errW_none, errW_some] <;> rfl), bw HB.out⟩
        ·rw [if_neg c22] at H
         exact absurd H (by simp)
       ·rw [if_neg c21] at H
        exact absurd H (by simp)
      ·replace c20 := Bool.eq_false_iff.mpr c20
       subst c20
       have H1 : (if ((rd_T34 l0_0 a3).f0) = 7 then (if 0 ≤ ((rd_T34 l0_0 a3).f2) then (if ((rd_T34 l0_0 a3).f2) < (l1.length : Int) then (if rdOf false l1 ((rd_T34 l0_0 a3).f2) = true then (if 0 ≤ ((rd_T34 l0_0 a3).f3) then (if ((rd_T34 l0_0 a3).f3) < (l2.length : Int) then (if (rd l2 ((rd_T34 l0_0 a3).f3)) ≥ 0 then (if 0 ≤ (rd l2 ((rd_T34 l0_0 a3).f3)) then (if (rd l2 ((rd_T34 l0_0 a3).f3)) < (l1.length : Int) then (if rdOf false l1 (rd l2 ((rd_T34 l0_0 a3).f3)) = true then (some true) else (if ((rd_T34 l0_0 a3).f3) < (l1.length : Int) then (if rdOf false l1 ((rd_T34 l0_0 a3).f3) = true then (if ((rd_T34 l0_0 a3).f2) < (l2.length : Int) then (if (rd l2 ((rd_T34 l0_0 a3).f2)) ≥ 0 then (if 0 ≤ (rd l2 ((rd_T34 l0_0 a3).f2)) then (if (rd l2 ((rd_T34 l0_0 a3).f2)) < (l1.length : Int) then (some (rdOf false l1 (rd l2 ((rd_T34 l0_0 a3).f2)))) else (none)) else (none)) else (some false)) else (none)) else (some false)) else (none))) else (none)) else (none)) else (if ((rd_T34 l0_0 a3).f3) < (l1.length : Int) then (if rdOf false l1 ((rd_T34 l0_0 a3).f3) = true then (if ((rd_T34 l0_0 a3).f2) < (l2.length : Int) then (if (rd l2 ((rd_T34 l0_0 a3).f2)) ≥ 0 then (if 0 ≤ (rd l2 ((rd_T34 l0_0 a3).f2)) then (if (rd l2 ((rd_T34 l0_0 a3).f2)) < (l1.length : Int) then (some (rdOf false l1 (rd l2 ((rd_T34 l0_0 a3).f2)))) else (none)) else (none)) else (some false)) else (none)) else (some false)) else (none))) else (none)) else (none)) else (if 0 ≤ ((rd_T34 l0_0 a3).f3) then (if ((rd_T34 l0_0 a3).f3) < (l1.length : Int) then (if rdOf false l1 ((rd_T34 l0_0 a3).f3) = true then (if ((rd_T34 l0_0 a3).f2) < (l2.length : Int) then (if (rd l2 ((rd_T34 l0_0 a3).f2)) ≥ 0 then (if 0 ≤ (rd l2 ((rd_T34 l0_0 a3).f2)) then (if (rd l2 ((rd_T34 l0_0 a3).f2)) < (l1.length : Int) then (some (rdOf false l1 (rd l2 ((rd_T34 l0_0 a3).f2)))) else (none)) else (none)) else (some false)) else (none)) else (some false)) else (none)) else (none))) else (none)) else (none)) else (if 0 ≤ ((rd_T34 l0_0 a3).f2) then (if ((rd_T34 l0_0 a3).f2) < (l1.length : Int) then (if rdOf false l1 ((rd_T34 l0_0 a3).f2) = true then (if 0 ≤ ((rd_T34 l0_0 a3).f3) then (if ((rd_T34 l0_0 a3).f3) < (l1.length : Int) then (some (rdOf false l1 ((rd_T34 l0_0 a3).f3))) else (none)) else (none)) else (some false)) else (none)) else (none))) = some r := by rw [if_neg (show ¬ (false = true) by decide)] at H; exact H
       clear H
       have H := H1
       clear H1
       by_cases c25 : ((rd_T34 l0_0 a3).f0) = 7
       ·rw [if_pos c25] at H
        have c25b0 : (((rd_T34 l0_0 a3).f0) == 7) = true := beq_iff_eq.mpr c25
        have c25b1 : (((rd_T34 l0_0 a3).f0) != 7) = false := bne_eq_false_iff_eq.mpr c25
        clear c25
        by_cases c26 : 0 ≤ ((rd_T34 l0_0 a3).f2)
        ·rw [if_pos c26] at H
         have c26b0 : decide (0 ≤ ((rd_T34 l0_0 a3).f2)) = true := decide_eq_true c26
         clear c26
         by_cases c27 : ((rd_T34 l0_0 a3).f2) < (l1.length : Int)
         ·rw [if_pos c27] at H
          have c27b0 : decide (((rd_T34 l0_0 a3).f2) < (l1.length : Int)) = true := decide_eq_true c27
          clear c27
          obtain ⟨bq28, hbq28⟩ : ∃ b_ : Bool, b_ = (rdOf false l1 ((rd_T34 l0_0 a3).f2)) := ⟨_, rfl⟩
          replace H : (if bq28 = true then (if 0 ≤ ((rd_T34 l0_0 a3).f3) then (if ((rd_T34 l0_0 a3).f3) < (l2.length : Int) then (if (rd l2 ((rd_T34 l0_0 a3).f3)) ≥ 0 then (if 0 ≤ (rd l2 ((rd_T34 l0_0 a3).f3)) then (if (rd l2 ((rd_T34 l0_0 a3).f3)) < (l1.length : Int) then (if rdOf false l1 (rd l2 ((rd_T34 l0_0 a3).f3)) = true then (some true) else (if ((rd_T34 l0_0 a3).f3) < (l1.length : Int) then (if rdOf false l1 ((rd_T34 l0_0 a3).f3) = true then (if ((rd_T34 l0_0 a3).f2) < (l2.length : Int) then (if (rd l2 ((rd_T34 l0_0 a3).f2)) ≥ 0 then (if 0 ≤ (rd l2 ((rd_T34 l0_0 a3).f2)) then (if (rd l2 ((rd_T34 l0_0 a3).f2)) < (l1.length : Int) then (some (rdOf false l1 (rd l2 ((rd_T34 l0_0 a3).f2)))) else (none)) else (none)) else (some false)) else (none)) else (some false)) else (none))) else (none)) else (none)) else (if ((rd_T34 l0_0 a3).f3) < (l1.length : Int) then (if rdOf false l1 ((rd_T34 l0_0 a3).f3) = true then (if ((rd_T34 l0_0 a3).f2) < (l2.length : Int) then (if (rd l2 ((rd_T34 l0_0 a3).f2)) ≥ 0 then (if 0 ≤ (rd l2 ((rd_T34 l0_0 a3).f2)) then (if (rd l2 ((rd_T34 l0_0 a3).f2)) < (l1.length : Int) then (some (rdOf false l1 (rd l2 ((rd_T34 l0_0 a3).f2)))) else (none)) else (none)) else (some false)) else (none)) else (some false)) else (none))) else (none)) else (none)) else (if 0 ≤ ((rd_T34 l0_0 a3).f3) then (if ((rd_T34 l0_0 a3).f3) < (l1.length : Int) then (if rdOf false l1 ((rd_T34 l0_0 a3).f3) = true then (if ((rd_T34 l0_0 a3).f2) < (l2.length : Int) then (if (rd l2 ((rd_T34 l0_0 a3).f2)) ≥ 0 then (if 0 ≤ (rd l2 ((rd_T34 l0_0 a3).f2)) then (if (rd l2 ((rd_T34 l0_0 a3).f2)) < (l1.length : Int) then (some (rdOf false l1 (rd l2 ((rd_T34 l0_0 a3).f2)))) else (none)) else (none)) else (some false)) else (none)) else (some false)) else (none)) else (none))) = some r := by rw [← hbq28] at H; exact H
          have Nbq28 := Aside0.mk hbq28
          clear hbq28
          by_cases c29 : bq28 = true
          ·subst c29
           have H1 : (if 0 ≤ ((rd_T34 l0_0 a3).f3) then (if ((rd_T34 l0_0 a3).f3) < (l2.length : Int) then (if (rd l2 ((rd_T34 l0_0 a3).f3)) ≥ 0 then (if 0 ≤ (rd l2 ((rd_T34 l0_0 a3).f3)) then (if (rd l2 ((rd_T34 l0_0 a3).f3)) < (l1.length : Int) then (if rdOf false l1 (rd l2 ((rd_T34 l0_0 a3).f3)) = true then (some true) else (if ((rd_T34 l0_0 a3).f3) < (l1.length : Int) then (if rdOf false l1 ((rd_T34 l0_0 a3).f3) = true then (if ((rd_T34 l0_0 a3).f2) < (l2.length : Int) then (if (rd l2 ((rd_T34 l0_0 a3).f2)) ≥ 0 then (if 0 ≤ (rd l2 ((rd_T34 l0_0 a3).f2)) then (if (rd l2 ((rd_T34 l0_0 a3).f2)) < (l1.length : Int) then (some (rdOf false l1 (rd l2 ((rd_T34 l0_0 a3).f2)))) else (none)) else (none)) else (some false)) else (none)) else (some false)) else (none))) else (none)) else (none)) else (if ((rd_T34 l0_0 a3).f3) < (l1.length : Int) then (if rdOf false l1 ((rd_T34 l0_0 a3).f3) = true then (if ((rd_T34 l0_0 a3).f2) < (l2.length : Int) then (if (rd l2 ((rd_T34 l0_0 a3).f2)) ≥ 0 then (if 0 ≤ (rd l2 ((rd_T34 l0_0 a3).f2)) then (if (rd l2 ((rd_T34 l0_0 a3).f2)) < (l1.length : Int) then (some (rdOf false l1 (rd l2 ((rd_T34 l0_0 a3).f2)))) else (none)) else (none)) else (some false)) else (none)) else (some false)) else (none))) else (none)) else (none)) = some r := by rw [if_pos rfl] at H; exact H
           clear H
           have H := H1
           clear H1
           by_cases c30 : 0 ≤ ((rd_T34 l0_0 a3).f3)
           ·rw [if_pos c30] at H
            have c30b0 : decide (0 ≤ ((rd_T34 l0_0 a3).f3)) = true := decide_eq_true c30
            clear c30
            by_cases c31 : ((rd_T34 l0_0 a3).f3) < (l2.length : Int)
            ·rw [if_pos c31] at H
             have c31b0 : decide (((rd_T34 l0_0 a3).f3) < (l2.length : Int)) = true := decide_eq_true c31
             clear c31
             by_cases c32 : (rd l2 ((rd_T34 l0_0 a3).f3)) ≥ 0
             ·rw [if_pos c32] at H
              have c32b0 : decide (0 ≤ (rd l2 ((rd_T34 l0_0 a3).f3))) = true := decide_eq_true c32
              clear c32
              by_cases c33 : 0 ≤ (rd l2 ((rd_T34 l0_0 a3).f3))
              ·rw [if_pos c33] at H
               have c33b0 : decide (0 ≤ (rd l2 ((rd_T34 l0_0 a3).f3))) = true := decide_eq_true c33
               clear c33
               by_cases c34 : (rd l2 ((rd_T34 l0_0 a3).f3)) < (l1.length : Int)
               ·rw [if_pos c34] at H
                have c34b0 : decide ((rd l2 ((rd_T34 l0_0 a3).f3)) < (l1.length : Int)) = true := decide_eq_true c34
                clear c34
                obtain ⟨bq35, hbq35⟩ : ∃ b_ : Bool, b_ = (rdOf false l1 (rd l2 ((rd_T34 l0_0 a3).f3))) := ⟨_, rfl⟩
                replace H : (if bq35 = true then (some true) else (if ((rd_T34 l0_0 a3).f3) < (l1.length : Int) then (if rdOf false l1 ((rd_T34 l0_0 a3).f3) = true then (if ((rd_T34 l0_0 a3).f2) < (l2.length : Int) then (if (rd l2 ((rd_T34 l0_0 a3).f2)) ≥ 0 then (if 0 ≤ (rd l2 ((rd_T34 l0_0 a3).f2)) then (if (rd l2 ((rd_T34 l0_0 a3).f2)) < (l1.length : Int) then (some (rdOf false l1 (rd l2 ((rd_T34 l0_0 a3).f2)))) else (none)) else (none)) else (some false)) else (none)) else (some false)) else (none))) = some r := by rw [← hbq35] at H; exact H
                have Nbq35 := Aside0.mk hbq35
                clear hbq35
                by_cases c36 : bq35 = true
                ·subst c36
                 have H1 : (some true) = some r := by rw [if_pos rfl] at H; exact H
                 clear H
                 have H := H1
                 clear H1
                 obtain rfl := Option.some.inj H
                 have hnb37 := NB359_357.out
                 have hnc37 := NB357_359.out
                 have hcz38_0 : wc.cell? ⟨gb359, 0, none⟩ = some (.int .i64 ((rd_T34 l0_0 a3).f0)) := (blk_cell BK359.out 0).trans rfl
                 have hcz38_1 : wc.cell? ⟨gb359, 1, none⟩ = some (.int .i64 ((rd_T34 l0_0 a3).f1)) := (blk_cell BK359.out 1).trans rfl
                 have hcz38_2 : wc.cell? ⟨gb359, 2, none⟩ = some (.int .i64 ((rd_T34 l0_0 a3).f2)) := (blk_cell BK359.out 2).trans rfl
                 have hcz38_3 : wc.cell? ⟨gb359, 3, none⟩ = some (.int .i64 ((rd_T34 l0_0 a3).f3)) := (blk_cell BK359.out 3).trans rfl
                 have hfz38_0 := blk_frozen BK359.out 0
                 have hfz38_1 := blk_frozen BK359.out 1
                 have hfz38_2 := blk_frozen BK359.out 2
                 have hfz38_3 := blk_frozen BK359.out 3
                 have p361 : 0 ≤ (((rd_T34 l0_0 a3).f2) : Int) := oda
                 have q361 : ((rd_T34 l0_0 a3).f2) < (l1.length : Int) := oda
                 obtain ⟨ad361, e361, hx361_0⟩ := Kd.at_bool HR1.out ((rd_T34 l0_0 a3).f2) p361 q361
                 (try rw [← Nbq28.out] at hx361_0)
                 (try rw [← Nbq35.out] at hx361_0)
                 cases e361
                 replace hx361_0 := (HB.out.cell (World.block_lt_of_cell? w _ hx361_0)).trans hx361_0
                 replace p361 := eq_true p361
                 replace q361 := eq_true q361
                 have p362 : 0 ≤ (((rd_T34 l0_0 a3).f3) : Int) := oda
                 have q362 : ((rd_T34 l0_0 a3).f3) < (l2.length : Int) := oda
                 obtain ⟨ad362, e362, hx362_0⟩ := Kd.at_int HR2.out ((rd_T34 l0_0 a3).f3) p362 q362
                 cases e362
                 replace hx362_0 := (HB.out.cell (World.block_lt_of_cell? w _ hx362_0)).trans hx362_0
                 replace p362 := eq_true p362
                 replace q362 := eq_true q362
                 have p363 : 0 ≤ (((rd_T34 l0_0 a3).f3) : Int) := oda
                 have q363 : ((rd_T34 l0_0 a3).f3) < (l2.length : Int) := oda
                 obtain ⟨ad363, e363, hx363_0⟩ := Kd.at_int HR2.out ((rd_T34 l0_0 a3).f3) p363 q363
                 obtain rfl : ad362 = ad363 := (by injection e363)
                 replace hx363_0 := (HB.out.cell (World.block_lt_of_cell? w _ hx363_0)).trans hx363_0
                 replace p363 := eq_true p363
                 replace q363 := eq_true q363
                 have p364 : 0 ≤ ((rd l2 ((rd_T34 l0_0 a3).f3)) : Int) := oda
                 have q364 : (rd l2 ((rd_T34 l0_0 a3).f3)) < (l1.length : Int) := oda
                 obtain ⟨ad364, e364, hx364_0⟩ := Kd.at_bool HR1.out (rd l2 ((rd_T34 l0_0 a3).f3)) p364 q364
                 (try rw [← Nbq28.out] at hx364_0)
                 (try rw [← Nbq35.out] at hx364_0)
                 obtain rfl : ad361 = ad364 := (by injection e364)
                 replace hx364_0 := (HB.out.cell (World.block_lt_of_cell? w _ hx364_0)).trans hx364_0
                 replace p364 := eq_true p364
                 replace q364 := eq_true q364
                 go_wp2
                 go_ret
                 exact ⟨by first | rfl | (simp [errW_none, errW_some] <;> rfl) | (simp [*, errW_none, errW_some] <;> rfl), bw HB.out⟩
                ·replace c36 := Bool.eq_false_iff.mpr c36
                 subst c36
                 have H1 : (if ((rd_T34 l0_0 a3).f3) < (l1.length : Int) then (if rdOf false l1 ((rd_T34 l0_0 a3).f3) = true then (if ((rd_T34 l0_0 a3).f2) < (l2.length : Int) then (if (rd l2 ((rd_T34 l0_0 a3).f2)) ≥ 0 then (if 0 ≤ (rd l2 ((rd_T34 l0_0 a3).f2)) then (if (rd l2 ((rd_T34 l0_0 a3).f2)) < (l1.length : Int) then (some (rdOf false l1 (rd l2 ((rd_T34 l0_0 a3).f2)))) else (none)) else (none)) else (some false)) else (none)) else (some false)) else (none)) = some r := by rw [if_neg (show ¬ (false = true) by decide)] at H; exact H
                 clear H
                 have H := H1
                 clear H1
                 by_cases c39 : ((rd_T34 l0_0 a3).f3) < (l1.length : Int)
                 ·rw [if_pos c39] at H
                  have c39b0 : decide (((rd_T34 l0_0 a3).f3) < (l1.length : Int)) = true := decide_eq_true c39
                  clear c39
                  obtain ⟨bq40, hbq40⟩ : ∃ b_ : Bool, b_ = (rdOf false l1 ((rd_T34 l0_0 a3).f3)) := ⟨_, rfl⟩
                  replace H : (if bq40 = true then (if ((rd_T34 l0_0 a3).f2) < (l2.length : Int) then (if (rd l2 ((rd_T34 l0_0 a3).f2)) ≥ 0 then (if 0 ≤ (rd l2 ((rd_T34 l0_0 a3).f2)) then (if (rd l2 ((rd_T34 l0_0 a3).f2)) < (l1.length : Int) then (some (rdOf false l1 (rd l2 ((rd_T34 l0_0 a3).f2)))) else (none)) else (none)) else (some false)) else (none)) else (some false)) = some r := by rw [← hbq40] at H; exact H
                  have Nbq40 := Aside0.mk hbq40
                  clear hbq40
                  by_cases c41 : bq40 = true
                  ·subst c41
                   have H1 : (if ((rd_T34 l0_0 a3).f2) < (l2.length : Int) then (if (rd l2 ((rd_T34 l0_0 a3).f2)) ≥ 0 then (if 0 ≤ (rd l2 ((rd_T34 l0_0 a3).f2)) then (if (rd l2 ((rd_T34 l0_0 a3).f2)) < (l1.length : Int) then (some (rdOf false l1 (rd l2 ((rd_T34 l0_0 a3).f2)))) else (none)) else (none)) else (some false)) else (none)) = some r := by rw [if_pos rfl] at H; exact H
                   clear H
                   have H := H1
                   clear H1
                   by_cases c42 : ((rd_T34 l0_0 a3).f2) < (l2.length : Int)
                   ·rw [if_pos c42] at H
                    have c42b0 : decide (((rd_T34 l0_0 a3).f2) < (l2.length : Int)) = true := decide_eq_true c42
                    clear c42
                    by_cases c43 : (rd l2 ((rd_T34 l0_0 a3).f2)) ≥ 0
                    ·rw [if_pos c43] at H
                     have c43b0 : decide (0 ≤ (rd l2 ((rd_T34 l0_0 a3).f2))) = true := decide_eq_true c43
                     clear c43
                     by_cases c44 : 0 ≤ (rd l2 ((rd_T34 l0_0 a3).f2))
                     ·rw [if_pos c44] at H
                      have c44b0 : decide (0 ≤ (rd l2 ((rd_T34 l0_0 a3).f2))) = true := decide_eq_true c44
                      clear c44
                      by_cases c45 : (rd l2 ((rd_T34 l0_0 a3).f2)) < (l1.length : Int)
                      ·rw [if_pos c45] at H
                       have c45b0 : decide ((rd l2 ((rd_T34 l0_0 a3).f2)) < (l1.length : Int)) = true := decide_eq_true c45
                       clear c45
                       obtain rfl := Option.some.inj H
                       have hnb46 := NB359_357.out
                       have hnc46 := NB357_359.out
                       have hcz47_0 : wc.cell? ⟨gb359, 0, none⟩ = some (.int .i64 ((rd_T34 l0_0 a3).f0)) := (blk_cell BK359.out 0).trans rfl
                       have hcz47_1 : wc.cell? ⟨gb359, 1, none⟩ = some (.int .i64 ((rd_T34 l0_0 a3).f1)) := (blk_cell BK359.out 1).trans rfl
                       have hcz47_2 : wc.cell? ⟨gb359, 2, none⟩ = some (.int .i64 ((rd_T34 l0_0 a3).f2)) := (blk_cell BK359.out 2).trans rfl
                       have hcz47_3 : wc.cell? ⟨gb359, 3, none⟩ = some (.int .i64 ((rd_T34 l0_0 a3).f3)) := (blk_cell BK359.out 3).trans rfl
                       have hfz47_0 := blk_frozen BK359.out 0
                       have hfz47_1 := blk_frozen BK359.out 1
                       have hfz47_2 := blk_frozen BK359.out 2
                       have hfz47_3 := blk_frozen BK359.out 3
                       have p361 : 0 ≤ (((rd_T34 l0_0 a3).f2) : Int) := oda
                       have q361 : ((rd_T34 l0_0 a3).f2) < (l1.length : Int) := oda
                       obtain ⟨ad361, e361, hx361_0⟩ := Kd.at_bool HR1.out ((rd_T34 l0_0 a3).f2) p361 q361
                       (try rw [← Nbq28.out] at hx361_0)
                       (try rw [← Nbq35.out] at hx361_0)
                       (try rw [← Nbq40.out] at hx361_0)
                       cases e361
                       replace hx361_0 := (HB.out.cell (World.block_lt_of_cell? w _ hx361_0)).trans hx361_0
                       replace p361 := eq_true p361
                       replace q361 := eq_true q361
                       have p362 : 0 ≤ (((rd_T34 l0_0 a3).f3) : Int) := oda
                       have q362 : ((rd_T34 l0_0 a3).f3) < (l2.length : Int) := oda
                       obtain ⟨ad362, e362, hx362_0⟩ := Kd.at_int HR2.out ((rd_T34 l0_0 a3).f3) p362 q362
                       cases e362
                       replace hx362_0 := (HB.out.cell (World.block_lt_of_cell? w _ hx362_0)).trans hx362_0
                       replace p362 := eq_true p362
                       replace q362 := eq_true q362
                       have p363 : 0 ≤ (((rd_T34 l0_0 a3).f3) : Int) := oda
                       have q363 : ((rd_T34 l0_0 a3).f3) < (l2.length : Int) := oda
                       obtain ⟨ad363, e363, hx363_0⟩ := Kd.at_int HR2.out ((rd_T34 l0_0 a3).f3) p363 q363
                       obtain rfl : ad362 = ad363 := (by injection e363)
                       replace hx363_0 := (HB.out.cell (World.block_lt_of_cell? w _ hx363_0)).trans hx363_0
                       replace p363 := eq_true p363
                       replace q363 := eq_true q363
                       have p364 : 0 ≤ ((rd l2 ((rd_T34 l0_0 a3).f3)) : Int) := oda
                       have q364 : (rd l2 ((rd_T34 l0_0 a3).f3)) < (l1.length : Int) := oda
                       obtain ⟨ad364, e364, hx364_0⟩ := Kd.at_bool HR1.out (rd l2 ((rd_T34 l0_0 a3).f3)) p364 q364
                       (try rw [← Nbq28.out] at hx364_0)
                       (try rw [← Nbq35.out] at hx364_0)
                       (try rw [← Nbq40.out] at hx364_0)
                       obtain rfl : ad361 = ad364 := (by injection e364)
                       replace hx364_0 := (HB.out.cell (World.block_lt_of_cell? w _ hx364_0)).trans hx364_0
                       replace p364 := eq_true p364
                       replace q364 := eq_true q364
                       have p365 : 0 ≤ (((rd_T34 l0_0 a3).f3) : Int) := oda
                       have q365 : ((rd_T34 l0_0 a3).f3) < (l1.length : Int) := oda
                       obtain ⟨ad365, e365, hx365_0⟩ := Kd.at_bool HR1.out ((rd_T34 l0_0 a3).f3) p365 q365
                       (try rw [← Nbq28.out] at hx365_0)
                       (try rw [← Nbq35.out] at hx365_0)
                       (try rw [← Nbq40.out] at hx365_0)
                       obtain rfl : ad361 = ad365 := (by injection e365)
                       replace hx365_0 := (HB.out.cell (World.block_lt_of_cell? w _ hx365_0)).trans hx365_0
                       replace p365 := eq_true p365
                       replace q365 := eq_true q365
                       have p366 : 0 ≤ (((rd_T34 l0_0 a3).f2) : Int) := oda
                       have q366 : ((rd_T34 l0_0 a3).f2) < (l2.length : Int) := oda
                       obtain ⟨ad366, e366, hx366_0⟩ := Kd.at_int HR2.out ((rd_T34 l0_0 a3).f2) p366 q366
                       obtain rfl : ad362 = ad366 := (by injection e366)
                       replace hx366_0 := (HB.out.cell (World.block_lt_of_cell? w _ hx366_0)).trans hx366_0
                       replace p366 := eq_true p366
                       replace q366 := eq_true q366
                       have p367 : 0 ≤ (((rd_T34 l0_0 a3).f2) : Int) := oda
                       have q367 : ((rd_T34 l0_0 a3).f2) < (l2.length : Int) := oda
                       obtain ⟨ad367, e367, hx367_0⟩ := Kd.at_int HR2.out ((rd_T34 l0_0 a3).f2) p367 q367
                       obtain rfl : ad362 = ad367 := (by injection e367)
                       replace hx367_0 := (HB.out.cell (World.block_lt_of_cell? w _ hx367_0)).trans hx367_0
                       replace p367 := eq_true p367
                       replace q367 := eq_true q367
                       have p368 : 0 ≤ ((rd l2 ((rd_T34 l0_0 a3).f2)) : Int) := oda
                       have q368 : (rd l2 ((rd_T34 l0_0 a3).f2)) < (l1.length : Int) := oda
                       obtain ⟨ad368, e368, hx368_0⟩ := Kd.at_bool HR1.out (rd l2 ((rd_T34 l0_0 a3).f2)) p368 q368
                       (try rw [← Nbq28.out] at hx368_0)
                       (try rw [← Nbq35.out] at hx368_0)
                       (try rw [← Nbq40.out] at hx368_0)
                       obtain rfl : ad361 = ad368 := (by injection e368)
                       replace hx368_0 := (HB.out.cell (World.block_lt_of_cell? w _ hx368_0)).trans hx368_0
                       replace p368 := eq_true p368
                       replace q368 := eq_true q368
                       go_wp2
                       go_ret
                       exact ⟨by first | rfl | (simp [errW_none, errW_some] <;> rfl) | (simp [*, errW_none, errW_some] <;> rfl), bw HB.out⟩
                      ·rw [if_neg c45] at H
                       exact absurd H (by simp)
                     ·rw [if_neg c44] at H
                      exact absurd H (by simp)
                    ·rw [if_neg c43] at H
                     have c43b0 : decide (0 ≤ (rd l2 ((rd_T34 l0_0 a3).f2))) = false := decide_eq_false c43
                     clear c43
                     obtain rfl := Option.some.inj H
                     have hnb48 := NB359_357.out
                     have hnc48 := NB357_359.out
                     have hcz49_0 : wc.cell? ⟨gb359, 0, none⟩ = some (.int .i64 ((rd_T34 l0_0 a3).f0)) := (blk_cell BK359.out 0).trans rfl
                     have hcz49_1 : wc.cell? ⟨gb359, 1, none⟩ = some (.int .i64 ((rd_T34 l0_0 a3).f1)) := (blk_cell BK359.out 1).trans rfl
                     have hcz49_2 : wc.cell? ⟨gb359, 2, none⟩ = some (.int .i64 ((rd_T34 l0_0 a3).f2)) := (blk_cell BK359.out 2).trans rfl
                     have hcz49_3 : wc.cell? ⟨gb359, 3, none⟩ = some (.int .i64 ((rd_T34 l0_0 a3).f3)) := (blk_cell BK359.out 3).trans rfl
                     have hfz49_0 := blk_frozen BK359.out 0
                     have hfz49_1 := blk_frozen BK359.out 1
                     have hfz49_2 := blk_frozen BK359.out 2
                     have hfz49_3 := blk_frozen BK359.out 3
                     have p361 : 0 ≤ (((rd_T34 l0_0 a3).f2) : Int) := oda
                     have q361 : ((rd_T34 l0_0 a3).f2) < (l1.length : Int) := oda
                     obtain ⟨ad361, e361, hx361_0⟩ := Kd.at_bool HR1.out ((rd_T34 l0_0 a3).f2) p361 q361
                     (try rw [← Nbq28.out] at hx361_0)
                     (try rw [← Nbq35.out] at hx361_0)
                     (try rw [← Nbq40.out] at hx361_0)
                     cases e361
                     replace hx361_0 := (HB.out.cell (World.block_lt_of_cell? w _ hx361_0)).trans hx361_0
                     replace p361 := eq_true p361
                     replace q361 := eq_true q361
                     have p362 : 0 ≤ (((rd_T34 l0_0 a3).f3) : Int) := oda
                     have q362 : ((rd_T34 l0_0 a3).f3) < (l2.length : Int) := oda
                     obtain ⟨ad362, e362, hx362_0⟩ := Kd.at_int HR2.out ((rd_T34 l0_0 a3).f3) p362 q362
                     cases e362
                     replace hx362_0 := (HB.out.cell (World.block_lt_of_cell? w _ hx362_0)).trans hx362_0
                     replace p362 := eq_true p362
                     replace q362 := eq_true q362
                     have p363 : 0 ≤ (((rd_T34 l0_0 a3).f3) : Int) := oda
                     have q363 : ((rd_T34 l0_0 a3).f3) < (l2.length : Int) := oda
                     obtain ⟨ad363, e363, hx363_0⟩ := Kd.at_int HR2.out ((rd_T34 l0_0 a3).f3) p363 q363
                     obtain rfl : ad362 = ad363 := (by injection e363)
                     replace hx363_0 := (HB.out.cell (World.block_lt_of_cell? w _ hx363_0)).trans hx363_0
                     replace p363 := eq_true p363
                     replace q363 := eq_true q363
                     have p364 : 0 ≤ ((rd l2 ((rd_T34 l0_0 a3).f3)) : Int) := oda
                     have q364 : (rd l2 ((rd_T34 l0_0 a3).f3)) < (l1.length : Int) := oda
                     obtain ⟨ad364, e364, hx364_0⟩ := Kd.at_bool HR1.out (rd l2 ((rd_T34 l0_0 a3).f3)) p364 q364
                     (try rw [← Nbq28.out] at hx364_0)
                     (try rw [← Nbq35.out] at hx364_0)
                     (try rw [← Nbq40.out] at hx364_0)
                     obtain rfl : ad361 = ad364 := (by injection e364)
                     replace hx364_0 := (HB.out.cell (World.block_lt_of_cell? w _ hx364_0)).trans hx364_0
                     replace p364 := eq_true p364
                     replace q364 := eq_true q364
                     have p365 : 0 ≤ (((rd_T34 l0_0 a3).f3) : Int) := oda
                     have q365 : ((rd_T34 l0_0 a3).f3) < (l1.length : Int) := oda
                     obtain ⟨ad365, e365, hx365_0⟩ := Kd.at_bool HR1.out ((rd_T34 l0_0 a3).f3) p365 q365
                     (try rw [← Nbq28.out] at hx365_0)
                     (try rw [← Nbq35.out] at hx365_0)
                     (try rw [← Nbq40.out] at hx365_0)
                     obtain rfl : ad361 = ad365 := (by injection e365)
                     replace hx365_0 := (HB.out.cell (World.block_lt_of_cell? w _ hx365_0)).trans hx365_0
                     replace p365 := eq_true p365
                     replace q365 := eq_true q365
                     have p366 : 0 ≤ (((rd_T34 l0_0 a3).f2) : Int) := oda
                     have q366 : ((rd_T34 l0_0 a3).f2) < (l2.length : Int) := oda
                     obtain ⟨ad366, e366, hx366_0⟩ := Kd.at_int HR2.out ((rd_T34 l0_0 a3).f2) p366 q366
                     obtain rfl : ad362 = ad366 := (by injection e366)
                     replace hx366_0 := (HB.out.cell (World.block_lt_of_cell? w _ hx366_0)).trans hx366_0
                     replace p366 := eq_true p366
                     replace q366 := eq_true q366
                     go_wp2
                     go_ret
                     exact ⟨by first | rfl | (simp [errW_none, errW_some] <;> rfl) | (simp [*, errW_none, errW_some] <;> rfl), bw HB.out⟩
                   ·rw [if_neg c42] at H
                    exact absurd H (by simp)
                  ·replace c41 := Bool.eq_false_iff.mpr c41
                   subst c41
                   have H1 : (some false) = some r := by rw [if_neg (show ¬ (false = true) by decide)] at H; exact H
                   clear H
                   have H := H1
                   clear H1
                   obtain rfl := Option.some.inj H
                   have hnb50 := NB359_357.out
                   have hnc50 := NB357_359.out
                   have hcz51_0 : wc.cell? ⟨gb359, 0, none⟩ = some (.int .i64 ((rd_T34 l0_0 a3).f0)) := (blk_cell BK359.out 0).trans rfl
                   have hcz51_1 : wc.cell? ⟨gb359, 1, none⟩ = some (.int .i64 ((rd_T34 l0_0 a3).f1)) := (blk_cell BK359.out 1).trans rfl
                   have hcz51_2 : wc.cell? ⟨gb359, 2, none⟩ = some (.int .i64 ((rd_T34 l0_0 a3).f2)) := (blk_cell BK359.out 2).trans rfl
                   have hcz51_3 : wc.cell? ⟨gb359, 3, none⟩ = some (.int .i64 ((rd_T34 l0_0 a3).f3)) := (blk_cell BK359.out 3).trans rfl
                   have hfz51_0 := blk_frozen BK359.out 0
                   have hfz51_1 := blk_frozen BK359.out 1
                   have hfz51_2 := blk_frozen BK359.out 2
                   have hfz51_3 := blk_frozen BK359.out 3
                   have p361 : 0 ≤ (((rd_T34 l0_0 a3).f2) : Int) := oda
                   have q361 : ((rd_T34 l0_0 a3).f2) < (l1.length : Int) := oda
                   obtain ⟨ad361, e361, hx361_0⟩ := Kd.at_bool HR1.out ((rd_T34 l0_0 a3).f2) p361 q361
                   (try rw [← Nbq28.out] at hx361_0)
                   (try rw [← Nbq35.out] at hx361_0)
                   (try rw [← Nbq40.out] at hx361_0)
                   cases e361
                   replace hx361_0 := (HB.out.cell (World.block_lt_of_cell? w _ hx361_0)).trans hx361_0
                   replace p361 := eq_true p361
                   replace q361 := eq_true q361
                   have p362 : 0 ≤ (((rd_T34 l0_0 a3).f3) : Int) := oda
                   have q362 : ((rd_T34 l0_0 a3).f3) < (l2.length : Int) := oda
                   obtain ⟨ad362, e362, hx362_0⟩ := Kd.at_int HR2.out ((rd_T34 l0_0 a3).f3) p362 q362
                   cases e362
                   replace hx362_0 := (HB.out.cell (World.block_lt_of_cell? w _ hx362_0)).trans hx362_0
                   replace p362 := eq_true p362
                   replace q362 := eq_true q362
                   have p363 : 0 ≤ (((rd_T34 l0_0 a3).f3) : Int) := oda
                   have q363 : ((rd_T34 l0_0 a3).f3) < (l2.length : Int) := oda
                   obtain ⟨ad363, e363, hx363_0⟩ := Kd.at_int HR2.out ((rd_T34 l0_0 a3).f3) p363 q363
                   obtain rfl : ad362 = ad363 := (by injection e363)
                   replace hx363_0 := (HB.out.cell (World.block_lt_of_cell? w _ hx363_0)).trans hx363_0
                   replace p363 := eq_true p363
                   replace q363 := eq_true q363
                   have p364 : 0 ≤ ((rd l2 ((rd_T34 l0_0 a3).f3)) : Int) := oda
                   have q364 : (rd l2 ((rd_T34 l0_0 a3).f3)) < (l1.length : Int) := oda
                   obtain ⟨ad364, e364, hx364_0⟩ := Kd.at_bool HR1.out (rd l2 ((rd_T34 l0_0 a3).f3)) p364 q364
                   (try rw [← Nbq28.out] at hx364_0)
                   (try rw [← Nbq35.out] at hx364_0)
                   (try rw [← Nbq40.out] at hx364_0)
                   obtain rfl : ad361 = ad364 := (by injection e364)
                   replace hx364_0 := (HB.out.cell (World.block_lt_of_cell? w _ hx364_0)).trans hx364_0
                   replace p364 := eq_true p364
                   replace q364 := eq_true q364
                   have p365 : 0 ≤ (((rd_T34 l0_0 a3).f3) : Int) := oda
                   have q365 : ((rd_T34 l0_0 a3).f3) < (l1.length : Int) := oda
                   obtain ⟨ad365, e365, hx365_0⟩ := Kd.at_bool HR1.out ((rd_T34 l0_0 a3).f3) p365 q365
                   (try rw [← Nbq28.out] at hx365_0)
                   (try rw [← Nbq35.out] at hx365_0)
                   (try rw [← Nbq40.out] at hx365_0)
                   obtain rfl : ad361 = ad365 := (by injection e365)
                   replace hx365_0 := (HB.out.cell (World.block_lt_of_cell? w _ hx365_0)).trans hx365_0
                   replace p365 := eq_true p365
                   replace q365 := eq_true q365
                   go_wp2
                   go_ret
                   exact ⟨by first | rfl | (simp [errW_none, errW_some] <;> rfl) | (simp [*, errW_none, errW_some] <;> rfl), bw HB.out⟩
                 ·rw [if_neg c39] at H
                  exact absurd H (by simp)
               ·rw [if_neg c34] at H
                exact absurd H (by simp)
              ·rw [if_neg c33] at H
               exact absurd H (by simp)
             ·rw [if_neg c32] at H
              have c32b0 : decide (0 ≤ (rd l2 ((rd_T34 l0_0 a3).f3))) = false := decide_eq_false c32
              clear c32
              by_cases c52 : ((rd_T34 l0_0 a3).f3) < (l1.length : Int)
              ·rw [if_pos c52] at H
               have c52b0 : decide (((rd_T34 l0_0 a3).f3) < (l1.length : Int)) = true := decide_eq_true c52
               clear c52
               obtain ⟨bq53, hbq53⟩ : ∃ b_ : Bool, b_ = (rdOf false l1 ((rd_T34 l0_0 a3).f3)) := ⟨_, rfl⟩
               replace H : (if bq53 = true then (if ((rd_T34 l0_0 a3).f2) < (l2.length : Int) then (if (rd l2 ((rd_T34 l0_0 a3).f2)) ≥ 0 then (if 0 ≤ (rd l2 ((rd_T34 l0_0 a3).f2)) then (if (rd l2 ((rd_T34 l0_0 a3).f2)) < (l1.length : Int) then (some (rdOf false l1 (rd l2 ((rd_T34 l0_0 a3).f2)))) else (none)) else (none)) else (some false)) else (none)) else (some false)) = some r := by rw [← hbq53] at H; exact H
               have Nbq53 := Aside0.mk hbq53
               clear hbq53
               by_cases c54 : bq53 = true
               ·subst c54
                have H1 : (if ((rd_T34 l0_0 a3).f2) < (l2.length : Int) then (if (rd l2 ((rd_T34 l0_0 a3).f2)) ≥ 0 then (if 0 ≤ (rd l2 ((rd_T34 l0_0 a3).f2)) then (if (rd l2 ((rd_T34 l0_0 a3).f2)) < (l1.length : Int) then (some (rdOf false l1 (rd l2 ((rd_T34 l0_0 a3).f2)))) else (none)) else (none)) else (some false)) else (none)) = some r := by rw [if_pos rfl] at H; exact H
                clear H
                have H := H1
                clear H1
                by_cases c55 : ((rd_T34 l0_0 a3).f2) < (l2.length : Int)
                ·rw [if_pos c55] at H
                 have c55b0 : decide (((rd_T34 l0_0 a3).f2) < (l2.length : Int)) = true := decide_eq_true c55
                 clear c55
                 by_cases c56 : (rd l2 ((rd_T34 l0_0 a3).f2)) ≥ 0
                 ·rw [if_pos c56] at H
                  have c56b0 : decide (0 ≤ (rd l2 ((rd_T34 l0_0 a3).f2))) = true := decide_eq_true c56
                  clear c56
                  by_cases c57 : 0 ≤ (rd l2 ((rd_T34 l0_0 a3).f2))
                  ·rw [if_pos c57] at H
                   have c57b0 : decide (0 ≤ (rd l2 ((rd_T34 l0_0 a3).f2))) = true := decide_eq_true c57
                   clear c57
                   by_cases c58 : (rd l2 ((rd_T34 l0_0 a3).f2)) < (l1.length : Int)
                   ·rw [if_pos c58] at H
                    have c58b0 : decide ((rd l2 ((rd_T34 l0_0 a3).f2)) < (l1.length : Int)) = true := decide_eq_true c58
                    clear c58
                    obtain rfl := Option.some.inj H
                    have hnb59 := NB359_357.out
                    have hnc59 := NB357_359.out
                    have hcz60_0 : wc.cell? ⟨gb359, 0, none⟩ = some (.int .i64 ((rd_T34 l0_0 a3).f0)) := (blk_cell BK359.out 0).trans rfl
                    have hcz60_1 : wc.cell? ⟨gb359, 1, none⟩ = some (.int .i64 ((rd_T34 l0_0 a3).f1)) := (blk_cell BK359.out 1).trans rfl
                    have hcz60_2 : wc.cell? ⟨gb359, 2, none⟩ = some (.int .i64 ((rd_T34 l0_0 a3).f2)) := (blk_cell BK359.out 2).trans rfl
                    have hcz60_3 : wc.cell? ⟨gb359, 3, none⟩ = some (.int .i64 ((rd_T34 l0_0 a3).f3)) := (blk_cell BK359.out 3).trans rfl
                    have hfz60_0 := blk_frozen BK359.out 0
                    have hfz60_1 := blk_frozen BK359.out 1
                    have hfz60_2 := blk_frozen BK359.out 2
                    have hfz60_3 := blk_frozen BK359.out 3
                    have p361 : 0 ≤ (((rd_T34 l0_0 a3).f2) : Int) := oda
                    have q361 : ((rd_T34 l0_0 a3).f2) < (l1.length : Int) := oda
                    obtain ⟨ad361, e361, hx361_0⟩ := Kd.at_bool HR1.out ((rd_T34 l0_0 a3).f2) p361 q361
                    (try rw [← Nbq28.out] at hx361_0)
                    (try rw [← Nbq53.out] at hx361_0)
                    cases e361
                    replace hx361_0 := (HB.out.cell (World.block_lt_of_cell? w _ hx361_0)).trans hx361_0
                    replace p361 := eq_true p361
                    replace q361 := eq_true q361
                    have p362 : 0 ≤ (((rd_T34 l0_0 a3).f3) : Int) := oda
                    have q362 : ((rd_T34 l0_0 a3).f3) < (l2.length : Int) := oda
                    obtain ⟨ad362, e362, hx362_0⟩ := Kd.at_int HR2.out ((rd_T34 l0_0 a3).f3) p362 q362
                    cases e362
                    replace hx362_0 := (HB.out.cell (World.block_lt_of_cell? w _ hx362_0)).trans hx362_0
                    replace p362 := eq_true p362
                    replace q362 := eq_true q362
                    have p369 : 0 ≤ (((rd_T34 l0_0 a3).f3) : Int) := oda
                    have q369 : ((rd_T34 l0_0 a3).f3) < (l1.length : Int) := oda
                    obtain ⟨ad369, e369, hx369_0⟩ := Kd.at_bool HR1.out ((rd_T34 l0_0 a3).f3) p369 q369
                    (try rw [← Nbq28.out] at hx369_0)
                    (try rw [← Nbq53.out] at hx369_0)
                    obtain rfl : ad361 = ad369 := (by injection e369)
                    replace hx369_0 := (HB.out.cell (World.block_lt_of_cell? w _ hx369_0)).trans hx369_0
                    replace p369 := eq_true p369
                    replace q369 := eq_true q369
                    have p370 : 0 ≤ (((rd_T34 l0_0 a3).f2) : Int) := oda
                    have q370 : ((rd_T34 l0_0 a3).f2) < (l2.length : Int) := oda
                    obtain ⟨ad370, e370, hx370_0⟩ := Kd.at_int HR2.out ((rd_T34 l0_0 a3).f2) p370 q370
                    obtain rfl : ad362 = ad370 := (by injection e370)
                    replace hx370_0 := (HB.out.cell (World.block_lt_of_cell? w _ hx370_0)).trans hx370_0
                    replace p370 := eq_true p370
                    replace q370 := eq_true q370
                    have p371 : 0 ≤ (((rd_T34 l0_0 a3).f2) : Int) := oda
                    have q371 : ((rd_T34 l0_0 a3).f2) < (l2.length : Int) := oda
                    obtain ⟨ad371, e371, hx371_0⟩ := Kd.at_int HR2.out ((rd_T34 l0_0 a3).f2) p371 q371
                    obtain rfl : ad362 = ad371 := (by injection e371)
                    replace hx371_0 := (HB.out.cell (World.block_lt_of_cell? w _ hx371_0)).trans hx371_0
                    replace p371 := eq_true p371
                    replace q371 := eq_true q371
                    have p372 : 0 ≤ ((rd l2 ((rd_T34 l0_0 a3).f2)) : Int) := oda
                    have q372 : (rd l2 ((rd_T34 l0_0 a3).f2)) < (l1.length : Int) := oda
                    obtain ⟨ad372, e372, hx372_0⟩ := Kd.at_bool HR1.out (rd l2 ((rd_T34 l0_0 a3).f2)) p372 q372
                    (try rw [← Nbq28.out] at hx372_0)
                    (try rw [← Nbq53.out] at hx372_0)
                    obtain rfl : ad361 = ad372 := (by injection e372)
                    replace hx372_0 := (HB.out.cell (World.block_lt_of_cell? w _ hx372_0)).trans hx372_0
                    replace p372 := eq_true p372
                    replace q372 := eq_true q372
                    go_wp2
                    go_ret
                    exact ⟨by first | rfl | (simp [errW_none, errW_some] <;> rfl) | (simp [*, errW_none, errW_some] <;> rfl), bw HB.out⟩
                   ·rw [if_neg c58] at H
                    exact absurd H (by simp)
                  ·rw [if_neg c57] at H
                   exact absurd H (by simp)
                 ·rw [if_neg c56] at H
                  have c56b0 : decide (0 ≤ (rd l2 ((rd_T34 l0_0 a3).f2))) = false := decide_eq_false c56
                  clear c56
                  obtain rfl := Option.some.inj H
                  have hnb61 := NB359_357.out
                  have hnc61 := NB357_359.out
                  have hcz62_0 : wc.cell? ⟨gb359, 0, none⟩ = some (.int .i64 ((rd_T34 l0_0 a3).f0)) := (blk_cell BK359.out 0).trans rfl
                  have hcz62_1 : wc.cell? ⟨gb359, 1, none⟩ = some (.int .i64 ((rd_T34 l0_0 a3).f1)) := (blk_cell BK359.out 1).trans rfl
                  have hcz62_2 : wc.cell? ⟨gb359, 2, none⟩ = some (.int .i64 ((rd_T34 l0_0 a3).f2)) := (blk_cell BK359.out 2).trans rfl
                  have hcz62_3 : wc.cell? ⟨gb359, 3, none⟩ = some (.int .i64 ((rd_T34 l0_0 a3).f3)) := (blk_cell BK359.out 3).trans rfl
                  have hfz62_0 := blk_frozen BK359.out 0
                  have hfz62_1 := blk_frozen BK359.out 1
                  have hfz62_2 := blk_frozen BK359.out 2
                  have hfz62_3 := blk_frozen BK359.out 3
                  have p361 : 0 ≤ (((rd_T34 l0_0 a3).f2) : Int) := oda
                  have q361 : ((rd_T34 l0_0 a3).f2) < (l1.length : Int) := oda
                  obtain ⟨ad361, e361, hx361_0⟩ := Kd.at_bool HR1.out ((rd_T34 l0_0 a3).f2) p361 q361
                  (try rw [← Nbq28.out] at hx361_0)
                  (try rw [← Nbq53.out] at hx361_0)
                  cases e361
                  replace hx361_0 := (HB.out.cell (World.block_lt_of_cell? w _ hx361_0)).trans hx361_0
                  replace p361 := eq_true p361
                  replace q361 := eq_true q361
                  have p362 : 0 ≤ (((rd_T34 l0_0 a3).f3) : Int) := oda
                  have q362 : ((rd_T34 l0_0 a3).f3) < (l2.length : Int) := oda
                  obtain ⟨ad362, e362, hx362_0⟩ := Kd.at_int HR2.out ((rd_T34 l0_0 a3).f3) p362 q362
                  cases e362
                  replace hx362_0 := (HB.out.cell (World.block_lt_of_cell? w _ hx362_0)).trans hx362_0
                  replace p362 := eq_true p362
                  replace q362 := eq_true q362
                  have p369 : 0 ≤ (((rd_T34 l0_0 a3).f3) : Int) := oda
                  have q369 : ((rd_T34 l0_0 a3).f3) < (l1.length : Int) := oda
                  obtain ⟨ad369, e369, hx369_0⟩ := Kd.at_bool HR1.out ((rd_T34 l0_0 a3).f3) p369 q369
                  (try rw [← Nbq28.out] at hx369_0)
                  (try rw [← Nbq53.out] at hx369_0)
                  obtain rfl : ad361 = ad369 := (by injection e369)
                  replace hx369_0 := (HB.out.cell (World.block_lt_of_cell? w _ hx369_0)).trans hx369_0
                  replace p369 := eq_true p369
                  replace q369 := eq_true q369
                  have p370 : 0 ≤ (((rd_T34 l0_0 a3).f2) : Int) := oda
                  have q370 : ((rd_T34 l0_0 a3).f2) < (l2.length : Int) := oda
                  obtain ⟨ad370, e370, hx370_0⟩ := Kd.at_int HR2.out ((rd_T34 l0_0 a3).f2) p370 q370
                  obtain rfl : ad362 = ad370 := (by injection e370)
                  replace hx370_0 := (HB.out.cell (World.block_lt_of_cell? w _ hx370_0)).trans hx370_0
                  replace p370 := eq_true p370
                  replace q370 := eq_true q370
                  go_wp2
                  go_ret
                  exact ⟨by first | rfl | (simp [errW_none, errW_some] <;> rfl) | (simp [*, errW_none, errW_some] <;> rfl), bw HB.out⟩
                ·rw [if_neg c55] at H
                 exact absurd H (by simp)
               ·replace c54 := Bool.eq_false_iff.mpr c54
                subst c54
                have H1 : (some false) = some r := by rw [if_neg (show ¬ (false = true) by decide)] at H; exact H
                clear H
                have H := H1
                clear H1
                obtain rfl := Option.some.inj H
                have hnb63 := NB359_357.out
                have hnc63 := NB357_359.out
                have hcz64_0 : wc.cell? ⟨gb359, 0, none⟩ = some (.int .i64 ((rd_T34 l0_0 a3).f0)) := (blk_cell BK359.out 0).trans rfl
                have hcz64_1 : wc.cell? ⟨gb359, 1, none⟩ = some (.int .i64 ((rd_T34 l0_0 a3).f1)) := (blk_cell BK359.out 1).trans rfl
                have hcz64_2 : wc.cell? ⟨gb359, 2, none⟩ = some (.int .i64 ((rd_T34 l0_0 a3).f2)) := (blk_cell BK359.out 2).trans rfl
                have hcz64_3 : wc.cell? ⟨gb359, 3, none⟩ = some (.int .i64 ((rd_T34 l0_0 a3).f3)) := (blk_cell BK359.out 3).trans rfl
                have hfz64_0 := blk_frozen BK359.out 0
                have hfz64_1 := blk_frozen BK359.out 1
                have hfz64_2 := blk_frozen BK359.out 2
                have hfz64_3 := blk_frozen BK359.out 3
                have p361 : 0 ≤ (((rd_T34 l0_0 a3).f2) : Int) := oda
                have q361 : ((rd_T34 l0_0 a3).f2) < (l1.length : Int) := oda
                obtain ⟨ad361, e361, hx361_0⟩ := Kd.at_bool HR1.out ((rd_T34 l0_0 a3).f2) p361 q361
                (try rw [← Nbq28.out] at hx361_0)
                (try rw [← Nbq53.out] at hx361_0)
                cases e361
                replace hx361_0 := (HB.out.cell (World.block_lt_of_cell? w _ hx361_0)).trans hx361_0
                replace p361 := eq_true p361
                replace q361 := eq_true q361
                have p362 : 0 ≤ (((rd_T34 l0_0 a3).f3) : Int) := oda
                have q362 : ((rd_T34 l0_0 a3).f3) < (l2.length : Int) := oda
                obtain ⟨ad362, e362, hx362_0⟩ := Kd.at_int HR2.out ((rd_T34 l0_0 a3).f3) p362 q362
                cases e362
                replace hx362_0 := (HB.out.cell (World.block_lt_of_cell? w _ hx362_0)).trans hx362_0
                replace p362 := eq_true p362
                replace q362 := eq_true q362
                have p369 : 0 ≤ (((rd_T34 l0_0 a3).f3) : Int) := oda
                have q369 : ((rd_T34 l0_0 a3).f3) < (l1.length : Int) := oda
                obtain ⟨ad369, e369, hx369_0⟩ := Kd.at_bool HR1.out ((rd_T34 l0_0 a3).f3) p369 q369
                (try rw [← Nbq28.out] at hx369_0)
                (try rw [← Nbq53.out] at hx369_0)
                obtain rfl : ad361 = ad369 := (by injection e369)
                replace hx369_0 := (HB.out.cell (World.block_lt_of_cell? w _ hx369_0)).trans hx369_0
                replace p369 := eq_true p369
                replace q369 := eq_true q369
                go_wp2
                go_ret
                exact ⟨by first | rfl | (simp [errW_none, errW_some] <;> rfl) | (simp [*, errW_none, errW_some] <;> rfl), bw HB.out⟩
              ·rw [if_neg c52] at H
               exact absurd H (by simp)
            ·rw [if_neg c31] at H
             exact absurd H (by simp)
           ·rw [if_neg c30] at H
            exact absurd H (by simp)
          ·replace c29 := Bool.eq_false_iff.mpr c29
           subst c29
           have H1 : (if 0 ≤ ((rd_T34 l0_0 a3).f3) then (if ((rd_T34 l0_0 a3).f3) < (l1.length : Int) then (if rdOf false l1 ((rd_T34 l0_0 a3).f3) = true then (if ((rd_T34 l0_0 a3).f2) < (l2.length : Int) then (if (rd l2 ((rd_T34 l0_0 a3).f2)) ≥ 0 then (if 0 ≤ (rd l2 ((rd_T34 l0_0 a3).f2)) then (if (rd l2 ((rd_T34 l0_0 a3).f2)) < (l1.length : Int) then (some (rdOf false l1 (rd l2 ((rd_T34 l0_0 a3).f2)))) else (none)) else (none)) else (some false)) else (none)) else (some false)) else (none)) else (none)) = some r := by rw [if_neg (show ¬ (false = true) by decide)] at H; exact H
           clear H
           have H := H1
           clear H1
           by_cases c65 : 0 ≤ ((rd_T34 l0_0 a3).f3)
           ·rw [if_pos c65] at H
            have c65b0 : decide (0 ≤ ((rd_T34 l0_0 a3).f3)) = true := decide_eq_true c65
            clear c65
            by_cases c66 : ((rd_T34 l0_0 a3).f3) < (l1.length : Int)
            ·rw [if_pos c66] at H
             have c66b0 : decide (((rd_T34 l0_0 a3).f3) < (l1.length : Int)) = true := decide_eq_true c66
             clear c66
             obtain ⟨bq67, hbq67⟩ : ∃ b_ : Bool, b_ = (rdOf false l1 ((rd_T34 l0_0 a3).f3)) := ⟨_, rfl⟩
             replace H : (if bq67 = true then (if ((rd_T34 l0_0 a3).f2) < (l2.length : Int) then (if (rd l2 ((rd_T34 l0_0 a3).f2)) ≥ 0 then (if 0 ≤ (rd l2 ((rd_T34 l0_0 a3).f2)) then (if (rd l2 ((rd_T34 l0_0 a3).f2)) < (l1.length : Int) then (some (rdOf false l1 (rd l2 ((rd_T34 l0_0 a3).f2)))) else (none)) else (none)) else (some false)) else (none)) else (some false)) = some r := by rw [← hbq67] at H; exact H
             have Nbq67 := Aside0.mk hbq67
             clear hbq67
             by_cases c68 : bq67 = true
             ·subst c68
              have H1 : (if ((rd_T34 l0_0 a3).f2) < (l2.length : Int) then (if (rd l2 ((rd_T34 l0_0 a3).f2)) ≥ 0 then (if 0 ≤ (rd l2 ((rd_T34 l0_0 a3).f2)) then (if (rd l2 ((rd_T34 l0_0 a3).f2)) < (l1.length : Int) then (some (rdOf false l1 (rd l2 ((rd_T34 l0_0 a3).f2)))) else (none)) else (none)) else (some false)) else (none)) = some r := by rw [if_pos rfl] at H; exact H
              clear H
              have H := H1
              clear H1
              by_cases c69 : ((rd_T34 l0_0 a3).f2) < (l2.length : Int)
              ·rw [if_pos c69] at H
               have c69b0 : decide (((rd_T34 l0_0 a3).f2) < (l2.length : Int)) = true := decide_eq_true c69
               clear c69
               by_cases c70 : (rd l2 ((rd_T34 l0_0 a3).f2)) ≥ 0
               ·rw [if_pos c70] at H
                have c70b0 : decide (0 ≤ (rd l2 ((rd_T34 l0_0 a3).f2))) = true := decide_eq_true c70
                clear c70
                by_cases c71 : 0 ≤ (rd l2 ((rd_T34 l0_0 a3).f2))
                ·rw [if_pos c71] at H
                 have c71b0 : decide (0 ≤ (rd l2 ((rd_T34 l0_0 a3).f2))) = true := decide_eq_true c71
                 clear c71
                 by_cases c72 : (rd l2 ((rd_T34 l0_0 a3).f2)) < (l1.length : Int)
                 ·rw [if_pos c72] at H
                  have c72b0 : decide ((rd l2 ((rd_T34 l0_0 a3).f2)) < (l1.length : Int)) = true := decide_eq_true c72
                  clear c72
                  obtain rfl := Option.some.inj H
                  have hnb73 := NB359_357.out
                  have hnc73 := NB357_359.out
                  have hcz74_0 : wc.cell? ⟨gb359, 0, none⟩ = some (.int .i64 ((rd_T34 l0_0 a3).f0)) := (blk_cell BK359.out 0).trans rfl
                  have hcz74_1 : wc.cell? ⟨gb359, 1, none⟩ = some (.int .i64 ((rd_T34 l0_0 a3).f1)) := (blk_cell BK359.out 1).trans rfl
                  have hcz74_2 : wc.cell? ⟨gb359, 2, none⟩ = some (.int .i64 ((rd_T34 l0_0 a3).f2)) := (blk_cell BK359.out 2).trans rfl
                  have hcz74_3 : wc.cell? ⟨gb359, 3, none⟩ = some (.int .i64 ((rd_T34 l0_0 a3).f3)) := (blk_cell BK359.out 3).trans rfl
                  have hfz74_0 := blk_frozen BK359.out 0
                  have hfz74_1 := blk_frozen BK359.out 1
                  have hfz74_2 := blk_frozen BK359.out 2
                  have hfz74_3 := blk_frozen BK359.out 3
                  have p361 : 0 ≤ (((rd_T34 l0_0 a3).f2) : Int) := oda
                  have q361 : ((rd_T34 l0_0 a3).f2) < (l1.length : Int) := oda
                  obtain ⟨ad361, e361, hx361_0⟩ := Kd.at_bool HR1.out ((rd_T34 l0_0 a3).f2) p361 q361
                  (try rw [← Nbq28.out] at hx361_0)
                  (try rw [← Nbq67.out] at hx361_0)
                  cases e361
                  replace hx361_0 := (HB.out.cell (World.block_lt_of_cell? w _ hx361_0)).trans hx361_0
                  replace p361 := eq_true p361
                  replace q361 := eq_true q361
                  have p373 : 0 ≤ (((rd_T34 l0_0 a3).f3) : Int) := oda
                  have q373 : ((rd_T34 l0_0 a3).f3) < (l1.length : Int) := oda
                  obtain ⟨ad373, e373, hx373_0⟩ := Kd.at_bool HR1.out ((rd_T34 l0_0 a3).f3) p373 q373
                  (try rw [← Nbq28.out] at hx373_0)
                  (try rw [← Nbq67.out] at hx373_0)
                  obtain rfl : ad361 = ad373 := (by injection e373)
                  replace hx373_0 := (HB.out.cell (World.block_lt_of_cell? w _ hx373_0)).trans hx373_0
                  replace p373 := eq_true p373
                  replace q373 := eq_true q373
                  have p374 : 0 ≤ (((rd_T34 l0_0 a3).f2) : Int) := oda
                  have q374 : ((rd_T34 l0_0 a3).f2) < (l2.length : Int) := oda
                  obtain ⟨ad374, e374, hx374_0⟩ := Kd.at_int HR2.out ((rd_T34 l0_0 a3).f2) p374 q374
                  cases e374
                  replace hx374_0 := (HB.out.cell (World.block_lt_of_cell? w _ hx374_0)).trans hx374_0
                  replace p374 := eq_true p374
                  replace q374 := eq_true q374
                  have p375 : 0 ≤ (((rd_T34 l0_0 a3).f2) : Int) := oda
                  have q375 : ((rd_T34 l0_0 a3).f2) < (l2.length : Int) := oda
                  obtain ⟨ad375, e375, hx375_0⟩ := Kd.at_int HR2.out ((rd_T34 l0_0 a3).f2) p375 q375
                  obtain rfl : ad374 = ad375 := (by injection e375)
                  replace hx375_0 := (HB.out.cell (World.block_lt_of_cell? w _ hx375_0)).trans hx375_0
                  replace p375 := eq_true p375
                  replace q375 := eq_true q375
                  have p376 : 0 ≤ ((rd l2 ((rd_T34 l0_0 a3).f2)) : Int) := oda
                  have q376 : (rd l2 ((rd_T34 l0_0 a3).f2)) < (l1.length : Int) := oda
                  obtain ⟨ad376, e376, hx376_0⟩ := Kd.at_bool HR1.out (rd l2 ((rd_T34 l0_0 a3).f2)) p376 q376
                  (try rw [← Nbq28.out] at hx376_0)
                  (try rw [← Nbq67.out] at hx376_0)
                  obtain rfl : ad361 = ad376 := (by injection e376)
                  replace hx376_0 := (HB.out.cell (World.block_lt_of_cell? w _ hx376_0)).trans hx376_0
                  replace p376 := eq_true p376
                  replace q376 := eq_true q376
                  go_wp2
                  go_ret
                  exact ⟨by first | rfl | (simp [errW_none, errW_some] <;> rfl) | (simp [*, errW_none, errW_some] <;> rfl), bw HB.out⟩
                 ·rw [if_neg c72] at H
                  exact absurd H (by simp)
                ·rw [if_neg c71] at H
                 exact absurd H (by simp)
               ·rw [if_neg c70] at H
                have c70b0 : decide (0 ≤ (rd l2 ((rd_T34 l0_0 a3).f2))) = false := decide_eq_false c70
                clear c70
                obtain rfl := Option.some.inj H
                have hnb75 := NB359_357.out
                have hnc75 := NB357_359.out
                have hcz76_0 : wc.cell? ⟨gb359, 0, none⟩ = some (.int .i64 ((rd_T34 l0_0 a3).f0)) := (blk_cell BK359.out 0).trans rfl
                have hcz76_1 : wc.cell? ⟨gb359, 1, none⟩ = some (.int .i64 ((rd_T34 l0_0 a3).f1)) := (blk_cell BK359.out 1).trans rfl
                have hcz76_2 : wc.cell? ⟨gb359, 2, none⟩ = some (.int .i64 ((rd_T34 l0_0 a3).f2)) := (blk_cell BK359.out 2).trans rfl
                have hcz76_3 : wc.cell? ⟨gb359, 3, none⟩ = some (.int .i64 ((rd_T34 l0_0 a3).f3)) := (blk_cell BK359.out 3).trans rfl
                have hfz76_0 := blk_frozen BK359.out 0
                have hfz76_1 := blk_frozen BK359.out 1
                have hfz76_2 := blk_frozen BK359.out 2
                have hfz76_3 := blk_frozen BK359.out 3
                have p361 : 0 ≤ (((rd_T34 l0_0 a3).f2) : Int) := oda
                have q361 : ((rd_T34 l0_0 a3).f2) < (l1.length : Int) := oda
                obtain ⟨ad361, e361, hx361_0⟩ := Kd.at_bool HR1.out ((rd_T34 l0_0 a3).f2) p361 q361
                (try rw [← Nbq28.out] at hx361_0)
                (try rw [← Nbq67.out] at hx361_0)
                cases e361
                replace hx361_0 := (HB.out.cell (World.block_lt_of_cell? w _ hx361_0)).trans hx361_0
                replace p361 := eq_true p361
                replace q361 := eq_true q361
                have p373 : 0 ≤ (((rd_T34 l0_0 a3).f3) : Int) := oda
                have q373 : ((rd_T34 l0_0 a3).f3) < (l1.length : Int) := oda
                obtain ⟨ad373, e373, hx373_0⟩ := Kd.at_bool HR1.out ((rd_T34 l0_0 a3).f3) p373 q373
                (try rw [← Nbq28.out] at hx373_0)
                (try rw [← Nbq67.out] at hx373_0)
                obtain rfl : ad361 = ad373 := (by injection e373)
                replace hx373_0 := (HB.out.cell (World.block_lt_of_cell? w _ hx373_0)).trans hx373_0
                replace p373 := eq_true p373
                replace q373 := eq_true q373
                have p374 : 0 ≤ (((rd_T34 l0_0 a3).f2) : Int) := oda
                have q374 : ((rd_T34 l0_0 a3).f2) < (l2.length : Int) := oda
                obtain ⟨ad374, e374, hx374_0⟩ := Kd.at_int HR2.out ((rd_T34 l0_0 a3).f2) p374 q374
                cases e374
                replace hx374_0 := (HB.out.cell (World.block_lt_of_cell? w _ hx374_0)).trans hx374_0
                replace p374 := eq_true p374
                replace q374 := eq_true q374
                go_wp2
                go_ret
                exact ⟨by first | rfl | (simp [errW_none, errW_some] <;> rfl) | (simp [*, errW_none, errW_some] <;> rfl), bw HB.out⟩
              ·rw [if_neg c69] at H
               exact absurd H (by simp)
             ·replace c68 := Bool.eq_false_iff.mpr c68
              subst c68
              have H1 : (some false) = some r := by rw [if_neg (show ¬ (false = true) by decide)] at H; exact H
              clear H
              have H := H1
              clear H1
              obtain rfl := Option.some.inj H
              have hnb77 := NB359_357.out
              have hnc77 := NB357_359.out
              have hcz78_0 : wc.cell? ⟨gb359, 0, none⟩ = some (.int .i64 ((rd_T34 l0_0 a3).f0)) := (blk_cell BK359.out 0).trans rfl
              have hcz78_1 : wc.cell? ⟨gb359, 1, none⟩ = some (.int .i64 ((rd_T34 l0_0 a3).f1)) := (blk_cell BK359.out 1).trans rfl
              have hcz78_2 : wc.cell? ⟨gb359, 2, none⟩ = some (.int .i64 ((rd_T34 l0_0 a3).f2)) := (blk_cell BK359.out 2).trans rfl
              have hcz78_3 : wc.cell? ⟨gb359, 3, none⟩ = some (.int .i64 ((rd_T34 l0_0 a3).f3)) := (blk_cell BK359.out 3).trans rfl
              have hfz78_0 := blk_frozen BK359.out 0
              have hfz78_1 := blk_frozen BK359.out 1
              have hfz78_2 := blk_frozen BK359.out 2
              have hfz78_3 := blk_frozen BK359.out 3
              have p361 : 0 ≤ (((rd_T34 l0_0 a3).f2) : Int) := oda
              have q361 : ((rd_T34 l0_0 a3).f2) < (l1.length : Int) := oda
              obtain ⟨ad361, e361, hx361_0⟩ := Kd.at_bool HR1.out ((rd_T34 l0_0 a3).f2) p361 q361
              (try rw [← Nbq28.out] at hx361_0)
              (try rw [← Nbq67.out] at hx361_0)
              cases e361
              replace hx361_0 := (HB.out.cell (World.block_lt_of_cell? w _ hx361_0)).trans hx361_0
              replace p361 := eq_true p361
              replace q361 := eq_true q361
              have p373 : 0 ≤ (((rd_T34 l0_0 a3).f3) : Int) := oda
              have q373 : ((rd_T34 l0_0 a3).f3) < (l1.length : Int) := oda
              obtain ⟨ad373, e373, hx373_0⟩ := Kd.at_bool HR1.out ((rd_T34 l0_0 a3).f3) p373 q373
              (try rw [← Nbq28.out] at hx373_0)
              (try rw [← Nbq67.out] at hx373_0)
              obtain rfl : ad361 = ad373 := (by injection e373)
              replace hx373_0 := (HB.out.cell (World.block_lt_of_cell? w _ hx373_0)).trans hx373_0
              replace p373 := eq_true p373
              replace q373 := eq_true q373
              go_wp2
              go_ret
              exact ⟨by first | rfl | (simp [errW_none, errW_some] <;> rfl) | (simp [*, errW_none, errW_some] <;> rfl), bw HB.out⟩
            ·rw [if_neg c66] at H
             exact absurd H (by simp)
           ·rw [if_neg c65] at H
            exact absurd H (by simp)
         ·rw [if_neg c27] at H
          exact absurd H (by simp)
        ·rw [if_neg c26] at H
         exact absurd H (by simp)
       ·rw [if_neg c25] at H
        have c25b0 : (((rd_T34 l0_0 a3).f0) == 7) = false := beq_eq_false_iff_ne.mpr c25
        have c25b1 : (((rd_T34 l0_0 a3).f0) != 7) = true := bne_iff_ne.mpr c25
        by_cases c79 : 0 ≤ ((rd_T34 l0_0 a3).f2)
        ·rw [if_pos c79] at H
         have c79b0 : decide (0 ≤ ((rd_T34 l0_0 a3).f2)) = true := decide_eq_true c79
         clear c79
         by_cases c80 : ((rd_T34 l0_0 a3).f2) < (l1.length : Int)
         ·rw [if_pos c80] at H
          have c80b0 : decide (((rd_T34 l0_0 a3).f2) < (l1.length : Int)) = true := decide_eq_true c80
          clear c80
          obtain ⟨bq81, hbq81⟩ : ∃ b_ : Bool, b_ = (rdOf false l1 ((rd_T34 l0_0 a3).f2)) := ⟨_, rfl⟩
          replace H : (if bq81 = true then (if 0 ≤ ((rd_T34 l0_0 a3).f3) then (if ((rd_T34 l0_0 a3).f3) < (l1.length : Int) then (some (rdOf false l1 ((rd_T34 l0_0 a3).f3))) else (none)) else (none)) else (some false)) = some r := by rw [← hbq81] at H; exact H
          have Nbq81 := Aside0.mk hbq81
          clear hbq81
          by_cases c82 : bq81 = true
          ·subst c82
           have H1 : (if 0 ≤ ((rd_T34 l0_0 a3).f3) then (if ((rd_T34 l0_0 a3).f3) < (l1.length : Int) then (some (rdOf false l1 ((rd_T34 l0_0 a3).f3))) else (none)) else (none)) = some r := by rw [if_pos rfl] at H; exact H
           clear H
           have H := H1
           clear H1
           by_cases c83 : 0 ≤ ((rd_T34 l0_0 a3).f3)
           ·rw [if_pos c83] at H
            have c83b0 : decide (0 ≤ ((rd_T34 l0_0 a3).f3)) = true := decide_eq_true c83
            clear c83
            by_cases c84 : ((rd_T34 l0_0 a3).f3) < (l1.length : Int)
            ·rw [if_pos c84] at H
             have c84b0 : decide (((rd_T34 l0_0 a3).f3) < (l1.length : Int)) = true := decide_eq_true c84
             clear c84
             obtain rfl := Option.some.inj H
             have hnb85 := NB359_357.out
             have hnc85 := NB357_359.out
             have hcz86_0 : wc.cell? ⟨gb359, 0, none⟩ = some (.int .i64 ((rd_T34 l0_0 a3).f0)) := (blk_cell BK359.out 0).trans rfl
             have hcz86_1 : wc.cell? ⟨gb359, 1, none⟩ = some (.int .i64 ((rd_T34 l0_0 a3).f1)) := (blk_cell BK359.out 1).trans rfl
             have hcz86_2 : wc.cell? ⟨gb359, 2, none⟩ = some (.int .i64 ((rd_T34 l0_0 a3).f2)) := (blk_cell BK359.out 2).trans rfl
             have hcz86_3 : wc.cell? ⟨gb359, 3, none⟩ = some (.int .i64 ((rd_T34 l0_0 a3).f3)) := (blk_cell BK359.out 3).trans rfl
             have hfz86_0 := blk_frozen BK359.out 0
             have hfz86_1 := blk_frozen BK359.out 1
             have hfz86_2 := blk_frozen BK359.out 2
             have hfz86_3 := blk_frozen BK359.out 3
             have p377 : 0 ≤ (((rd_T34 l0_0 a3).f2) : Int) := oda
             have q377 : ((rd_T34 l0_0 a3).f2) < (l1.length : Int) := oda
             obtain ⟨ad377, e377, hx377_0⟩ := Kd.at_bool HR1.out ((rd_T34 l0_0 a3).f2) p377 q377
             (try rw [← Nbq81.out] at hx377_0)
             cases e377
             replace hx377_0 := (HB.out.cell (World.block_lt_of_cell? w _ hx377_0)).trans hx377_0
             replace p377 := eq_true p377
             replace q377 := eq_true q377
             have p378 : 0 ≤ (((rd_T34 l0_0 a3).f3) : Int) := oda
             have q378 : ((rd_T34 l0_0 a3).f3) < (l1.length : Int) := oda
             obtain ⟨ad378, e378, hx378_0⟩ := Kd.at_bool HR1.out ((rd_T34 l0_0 a3).f3) p378 q378
             (try rw [← Nbq81.out] at hx378_0)
             obtain rfl : ad377 = ad378 := (by injection e378)
             replace hx378_0 := (HB.out.cell (World.block_lt_of_cell? w _ hx378_0)).trans hx378_0
             replace p378 := eq_true p378
             replace q378 := eq_true q378
             go_wp2
             go_ret
             exact ⟨by first | rfl | (simp [errW_none, errW_some] <;> rfl) | (simp [*, errW_none, errW_some] <;> rfl), bw HB.out⟩
            ·rw [if_neg c84] at H
             exact absurd H (by simp)
           ·rw [if_neg c83] at H
            exact absurd H (by simp)
          ·replace c82 := Bool.eq_false_iff.mpr c82
           subst c82
           have H1 : (some false) = some r := by rw [if_neg (show ¬ (false = true) by decide)] at H; exact H
           clear H
           have H := H1
           clear H1
           obtain rfl := Option.some.inj H
           have hnb87 := NB359_357.out
           have hnc87 := NB357_359.out
           have hcz88_0 : wc.cell? ⟨gb359, 0, none⟩ = some (.int .i64 ((rd_T34 l0_0 a3).f0)) := (blk_cell BK359.out 0).trans rfl
           have hcz88_1 : wc.cell? ⟨gb359, 1, none⟩ = some (.int .i64 ((rd_T34 l0_0 a3).f1)) := (blk_cell BK359.out 1).trans rfl
           have hcz88_2 : wc.cell? ⟨gb359, 2, none⟩ = some (.int .i64 ((rd_T34 l0_0 a3).f2)) := (blk_cell BK359.out 2).trans rfl
           have hcz88_3 : wc.cell? ⟨gb359, 3, none⟩ = some (.int .i64 ((rd_T34 l0_0 a3).f3)) := (blk_cell BK359.out 3).trans rfl
           have hfz88_0 := blk_frozen BK359.out 0
           have hfz88_1 := blk_frozen BK359.out 1
           have hfz88_2 := blk_frozen BK359.out 2
           have hfz88_3 := blk_frozen BK359.out 3
           have p377 : 0 ≤ (((rd_T34 l0_0 a3).f2) : Int) := oda
           have q377 : ((rd_T34 l0_0 a3).f2) < (l1.length : Int) := oda
           obtain ⟨ad377, e377, hx377_0⟩ := Kd.at_bool HR1.out ((rd_T34 l0_0 a3).f2) p377 q377
           (try rw [← Nbq81.out] at hx377_0)
           cases e377
           replace hx377_0 := (HB.out.cell (World.block_lt_of_cell? w _ hx377_0)).trans hx377_0
           replace p377 := eq_true p377
           replace q377 := eq_true q377
           go_wp2
           go_ret
           exact ⟨by first | rfl | (simp [errW_none, errW_some] <;> rfl) | (simp [*, errW_none, errW_some] <;> rfl), bw HB.out⟩
         ·rw [if_neg c80] at H
          exact absurd H (by simp)
        ·rw [if_neg c79] at H
         exact absurd H (by simp)
  ·rw [if_neg c6] at H
   exact absurd H (by simp)
 ·rw [if_neg c5] at H
  exact absurd H (by simp)

end Go.Proofs.Ytkckdibalopagaa.SFnReaches
