-- Began as a print of the kit over stubs (wip/stub.py); the sections that are named OWN are this session's.
import Derived.Test.YtkckdibalopagaaSFnSecretsx0
namespace Go.Proofs.Ytkckdibalopagaa.SFnSecrets
open Go.RowKit Go.Proofs.YtkckdibalopagaaW.PrintWords Go.Proofs.YtkckdibalopagaaW.PrintLast Go.Proofs.YtkckdibalopagaaW.PrintMore
attribute [local go_sem] max2_int min2_int max_two min_two max_three min_three max_four min_four   -- for this text's walks alone
set_option linter.unusedVariables false
set_option linter.unusedSimpArgs false

/-! ### spec_l05Made: function 119 -/
def spec_l05Made.j0 : Nat → List Bool → List Int → Int → Bool → Int → Int → Int → Int → Option (Bool)
  | 0, _, _, _, _, _, _, _, _ => none
  | k + 1, x1, x2, x16, x22, x162000, x162001, x162002, x162003 => if x22 = true then (if 0 ≤ x162002 then (if x162002 < (x1.length : Int) then (some (rdOf false x1 x162002)) else (none)) else (none)) else (if x16 = 7 then (if 0 ≤ x162002 then (if x162002 < (x1.length : Int) then (if rdOf false x1 x162002 = true then (if 0 ≤ x162003 then (if x162003 < (x2.length : Int) then (if (rd x2 x162003) ≥ 0 then (if 0 ≤ (rd x2 x162003) then (if (rd x2 x162003) < (x1.length : Int) then (if rdOf false x1 (rd x2 x162003) = true then (some true) else (if x162003 < (x1.length : Int) then (if rdOf false x1 x162003 = true then (if x162002 < (x2.length : Int) then (if (rd x2 x162002) ≥ 0 then (if 0 ≤ (rd x2 x162002) then (if (rd x2 x162002) < (x1.length : Int) then (some (rdOf false x1 (rd x2 x162002))) else (none)) else (none)) else (some false)) else (none)) else (some false)) else (none))) else (none)) else (none)) else (if x162003 < (x1.length : Int) then (if rdOf false x1 x162003 = true then (if x162002 < (x2.length : Int) then (if (rd x2 x162002) ≥ 0 then (if 0 ≤ (rd x2 x162002) then (if (rd x2 x162002) < (x1.length : Int) then (some (rdOf false x1 (rd x2 x162002))) else (none)) else (none)) else (some false)) else (none)) else (some false)) else (none))) else (none)) else (none)) else (if 0 ≤ x162003 then (if x162003 < (x1.length : Int) then (if rdOf false x1 x162003 = true then (if x162002 < (x2.length : Int) then (if (rd x2 x162002) ≥ 0 then (if 0 ≤ (rd x2 x162002) then (if (rd x2 x162002) < (x1.length : Int) then (some (rdOf false x1 (rd x2 x162002))) else (none)) else (none)) else (some false)) else (none)) else (some false)) else (none)) else (none))) else (none)) else (none)) else (if 0 ≤ x162002 then (if x162002 < (x1.length : Int) then (if rdOf false x1 x162002 = true then (if 0 ≤ x162003 then (if x162003 < (x1.length : Int) then (some (rdOf false x1 x162003)) else (none)) else (none)) else (some false)) else (none)) else (none)))
def spec_l05Made.f (k : Nat) (l0_0 : List (S34)) (l1 : List Bool) (l2 : List Int) (a3 : Int) : Option (Bool) := if 0 ≤ a3 then (if a3 < (l0_0.length : Int) then (if ((rd_T34 l0_0 a3).f0) = 1 then (some (decide (((rd_T34 l0_0 a3).f1) < 1000))) else (if ((rd_T34 l0_0 a3).f0) = 3 then (spec_l05Made.j0 k l1 l2 ((rd_T34 l0_0 a3).f0) (((rd_T34 l0_0 a3).f0) == 3) ((rd_T34 l0_0 a3).f0) ((rd_T34 l0_0 a3).f1) ((rd_T34 l0_0 a3).f2) ((rd_T34 l0_0 a3).f3)) else (spec_l05Made.j0 k l1 l2 ((rd_T34 l0_0 a3).f0) (((rd_T34 l0_0 a3).f0) == 6) ((rd_T34 l0_0 a3).f0) ((rd_T34 l0_0 a3).f1) ((rd_T34 l0_0 a3).f2) ((rd_T34 l0_0 a3).f3)))) else (none)) else (none)
theorem spec_l05Made.mono_l : ∀ k, (∀ y0 y1 y2 y3 y4 y5 y6 y7, LeO (spec_l05Made.j0 k y0 y1 y2 y3 y4 y5 y6 y7) (spec_l05Made.j0 (k + 1) y0 y1 y2 y3 y4 y5 y6 y7))
  | 0 => fun _ _ _ _ _ _ _ _ r h => by simp [spec_l05Made.j0] at h
  | k + 1 => by
    have ih0 := spec_l05Made.mono_l k
    · intro y0 y1 y2 y3 y4 y5 y6 y7
      unfold spec_l05Made.j0
      repeat' first
      | (with_reducible exact ih0 _ _ _ _ _ _ _ _)
      | (with_reducible exact LeO.refl _)
      | (with_reducible exact LeO.none _)
      | (with_reducible refine LeO.ite ?_ ?_)
      | (with_reducible refine LeO.bind ?_ (fun _ => ?_))
      | exact ih0 _ _ _ _ _ _ _ _
      | exact LeO.none _
      | refine LeO.ite ?_ ?_
      | refine LeO.bind ?_ (fun _ => ?_)
theorem spec_l05Made.mono : ∀ a0 a1 a2 a3 k, LeO (spec_l05Made.f k a0 a1 a2 a3) (spec_l05Made.f (k + 1) a0 a1 a2 a3) := by
  intro a0 a1 a2 a3 k
  have ih0 := spec_l05Made.mono_l k
  unfold spec_l05Made.f
  repeat' first
      | (with_reducible exact ih0 _ _ _ _ _ _ _ _)
      | (with_reducible exact LeO.refl _)
      | (with_reducible exact LeO.none _)
      | (with_reducible refine LeO.ite ?_ ?_)
      | (with_reducible refine LeO.bind ?_ (fun _ => ?_))
      | exact ih0 _ _ _ _ _ _ _ _
      | exact LeO.none _
      | refine LeO.ite ?_ ?_
      | refine LeO.bind ?_ (fun _ => ?_)
set_option maxHeartbeats 8000000 in
set_option maxRecDepth 100000 in
theorem spec_l05Made.calls (k : Nat) (A0_0 : Option Addr) (c0_0 : Nat) (l0_0 : List (S34)) (A1 : Option Addr) (c1 : Nat) (l1 : List Bool) (A2 : Option Addr) (c2 : Nat) (l2 : List Int) (a3 : Int) (r : Bool) (w : World) (hr0_0 : Kd.C k34 w A0_0 l0_0.length l0_0) (hc0_0 : l0_0.length ≤ c0_0) (hr1 : Kd.C Kd.bool w A1 l1.length l1) (hc1 : l1.length ≤ c1) (hr2 : Kd.C (Kd.int .i64) w A2 l2.length l2) (hc2 : l2.length ≤ c2) (h : spec_l05Made.f k l0_0 l1 l2 a3 = some r) :
    Calls Try.prog 119 #[.agg #[.slice A0_0 l0_0.length c0_0], .slice A1 l1.length c1, .slice A2 l2.length c2, .int .i64 a3] w fun e w' => e = .returned (.bool r) ∧ Below w.heap.size w w' := by
  have hu26 := Try.underlying26
  have hu34 := Try.underlying34
  have HR0_0 := Aside0.mk hr0_0
  have HC0_0 := Aside0.mk hc0_0
  clear hr0_0 hc0_0
  have HR1 := Aside0.mk hr1
  have HC1 := Aside0.mk hc1
  clear hr1 hc1
  have HR2 := Aside0.mk hr2
  have HC2 := Aside0.mk hc2
  clear hr2 hc2
  have HB := Aside0.mk (Below.refl w.heap.size w)
  have H : (if 0 ≤ a3 then (if a3 < (l0_0.length : Int) then (if ((rd_T34 l0_0 a3).f0) = 1 then (some (decide (((rd_T34 l0_0 a3).f1) < 1000))) else (if ((rd_T34 l0_0 a3).f0) = 3 then (spec_l05Made.j0 k l1 l2 ((rd_T34 l0_0 a3).f0) (((rd_T34 l0_0 a3).f0) == 3) ((rd_T34 l0_0 a3).f0) ((rd_T34 l0_0 a3).f1) ((rd_T34 l0_0 a3).f2) ((rd_T34 l0_0 a3).f3)) else (spec_l05Made.j0 k l1 l2 ((rd_T34 l0_0 a3).f0) (((rd_T34 l0_0 a3).f0) == 6) ((rd_T34 l0_0 a3).f0) ((rd_T34 l0_0 a3).f1) ((rd_T34 l0_0 a3).f2) ((rd_T34 l0_0 a3).f3)))) else (none)) else (none)) = some r := h
  clear h
  by_cases c5 : 0 ≤ a3
  · rw [if_pos c5] at H
    have c5b0 : decide (0 ≤ a3) = true := decide_eq_true c5
    clear c5
    by_cases c6 : a3 < (l0_0.length : Int)
    · rw [if_pos c6] at H
      have c6b0 : decide (a3 < (l0_0.length : Int)) = true := decide_eq_true c6
      clear c6
      by_cases c7 : ((rd_T34 l0_0 a3).f0) = 1
      · rw [if_pos c7] at H
        have c7b0 : (((rd_T34 l0_0 a3).f0) == 1) = true := beq_iff_eq.mpr c7
        have c7b1 : (((rd_T34 l0_0 a3).f0) != 1) = false := bne_eq_false_iff_eq.mpr c7
        clear c7
        obtain rfl := Option.some.inj H
        go_enter Try.func119, Try.ntmps119
        go_wp2_with (first | ((with_reducible refine gate_dst (N := 4) rfl ?_); refine box_event ?hg (N := 4) ?hd (cs := #[.slice A0_0 l0_0.length c0_0]) (t := 26) ?hr ?_; (case hd => rfl); (case hg => rfl); (case hr => first | (go_simp; done) | (go_simp; rfl)); intro gb159 hg w8 hbox hb; have n0_ := Aside0.mk (below_step (by repeat (first | (with_reducible first | exact HB.out | apply below_alloc | apply pw_below_drewN | apply below_drew1) | exact HB.out)) hb); have n1_ := Aside0.mk (hbox); have n2_ := Aside0.mk ((by rw [hg]; exact (below_size (by repeat (first | (with_reducible first | exact HB.out | apply below_alloc | apply pw_below_drewN | apply below_drew1) | exact HB.out))) : w.heap.size ≤ gb159)); have n3_ := Aside0.mk ((by rw [hg]; exact (below_size (by repeat (first | (with_reducible first | exact HB.out | apply below_alloc | apply pw_below_drewN | apply below_drew1) | exact HB.out))) : w.heap.size ≤ gb159)); clear HB; have HB := n0_; have BK159 := n1_; have GW159 := n2_; have GE159 := n3_; clear n0_ n1_ n2_ n3_; clear hb hbox hg; have hcz9_0 : w8.cell? ⟨gb159, 0, none⟩ = some (.slice A0_0 l0_0.length c0_0) := (blk_cell BK159.out 0).trans rfl; have hfz9_0 := blk_frozen BK159.out 0; have p160 : 0 ≤ (a3 : Int) := of_decide_eq_true (by first | (with_reducible assumption) | assumption); have q160 : a3 < (l0_0.length : Int) := of_decide_eq_true (by first | (with_reducible assumption) | assumption); obtain ⟨ad160, e160, hx160_0, hx160_1, hx160_2, hx160_3⟩ := at_T34 HR0_0.out a3 p160 q160; cases e160; replace hx160_0 := (HB.out.cell (World.block_lt_of_cell? w _ hx160_0)).trans hx160_0; replace hx160_1 := (HB.out.cell (World.block_lt_of_cell? w _ hx160_1)).trans hx160_1; replace hx160_2 := (HB.out.cell (World.block_lt_of_cell? w _ hx160_2)).trans hx160_2; replace hx160_3 := (HB.out.cell (World.block_lt_of_cell? w _ hx160_3)).trans hx160_3; replace p160 := eq_true p160; replace q160 := eq_true q160) | ((with_reducible refine gate_dst (N := 9) rfl ?_); refine box_event ?hg (N := 9) ?hd (cs := #[.int .i64 0, .int .i64 0, .int .i64 0, .int .i64 0]) (t := 34) ?hr ?_; (case hd => rfl); (case hg => rfl); (case hr => first | (go_simp; done) | (go_simp; rfl)); intro gb161 hg w10 hbox hb; have n0_ := Aside0.mk (blk_below (g := gb159) (o := .cells #[.slice (some ad160) l0_0.length c0_0] 26 (0, 0)) (by (with_reducible repeat (first | refine blk_drewN ?_ _ | refine blk_drew ?_ | refine blk_alloc ?_ _)); exact BK159.out) hb); have n1_ := Aside0.mk (below_step (by repeat (first | (with_reducible first | exact HB.out | apply below_alloc | apply pw_below_drewN | apply below_drew1 | refine below_set ?_ GE159.out) | exact HB.out)) hb); have n2_ := Aside0.mk (hbox); have n3_ := Aside0.mk ((by rw [hg]; exact (below_size (by repeat (first | (with_reducible first | exact HB.out | apply below_alloc | apply pw_below_drewN | apply below_drew1 | refine below_set ?_ GE159.out) | exact HB.out))) : w.heap.size ≤ gb161)); have n4_ := Aside0.mk ((by rw [hg]; exact (below_size (by repeat (first | (with_reducible first | exact HB.out | apply below_alloc | apply pw_below_drewN | apply below_drew1 | refine below_set ?_ GE159.out) | exact HB.out))) : w.heap.size ≤ gb161)); have n5_ := Aside0.mk ((by rw [hg]; exact Nat.ne_of_lt (blk_lt (g := gb159) (o := .cells #[.slice (some ad160) l0_0.length c0_0] 26 (0, 0)) (by (with_reducible repeat (first | refine blk_drewN ?_ _ | refine blk_drew ?_ | refine blk_alloc ?_ _)); exact BK159.out)) : gb159 ≠ gb161)); have n6_ := Aside0.mk ((by rw [hg]; exact Nat.ne_of_gt (blk_lt (g := gb159) (o := .cells #[.slice (some ad160) l0_0.length c0_0] 26 (0, 0)) (by (with_reducible repeat (first | refine blk_drewN ?_ _ | refine blk_drew ?_ | refine blk_alloc ?_ _)); exact BK159.out)) : gb161 ≠ gb159)); clear BK159; clear HB; have BK159 := n0_; have HB := n1_; have BK161 := n2_; have GW161 := n3_; have GE161 := n4_; have NB159_161 := n5_; have NB161_159 := n6_; clear n0_ n1_ n2_ n3_ n4_ n5_ n6_; clear hb hbox hg; have hnb11 := NB161_159.out; have hnc11 := NB159_161.out; have hcz12_0 : w10.cell? ⟨gb161, 0, none⟩ = some (.int .i64 0) := (blk_cell BK161.out 0).trans rfl; have hcz12_1 : w10.cell? ⟨gb161, 1, none⟩ = some (.int .i64 0) := (blk_cell BK161.out 1).trans rfl; have hcz12_2 : w10.cell? ⟨gb161, 2, none⟩ = some (.int .i64 0) := (blk_cell BK161.out 2).trans rfl; have hcz12_3 : w10.cell? ⟨gb161, 3, none⟩ = some (.int .i64 0) := (blk_cell BK161.out 3).trans rfl; have hfz12_0 := blk_frozen BK161.out 0; have hfz12_1 := blk_frozen BK161.out 1; have hfz12_2 := blk_frozen BK161.out 2; have hfz12_3 := blk_frozen BK161.out 3))
        go_ret
        exact ⟨by first | rfl | (simp [errW_none, errW_some] <;> rfl) | (simp [*, errW_none, errW_some] <;> rfl), by repeat (first | (with_reducible first | exact HB.out | apply below_alloc | apply pw_below_drewN | apply below_drew1 | refine below_set ?_ GE159.out | refine below_set ?_ GE161.out) | exact HB.out)⟩
      · rw [if_neg c7] at H
        have c7b0 : (((rd_T34 l0_0 a3).f0) == 1) = false := beq_eq_false_iff_ne.mpr c7
        have c7b1 : (((rd_T34 l0_0 a3).f0) != 1) = true := bne_iff_ne.mpr c7
        have HC13 := Aside0.mk H
        clear H
        go_enter Try.func119, Try.ntmps119
        go_upto_if 22 with (first | ((with_reducible refine gate_dst (N := 4) rfl ?_); refine box_event ?hg (N := 4) ?hd (cs := #[.slice A0_0 l0_0.length c0_0]) (t := 26) ?hr ?_; (case hd => rfl); (case hg => rfl); (case hr => first | (go_simp; done) | (go_simp; rfl)); intro gb159 hg w14 hbox hb; have n0_ := Aside0.mk (below_step (by repeat (first | (with_reducible first | exact HB.out | apply below_alloc | apply pw_below_drewN | apply below_drew1) | exact HB.out)) hb); have n1_ := Aside0.mk (hbox); have n2_ := Aside0.mk ((by rw [hg]; exact (below_size (by repeat (first | (with_reducible first | exact HB.out | apply below_alloc | apply pw_below_drewN | apply below_drew1) | exact HB.out))) : w.heap.size ≤ gb159)); have n3_ := Aside0.mk ((by rw [hg]; exact (below_size (by repeat (first | (with_reducible first | exact HB.out | apply below_alloc | apply pw_below_drewN | apply below_drew1) | exact HB.out))) : w.heap.size ≤ gb159)); clear HB; have HB := n0_; have BK159 := n1_; have GW159 := n2_; have GE159 := n3_; clear n0_ n1_ n2_ n3_; clear hb hbox hg; have hcz15_0 : w14.cell? ⟨gb159, 0, none⟩ = some (.slice A0_0 l0_0.length c0_0) := (blk_cell BK159.out 0).trans rfl; have hfz15_0 := blk_frozen BK159.out 0; have p160 : 0 ≤ (a3 : Int) := of_decide_eq_true (by first | (with_reducible assumption) | assumption); have q160 : a3 < (l0_0.length : Int) := of_decide_eq_true (by first | (with_reducible assumption) | assumption); obtain ⟨ad160, e160, hx160_0, hx160_1, hx160_2, hx160_3⟩ := at_T34 HR0_0.out a3 p160 q160; cases e160; replace hx160_0 := (HB.out.cell (World.block_lt_of_cell? w _ hx160_0)).trans hx160_0; replace hx160_1 := (HB.out.cell (World.block_lt_of_cell? w _ hx160_1)).trans hx160_1; replace hx160_2 := (HB.out.cell (World.block_lt_of_cell? w _ hx160_2)).trans hx160_2; replace hx160_3 := (HB.out.cell (World.block_lt_of_cell? w _ hx160_3)).trans hx160_3; replace p160 := eq_true p160; replace q160 := eq_true q160) | ((with_reducible refine gate_dst (N := 9) rfl ?_); refine box_event ?hg (N := 9) ?hd (cs := #[.int .i64 0, .int .i64 0, .int .i64 0, .int .i64 0]) (t := 34) ?hr ?_; (case hd => rfl); (case hg => rfl); (case hr => first | (go_simp; done) | (go_simp; rfl)); intro gb161 hg w16 hbox hb; have n0_ := Aside0.mk (blk_below (g := gb159) (o := .cells #[.slice (some ad160) l0_0.length c0_0] 26 (0, 0)) (by (with_reducible repeat (first | refine blk_drewN ?_ _ | refine blk_drew ?_ | refine blk_alloc ?_ _)); exact BK159.out) hb); have n1_ := Aside0.mk (below_step (by repeat (first | (with_reducible first | exact HB.out | apply below_alloc | apply pw_below_drewN | apply below_drew1 | refine below_set ?_ GE159.out) | exact HB.out)) hb); have n2_ := Aside0.mk (hbox); have n3_ := Aside0.mk ((by rw [hg]; exact (below_size (by repeat (first | (with_reducible first | exact HB.out | apply below_alloc | apply pw_below_drewN | apply below_drew1 | refine below_set ?_ GE159.out) | exact HB.out))) : w.heap.size ≤ gb161)); have n4_ := Aside0.mk ((by rw [hg]; exact (below_size (by repeat (first | (with_reducible first | exact HB.out | apply below_alloc | apply pw_below_drewN | apply below_drew1 | refine below_set ?_ GE159.out) | exact HB.out))) : w.heap.size ≤ gb161)); have n5_ := Aside0.mk ((by rw [hg]; exact Nat.ne_of_lt (blk_lt (g := gb159) (o := .cells #[.slice (some ad160) l0_0.length c0_0] 26 (0, 0)) (by (with_reducible repeat (first | refine blk_drewN ?_ _ | refine blk_drew ?_ | refine blk_alloc ?_ _)); exact BK159.out)) : gb159 ≠ gb161)); have n6_ := Aside0.mk ((by rw [hg]; exact Nat.ne_of_gt (blk_lt (g := gb159) (o := .cells #[.slice (some ad160) l0_0.length c0_0] 26 (0, 0)) (by (with_reducible repeat (first | refine blk_drewN ?_ _ | refine blk_drew ?_ | refine blk_alloc ?_ _)); exact BK159.out)) : gb161 ≠ gb159)); clear BK159; clear HB; have BK159 := n0_; have HB := n1_; have BK161 := n2_; have GW161 := n3_; have GE161 := n4_; have NB159_161 := n5_; have NB161_159 := n6_; clear n0_ n1_ n2_ n3_ n4_ n5_ n6_; clear hb hbox hg; have hnb17 := NB161_159.out; have hnc17 := NB159_161.out; have hcz18_0 : w16.cell? ⟨gb161, 0, none⟩ = some (.int .i64 0) := (blk_cell BK161.out 0).trans rfl; have hcz18_1 : w16.cell? ⟨gb161, 1, none⟩ = some (.int .i64 0) := (blk_cell BK161.out 1).trans rfl; have hcz18_2 : w16.cell? ⟨gb161, 2, none⟩ = some (.int .i64 0) := (blk_cell BK161.out 2).trans rfl; have hcz18_3 : w16.cell? ⟨gb161, 3, none⟩ = some (.int .i64 0) := (blk_cell BK161.out 3).trans rfl; have hfz18_0 := blk_frozen BK161.out 0; have hfz18_1 := blk_frozen BK161.out 1; have hfz18_2 := blk_frozen BK161.out 2; have hfz18_3 := blk_frozen BK161.out 3))
        (try simp only [Act.put, List.setIfInBounds_toArray, List.set_cons_zero, List.set_cons_succ])
        go_cut [22] (fun v22 wc => ∃ (kq : Nat) (x22_12 : Bool), v22 = .bool x22_12 ∧ Aside0 (spec_l05Made.j0 kq l1 l2 ((rd_T34 l0_0 a3).f0) x22_12 ((rd_T34 l0_0 a3).f0) ((rd_T34 l0_0 a3).f1) ((rd_T34 l0_0 a3).f2) ((rd_T34 l0_0 a3).f3) = some r) ∧ Aside0 (kq ≤ k) ∧ Aside0 (wc.heap[gb159]? = some (.cells #[(.slice (some ad160) l0_0.length c0_0)] 26 (0, 0))) ∧ Aside0 (wc.heap[gb161]? = some (.cells #[.int .i64 ((rd_T34 l0_0 a3).f0), .int .i64 ((rd_T34 l0_0 a3).f1), .int .i64 ((rd_T34 l0_0 a3).f2), .int .i64 ((rd_T34 l0_0 a3).f3)] 34 (0, 0))) ∧ Aside0 (Below w.heap.size w wc))
        case first =>
          have H := HC13.out
          clear HC13
          by_cases c19 : ((rd_T34 l0_0 a3).f0) = 3
          · rw [if_pos c19] at H
            have c19b0 : (((rd_T34 l0_0 a3).f0) == 3) = true := beq_iff_eq.mpr c19
            have c19b1 : (((rd_T34 l0_0 a3).f0) != 3) = false := bne_eq_false_iff_eq.mpr c19
            clear c19
            (first | rw [c19b0] | (simp only [i64_w, i32_w]; rw [c19b0]) | skip)
            have H' := Aside0.mk H
            clear H
            go_wp2
            go_meet
            case rel => exact ⟨_, ((((rd_T34 l0_0 a3).f0) == 3)), (by first | rfl | (simp; done) | (simp [*]; done)), H', ⟨by first | omega | exact Nat.le_refl _⟩, ⟨by (with_reducible repeat (first | refine blk_drewN ?_ _ | refine blk_drew ?_ | refine blk_alloc ?_ _)); refine blk_far ?_ NB159_161.out _; (with_reducible repeat (first | refine blk_drewN ?_ _ | refine blk_drew ?_ | refine blk_alloc ?_ _)); refine blk_far ?_ NB159_161.out _; (with_reducible repeat (first | refine blk_drewN ?_ _ | refine blk_drew ?_ | refine blk_alloc ?_ _)); refine blk_far ?_ NB159_161.out _; (with_reducible repeat (first | refine blk_drewN ?_ _ | refine blk_drew ?_ | refine blk_alloc ?_ _)); refine blk_far ?_ NB159_161.out _; (with_reducible repeat (first | refine blk_drewN ?_ _ | refine blk_drew ?_ | refine blk_alloc ?_ _)); exact BK159.out⟩, ⟨by (with_reducible repeat (first | refine blk_drewN ?_ _ | refine blk_drew ?_ | refine blk_alloc ?_ _)); refine blk_put (cs := #[.int .i64 ((rd_T34 l0_0 a3).f0), .int .i64 ((rd_T34 l0_0 a3).f1), .int .i64 ((rd_T34 l0_0 a3).f2), .int .i64 0]) ?_ 3 _ rfl; (with_reducible repeat (first | refine blk_drewN ?_ _ | refine blk_drew ?_ | refine blk_alloc ?_ _)); refine blk_put (cs := #[.int .i64 ((rd_T34 l0_0 a3).f0), .int .i64 ((rd_T34 l0_0 a3).f1), .int .i64 0, .int .i64 0]) ?_ 2 _ rfl; (with_reducible repeat (first | refine blk_drewN ?_ _ | refine blk_drew ?_ | refine blk_alloc ?_ _)); refine blk_put (cs := #[.int .i64 ((rd_T34 l0_0 a3).f0), .int .i64 0, .int .i64 0, .int .i64 0]) ?_ 1 _ rfl; (with_reducible repeat (first | refine blk_drewN ?_ _ | refine blk_drew ?_ | refine blk_alloc ?_ _)); refine blk_put (cs := #[.int .i64 0, .int .i64 0, .int .i64 0, .int .i64 0]) ?_ 0 _ rfl; (with_reducible repeat (first | refine blk_drewN ?_ _ | refine blk_drew ?_ | refine blk_alloc ?_ _)); exact BK161.out⟩, ⟨by repeat (first | (with_reducible first | exact HB.out | apply below_alloc | apply pw_below_drewN | apply below_drew1 | refine below_set ?_ GE159.out | refine below_set ?_ GE161.out) | exact HB.out)⟩⟩
          · rw [if_neg c19] at H
            have c19b0 : (((rd_T34 l0_0 a3).f0) == 3) = false := beq_eq_false_iff_ne.mpr c19
            have c19b1 : (((rd_T34 l0_0 a3).f0) != 3) = true := bne_iff_ne.mpr c19
            (first | rw [c19b0] | (simp only [i64_w, i32_w]; rw [c19b0]) | skip)
            have H' := Aside0.mk H
            clear H
            go_wp2
            go_meet
            case rel => exact ⟨_, ((((rd_T34 l0_0 a3).f0) == 6)), (by first | rfl | (simp; done) | (simp [*]; done)), H', ⟨by first | omega | exact Nat.le_refl _⟩, ⟨by (with_reducible repeat (first | refine blk_drewN ?_ _ | refine blk_drew ?_ | refine blk_alloc ?_ _)); refine blk_far ?_ NB159_161.out _; (with_reducible repeat (first | refine blk_drewN ?_ _ | refine blk_drew ?_ | refine blk_alloc ?_ _)); refine blk_far ?_ NB159_161.out _; (with_reducible repeat (first | refine blk_drewN ?_ _ | refine blk_drew ?_ | refine blk_alloc ?_ _)); refine blk_far ?_ NB159_161.out _; (with_reducible repeat (first | refine blk_drewN ?_ _ | refine blk_drew ?_ | refine blk_alloc ?_ _)); refine blk_far ?_ NB159_161.out _; (with_reducible repeat (first | refine blk_drewN ?_ _ | refine blk_drew ?_ | refine blk_alloc ?_ _)); exact BK159.out⟩, ⟨by (with_reducible repeat (first | refine blk_drewN ?_ _ | refine blk_drew ?_ | refine blk_alloc ?_ _)); refine blk_put (cs := #[.int .i64 ((rd_T34 l0_0 a3).f0), .int .i64 ((rd_T34 l0_0 a3).f1), .int .i64 ((rd_T34 l0_0 a3).f2), .int .i64 0]) ?_ 3 _ rfl; (with_reducible repeat (first | refine blk_drewN ?_ _ | refine blk_drew ?_ | refine blk_alloc ?_ _)); refine blk_put (cs := #[.int .i64 ((rd_T34 l0_0 a3).f0), .int .i64 ((rd_T34 l0_0 a3).f1), .int .i64 0, .int .i64 0]) ?_ 2 _ rfl; (with_reducible repeat (first | refine blk_drewN ?_ _ | refine blk_drew ?_ | refine blk_alloc ?_ _)); refine blk_put (cs := #[.int .i64 ((rd_T34 l0_0 a3).f0), .int .i64 0, .int .i64 0, .int .i64 0]) ?_ 1 _ rfl; (with_reducible repeat (first | refine blk_drewN ?_ _ | refine blk_drew ?_ | refine blk_alloc ?_ _)); refine blk_put (cs := #[.int .i64 0, .int .i64 0, .int .i64 0, .int .i64 0]) ?_ 0 _ rfl; (with_reducible repeat (first | refine blk_drewN ?_ _ | refine blk_drew ?_ | refine blk_alloc ?_ _)); exact BK161.out⟩, ⟨by repeat (first | (with_reducible first | exact HB.out | apply below_alloc | apply pw_below_drewN | apply below_drew1 | refine below_set ?_ GE159.out | refine below_set ?_ GE161.out) | exact HB.out)⟩⟩
        case rest =>
          clear HC13
          try clear c1
          try clear p1
          try clear q1
          try clear hx1
          try clear c2
          try clear p2
          try clear c5
          try clear c5b0
          try clear c6
          try clear c6b0
          try clear c7
          try clear c7b0
          try clear c7b1
          try clear c11
          try clear p16
          try clear q16
          try clear hx16
          try clear c17
          try clear c19
          try clear c19b0
          try clear c19b1
          try clear hcz12_0
          try clear hcz12_1
          try clear hcz12_2
          try clear hcz12_3
          try clear hcz15_0
          try clear hcz18_0
          try clear hcz18_1
          try clear hcz18_2
          try clear hcz18_3
          try clear hcz9_0
          try clear hfz12_0
          try clear hfz12_1
          try clear hfz12_2
          try clear hfz12_3
          try clear hfz15_0
          try clear hfz18_0
          try clear hfz18_1
          try clear hfz18_2
          try clear hfz18_3
          try clear hfz9_0
          try clear hx160_0
          try clear hx160_1
          try clear hx160_2
          try clear hx160_3
          try clear p160
          try clear q160
          obtain ⟨kq, x22_12, rfl, HA, HJ12, BK159, BK161, HB⟩ := hcut
          cases kq with
          | zero => exact absurd HA.out (by simp [spec_l05Made.j0])
          | succ kj12 =>
            have H := HA.out
            clear HA
            simp only [spec_l05Made.j0] at H
            by_cases c20 : x22_12 = true
            · subst c20
              have H1 : (if 0 ≤ ((rd_T34 l0_0 a3).f2) then (if ((rd_T34 l0_0 a3).f2) < (l1.length : Int) then (some (rdOf false l1 ((rd_T34 l0_0 a3).f2))) else (none)) else (none)) = some r := by rw [if_pos rfl] at H; exact H
              clear H
              have H := H1
              clear H1
              by_cases c21 : 0 ≤ ((rd_T34 l0_0 a3).f2)
              · rw [if_pos c21] at H
                have c21b0 : decide (0 ≤ ((rd_T34 l0_0 a3).f2)) = true := decide_eq_true c21
                clear c21
                by_cases c22 : ((rd_T34 l0_0 a3).f2) < (l1.length : Int)
                · rw [if_pos c22] at H
                  have c22b0 : decide (((rd_T34 l0_0 a3).f2) < (l1.length : Int)) = true := decide_eq_true c22
                  clear c22
                  obtain rfl := Option.some.inj H
                  have hnb23 := NB161_159.out
                  have hnc23 := NB159_161.out
                  have hcz24_0 : wc.cell? ⟨gb161, 0, none⟩ = some (.int .i64 ((rd_T34 l0_0 a3).f0)) := (blk_cell BK161.out 0).trans rfl
                  have hcz24_1 : wc.cell? ⟨gb161, 1, none⟩ = some (.int .i64 ((rd_T34 l0_0 a3).f1)) := (blk_cell BK161.out 1).trans rfl
                  have hcz24_2 : wc.cell? ⟨gb161, 2, none⟩ = some (.int .i64 ((rd_T34 l0_0 a3).f2)) := (blk_cell BK161.out 2).trans rfl
                  have hcz24_3 : wc.cell? ⟨gb161, 3, none⟩ = some (.int .i64 ((rd_T34 l0_0 a3).f3)) := (blk_cell BK161.out 3).trans rfl
                  have hfz24_0 := blk_frozen BK161.out 0
                  have hfz24_1 := blk_frozen BK161.out 1
                  have hfz24_2 := blk_frozen BK161.out 2
                  have hfz24_3 := blk_frozen BK161.out 3
                  have p162 : 0 ≤ (((rd_T34 l0_0 a3).f2) : Int) := of_decide_eq_true (by first | (with_reducible assumption) | assumption)
                  have q162 : ((rd_T34 l0_0 a3).f2) < (l1.length : Int) := of_decide_eq_true (by first | (with_reducible assumption) | assumption)
                  obtain ⟨ad162, e162, hx162_0⟩ := Kd.at_bool HR1.out ((rd_T34 l0_0 a3).f2) p162 q162
                  cases e162
                  replace hx162_0 := (HB.out.cell (World.block_lt_of_cell? w _ hx162_0)).trans hx162_0
                  replace p162 := eq_true p162
                  replace q162 := eq_true q162
                  go_wp2
                  go_ret
                  exact ⟨by first | rfl | (simp [errW_none, errW_some] <;> rfl) | (simp [*, errW_none, errW_some] <;> rfl), by repeat (first | (with_reducible first | exact HB.out | apply below_alloc | apply pw_below_drewN | apply below_drew1 | refine below_set ?_ GE159.out | refine below_set ?_ GE161.out) | exact HB.out)⟩
                · rw [if_neg c22] at H
                  exact absurd H (by simp)
              · rw [if_neg c21] at H
                exact absurd H (by simp)
            · replace c20 := Bool.eq_false_iff.mpr c20
              subst c20
              have H1 : (if ((rd_T34 l0_0 a3).f0) = 7 then (if 0 ≤ ((rd_T34 l0_0 a3).f2) then (if ((rd_T34 l0_0 a3).f2) < (l1.length : Int) then (if rdOf false l1 ((rd_T34 l0_0 a3).f2) = true then (if 0 ≤ ((rd_T34 l0_0 a3).f3) then (if ((rd_T34 l0_0 a3).f3) < (l2.length : Int) then (if (rd l2 ((rd_T34 l0_0 a3).f3)) ≥ 0 then (if 0 ≤ (rd l2 ((rd_T34 l0_0 a3).f3)) then (if (rd l2 ((rd_T34 l0_0 a3).f3)) < (l1.length : Int) then (if rdOf false l1 (rd l2 ((rd_T34 l0_0 a3).f3)) = true then (some true) else (if ((rd_T34 l0_0 a3).f3) < (l1.length : Int) then (if rdOf false l1 ((rd_T34 l0_0 a3).f3) = true then (if ((rd_T34 l0_0 a3).f2) < (l2.length : Int) then (if (rd l2 ((rd_T34 l0_0 a3).f2)) ≥ 0 then (if 0 ≤ (rd l2 ((rd_T34 l0_0 a3).f2)) then (if (rd l2 ((rd_T34 l0_0 a3).f2)) < (l1.length : Int) then (some (rdOf false l1 (rd l2 ((rd_T34 l0_0 a3).f2)))) else (none)) else (none)) else (some false)) else (none)) else (some false)) else (none))) else (none)) else (none)) else (if ((rd_T34 l0_0 a3).f3) < (l1.length : Int) then (if rdOf false l1 ((rd_T34 l0_0 a3).f3) = true then (if ((rd_T34 l0_0 a3).f2) < (l2.length : Int) then (if (rd l2 ((rd_T34 l0_0 a3).f2)) ≥ 0 then (if 0 ≤ (rd l2 ((rd_T34 l0_0 a3).f2)) then (if (rd l2 ((rd_T34 l0_0 a3).f2)) < (l1.length : Int) then (some (rdOf false l1 (rd l2 ((rd_T34 l0_0 a3).f2)))) else (none)) else (none)) else (some false)) else (none)) else (some false)) else (none))) else (none)) else (none)) else (if 0 ≤ ((rd_T34 l0_0 a3).f3) then (if ((rd_T34 l0_0 a3).f3) < (l1.length : Int) then (if rdOf false l1 ((rd_T34 l0_0 a3).f3) = true then (if ((rd_T34 l0_0 a3).f2) < (l2.length : Int) then (if (rd l2 ((rd_T34 l0_0 a3).f2)) ≥ 0 then (if 0 ≤ (rd l2 ((rd_T34 l0_0 a3).f2)) then (if (rd l2 ((rd_T34 l0_0 a3).f2)) < (l1.length : Int) then (some (rdOf false l1 (rd l2 ((rd_T34 l0_0 a3).f2)))) else (none)) else (none)) else (some false)) else (none)) else (some false)) else (none)) else (none))) else (none)) else (none)) else (if 0 ≤ ((rd_T34 l0_0 a3).f2) then (if ((rd_T34 l0_0 a3).f2) < (l1.length : Int) then (if rdOf false l1 ((rd_T34 l0_0 a3).f2) = true then (if 0 ≤ ((rd_T34 l0_0 a3).f3) then (if ((rd_T34 l0_0 a3).f3) < (l1.length : Int) then (some (rdOf false l1 ((rd_T34 l0_0 a3).f3))) else (none)) else (none)) else (some false)) else (none)) else (none))) = some r := by rw [if_neg (show ¬ (false = true) by decide)] at H; exact H
              clear H
              have H := H1
              clear H1
              by_cases c25 : ((rd_T34 l0_0 a3).f0) = 7
              · rw [if_pos c25] at H
                have c25b0 : (((rd_T34 l0_0 a3).f0) == 7) = true := beq_iff_eq.mpr c25
                have c25b1 : (((rd_T34 l0_0 a3).f0) != 7) = false := bne_eq_false_iff_eq.mpr c25
                clear c25
                by_cases c26 : 0 ≤ ((rd_T34 l0_0 a3).f2)
                · rw [if_pos c26] at H
                  have c26b0 : decide (0 ≤ ((rd_T34 l0_0 a3).f2)) = true := decide_eq_true c26
                  clear c26
                  by_cases c27 : ((rd_T34 l0_0 a3).f2) < (l1.length : Int)
                  · rw [if_pos c27] at H
                    have c27b0 : decide (((rd_T34 l0_0 a3).f2) < (l1.length : Int)) = true := decide_eq_true c27
                    clear c27
                    obtain ⟨bq28, hbq28⟩ : ∃ b_ : Bool, b_ = (rdOf false l1 ((rd_T34 l0_0 a3).f2)) := ⟨_, rfl⟩
                    replace H : (if bq28 = true then (if 0 ≤ ((rd_T34 l0_0 a3).f3) then (if ((rd_T34 l0_0 a3).f3) < (l2.length : Int) then (if (rd l2 ((rd_T34 l0_0 a3).f3)) ≥ 0 then (if 0 ≤ (rd l2 ((rd_T34 l0_0 a3).f3)) then (if (rd l2 ((rd_T34 l0_0 a3).f3)) < (l1.length : Int) then (if rdOf false l1 (rd l2 ((rd_T34 l0_0 a3).f3)) = true then (some true) else (if ((rd_T34 l0_0 a3).f3) < (l1.length : Int) then (if rdOf false l1 ((rd_T34 l0_0 a3).f3) = true then (if ((rd_T34 l0_0 a3).f2) < (l2.length : Int) then (if (rd l2 ((rd_T34 l0_0 a3).f2)) ≥ 0 then (if 0 ≤ (rd l2 ((rd_T34 l0_0 a3).f2)) then (if (rd l2 ((rd_T34 l0_0 a3).f2)) < (l1.length : Int) then (some (rdOf false l1 (rd l2 ((rd_T34 l0_0 a3).f2)))) else (none)) else (none)) else (some false)) else (none)) else (some false)) else (none))) else (none)) else (none)) else (if ((rd_T34 l0_0 a3).f3) < (l1.length : Int) then (if rdOf false l1 ((rd_T34 l0_0 a3).f3) = true then (if ((rd_T34 l0_0 a3).f2) < (l2.length : Int) then (if (rd l2 ((rd_T34 l0_0 a3).f2)) ≥ 0 then (if 0 ≤ (rd l2 ((rd_T34 l0_0 a3).f2)) then (if (rd l2 ((rd_T34 l0_0 a3).f2)) < (l1.length : Int) then (some (rdOf false l1 (rd l2 ((rd_T34 l0_0 a3).f2)))) else (none)) else (none)) else (some false)) else (none)) else (some false)) else (none))) else (none)) else (none)) else (if 0 ≤ ((rd_T34 l0_0 a3).f3) then (if ((rd_T34 l0_0 a3).f3) < (l1.length : Int) then (if rdOf false l1 ((rd_T34 l0_0 a3).f3) = true then (if ((rd_T34 l0_0 a3).f2) < (l2.length : Int) then (if (rd l2 ((rd_T34 l0_0 a3).f2)) ≥ 0 then (if 0 ≤ (rd l2 ((rd_T34 l0_0 a3).f2)) then (if (rd l2 ((rd_T34 l0_0 a3).f2)) < (l1.length : Int) then (some (rdOf false l1 (rd l2 ((rd_T34 l0_0 a3).f2)))) else (none)) else (none)) else (some false)) else (none)) else (some false)) else (none)) else (none))) = some r := by rw [← hbq28] at H; exact H
                    have Nbq28 := Aside0.mk hbq28
                    clear hbq28
                    by_cases c29 : bq28 = true
                    · subst c29
                      have H1 : (if 0 ≤ ((rd_T34 l0_0 a3).f3) then (if ((rd_T34 l0_0 a3).f3) < (l2.length : Int) then (if (rd l2 ((rd_T34 l0_0 a3).f3)) ≥ 0 then (if 0 ≤ (rd l2 ((rd_T34 l0_0 a3).f3)) then (if (rd l2 ((rd_T34 l0_0 a3).f3)) < (l1.length : Int) then (if rdOf false l1 (rd l2 ((rd_T34 l0_0 a3).f3)) = true then (some true) else (if ((rd_T34 l0_0 a3).f3) < (l1.length : Int) then (if rdOf false l1 ((rd_T34 l0_0 a3).f3) = true then (if ((rd_T34 l0_0 a3).f2) < (l2.length : Int) then (if (rd l2 ((rd_T34 l0_0 a3).f2)) ≥ 0 then (if 0 ≤ (rd l2 ((rd_T34 l0_0 a3).f2)) then (if (rd l2 ((rd_T34 l0_0 a3).f2)) < (l1.length : Int) then (some (rdOf false l1 (rd l2 ((rd_T34 l0_0 a3).f2)))) else (none)) else (none)) else (some false)) else (none)) else (some false)) else (none))) else (none)) else (none)) else (if ((rd_T34 l0_0 a3).f3) < (l1.length : Int) then (if rdOf false l1 ((rd_T34 l0_0 a3).f3) = true then (if ((rd_T34 l0_0 a3).f2) < (l2.length : Int) then (if (rd l2 ((rd_T34 l0_0 a3).f2)) ≥ 0 then (if 0 ≤ (rd l2 ((rd_T34 l0_0 a3).f2)) then (if (rd l2 ((rd_T34 l0_0 a3).f2)) < (l1.length : Int) then (some (rdOf false l1 (rd l2 ((rd_T34 l0_0 a3).f2)))) else (none)) else (none)) else (some false)) else (none)) else (some false)) else (none))) else (none)) else (none)) = some r := by rw [if_pos rfl] at H; exact H
                      clear H
                      have H := H1
                      clear H1
                      by_cases c30 : 0 ≤ ((rd_T34 l0_0 a3).f3)
                      · rw [if_pos c30] at H
                        have c30b0 : decide (0 ≤ ((rd_T34 l0_0 a3).f3)) = true := decide_eq_true c30
                        clear c30
                        by_cases c31 : ((rd_T34 l0_0 a3).f3) < (l2.length : Int)
                        · rw [if_pos c31] at H
                          have c31b0 : decide (((rd_T34 l0_0 a3).f3) < (l2.length : Int)) = true := decide_eq_true c31
                          clear c31
                          by_cases c32 : (rd l2 ((rd_T34 l0_0 a3).f3)) ≥ 0
                          · rw [if_pos c32] at H
                            have c32b0 : decide (0 ≤ (rd l2 ((rd_T34 l0_0 a3).f3))) = true := decide_eq_true c32
                            clear c32
                            by_cases c33 : 0 ≤ (rd l2 ((rd_T34 l0_0 a3).f3))
                            · rw [if_pos c33] at H
                              have c33b0 : decide (0 ≤ (rd l2 ((rd_T34 l0_0 a3).f3))) = true := decide_eq_true c33
                              clear c33
                              by_cases c34 : (rd l2 ((rd_T34 l0_0 a3).f3)) < (l1.length : Int)
                              · rw [if_pos c34] at H
                                have c34b0 : decide ((rd l2 ((rd_T34 l0_0 a3).f3)) < (l1.length : Int)) = true := decide_eq_true c34
                                clear c34
                                obtain ⟨bq35, hbq35⟩ : ∃ b_ : Bool, b_ = (rdOf false l1 (rd l2 ((rd_T34 l0_0 a3).f3))) := ⟨_, rfl⟩
                                replace H : (if bq35 = true then (some true) else (if ((rd_T34 l0_0 a3).f3) < (l1.length : Int) then (if rdOf false l1 ((rd_T34 l0_0 a3).f3) = true then (if ((rd_T34 l0_0 a3).f2) < (l2.length : Int) then (if (rd l2 ((rd_T34 l0_0 a3).f2)) ≥ 0 then (if 0 ≤ (rd l2 ((rd_T34 l0_0 a3).f2)) then (if (rd l2 ((rd_T34 l0_0 a3).f2)) < (l1.length : Int) then (some (rdOf false l1 (rd l2 ((rd_T34 l0_0 a3).f2)))) else (none)) else (none)) else (some false)) else (none)) else (some false)) else (none))) = some r := by rw [← hbq35] at H; exact H
                                have Nbq35 := Aside0.mk hbq35
                                clear hbq35
                                by_cases c36 : bq35 = true
                                · subst c36
                                  have H1 : (some true) = some r := by rw [if_pos rfl] at H; exact H
                                  clear H
                                  have H := H1
                                  clear H1
                                  obtain rfl := Option.some.inj H
                                  have hnb37 := NB161_159.out
                                  have hnc37 := NB159_161.out
                                  have hcz38_0 : wc.cell? ⟨gb161, 0, none⟩ = some (.int .i64 ((rd_T34 l0_0 a3).f0)) := (blk_cell BK161.out 0).trans rfl
                                  have hcz38_1 : wc.cell? ⟨gb161, 1, none⟩ = some (.int .i64 ((rd_T34 l0_0 a3).f1)) := (blk_cell BK161.out 1).trans rfl
                                  have hcz38_2 : wc.cell? ⟨gb161, 2, none⟩ = some (.int .i64 ((rd_T34 l0_0 a3).f2)) := (blk_cell BK161.out 2).trans rfl
                                  have hcz38_3 : wc.cell? ⟨gb161, 3, none⟩ = some (.int .i64 ((rd_T34 l0_0 a3).f3)) := (blk_cell BK161.out 3).trans rfl
                                  have hfz38_0 := blk_frozen BK161.out 0
                                  have hfz38_1 := blk_frozen BK161.out 1
                                  have hfz38_2 := blk_frozen BK161.out 2
                                  have hfz38_3 := blk_frozen BK161.out 3
                                  have p163 : 0 ≤ (((rd_T34 l0_0 a3).f2) : Int) := of_decide_eq_true (by first | (with_reducible assumption) | assumption)
                                  have q163 : ((rd_T34 l0_0 a3).f2) < (l1.length : Int) := of_decide_eq_true (by first | (with_reducible assumption) | assumption)
                                  obtain ⟨ad163, e163, hx163_0⟩ := Kd.at_bool HR1.out ((rd_T34 l0_0 a3).f2) p163 q163
                                  (try rw [← Nbq28.out] at hx163_0)
                                  (try rw [← Nbq35.out] at hx163_0)
                                  cases e163
                                  replace hx163_0 := (HB.out.cell (World.block_lt_of_cell? w _ hx163_0)).trans hx163_0
                                  replace p163 := eq_true p163
                                  replace q163 := eq_true q163
                                  have p164 : 0 ≤ (((rd_T34 l0_0 a3).f3) : Int) := of_decide_eq_true (by first | (with_reducible assumption) | assumption)
                                  have q164 : ((rd_T34 l0_0 a3).f3) < (l2.length : Int) := of_decide_eq_true (by first | (with_reducible assumption) | assumption)
                                  obtain ⟨ad164, e164, hx164_0⟩ := Kd.at_int HR2.out ((rd_T34 l0_0 a3).f3) p164 q164
                                  cases e164
                                  replace hx164_0 := (HB.out.cell (World.block_lt_of_cell? w _ hx164_0)).trans hx164_0
                                  replace p164 := eq_true p164
                                  replace q164 := eq_true q164
                                  have p165 : 0 ≤ (((rd_T34 l0_0 a3).f3) : Int) := of_decide_eq_true (by first | (with_reducible assumption) | assumption)
                                  have q165 : ((rd_T34 l0_0 a3).f3) < (l2.length : Int) := of_decide_eq_true (by first | (with_reducible assumption) | assumption)
                                  obtain ⟨ad165, e165, hx165_0⟩ := Kd.at_int HR2.out ((rd_T34 l0_0 a3).f3) p165 q165
                                  obtain rfl : ad164 = ad165 := (by injection e165)
                                  replace hx165_0 := (HB.out.cell (World.block_lt_of_cell? w _ hx165_0)).trans hx165_0
                                  replace p165 := eq_true p165
                                  replace q165 := eq_true q165
                                  have p166 : 0 ≤ ((rd l2 ((rd_T34 l0_0 a3).f3)) : Int) := of_decide_eq_true (by first | (with_reducible assumption) | assumption)
                                  have q166 : (rd l2 ((rd_T34 l0_0 a3).f3)) < (l1.length : Int) := of_decide_eq_true (by first | (with_reducible assumption) | assumption)
                                  obtain ⟨ad166, e166, hx166_0⟩ := Kd.at_bool HR1.out (rd l2 ((rd_T34 l0_0 a3).f3)) p166 q166
                                  (try rw [← Nbq28.out] at hx166_0)
                                  (try rw [← Nbq35.out] at hx166_0)
                                  obtain rfl : ad163 = ad166 := (by injection e166)
                                  replace hx166_0 := (HB.out.cell (World.block_lt_of_cell? w _ hx166_0)).trans hx166_0
                                  replace p166 := eq_true p166
                                  replace q166 := eq_true q166
                                  go_wp2
                                  go_ret
                                  exact ⟨by first | rfl | (simp [errW_none, errW_some] <;> rfl) | (simp [*, errW_none, errW_some] <;> rfl), by repeat (first | (with_reducible first | exact HB.out | apply below_alloc | apply pw_below_drewN | apply below_drew1 | refine below_set ?_ GE159.out | refine below_set ?_ GE161.out) | exact HB.out)⟩
                                · replace c36 := Bool.eq_false_iff.mpr c36
                                  subst c36
                                  have H1 : (if ((rd_T34 l0_0 a3).f3) < (l1.length : Int) then (if rdOf false l1 ((rd_T34 l0_0 a3).f3) = true then (if ((rd_T34 l0_0 a3).f2) < (l2.length : Int) then (if (rd l2 ((rd_T34 l0_0 a3).f2)) ≥ 0 then (if 0 ≤ (rd l2 ((rd_T34 l0_0 a3).f2)) then (if (rd l2 ((rd_T34 l0_0 a3).f2)) < (l1.length : Int) then (some (rdOf false l1 (rd l2 ((rd_T34 l0_0 a3).f2)))) else (none)) else (none)) else (some false)) else (none)) else (some false)) else (none)) = some r := by rw [if_neg (show ¬ (false = true) by decide)] at H; exact H
                                  clear H
                                  have H := H1
                                  clear H1
                                  by_cases c39 : ((rd_T34 l0_0 a3).f3) < (l1.length : Int)
                                  · rw [if_pos c39] at H
                                    have c39b0 : decide (((rd_T34 l0_0 a3).f3) < (l1.length : Int)) = true := decide_eq_true c39
                                    clear c39
                                    obtain ⟨bq40, hbq40⟩ : ∃ b_ : Bool, b_ = (rdOf false l1 ((rd_T34 l0_0 a3).f3)) := ⟨_, rfl⟩
                                    replace H : (if bq40 = true then (if ((rd_T34 l0_0 a3).f2) < (l2.length : Int) then (if (rd l2 ((rd_T34 l0_0 a3).f2)) ≥ 0 then (if 0 ≤ (rd l2 ((rd_T34 l0_0 a3).f2)) then (if (rd l2 ((rd_T34 l0_0 a3).f2)) < (l1.length : Int) then (some (rdOf false l1 (rd l2 ((rd_T34 l0_0 a3).f2)))) else (none)) else (none)) else (some false)) else (none)) else (some false)) = some r := by rw [← hbq40] at H; exact H
                                    have Nbq40 := Aside0.mk hbq40
                                    clear hbq40
                                    by_cases c41 : bq40 = true
                                    · subst c41
                                      have H1 : (if ((rd_T34 l0_0 a3).f2) < (l2.length : Int) then (if (rd l2 ((rd_T34 l0_0 a3).f2)) ≥ 0 then (if 0 ≤ (rd l2 ((rd_T34 l0_0 a3).f2)) then (if (rd l2 ((rd_T34 l0_0 a3).f2)) < (l1.length : Int) then (some (rdOf false l1 (rd l2 ((rd_T34 l0_0 a3).f2)))) else (none)) else (none)) else (some false)) else (none)) = some r := by rw [if_pos rfl] at H; exact H
                                      clear H
                                      have H := H1
                                      clear H1
                                      by_cases c42 : ((rd_T34 l0_0 a3).f2) < (l2.length : Int)
                                      · rw [if_pos c42] at H
                                        have c42b0 : decide (((rd_T34 l0_0 a3).f2) < (l2.length : Int)) = true := decide_eq_true c42
                                        clear c42
                                        by_cases c43 : (rd l2 ((rd_T34 l0_0 a3).f2)) ≥ 0
                                        · rw [if_pos c43] at H
                                          have c43b0 : decide (0 ≤ (rd l2 ((rd_T34 l0_0 a3).f2))) = true := decide_eq_true c43
                                          clear c43
                                          by_cases c44 : 0 ≤ (rd l2 ((rd_T34 l0_0 a3).f2))
                                          · rw [if_pos c44] at H
                                            have c44b0 : decide (0 ≤ (rd l2 ((rd_T34 l0_0 a3).f2))) = true := decide_eq_true c44
                                            clear c44
                                            by_cases c45 : (rd l2 ((rd_T34 l0_0 a3).f2)) < (l1.length : Int)
                                            · rw [if_pos c45] at H
                                              have c45b0 : decide ((rd l2 ((rd_T34 l0_0 a3).f2)) < (l1.length : Int)) = true := decide_eq_true c45
                                              clear c45
                                              obtain rfl := Option.some.inj H
                                              have hnb46 := NB161_159.out
                                              have hnc46 := NB159_161.out
                                              have hcz47_0 : wc.cell? ⟨gb161, 0, none⟩ = some (.int .i64 ((rd_T34 l0_0 a3).f0)) := (blk_cell BK161.out 0).trans rfl
                                              have hcz47_1 : wc.cell? ⟨gb161, 1, none⟩ = some (.int .i64 ((rd_T34 l0_0 a3).f1)) := (blk_cell BK161.out 1).trans rfl
                                              have hcz47_2 : wc.cell? ⟨gb161, 2, none⟩ = some (.int .i64 ((rd_T34 l0_0 a3).f2)) := (blk_cell BK161.out 2).trans rfl
                                              have hcz47_3 : wc.cell? ⟨gb161, 3, none⟩ = some (.int .i64 ((rd_T34 l0_0 a3).f3)) := (blk_cell BK161.out 3).trans rfl
                                              have hfz47_0 := blk_frozen BK161.out 0
                                              have hfz47_1 := blk_frozen BK161.out 1
                                              have hfz47_2 := blk_frozen BK161.out 2
                                              have hfz47_3 := blk_frozen BK161.out 3
                                              have p163 : 0 ≤ (((rd_T34 l0_0 a3).f2) : Int) := of_decide_eq_true (by first | (with_reducible assumption) | assumption)
                                              have q163 : ((rd_T34 l0_0 a3).f2) < (l1.length : Int) := of_decide_eq_true (by first | (with_reducible assumption) | assumption)
                                              obtain ⟨ad163, e163, hx163_0⟩ := Kd.at_bool HR1.out ((rd_T34 l0_0 a3).f2) p163 q163
                                              (try rw [← Nbq28.out] at hx163_0)
                                              (try rw [← Nbq35.out] at hx163_0)
                                              (try rw [← Nbq40.out] at hx163_0)
                                              cases e163
                                              replace hx163_0 := (HB.out.cell (World.block_lt_of_cell? w _ hx163_0)).trans hx163_0
                                              replace p163 := eq_true p163
                                              replace q163 := eq_true q163
                                              have p164 : 0 ≤ (((rd_T34 l0_0 a3).f3) : Int) := of_decide_eq_true (by first | (with_reducible assumption) | assumption)
                                              have q164 : ((rd_T34 l0_0 a3).f3) < (l2.length : Int) := of_decide_eq_true (by first | (with_reducible assumption) | assumption)
                                              obtain ⟨ad164, e164, hx164_0⟩ := Kd.at_int HR2.out ((rd_T34 l0_0 a3).f3) p164 q164
                                              cases e164
                                              replace hx164_0 := (HB.out.cell (World.block_lt_of_cell? w _ hx164_0)).trans hx164_0
                                              replace p164 := eq_true p164
                                              replace q164 := eq_true q164
                                              have p165 : 0 ≤ (((rd_T34 l0_0 a3).f3) : Int) := of_decide_eq_true (by first | (with_reducible assumption) | assumption)
                                              have q165 : ((rd_T34 l0_0 a3).f3) < (l2.length : Int) := of_decide_eq_true (by first | (with_reducible assumption) | assumption)
                                              obtain ⟨ad165, e165, hx165_0⟩ := Kd.at_int HR2.out ((rd_T34 l0_0 a3).f3) p165 q165
                                              obtain rfl : ad164 = ad165 := (by injection e165)
                                              replace hx165_0 := (HB.out.cell (World.block_lt_of_cell? w _ hx165_0)).trans hx165_0
                                              replace p165 := eq_true p165
                                              replace q165 := eq_true q165
                                              have p166 : 0 ≤ ((rd l2 ((rd_T34 l0_0 a3).f3)) : Int) := of_decide_eq_true (by first | (with_reducible assumption) | assumption)
                                              have q166 : (rd l2 ((rd_T34 l0_0 a3).f3)) < (l1.length : Int) := of_decide_eq_true (by first | (with_reducible assumption) | assumption)
                                              obtain ⟨ad166, e166, hx166_0⟩ := Kd.at_bool HR1.out (rd l2 ((rd_T34 l0_0 a3).f3)) p166 q166
                                              (try rw [← Nbq28.out] at hx166_0)
                                              (try rw [← Nbq35.out] at hx166_0)
                                              (try rw [← Nbq40.out] at hx166_0)
                                              obtain rfl : ad163 = ad166 := (by injection e166)
                                              replace hx166_0 := (HB.out.cell (World.block_lt_of_cell? w _ hx166_0)).trans hx166_0
                                              replace p166 := eq_true p166
                                              replace q166 := eq_true q166
                                              have p167 : 0 ≤ (((rd_T34 l0_0 a3).f3) : Int) := of_decide_eq_true (by first | (with_reducible assumption) | assumption)
                                              have q167 : ((rd_T34 l0_0 a3).f3) < (l1.length : Int) := of_decide_eq_true (by first | (with_reducible assumption) | assumption)
                                              obtain ⟨ad167, e167, hx167_0⟩ := Kd.at_bool HR1.out ((rd_T34 l0_0 a3).f3) p167 q167
                                              (try rw [← Nbq28.out] at hx167_0)
                                              (try rw [← Nbq35.out] at hx167_0)
                                              (try rw [← Nbq40.out] at hx167_0)
                                              obtain rfl : ad163 = ad167 := (by injection e167)
                                              replace hx167_0 := (HB.out.cell (World.block_lt_of_cell? w _ hx167_0)).trans hx167_0
                                              replace p167 := eq_true p167
                                              replace q167 := eq_true q167
                                              have p168 : 0 ≤ (((rd_T34 l0_0 a3).f2) : Int) := of_decide_eq_true (by first | (with_reducible assumption) | assumption)
                                              have q168 : ((rd_T34 l0_0 a3).f2) < (l2.length : Int) := of_decide_eq_true (by first | (with_reducible assumption) | assumption)
                                              obtain ⟨ad168, e168, hx168_0⟩ := Kd.at_int HR2.out ((rd_T34 l0_0 a3).f2) p168 q168
                                              obtain rfl : ad164 = ad168 := (by injection e168)
                                              replace hx168_0 := (HB.out.cell (World.block_lt_of_cell? w _ hx168_0)).trans hx168_0
                                              replace p168 := eq_true p168
                                              replace q168 := eq_true q168
                                              have p169 : 0 ≤ (((rd_T34 l0_0 a3).f2) : Int) := of_decide_eq_true (by first | (with_reducible assumption) | assumption)
                                              have q169 : ((rd_T34 l0_0 a3).f2) < (l2.length : Int) := of_decide_eq_true (by first | (with_reducible assumption) | assumption)
                                              obtain ⟨ad169, e169, hx169_0⟩ := Kd.at_int HR2.out ((rd_T34 l0_0 a3).f2) p169 q169
                                              obtain rfl : ad164 = ad169 := (by injection e169)
                                              replace hx169_0 := (HB.out.cell (World.block_lt_of_cell? w _ hx169_0)).trans hx169_0
                                              replace p169 := eq_true p169
                                              replace q169 := eq_true q169
                                              have p170 : 0 ≤ ((rd l2 ((rd_T34 l0_0 a3).f2)) : Int) := of_decide_eq_true (by first | (with_reducible assumption) | assumption)
                                              have q170 : (rd l2 ((rd_T34 l0_0 a3).f2)) < (l1.length : Int) := of_decide_eq_true (by first | (with_reducible assumption) | assumption)
                                              obtain ⟨ad170, e170, hx170_0⟩ := Kd.at_bool HR1.out (rd l2 ((rd_T34 l0_0 a3).f2)) p170 q170
                                              (try rw [← Nbq28.out] at hx170_0)
                                              (try rw [← Nbq35.out] at hx170_0)
                                              (try rw [← Nbq40.out] at hx170_0)
                                              obtain rfl : ad163 = ad170 := (by injection e170)
                                              replace hx170_0 := (HB.out.cell (World.block_lt_of_cell? w _ hx170_0)).trans hx170_0
                                              replace p170 := eq_true p170
                                              replace q170 := eq_true q170
                                              go_wp2
                                              go_ret
                                              exact ⟨by first | rfl | (simp [errW_none, errW_some] <;> rfl) | (simp [*, errW_none, errW_some] <;> rfl), by repeat (first | (with_reducible first | exact HB.out | apply below_alloc | apply pw_below_drewN | apply below_drew1 | refine below_set ?_ GE159.out | refine below_set ?_ GE161.out) | exact HB.out)⟩
                                            · rw [if_neg c45] at H
                                              exact absurd H (by simp)
                                          · rw [if_neg c44] at H
                                            exact absurd H (by simp)
                                        · rw [if_neg c43] at H
                                          have c43b0 : decide (0 ≤ (rd l2 ((rd_T34 l0_0 a3).f2))) = false := decide_eq_false c43
                                          clear c43
                                          obtain rfl := Option.some.inj H
                                          have hnb48 := NB161_159.out
                                          have hnc48 := NB159_161.out
                                          have hcz49_0 : wc.cell? ⟨gb161, 0, none⟩ = some (.int .i64 ((rd_T34 l0_0 a3).f0)) := (blk_cell BK161.out 0).trans rfl
                                          have hcz49_1 : wc.cell? ⟨gb161, 1, none⟩ = some (.int .i64 ((rd_T34 l0_0 a3).f1)) := (blk_cell BK161.out 1).trans rfl
                                          have hcz49_2 : wc.cell? ⟨gb161, 2, none⟩ = some (.int .i64 ((rd_T34 l0_0 a3).f2)) := (blk_cell BK161.out 2).trans rfl
                                          have hcz49_3 : wc.cell? ⟨gb161, 3, none⟩ = some (.int .i64 ((rd_T34 l0_0 a3).f3)) := (blk_cell BK161.out 3).trans rfl
                                          have hfz49_0 := blk_frozen BK161.out 0
                                          have hfz49_1 := blk_frozen BK161.out 1
                                          have hfz49_2 := blk_frozen BK161.out 2
                                          have hfz49_3 := blk_frozen BK161.out 3
                                          have p163 : 0 ≤ (((rd_T34 l0_0 a3).f2) : Int) := of_decide_eq_true (by first | (with_reducible assumption) | assumption)
                                          have q163 : ((rd_T34 l0_0 a3).f2) < (l1.length : Int) := of_decide_eq_true (by first | (with_reducible assumption) | assumption)
                                          obtain ⟨ad163, e163, hx163_0⟩ := Kd.at_bool HR1.out ((rd_T34 l0_0 a3).f2) p163 q163
                                          (try rw [← Nbq28.out] at hx163_0)
                                          (try rw [← Nbq35.out] at hx163_0)
                                          (try rw [← Nbq40.out] at hx163_0)
                                          cases e163
                                          replace hx163_0 := (HB.out.cell (World.block_lt_of_cell? w _ hx163_0)).trans hx163_0
                                          replace p163 := eq_true p163
                                          replace q163 := eq_true q163
                                          have p164 : 0 ≤ (((rd_T34 l0_0 a3).f3) : Int) := of_decide_eq_true (by first | (with_reducible assumption) | assumption)
                                          have q164 : ((rd_T34 l0_0 a3).f3) < (l2.length : Int) := of_decide_eq_true (by first | (with_reducible assumption) | assumption)
                                          obtain ⟨ad164, e164, hx164_0⟩ := Kd.at_int HR2.out ((rd_T34 l0_0 a3).f3) p164 q164
                                          cases e164
                                          replace hx164_0 := (HB.out.cell (World.block_lt_of_cell? w _ hx164_0)).trans hx164_0
                                          replace p164 := eq_true p164
                                          replace q164 := eq_true q164
                                          have p165 : 0 ≤ (((rd_T34 l0_0 a3).f3) : Int) := of_decide_eq_true (by first | (with_reducible assumption) | assumption)
                                          have q165 : ((rd_T34 l0_0 a3).f3) < (l2.length : Int) := of_decide_eq_true (by first | (with_reducible assumption) | assumption)
                                          obtain ⟨ad165, e165, hx165_0⟩ := Kd.at_int HR2.out ((rd_T34 l0_0 a3).f3) p165 q165
                                          obtain rfl : ad164 = ad165 := (by injection e165)
                                          replace hx165_0 := (HB.out.cell (World.block_lt_of_cell? w _ hx165_0)).trans hx165_0
                                          replace p165 := eq_true p165
                                          replace q165 := eq_true q165
                                          have p166 : 0 ≤ ((rd l2 ((rd_T34 l0_0 a3).f3)) : Int) := of_decide_eq_true (by first | (with_reducible assumption) | assumption)
                                          have q166 : (rd l2 ((rd_T34 l0_0 a3).f3)) < (l1.length : Int) := of_decide_eq_true (by first | (with_reducible assumption) | assumption)
                                          obtain ⟨ad166, e166, hx166_0⟩ := Kd.at_bool HR1.out (rd l2 ((rd_T34 l0_0 a3).f3)) p166 q166
                                          (try rw [← Nbq28.out] at hx166_0)
                                          (try rw [← Nbq35.out] at hx166_0)
                                          (try rw [← Nbq40.out] at hx166_0)
                                          obtain rfl : ad163 = ad166 := (by injection e166)
                                          replace hx166_0 := (HB.out.cell (World.block_lt_of_cell? w _ hx166_0)).trans hx166_0
                                          replace p166 := eq_true p166
                                          replace q166 := eq_true q166
                                          have p167 : 0 ≤ (((rd_T34 l0_0 a3).f3) : Int) := of_decide_eq_true (by first | (with_reducible assumption) | assumption)
                                          have q167 : ((rd_T34 l0_0 a3).f3) < (l1.length : Int) := of_decide_eq_true (by first | (with_reducible assumption) | assumption)
                                          obtain ⟨ad167, e167, hx167_0⟩ := Kd.at_bool HR1.out ((rd_T34 l0_0 a3).f3) p167 q167
                                          (try rw [← Nbq28.out] at hx167_0)
                                          (try rw [← Nbq35.out] at hx167_0)
                                          (try rw [← Nbq40.out] at hx167_0)
                                          obtain rfl : ad163 = ad167 := (by injection e167)
                                          replace hx167_0 := (HB.out.cell (World.block_lt_of_cell? w _ hx167_0)).trans hx167_0
                                          replace p167 := eq_true p167
                                          replace q167 := eq_true q167
                                          have p168 : 0 ≤ (((rd_T34 l0_0 a3).f2) : Int) := of_decide_eq_true (by first | (with_reducible assumption) | assumption)
                                          have q168 : ((rd_T34 l0_0 a3).f2) < (l2.length : Int) := of_decide_eq_true (by first | (with_reducible assumption) | assumption)
                                          obtain ⟨ad168, e168, hx168_0⟩ := Kd.at_int HR2.out ((rd_T34 l0_0 a3).f2) p168 q168
                                          obtain rfl : ad164 = ad168 := (by injection e168)
                                          replace hx168_0 := (HB.out.cell (World.block_lt_of_cell? w _ hx168_0)).trans hx168_0
                                          replace p168 := eq_true p168
                                          replace q168 := eq_true q168
                                          go_wp2
                                          go_ret
                                          exact ⟨by first | rfl | (simp [errW_none, errW_some] <;> rfl) | (simp [*, errW_none, errW_some] <;> rfl), by repeat (first | (with_reducible first | exact HB.out | apply below_alloc | apply pw_below_drewN | apply below_drew1 | refine below_set ?_ GE159.out | refine below_set ?_ GE161.out) | exact HB.out)⟩
                                      · rw [if_neg c42] at H
                                        exact absurd H (by simp)
                                    · replace c41 := Bool.eq_false_iff.mpr c41
                                      subst c41
                                      have H1 : (some false) = some r := by rw [if_neg (show ¬ (false = true) by decide)] at H; exact H
                                      clear H
                                      have H := H1
                                      clear H1
                                      obtain rfl := Option.some.inj H
                                      have hnb50 := NB161_159.out
                                      have hnc50 := NB159_161.out
                                      have hcz51_0 : wc.cell? ⟨gb161, 0, none⟩ = some (.int .i64 ((rd_T34 l0_0 a3).f0)) := (blk_cell BK161.out 0).trans rfl
                                      have hcz51_1 : wc.cell? ⟨gb161, 1, none⟩ = some (.int .i64 ((rd_T34 l0_0 a3).f1)) := (blk_cell BK161.out 1).trans rfl
                                      have hcz51_2 : wc.cell? ⟨gb161, 2, none⟩ = some (.int .i64 ((rd_T34 l0_0 a3).f2)) := (blk_cell BK161.out 2).trans rfl
                                      have hcz51_3 : wc.cell? ⟨gb161, 3, none⟩ = some (.int .i64 ((rd_T34 l0_0 a3).f3)) := (blk_cell BK161.out 3).trans rfl
                                      have hfz51_0 := blk_frozen BK161.out 0
                                      have hfz51_1 := blk_frozen BK161.out 1
                                      have hfz51_2 := blk_frozen BK161.out 2
                                      have hfz51_3 := blk_frozen BK161.out 3
                                      have p163 : 0 ≤ (((rd_T34 l0_0 a3).f2) : Int) := of_decide_eq_true (by first | (with_reducible assumption) | assumption)
                                      have q163 : ((rd_T34 l0_0 a3).f2) < (l1.length : Int) := of_decide_eq_true (by first | (with_reducible assumption) | assumption)
                                      obtain ⟨ad163, e163, hx163_0⟩ := Kd.at_bool HR1.out ((rd_T34 l0_0 a3).f2) p163 q163
                                      (try rw [← Nbq28.out] at hx163_0)
                                      (try rw [← Nbq35.out] at hx163_0)
                                      (try rw [← Nbq40.out] at hx163_0)
                                      cases e163
                                      replace hx163_0 := (HB.out.cell (World.block_lt_of_cell? w _ hx163_0)).trans hx163_0
                                      replace p163 := eq_true p163
                                      replace q163 := eq_true q163
                                      have p164 : 0 ≤ (((rd_T34 l0_0 a3).f3) : Int) := of_decide_eq_true (by first | (with_reducible assumption) | assumption)
                                      have q164 : ((rd_T34 l0_0 a3).f3) < (l2.length : Int) := of_decide_eq_true (by first | (with_reducible assumption) | assumption)
                                      obtain ⟨ad164, e164, hx164_0⟩ := Kd.at_int HR2.out ((rd_T34 l0_0 a3).f3) p164 q164
                                      cases e164
                                      replace hx164_0 := (HB.out.cell (World.block_lt_of_cell? w _ hx164_0)).trans hx164_0
                                      replace p164 := eq_true p164
                                      replace q164 := eq_true q164
                                      have p165 : 0 ≤ (((rd_T34 l0_0 a3).f3) : Int) := of_decide_eq_true (by first | (with_reducible assumption) | assumption)
                                      have q165 : ((rd_T34 l0_0 a3).f3) < (l2.length : Int) := of_decide_eq_true (by first | (with_reducible assumption) | assumption)
                                      obtain ⟨ad165, e165, hx165_0⟩ := Kd.at_int HR2.out ((rd_T34 l0_0 a3).f3) p165 q165
                                      obtain rfl : ad164 = ad165 := (by injection e165)
                                      replace hx165_0 := (HB.out.cell (World.block_lt_of_cell? w _ hx165_0)).trans hx165_0
                                      replace p165 := eq_true p165
                                      replace q165 := eq_true q165
                                      have p166 : 0 ≤ ((rd l2 ((rd_T34 l0_0 a3).f3)) : Int) := of_decide_eq_true (by first | (with_reducible assumption) | assumption)
                                      have q166 : (rd l2 ((rd_T34 l0_0 a3).f3)) < (l1.length : Int) := of_decide_eq_true (by first | (with_reducible assumption) | assumption)
                                      obtain ⟨ad166, e166, hx166_0⟩ := Kd.at_bool HR1.out (rd l2 ((rd_T34 l0_0 a3).f3)) p166 q166
                                      (try rw [← Nbq28.out] at hx166_0)
                                      (try rw [← Nbq35.out] at hx166_0)
                                      (try rw [← Nbq40.out] at hx166_0)
                                      obtain rfl : ad163 = ad166 := (by injection e166)
                                      replace hx166_0 := (HB.out.cell (World.block_lt_of_cell? w _ hx166_0)).trans hx166_0
                                      replace p166 := eq_true p166
                                      replace q166 := eq_true q166
                                      have p167 : 0 ≤ (((rd_T34 l0_0 a3).f3) : Int) := of_decide_eq_true (by first | (with_reducible assumption) | assumption)
                                      have q167 : ((rd_T34 l0_0 a3).f3) < (l1.length : Int) := of_decide_eq_true (by first | (with_reducible assumption) | assumption)
                                      obtain ⟨ad167, e167, hx167_0⟩ := Kd.at_bool HR1.out ((rd_T34 l0_0 a3).f3) p167 q167
                                      (try rw [← Nbq28.out] at hx167_0)
                                      (try rw [← Nbq35.out] at hx167_0)
                                      (try rw [← Nbq40.out] at hx167_0)
                                      obtain rfl : ad163 = ad167 := (by injection e167)
                                      replace hx167_0 := (HB.out.cell (World.block_lt_of_cell? w _ hx167_0)).trans hx167_0
                                      replace p167 := eq_true p167
                                      replace q167 := eq_true q167
                                      go_wp2
                                      go_ret
                                      exact ⟨by first | rfl | (simp [errW_none, errW_some] <;> rfl) | (simp [*, errW_none, errW_some] <;> rfl), by repeat (first | (with_reducible first | exact HB.out | apply below_alloc | apply pw_below_drewN | apply below_drew1 | refine below_set ?_ GE159.out | refine below_set ?_ GE161.out) | exact HB.out)⟩
                                  · rw [if_neg c39] at H
                                    exact absurd H (by simp)
                              · rw [if_neg c34] at H
                                exact absurd H (by simp)
                            · rw [if_neg c33] at H
                              exact absurd H (by simp)
                          · rw [if_neg c32] at H
                            have c32b0 : decide (0 ≤ (rd l2 ((rd_T34 l0_0 a3).f3))) = false := decide_eq_false c32
                            clear c32
                            by_cases c52 : ((rd_T34 l0_0 a3).f3) < (l1.length : Int)
                            · rw [if_pos c52] at H
                              have c52b0 : decide (((rd_T34 l0_0 a3).f3) < (l1.length : Int)) = true := decide_eq_true c52
                              clear c52
                              obtain ⟨bq53, hbq53⟩ : ∃ b_ : Bool, b_ = (rdOf false l1 ((rd_T34 l0_0 a3).f3)) := ⟨_, rfl⟩
                              replace H : (if bq53 = true then (if ((rd_T34 l0_0 a3).f2) < (l2.length : Int) then (if (rd l2 ((rd_T34 l0_0 a3).f2)) ≥ 0 then (if 0 ≤ (rd l2 ((rd_T34 l0_0 a3).f2)) then (if (rd l2 ((rd_T34 l0_0 a3).f2)) < (l1.length : Int) then (some (rdOf false l1 (rd l2 ((rd_T34 l0_0 a3).f2)))) else (none)) else (none)) else (some false)) else (none)) else (some false)) = some r := by rw [← hbq53] at H; exact H
                              have Nbq53 := Aside0.mk hbq53
                              clear hbq53
                              by_cases c54 : bq53 = true
                              · subst c54
                                have H1 : (if ((rd_T34 l0_0 a3).f2) < (l2.length : Int) then (if (rd l2 ((rd_T34 l0_0 a3).f2)) ≥ 0 then (if 0 ≤ (rd l2 ((rd_T34 l0_0 a3).f2)) then (if (rd l2 ((rd_T34 l0_0 a3).f2)) < (l1.length : Int) then (some (rdOf false l1 (rd l2 ((rd_T34 l0_0 a3).f2)))) else (none)) else (none)) else (some false)) else (none)) = some r := by rw [if_pos rfl] at H; exact H
                                clear H
                                have H := H1
                                clear H1
                                by_cases c55 : ((rd_T34 l0_0 a3).f2) < (l2.length : Int)
                                · rw [if_pos c55] at H
                                  have c55b0 : decide (((rd_T34 l0_0 a3).f2) < (l2.length : Int)) = true := decide_eq_true c55
                                  clear c55
                                  by_cases c56 : (rd l2 ((rd_T34 l0_0 a3).f2)) ≥ 0
                                  · rw [if_pos c56] at H
                                    have c56b0 : decide (0 ≤ (rd l2 ((rd_T34 l0_0 a3).f2))) = true := decide_eq_true c56
                                    clear c56
                                    by_cases c57 : 0 ≤ (rd l2 ((rd_T34 l0_0 a3).f2))
                                    · rw [if_pos c57] at H
                                      have c57b0 : decide (0 ≤ (rd l2 ((rd_T34 l0_0 a3).f2))) = true := decide_eq_true c57
                                      clear c57
                                      by_cases c58 : (rd l2 ((rd_T34 l0_0 a3).f2)) < (l1.length : Int)
                                      · rw [if_pos c58] at H
                                        have c58b0 : decide ((rd l2 ((rd_T34 l0_0 a3).f2)) < (l1.length : Int)) = true := decide_eq_true c58
                                        clear c58
                                        obtain rfl := Option.some.inj H
                                        have hnb59 := NB161_159.out
                                        have hnc59 := NB159_161.out
                                        have hcz60_0 : wc.cell? ⟨gb161, 0, none⟩ = some (.int .i64 ((rd_T34 l0_0 a3).f0)) := (blk_cell BK161.out 0).trans rfl
                                        have hcz60_1 : wc.cell? ⟨gb161, 1, none⟩ = some (.int .i64 ((rd_T34 l0_0 a3).f1)) := (blk_cell BK161.out 1).trans rfl
                                        have hcz60_2 : wc.cell? ⟨gb161, 2, none⟩ = some (.int .i64 ((rd_T34 l0_0 a3).f2)) := (blk_cell BK161.out 2).trans rfl
                                        have hcz60_3 : wc.cell? ⟨gb161, 3, none⟩ = some (.int .i64 ((rd_T34 l0_0 a3).f3)) := (blk_cell BK161.out 3).trans rfl
                                        have hfz60_0 := blk_frozen BK161.out 0
                                        have hfz60_1 := blk_frozen BK161.out 1
                                        have hfz60_2 := blk_frozen BK161.out 2
                                        have hfz60_3 := blk_frozen BK161.out 3
                                        have p163 : 0 ≤ (((rd_T34 l0_0 a3).f2) : Int) := of_decide_eq_true (by first | (with_reducible assumption) | assumption)
                                        have q163 : ((rd_T34 l0_0 a3).f2) < (l1.length : Int) := of_decide_eq_true (by first | (with_reducible assumption) | assumption)
                                        obtain ⟨ad163, e163, hx163_0⟩ := Kd.at_bool HR1.out ((rd_T34 l0_0 a3).f2) p163 q163
                                        (try rw [← Nbq28.out] at hx163_0)
                                        (try rw [← Nbq53.out] at hx163_0)
                                        cases e163
                                        replace hx163_0 := (HB.out.cell (World.block_lt_of_cell? w _ hx163_0)).trans hx163_0
                                        replace p163 := eq_true p163
                                        replace q163 := eq_true q163
                                        have p164 : 0 ≤ (((rd_T34 l0_0 a3).f3) : Int) := of_decide_eq_true (by first | (with_reducible assumption) | assumption)
                                        have q164 : ((rd_T34 l0_0 a3).f3) < (l2.length : Int) := of_decide_eq_true (by first | (with_reducible assumption) | assumption)
                                        obtain ⟨ad164, e164, hx164_0⟩ := Kd.at_int HR2.out ((rd_T34 l0_0 a3).f3) p164 q164
                                        cases e164
                                        replace hx164_0 := (HB.out.cell (World.block_lt_of_cell? w _ hx164_0)).trans hx164_0
                                        replace p164 := eq_true p164
                                        replace q164 := eq_true q164
                                        have p171 : 0 ≤ (((rd_T34 l0_0 a3).f3) : Int) := of_decide_eq_true (by first | (with_reducible assumption) | assumption)
                                        have q171 : ((rd_T34 l0_0 a3).f3) < (l1.length : Int) := of_decide_eq_true (by first | (with_reducible assumption) | assumption)
                                        obtain ⟨ad171, e171, hx171_0⟩ := Kd.at_bool HR1.out ((rd_T34 l0_0 a3).f3) p171 q171
                                        (try rw [← Nbq28.out] at hx171_0)
                                        (try rw [← Nbq53.out] at hx171_0)
                                        obtain rfl : ad163 = ad171 := (by injection e171)
                                        replace hx171_0 := (HB.out.cell (World.block_lt_of_cell? w _ hx171_0)).trans hx171_0
                                        replace p171 := eq_true p171
                                        replace q171 := eq_true q171
                                        have p172 : 0 ≤ (((rd_T34 l0_0 a3).f2) : Int) := of_decide_eq_true (by first | (with_reducible assumption) | assumption)
                                        have q172 : ((rd_T34 l0_0 a3).f2) < (l2.length : Int) := of_decide_eq_true (by first | (with_reducible assumption) | assumption)
                                        obtain ⟨ad172, e172, hx172_0⟩ := Kd.at_int HR2.out ((rd_T34 l0_0 a3).f2) p172 q172
                                        obtain rfl : ad164 = ad172 := (by injection e172)
                                        replace hx172_0 := (HB.out.cell (World.block_lt_of_cell? w _ hx172_0)).trans hx172_0
                                        replace p172 := eq_true p172
                                        replace q172 := eq_true q172
                                        have p173 : 0 ≤ (((rd_T34 l0_0 a3).f2) : Int) := of_decide_eq_true (by first | (with_reducible assumption) | assumption)
                                        have q173 : ((rd_T34 l0_0 a3).f2) < (l2.length : Int) := of_decide_eq_true (by first | (with_reducible assumption) | assumption)
                                        obtain ⟨ad173, e173, hx173_0⟩ := Kd.at_int HR2.out ((rd_T34 l0_0 a3).f2) p173 q173
                                        obtain rfl : ad164 = ad173 := (by injection e173)
                                        replace hx173_0 := (HB.out.cell (World.block_lt_of_cell? w _ hx173_0)).trans hx173_0
                                        replace p173 := eq_true p173
                                        replace q173 := eq_true q173
                                        have p174 : 0 ≤ ((rd l2 ((rd_T34 l0_0 a3).f2)) : Int) := of_decide_eq_true (by first | (with_reducible assumption) | assumption)
                                        have q174 : (rd l2 ((rd_T34 l0_0 a3).f2)) < (l1.length : Int) := of_decide_eq_true (by first | (with_reducible assumption) | assumption)
                                        obtain ⟨ad174, e174, hx174_0⟩ := Kd.at_bool HR1.out (rd l2 ((rd_T34 l0_0 a3).f2)) p174 q174
                                        (try rw [← Nbq28.out] at hx174_0)
                                        (try rw [← Nbq53.out] at hx174_0)
                                        obtain rfl : ad163 = ad174 := (by injection e174)
                                        replace hx174_0 := (HB.out.cell (World.block_lt_of_cell? w _ hx174_0)).trans hx174_0
                                        replace p174 := eq_true p174
                                        replace q174 := eq_true q174
                                        go_wp2
                                        go_ret
                                        exact ⟨by first | rfl | (simp [errW_none, errW_some] <;> rfl) | (simp [*, errW_none, errW_some] <;> rfl), by repeat (first | (with_reducible first | exact HB.out | apply below_alloc | apply pw_below_drewN | apply below_drew1 | refine below_set ?_ GE159.out | refine below_set ?_ GE161.out) | exact HB.out)⟩
                                      · rw [if_neg c58] at H
                                        exact absurd H (by simp)
                                    · rw [if_neg c57] at H
                                      exact absurd H (by simp)
                                  · rw [if_neg c56] at H
                                    have c56b0 : decide (0 ≤ (rd l2 ((rd_T34 l0_0 a3).f2))) = false := decide_eq_false c56
                                    clear c56
                                    obtain rfl := Option.some.inj H
                                    have hnb61 := NB161_159.out
                                    have hnc61 := NB159_161.out
                                    have hcz62_0 : wc.cell? ⟨gb161, 0, none⟩ = some (.int .i64 ((rd_T34 l0_0 a3).f0)) := (blk_cell BK161.out 0).trans rfl
                                    have hcz62_1 : wc.cell? ⟨gb161, 1, none⟩ = some (.int .i64 ((rd_T34 l0_0 a3).f1)) := (blk_cell BK161.out 1).trans rfl
                                    have hcz62_2 : wc.cell? ⟨gb161, 2, none⟩ = some (.int .i64 ((rd_T34 l0_0 a3).f2)) := (blk_cell BK161.out 2).trans rfl
                                    have hcz62_3 : wc.cell? ⟨gb161, 3, none⟩ = some (.int .i64 ((rd_T34 l0_0 a3).f3)) := (blk_cell BK161.out 3).trans rfl
                                    have hfz62_0 := blk_frozen BK161.out 0
                                    have hfz62_1 := blk_frozen BK161.out 1
                                    have hfz62_2 := blk_frozen BK161.out 2
                                    have hfz62_3 := blk_frozen BK161.out 3
                                    have p163 : 0 ≤ (((rd_T34 l0_0 a3).f2) : Int) := of_decide_eq_true (by first | (with_reducible assumption) | assumption)
                                    have q163 : ((rd_T34 l0_0 a3).f2) < (l1.length : Int) := of_decide_eq_true (by first | (with_reducible assumption) | assumption)
                                    obtain ⟨ad163, e163, hx163_0⟩ := Kd.at_bool HR1.out ((rd_T34 l0_0 a3).f2) p163 q163
                                    (try rw [← Nbq28.out] at hx163_0)
                                    (try rw [← Nbq53.out] at hx163_0)
                                    cases e163
                                    replace hx163_0 := (HB.out.cell (World.block_lt_of_cell? w _ hx163_0)).trans hx163_0
                                    replace p163 := eq_true p163
                                    replace q163 := eq_true q163
                                    have p164 : 0 ≤ (((rd_T34 l0_0 a3).f3) : Int) := of_decide_eq_true (by first | (with_reducible assumption) | assumption)
                                    have q164 : ((rd_T34 l0_0 a3).f3) < (l2.length : Int) := of_decide_eq_true (by first | (with_reducible assumption) | assumption)
                                    obtain ⟨ad164, e164, hx164_0⟩ := Kd.at_int HR2.out ((rd_T34 l0_0 a3).f3) p164 q164
                                    cases e164
                                    replace hx164_0 := (HB.out.cell (World.block_lt_of_cell? w _ hx164_0)).trans hx164_0
                                    replace p164 := eq_true p164
                                    replace q164 := eq_true q164
                                    have p171 : 0 ≤ (((rd_T34 l0_0 a3).f3) : Int) := of_decide_eq_true (by first | (with_reducible assumption) | assumption)
                                    have q171 : ((rd_T34 l0_0 a3).f3) < (l1.length : Int) := of_decide_eq_true (by first | (with_reducible assumption) | assumption)
                                    obtain ⟨ad171, e171, hx171_0⟩ := Kd.at_bool HR1.out ((rd_T34 l0_0 a3).f3) p171 q171
                                    (try rw [← Nbq28.out] at hx171_0)
                                    (try rw [← Nbq53.out] at hx171_0)
                                    obtain rfl : ad163 = ad171 := (by injection e171)
                                    replace hx171_0 := (HB.out.cell (World.block_lt_of_cell? w _ hx171_0)).trans hx171_0
                                    replace p171 := eq_true p171
                                    replace q171 := eq_true q171
                                    have p172 : 0 ≤ (((rd_T34 l0_0 a3).f2) : Int) := of_decide_eq_true (by first | (with_reducible assumption) | assumption)
                                    have q172 : ((rd_T34 l0_0 a3).f2) < (l2.length : Int) := of_decide_eq_true (by first | (with_reducible assumption) | assumption)
                                    obtain ⟨ad172, e172, hx172_0⟩ := Kd.at_int HR2.out ((rd_T34 l0_0 a3).f2) p172 q172
                                    obtain rfl : ad164 = ad172 := (by injection e172)
                                    replace hx172_0 := (HB.out.cell (World.block_lt_of_cell? w _ hx172_0)).trans hx172_0
                                    replace p172 := eq_true p172
                                    replace q172 := eq_true q172
                                    go_wp2
                                    go_ret
                                    exact ⟨by first | rfl | (simp [errW_none, errW_some] <;> rfl) | (simp [*, errW_none, errW_some] <;> rfl), by repeat (first | (with_reducible first | exact HB.out | apply below_alloc | apply pw_below_drewN | apply below_drew1 | refine below_set ?_ GE159.out | refine below_set ?_ GE161.out) | exact HB.out)⟩
                                · rw [if_neg c55] at H
                                  exact absurd H (by simp)
                              · replace c54 := Bool.eq_false_iff.mpr c54
                                subst c54
                                have H1 : (some false) = some r := by rw [if_neg (show ¬ (false = true) by decide)] at H; exact H
                                clear H
                                have H := H1
                                clear H1
                                obtain rfl := Option.some.inj H
                                have hnb63 := NB161_159.out
                                have hnc63 := NB159_161.out
                                have hcz64_0 : wc.cell? ⟨gb161, 0, none⟩ = some (.int .i64 ((rd_T34 l0_0 a3).f0)) := (blk_cell BK161.out 0).trans rfl
                                have hcz64_1 : wc.cell? ⟨gb161, 1, none⟩ = some (.int .i64 ((rd_T34 l0_0 a3).f1)) := (blk_cell BK161.out 1).trans rfl
                                have hcz64_2 : wc.cell? ⟨gb161, 2, none⟩ = some (.int .i64 ((rd_T34 l0_0 a3).f2)) := (blk_cell BK161.out 2).trans rfl
                                have hcz64_3 : wc.cell? ⟨gb161, 3, none⟩ = some (.int .i64 ((rd_T34 l0_0 a3).f3)) := (blk_cell BK161.out 3).trans rfl
                                have hfz64_0 := blk_frozen BK161.out 0
                                have hfz64_1 := blk_frozen BK161.out 1
                                have hfz64_2 := blk_frozen BK161.out 2
                                have hfz64_3 := blk_frozen BK161.out 3
                                have p163 : 0 ≤ (((rd_T34 l0_0 a3).f2) : Int) := of_decide_eq_true (by first | (with_reducible assumption) | assumption)
                                have q163 : ((rd_T34 l0_0 a3).f2) < (l1.length : Int) := of_decide_eq_true (by first | (with_reducible assumption) | assumption)
                                obtain ⟨ad163, e163, hx163_0⟩ := Kd.at_bool HR1.out ((rd_T34 l0_0 a3).f2) p163 q163
                                (try rw [← Nbq28.out] at hx163_0)
                                (try rw [← Nbq53.out] at hx163_0)
                                cases e163
                                replace hx163_0 := (HB.out.cell (World.block_lt_of_cell? w _ hx163_0)).trans hx163_0
                                replace p163 := eq_true p163
                                replace q163 := eq_true q163
                                have p164 : 0 ≤ (((rd_T34 l0_0 a3).f3) : Int) := of_decide_eq_true (by first | (with_reducible assumption) | assumption)
                                have q164 : ((rd_T34 l0_0 a3).f3) < (l2.length : Int) := of_decide_eq_true (by first | (with_reducible assumption) | assumption)
                                obtain ⟨ad164, e164, hx164_0⟩ := Kd.at_int HR2.out ((rd_T34 l0_0 a3).f3) p164 q164
                                cases e164
                                replace hx164_0 := (HB.out.cell (World.block_lt_of_cell? w _ hx164_0)).trans hx164_0
                                replace p164 := eq_true p164
                                replace q164 := eq_true q164
                                have p171 : 0 ≤ (((rd_T34 l0_0 a3).f3) : Int) := of_decide_eq_true (by first | (with_reducible assumption) | assumption)
                                have q171 : ((rd_T34 l0_0 a3).f3) < (l1.length : Int) := of_decide_eq_true (by first | (with_reducible assumption) | assumption)
                                obtain ⟨ad171, e171, hx171_0⟩ := Kd.at_bool HR1.out ((rd_T34 l0_0 a3).f3) p171 q171
                                (try rw [← Nbq28.out] at hx171_0)
                                (try rw [← Nbq53.out] at hx171_0)
                                obtain rfl : ad163 = ad171 := (by injection e171)
                                replace hx171_0 := (HB.out.cell (World.block_lt_of_cell? w _ hx171_0)).trans hx171_0
                                replace p171 := eq_true p171
                                replace q171 := eq_true q171
                                go_wp2
                                go_ret
                                exact ⟨by first | rfl | (simp [errW_none, errW_some] <;> rfl) | (simp [*, errW_none, errW_some] <;> rfl), by repeat (first | (with_reducible first | exact HB.out | apply below_alloc | apply pw_below_drewN | apply below_drew1 | refine below_set ?_ GE159.out | refine below_set ?_ GE161.out) | exact HB.out)⟩
                            · rw [if_neg c52] at H
                              exact absurd H (by simp)
                        · rw [if_neg c31] at H
                          exact absurd H (by simp)
                      · rw [if_neg c30] at H
                        exact absurd H (by simp)
                    · replace c29 := Bool.eq_false_iff.mpr c29
                      subst c29
                      have H1 : (if 0 ≤ ((rd_T34 l0_0 a3).f3) then (if ((rd_T34 l0_0 a3).f3) < (l1.length : Int) then (if rdOf false l1 ((rd_T34 l0_0 a3).f3) = true then (if ((rd_T34 l0_0 a3).f2) < (l2.length : Int) then (if (rd l2 ((rd_T34 l0_0 a3).f2)) ≥ 0 then (if 0 ≤ (rd l2 ((rd_T34 l0_0 a3).f2)) then (if (rd l2 ((rd_T34 l0_0 a3).f2)) < (l1.length : Int) then (some (rdOf false l1 (rd l2 ((rd_T34 l0_0 a3).f2)))) else (none)) else (none)) else (some false)) else (none)) else (some false)) else (none)) else (none)) = some r := by rw [if_neg (show ¬ (false = true) by decide)] at H; exact H
                      clear H
                      have H := H1
                      clear H1
                      by_cases c65 : 0 ≤ ((rd_T34 l0_0 a3).f3)
                      · rw [if_pos c65] at H
                        have c65b0 : decide (0 ≤ ((rd_T34 l0_0 a3).f3)) = true := decide_eq_true c65
                        clear c65
                        by_cases c66 : ((rd_T34 l0_0 a3).f3) < (l1.length : Int)
                        · rw [if_pos c66] at H
                          have c66b0 : decide (((rd_T34 l0_0 a3).f3) < (l1.length : Int)) = true := decide_eq_true c66
                          clear c66
                          obtain ⟨bq67, hbq67⟩ : ∃ b_ : Bool, b_ = (rdOf false l1 ((rd_T34 l0_0 a3).f3)) := ⟨_, rfl⟩
                          replace H : (if bq67 = true then (if ((rd_T34 l0_0 a3).f2) < (l2.length : Int) then (if (rd l2 ((rd_T34 l0_0 a3).f2)) ≥ 0 then (if 0 ≤ (rd l2 ((rd_T34 l0_0 a3).f2)) then (if (rd l2 ((rd_T34 l0_0 a3).f2)) < (l1.length : Int) then (some (rdOf false l1 (rd l2 ((rd_T34 l0_0 a3).f2)))) else (none)) else (none)) else (some false)) else (none)) else (some false)) = some r := by rw [← hbq67] at H; exact H
                          have Nbq67 := Aside0.mk hbq67
                          clear hbq67
                          by_cases c68 : bq67 = true
                          · subst c68
                            have H1 : (if ((rd_T34 l0_0 a3).f2) < (l2.length : Int) then (if (rd l2 ((rd_T34 l0_0 a3).f2)) ≥ 0 then (if 0 ≤ (rd l2 ((rd_T34 l0_0 a3).f2)) then (if (rd l2 ((rd_T34 l0_0 a3).f2)) < (l1.length : Int) then (some (rdOf false l1 (rd l2 ((rd_T34 l0_0 a3).f2)))) else (none)) else (none)) else (some false)) else (none)) = some r := by rw [if_pos rfl] at H; exact H
                            clear H
                            have H := H1
                            clear H1
                            by_cases c69 : ((rd_T34 l0_0 a3).f2) < (l2.length : Int)
                            · rw [if_pos c69] at H
                              have c69b0 : decide (((rd_T34 l0_0 a3).f2) < (l2.length : Int)) = true := decide_eq_true c69
                              clear c69
                              by_cases c70 : (rd l2 ((rd_T34 l0_0 a3).f2)) ≥ 0
                              · rw [if_pos c70] at H
                                have c70b0 : decide (0 ≤ (rd l2 ((rd_T34 l0_0 a3).f2))) = true := decide_eq_true c70
                                clear c70
                                by_cases c71 : 0 ≤ (rd l2 ((rd_T34 l0_0 a3).f2))
                                · rw [if_pos c71] at H
                                  have c71b0 : decide (0 ≤ (rd l2 ((rd_T34 l0_0 a3).f2))) = true := decide_eq_true c71
                                  clear c71
                                  by_cases c72 : (rd l2 ((rd_T34 l0_0 a3).f2)) < (l1.length : Int)
                                  · rw [if_pos c72] at H
                                    have c72b0 : decide ((rd l2 ((rd_T34 l0_0 a3).f2)) < (l1.length : Int)) = true := decide_eq_true c72
                                    clear c72
                                    obtain rfl := Option.some.inj H
                                    have hnb73 := NB161_159.out
                                    have hnc73 := NB159_161.out
                                    have hcz74_0 : wc.cell? ⟨gb161, 0, none⟩ = some (.int .i64 ((rd_T34 l0_0 a3).f0)) := (blk_cell BK161.out 0).trans rfl
                                    have hcz74_1 : wc.cell? ⟨gb161, 1, none⟩ = some (.int .i64 ((rd_T34 l0_0 a3).f1)) := (blk_cell BK161.out 1).trans rfl
                                    have hcz74_2 : wc.cell? ⟨gb161, 2, none⟩ = some (.int .i64 ((rd_T34 l0_0 a3).f2)) := (blk_cell BK161.out 2).trans rfl
                                    have hcz74_3 : wc.cell? ⟨gb161, 3, none⟩ = some (.int .i64 ((rd_T34 l0_0 a3).f3)) := (blk_cell BK161.out 3).trans rfl
                                    have hfz74_0 := blk_frozen BK161.out 0
                                    have hfz74_1 := blk_frozen BK161.out 1
                                    have hfz74_2 := blk_frozen BK161.out 2
                                    have hfz74_3 := blk_frozen BK161.out 3
                                    have p163 : 0 ≤ (((rd_T34 l0_0 a3).f2) : Int) := of_decide_eq_true (by first | (with_reducible assumption) | assumption)
                                    have q163 : ((rd_T34 l0_0 a3).f2) < (l1.length : Int) := of_decide_eq_true (by first | (with_reducible assumption) | assumption)
                                    obtain ⟨ad163, e163, hx163_0⟩ := Kd.at_bool HR1.out ((rd_T34 l0_0 a3).f2) p163 q163
                                    (try rw [← Nbq28.out] at hx163_0)
                                    (try rw [← Nbq67.out] at hx163_0)
                                    cases e163
                                    replace hx163_0 := (HB.out.cell (World.block_lt_of_cell? w _ hx163_0)).trans hx163_0
                                    replace p163 := eq_true p163
                                    replace q163 := eq_true q163
                                    have p175 : 0 ≤ (((rd_T34 l0_0 a3).f3) : Int) := of_decide_eq_true (by first | (with_reducible assumption) | assumption)
                                    have q175 : ((rd_T34 l0_0 a3).f3) < (l1.length : Int) := of_decide_eq_true (by first | (with_reducible assumption) | assumption)
                                    obtain ⟨ad175, e175, hx175_0⟩ := Kd.at_bool HR1.out ((rd_T34 l0_0 a3).f3) p175 q175
                                    (try rw [← Nbq28.out] at hx175_0)
                                    (try rw [← Nbq67.out] at hx175_0)
                                    obtain rfl : ad163 = ad175 := (by injection e175)
                                    replace hx175_0 := (HB.out.cell (World.block_lt_of_cell? w _ hx175_0)).trans hx175_0
                                    replace p175 := eq_true p175
                                    replace q175 := eq_true q175
                                    have p176 : 0 ≤ (((rd_T34 l0_0 a3).f2) : Int) := of_decide_eq_true (by first | (with_reducible assumption) | assumption)
                                    have q176 : ((rd_T34 l0_0 a3).f2) < (l2.length : Int) := of_decide_eq_true (by first | (with_reducible assumption) | assumption)
                                    obtain ⟨ad176, e176, hx176_0⟩ := Kd.at_int HR2.out ((rd_T34 l0_0 a3).f2) p176 q176
                                    cases e176
                                    replace hx176_0 := (HB.out.cell (World.block_lt_of_cell? w _ hx176_0)).trans hx176_0
                                    replace p176 := eq_true p176
                                    replace q176 := eq_true q176
                                    have p177 : 0 ≤ (((rd_T34 l0_0 a3).f2) : Int) := of_decide_eq_true (by first | (with_reducible assumption) | assumption)
                                    have q177 : ((rd_T34 l0_0 a3).f2) < (l2.length : Int) := of_decide_eq_true (by first | (with_reducible assumption) | assumption)
                                    obtain ⟨ad177, e177, hx177_0⟩ := Kd.at_int HR2.out ((rd_T34 l0_0 a3).f2) p177 q177
                                    obtain rfl : ad176 = ad177 := (by injection e177)
                                    replace hx177_0 := (HB.out.cell (World.block_lt_of_cell? w _ hx177_0)).trans hx177_0
                                    replace p177 := eq_true p177
                                    replace q177 := eq_true q177
                                    have p178 : 0 ≤ ((rd l2 ((rd_T34 l0_0 a3).f2)) : Int) := of_decide_eq_true (by first | (with_reducible assumption) | assumption)
                                    have q178 : (rd l2 ((rd_T34 l0_0 a3).f2)) < (l1.length : Int) := of_decide_eq_true (by first | (with_reducible assumption) | assumption)
                                    obtain ⟨ad178, e178, hx178_0⟩ := Kd.at_bool HR1.out (rd l2 ((rd_T34 l0_0 a3).f2)) p178 q178
                                    (try rw [← Nbq28.out] at hx178_0)
                                    (try rw [← Nbq67.out] at hx178_0)
                                    obtain rfl : ad163 = ad178 := (by injection e178)
                                    replace hx178_0 := (HB.out.cell (World.block_lt_of_cell? w _ hx178_0)).trans hx178_0
                                    replace p178 := eq_true p178
                                    replace q178 := eq_true q178
                                    go_wp2
                                    go_ret
                                    exact ⟨by first | rfl | (simp [errW_none, errW_some] <;> rfl) | (simp [*, errW_none, errW_some] <;> rfl), by repeat (first | (with_reducible first | exact HB.out | apply below_alloc | apply pw_below_drewN | apply below_drew1 | refine below_set ?_ GE159.out | refine below_set ?_ GE161.out) | exact HB.out)⟩
                                  · rw [if_neg c72] at H
                                    exact absurd H (by simp)
                                · rw [if_neg c71] at H
                                  exact absurd H (by simp)
                              · rw [if_neg c70] at H
                                have c70b0 : decide (0 ≤ (rd l2 ((rd_T34 l0_0 a3).f2))) = false := decide_eq_false c70
                                clear c70
                                obtain rfl := Option.some.inj H
                                have hnb75 := NB161_159.out
                                have hnc75 := NB159_161.out
                                have hcz76_0 : wc.cell? ⟨gb161, 0, none⟩ = some (.int .i64 ((rd_T34 l0_0 a3).f0)) := (blk_cell BK161.out 0).trans rfl
                                have hcz76_1 : wc.cell? ⟨gb161, 1, none⟩ = some (.int .i64 ((rd_T34 l0_0 a3).f1)) := (blk_cell BK161.out 1).trans rfl
                                have hcz76_2 : wc.cell? ⟨gb161, 2, none⟩ = some (.int .i64 ((rd_T34 l0_0 a3).f2)) := (blk_cell BK161.out 2).trans rfl
                                have hcz76_3 : wc.cell? ⟨gb161, 3, none⟩ = some (.int .i64 ((rd_T34 l0_0 a3).f3)) := (blk_cell BK161.out 3).trans rfl
                                have hfz76_0 := blk_frozen BK161.out 0
                                have hfz76_1 := blk_frozen BK161.out 1
                                have hfz76_2 := blk_frozen BK161.out 2
                                have hfz76_3 := blk_frozen BK161.out 3
                                have p163 : 0 ≤ (((rd_T34 l0_0 a3).f2) : Int) := of_decide_eq_true (by first | (with_reducible assumption) | assumption)
                                have q163 : ((rd_T34 l0_0 a3).f2) < (l1.length : Int) := of_decide_eq_true (by first | (with_reducible assumption) | assumption)
                                obtain ⟨ad163, e163, hx163_0⟩ := Kd.at_bool HR1.out ((rd_T34 l0_0 a3).f2) p163 q163
                                (try rw [← Nbq28.out] at hx163_0)
                                (try rw [← Nbq67.out] at hx163_0)
                                cases e163
                                replace hx163_0 := (HB.out.cell (World.block_lt_of_cell? w _ hx163_0)).trans hx163_0
                                replace p163 := eq_true p163
                                replace q163 := eq_true q163
                                have p175 : 0 ≤ (((rd_T34 l0_0 a3).f3) : Int) := of_decide_eq_true (by first | (with_reducible assumption) | assumption)
                                have q175 : ((rd_T34 l0_0 a3).f3) < (l1.length : Int) := of_decide_eq_true (by first | (with_reducible assumption) | assumption)
                                obtain ⟨ad175, e175, hx175_0⟩ := Kd.at_bool HR1.out ((rd_T34 l0_0 a3).f3) p175 q175
                                (try rw [← Nbq28.out] at hx175_0)
                                (try rw [← Nbq67.out] at hx175_0)
                                obtain rfl : ad163 = ad175 := (by injection e175)
                                replace hx175_0 := (HB.out.cell (World.block_lt_of_cell? w _ hx175_0)).trans hx175_0
                                replace p175 := eq_true p175
                                replace q175 := eq_true q175
                                have p176 : 0 ≤ (((rd_T34 l0_0 a3).f2) : Int) := of_decide_eq_true (by first | (with_reducible assumption) | assumption)
                                have q176 : ((rd_T34 l0_0 a3).f2) < (l2.length : Int) := of_decide_eq_true (by first | (with_reducible assumption) | assumption)
                                obtain ⟨ad176, e176, hx176_0⟩ := Kd.at_int HR2.out ((rd_T34 l0_0 a3).f2) p176 q176
                                cases e176
                                replace hx176_0 := (HB.out.cell (World.block_lt_of_cell? w _ hx176_0)).trans hx176_0
                                replace p176 := eq_true p176
                                replace q176 := eq_true q176
                                go_wp2
                                go_ret
                                exact ⟨by first | rfl | (simp [errW_none, errW_some] <;> rfl) | (simp [*, errW_none, errW_some] <;> rfl), by repeat (first | (with_reducible first | exact HB.out | apply below_alloc | apply pw_below_drewN | apply below_drew1 | refine below_set ?_ GE159.out | refine below_set ?_ GE161.out) | exact HB.out)⟩
                            · rw [if_neg c69] at H
                              exact absurd H (by simp)
                          · replace c68 := Bool.eq_false_iff.mpr c68
                            subst c68
                            have H1 : (some false) = some r := by rw [if_neg (show ¬ (false = true) by decide)] at H; exact H
                            clear H
                            have H := H1
                            clear H1
                            obtain rfl := Option.some.inj H
                            have hnb77 := NB161_159.out
                            have hnc77 := NB159_161.out
                            have hcz78_0 : wc.cell? ⟨gb161, 0, none⟩ = some (.int .i64 ((rd_T34 l0_0 a3).f0)) := (blk_cell BK161.out 0).trans rfl
                            have hcz78_1 : wc.cell? ⟨gb161, 1, none⟩ = some (.int .i64 ((rd_T34 l0_0 a3).f1)) := (blk_cell BK161.out 1).trans rfl
                            have hcz78_2 : wc.cell? ⟨gb161, 2, none⟩ = some (.int .i64 ((rd_T34 l0_0 a3).f2)) := (blk_cell BK161.out 2).trans rfl
                            have hcz78_3 : wc.cell? ⟨gb161, 3, none⟩ = some (.int .i64 ((rd_T34 l0_0 a3).f3)) := (blk_cell BK161.out 3).trans rfl
                            have hfz78_0 := blk_frozen BK161.out 0
                            have hfz78_1 := blk_frozen BK161.out 1
                            have hfz78_2 := blk_frozen BK161.out 2
                            have hfz78_3 := blk_frozen BK161.out 3
                            have p163 : 0 ≤ (((rd_T34 l0_0 a3).f2) : Int) := of_decide_eq_true (by first | (with_reducible assumption) | assumption)
                            have q163 : ((rd_T34 l0_0 a3).f2) < (l1.length : Int) := of_decide_eq_true (by first | (with_reducible assumption) | assumption)
                            obtain ⟨ad163, e163, hx163_0⟩ := Kd.at_bool HR1.out ((rd_T34 l0_0 a3).f2) p163 q163
                            (try rw [← Nbq28.out] at hx163_0)
                            (try rw [← Nbq67.out] at hx163_0)
                            cases e163
                            replace hx163_0 := (HB.out.cell (World.block_lt_of_cell? w _ hx163_0)).trans hx163_0
                            replace p163 := eq_true p163
                            replace q163 := eq_true q163
                            have p175 : 0 ≤ (((rd_T34 l0_0 a3).f3) : Int) := of_decide_eq_true (by first | (with_reducible assumption) | assumption)
                            have q175 : ((rd_T34 l0_0 a3).f3) < (l1.length : Int) := of_decide_eq_true (by first | (with_reducible assumption) | assumption)
                            obtain ⟨ad175, e175, hx175_0⟩ := Kd.at_bool HR1.out ((rd_T34 l0_0 a3).f3) p175 q175
                            (try rw [← Nbq28.out] at hx175_0)
                            (try rw [← Nbq67.out] at hx175_0)
                            obtain rfl : ad163 = ad175 := (by injection e175)
                            replace hx175_0 := (HB.out.cell (World.block_lt_of_cell? w _ hx175_0)).trans hx175_0
                            replace p175 := eq_true p175
                            replace q175 := eq_true q175
                            go_wp2
                            go_ret
                            exact ⟨by first | rfl | (simp [errW_none, errW_some] <;> rfl) | (simp [*, errW_none, errW_some] <;> rfl), by repeat (first | (with_reducible first | exact HB.out | apply below_alloc | apply pw_below_drewN | apply below_drew1 | refine below_set ?_ GE159.out | refine below_set ?_ GE161.out) | exact HB.out)⟩
                        · rw [if_neg c66] at H
                          exact absurd H (by simp)
                      · rw [if_neg c65] at H
                        exact absurd H (by simp)
                  · rw [if_neg c27] at H
                    exact absurd H (by simp)
                · rw [if_neg c26] at H
                  exact absurd H (by simp)
              · rw [if_neg c25] at H
                have c25b0 : (((rd_T34 l0_0 a3).f0) == 7) = false := beq_eq_false_iff_ne.mpr c25
                have c25b1 : (((rd_T34 l0_0 a3).f0) != 7) = true := bne_iff_ne.mpr c25
                by_cases c79 : 0 ≤ ((rd_T34 l0_0 a3).f2)
                · rw [if_pos c79] at H
                  have c79b0 : decide (0 ≤ ((rd_T34 l0_0 a3).f2)) = true := decide_eq_true c79
                  clear c79
                  by_cases c80 : ((rd_T34 l0_0 a3).f2) < (l1.length : Int)
                  · rw [if_pos c80] at H
                    have c80b0 : decide (((rd_T34 l0_0 a3).f2) < (l1.length : Int)) = true := decide_eq_true c80
                    clear c80
                    obtain ⟨bq81, hbq81⟩ : ∃ b_ : Bool, b_ = (rdOf false l1 ((rd_T34 l0_0 a3).f2)) := ⟨_, rfl⟩
                    replace H : (if bq81 = true then (if 0 ≤ ((rd_T34 l0_0 a3).f3) then (if ((rd_T34 l0_0 a3).f3) < (l1.length : Int) then (some (rdOf false l1 ((rd_T34 l0_0 a3).f3))) else (none)) else (none)) else (some false)) = some r := by rw [← hbq81] at H; exact H
                    have Nbq81 := Aside0.mk hbq81
                    clear hbq81
                    by_cases c82 : bq81 = true
                    · subst c82
                      have H1 : (if 0 ≤ ((rd_T34 l0_0 a3).f3) then (if ((rd_T34 l0_0 a3).f3) < (l1.length : Int) then (some (rdOf false l1 ((rd_T34 l0_0 a3).f3))) else (none)) else (none)) = some r := by rw [if_pos rfl] at H; exact H
                      clear H
                      have H := H1
                      clear H1
                      by_cases c83 : 0 ≤ ((rd_T34 l0_0 a3).f3)
                      · rw [if_pos c83] at H
                        have c83b0 : decide (0 ≤ ((rd_T34 l0_0 a3).f3)) = true := decide_eq_true c83
                        clear c83
                        by_cases c84 : ((rd_T34 l0_0 a3).f3) < (l1.length : Int)
                        · rw [if_pos c84] at H
                          have c84b0 : decide (((rd_T34 l0_0 a3).f3) < (l1.length : Int)) = true := decide_eq_true c84
                          clear c84
                          obtain rfl := Option.some.inj H
                          have hnb85 := NB161_159.out
                          have hnc85 := NB159_161.out
                          have hcz86_0 : wc.cell? ⟨gb161, 0, none⟩ = some (.int .i64 ((rd_T34 l0_0 a3).f0)) := (blk_cell BK161.out 0).trans rfl
                          have hcz86_1 : wc.cell? ⟨gb161, 1, none⟩ = some (.int .i64 ((rd_T34 l0_0 a3).f1)) := (blk_cell BK161.out 1).trans rfl
                          have hcz86_2 : wc.cell? ⟨gb161, 2, none⟩ = some (.int .i64 ((rd_T34 l0_0 a3).f2)) := (blk_cell BK161.out 2).trans rfl
                          have hcz86_3 : wc.cell? ⟨gb161, 3, none⟩ = some (.int .i64 ((rd_T34 l0_0 a3).f3)) := (blk_cell BK161.out 3).trans rfl
                          have hfz86_0 := blk_frozen BK161.out 0
                          have hfz86_1 := blk_frozen BK161.out 1
                          have hfz86_2 := blk_frozen BK161.out 2
                          have hfz86_3 := blk_frozen BK161.out 3
                          have p179 : 0 ≤ (((rd_T34 l0_0 a3).f2) : Int) := of_decide_eq_true (by first | (with_reducible assumption) | assumption)
                          have q179 : ((rd_T34 l0_0 a3).f2) < (l1.length : Int) := of_decide_eq_true (by first | (with_reducible assumption) | assumption)
                          obtain ⟨ad179, e179, hx179_0⟩ := Kd.at_bool HR1.out ((rd_T34 l0_0 a3).f2) p179 q179
                          (try rw [← Nbq81.out] at hx179_0)
                          cases e179
                          replace hx179_0 := (HB.out.cell (World.block_lt_of_cell? w _ hx179_0)).trans hx179_0
                          replace p179 := eq_true p179
                          replace q179 := eq_true q179
                          have p180 : 0 ≤ (((rd_T34 l0_0 a3).f3) : Int) := of_decide_eq_true (by first | (with_reducible assumption) | assumption)
                          have q180 : ((rd_T34 l0_0 a3).f3) < (l1.length : Int) := of_decide_eq_true (by first | (with_reducible assumption) | assumption)
                          obtain ⟨ad180, e180, hx180_0⟩ := Kd.at_bool HR1.out ((rd_T34 l0_0 a3).f3) p180 q180
                          (try rw [← Nbq81.out] at hx180_0)
                          obtain rfl : ad179 = ad180 := (by injection e180)
                          replace hx180_0 := (HB.out.cell (World.block_lt_of_cell? w _ hx180_0)).trans hx180_0
                          replace p180 := eq_true p180
                          replace q180 := eq_true q180
                          go_wp2
                          go_ret
                          exact ⟨by first | rfl | (simp [errW_none, errW_some] <;> rfl) | (simp [*, errW_none, errW_some] <;> rfl), by repeat (first | (with_reducible first | exact HB.out | apply below_alloc | apply pw_below_drewN | apply below_drew1 | refine below_set ?_ GE159.out | refine below_set ?_ GE161.out) | exact HB.out)⟩
                        · rw [if_neg c84] at H
                          exact absurd H (by simp)
                      · rw [if_neg c83] at H
                        exact absurd H (by simp)
                    · replace c82 := Bool.eq_false_iff.mpr c82
                      subst c82
                      have H1 : (some false) = some r := by rw [if_neg (show ¬ (false = true) by decide)] at H; exact H
                      clear H
                      have H := H1
                      clear H1
                      obtain rfl := Option.some.inj H
                      have hnb87 := NB161_159.out
                      have hnc87 := NB159_161.out
                      have hcz88_0 : wc.cell? ⟨gb161, 0, none⟩ = some (.int .i64 ((rd_T34 l0_0 a3).f0)) := (blk_cell BK161.out 0).trans rfl
                      have hcz88_1 : wc.cell? ⟨gb161, 1, none⟩ = some (.int .i64 ((rd_T34 l0_0 a3).f1)) := (blk_cell BK161.out 1).trans rfl
                      have hcz88_2 : wc.cell? ⟨gb161, 2, none⟩ = some (.int .i64 ((rd_T34 l0_0 a3).f2)) := (blk_cell BK161.out 2).trans rfl
                      have hcz88_3 : wc.cell? ⟨gb161, 3, none⟩ = some (.int .i64 ((rd_T34 l0_0 a3).f3)) := (blk_cell BK161.out 3).trans rfl
                      have hfz88_0 := blk_frozen BK161.out 0
                      have hfz88_1 := blk_frozen BK161.out 1
                      have hfz88_2 := blk_frozen BK161.out 2
                      have hfz88_3 := blk_frozen BK161.out 3
                      have p179 : 0 ≤ (((rd_T34 l0_0 a3).f2) : Int) := of_decide_eq_true (by first | (with_reducible assumption) | assumption)
                      have q179 : ((rd_T34 l0_0 a3).f2) < (l1.length : Int) := of_decide_eq_true (by first | (with_reducible assumption) | assumption)
                      obtain ⟨ad179, e179, hx179_0⟩ := Kd.at_bool HR1.out ((rd_T34 l0_0 a3).f2) p179 q179
                      (try rw [← Nbq81.out] at hx179_0)
                      cases e179
                      replace hx179_0 := (HB.out.cell (World.block_lt_of_cell? w _ hx179_0)).trans hx179_0
                      replace p179 := eq_true p179
                      replace q179 := eq_true q179
                      go_wp2
                      go_ret
                      exact ⟨by first | rfl | (simp [errW_none, errW_some] <;> rfl) | (simp [*, errW_none, errW_some] <;> rfl), by repeat (first | (with_reducible first | exact HB.out | apply below_alloc | apply pw_below_drewN | apply below_drew1 | refine below_set ?_ GE159.out | refine below_set ?_ GE161.out) | exact HB.out)⟩
                  · rw [if_neg c80] at H
                    exact absurd H (by simp)
                · rw [if_neg c79] at H
                  exact absurd H (by simp)
    · rw [if_neg c6] at H
      exact absurd H (by simp)
  · rw [if_neg c5] at H
    exact absurd H (by simp)

end Go.Proofs.Ytkckdibalopagaa.SFnSecrets
