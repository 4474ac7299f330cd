-- Began as a print of the kit over stubs (wip/stub.py); the sections that are named OWN are this session's.
import Derived.Test.YtkckdibalopagaaSFnTermsx0
import Derived.Test.YtkckdibalopagaaSFnTermsx1
import Derived.Test.YtkckdibalopagaaSFnTermsx4
import Derived.Test.YtkckdibalopagaaUShort
namespace Go.Proofs.Ytkckdibalopagaa.SFnTerms
open Go.RowKit Go.Proofs.YtkckdibalopagaaW.PrintWords Go.Proofs.YtkckdibalopagaaW.PrintLast Go.Proofs.YtkckdibalopagaaW.PrintMore Go.Proofs.Ytkckdibalopagaa.Short
attribute [local go_sem] max2_int min2_int max_two min_two max_three min_three max_four min_four   -- for this text's walks alone
set_option linter.unusedVariables false
set_option linter.unusedSimpArgs false

attribute [local go_sem high] eqA34
/-! ### laws_sameArena: function 61 -/
def laws_sameArena.l0 : Nat → Int → List (S34) → List (S34) → Option (Bool)
  | 0, _, _, _ => none
  | k + 1, x5, x280000, x281000 => if x5 < (x280000.length : Int) then (if 0 ≤ x5 then (if x5 < (x281000.length : Int) then (if (!(((rd_T34 x280000 x5).f0) == ((rd_T34 x281000 x5).f0)) || (!(((rd_T34 x280000 x5).f1) == ((rd_T34 x281000 x5).f1)) || (!(((rd_T34 x280000 x5).f2) == ((rd_T34 x281000 x5).f2)) || (!(((rd_T34 x280000 x5).f3) == ((rd_T34 x281000 x5).f3)))))) = true then (some false) else (laws_sameArena.l0 k (wrap64 (x5 + 1)) x280000 x281000)) else (none)) else (none)) else (some true)
def laws_sameArena.f (k : Nat) (l0_0 : List (S34)) (l1_0 : List (S34)) : Option (Bool) := if (l0_0.length : Int) = (l1_0.length : Int) then (laws_sameArena.l0 k 0 l0_0 l1_0) else (some false)
set_option maxHeartbeats 8000000 in
set_option maxRecDepth 100000 in
theorem laws_sameArena.calls (k : Nat) (A0_0 : Option Addr) (c0_0 : Nat) (l0_0 : List (S34)) (A1_0 : Option Addr) (c1_0 : Nat) (l1_0 : List (S34)) (r : Bool) (w : World) (hr0_0 : Kd.C k34 w A0_0 l0_0.length l0_0) (hc0_0 : l0_0.length ≤ c0_0) (hr1_0 : Kd.C k34 w A1_0 l1_0.length l1_0) (hc1_0 : l1_0.length ≤ c1_0) (h : laws_sameArena.f k l0_0 l1_0 = some r) :
  Calls Try.prog 61 #[.agg #[.slice A0_0 l0_0.length c0_0], .agg #[.slice A1_0 l1_0.length c1_0]] w fun e w' => e = .returned (.bool r) ∧ Below w.heap.size w w' := by
 have hu26 := Try.underlying26
 have hu34 := Try.underlying34
 have HR0_0 := Aside0.mk hr0_0
 have HC0_0 := Aside0.mk hc0_0
 clear hr0_0 hc0_0
 have HR1_0 := Aside0.mk hr1_0
 have HC1_0 := Aside0.mk hc1_0
 clear hr1_0 hc1_0
 have HB := Aside0.mk (Below.refl w.heap.size w)
 have H : (if (l0_0.length : Int) = (l1_0.length : Int) then (laws_sameArena.l0 k 0 l0_0 l1_0) else (some false)) = some r := h
 clear h
 by_cases c3 : (l0_0.length : Int) = (l1_0.length : Int)
 ·rw [if_pos c3] at H
  have c3b0 : ((l0_0.length : Int) == (l1_0.length : Int)) = true := beq_iff_eq.mpr c3
  have c3b1 : ((l0_0.length : Int) != (l1_0.length : Int)) = false := bne_eq_false_iff_eq.mpr c3
  have c3b2 : (l0_0.length == l1_0.length) = true := by first | simpa using c3 | (simp at c3 ⊢; omega)
  clear c3
  have H' := Aside0.mk H
  clear H
  go_enter Try.func61, Try.ntmps61
  go_wp2_with (first | ((with_reducible refine gate_dst (N := 2) rfl ?_); refine box_event ?hg (N := 2) ?hd (cs := #[.slice A0_0 l0_0.length c0_0]) (t := 26) ?hr ?_; (case hd => rfl); (case hg => rfl); (case hr => first | (go_simp; done) | (go_simp; rfl)); intro gb279 hg w4 hbox hb; have n0_ := Aside0.mk (below_step (bw HB.out) hb); have n1_ := Aside0.mk (hbox); have n2_ := Aside0.mk ((by rw [hg]; exact (below_size (bw HB.out)) : w.heap.size ≤ gb279)); have n3_ := Aside0.mk ((by rw [hg]; exact (below_size (bw HB.out)) : w.heap.size ≤ gb279)); clear HB; have HB := n0_; have BK279 := n1_; have GW279 := n2_; have GE279 := n3_; clear n0_ n1_ n2_ n3_ hb hbox hg) | ((with_reducible refine gate_dst (N := 3) rfl ?_); refine box_event ?hg (N := 3) ?hd (cs := #[.slice A1_0 l1_0.length c1_0]) (t := 26) ?hr ?_; (case hd => rfl); (case hg => rfl); (case hr => first | (go_simp; done) | (go_simp; rfl)); intro gb280 hg w5 hbox hb; have n0_ := Aside0.mk (blk_below (g := gb279) (o := .cells #[.slice A0_0 l0_0.length c0_0] 26 (0, 0)) (bl BK279.out) hb); have n1_ := Aside0.mk (below_step (bw HB.out) hb); have n2_ := Aside0.mk (hbox); have n3_ := Aside0.mk ((by rw [hg]; exact (below_size (bw HB.out)) : w.heap.size ≤ gb280)); have n4_ := Aside0.mk ((by rw [hg]; exact (below_size (bw HB.out)) : w.heap.size ≤ gb280)); have n5_ := Aside0.mk ((by rw [hg]; exact Nat.ne_of_lt (blk_lt (g := gb279) (o := .cells #[.slice A0_0 l0_0.length c0_0] 26 (0, 0)) (bl BK279.out)) : gb279 ≠ gb280)); have n6_ := Aside0.mk ((by rw [hg]; exact Nat.ne_of_gt (blk_lt (g := gb279) (o := .cells #[.slice A0_0 l0_0.length c0_0] 26 (0, 0)) (bl BK279.out)) : gb280 ≠ gb279)); clear BK279 HB; have BK279 := n0_; have HB := n1_; have BK280 := n2_; have GW280 := n3_; have GE280 := n4_; have NB279_280 := n5_; have NB280_279 := n6_; clear n0_ n1_ n2_ n3_ n4_ n5_ n6_ hb hbox hg; have hnb6 := NB279_280.out; have hnc6 := NB280_279.out; have hcz7_0 : w5.cell? ⟨gb279, 0, none⟩ = some (.slice A0_0 l0_0.length c0_0) := (blk_cell BK279.out 0).trans rfl; have hfz7_0 := blk_frozen BK279.out 0; have hcz8_0 : w5.cell? ⟨gb280, 0, none⟩ = some (.slice A1_0 l1_0.length c1_0) := (blk_cell BK280.out 0).trans rfl; have hfz8_0 := blk_frozen BK280.out 0))
  repeat (go_quiet (first | ((with_reducible refine gate_dst (N := 2) rfl ?_); refine box_event ?hg (N := 2) ?hd (cs := #[.slice A0_0 l0_0.length c0_0]) (t := 26) ?hr ?_; (case hd => rfl); (case hg => rfl); (case hr => first | (go_simp; done) | (go_simp; rfl)); intro gb279 hg w4 hbox hb; have n0_ := Aside0.mk (below_step (bw HB.out) hb); have n1_ := Aside0.mk (hbox); have n2_ := Aside0.mk ((by rw [hg]; exact (below_size (bw HB.out)) : w.heap.size ≤ gb279)); have n3_ := Aside0.mk ((by rw [hg]; exact (below_size (bw HB.out)) : w.heap.size ≤ gb279)); clear HB; have HB := n0_; have BK279 := n1_; have GW279 := n2_; have GE279 := n3_; clear n0_ n1_ n2_ n3_ hb hbox hg) | ((with_reducible refine gate_dst (N := 3) rfl ?_); refine box_event ?hg (N := 3) ?hd (cs := #[.slice A1_0 l1_0.length c1_0]) (t := 26) ?hr ?_; (case hd => rfl); (case hg => rfl); (case hr => first | (go_simp; done) | (go_simp; rfl)); intro gb280 hg w5 hbox hb; have n0_ := Aside0.mk (blk_below (g := gb279) (o := .cells #[.slice A0_0 l0_0.length c0_0] 26 (0, 0)) (bl BK279.out) hb); have n1_ := Aside0.mk (below_step (bw HB.out) hb); have n2_ := Aside0.mk (hbox); have n3_ := Aside0.mk ((by rw [hg]; exact (below_size (bw HB.out)) : w.heap.size ≤ gb280)); have n4_ := Aside0.mk ((by rw [hg]; exact (below_size (bw HB.out)) : w.heap.size ≤ gb280)); have n5_ := Aside0.mk ((by rw [hg]; exact Nat.ne_of_lt (blk_lt (g := gb279) (o := .cells #[.slice A0_0 l0_0.length c0_0] 26 (0, 0)) (bl BK279.out)) : gb279 ≠ gb280)); have n6_ := Aside0.mk ((by rw [hg]; exact Nat.ne_of_gt (blk_lt (g := gb279) (o := .cells #[.slice A0_0 l0_0.length c0_0] 26 (0, 0)) (bl BK279.out)) : gb280 ≠ gb279)); clear BK279 HB; have BK279 := n0_; have HB := n1_; have BK280 := n2_; have GW280 := n3_; have GE280 := n4_; have NB279_280 := n5_; have NB280_279 := n6_; clear n0_ n1_ n2_ n3_ n4_ n5_ n6_ hb hbox hg; have hnb6 := NB279_280.out; have hnc6 := NB280_279.out; have hcz7_0 : w5.cell? ⟨gb279, 0, none⟩ = some (.slice A0_0 l0_0.length c0_0) := (blk_cell BK279.out 0).trans rfl; have hfz7_0 := blk_frozen BK279.out 0; have hcz8_0 : w5.cell? ⟨gb280, 0, none⟩ = some (.slice A1_0 l1_0.length c1_0) := (blk_cell BK280.out 0).trans rfl; have hfz8_0 := blk_frozen BK280.out 0)); try go_wp2)
  go_loopg [5] k (fun kq v5 w' => ∃ (x5_1 : Int), v5 = .int .i64 x5_1 ∧ Aside0 (laws_sameArena.l0 kq x5_1 l0_0 l1_0 = some r) ∧ Aside0 (kq ≤ k) ∧ Aside0 (w'.heap[gb279]? = some (.cells #[(.slice A0_0 l0_0.length c0_0)] 26 (0, 0))) ∧ Aside0 (w'.heap[gb280]? = some (.cells #[(.slice A1_0 l1_0.length c1_0)] 26 (0, 0))) ∧ Aside0 (Below w.heap.size w w'))
  case atStart => exact ⟨(0), (by first | rfl | (simp; done) | (simp [*]; done)), H', ⟨Nat.le_refl _⟩, ⟨bl BK279.out⟩, ⟨bl BK280.out⟩, ⟨bw HB.out⟩⟩
  case round =>
   clear H'
   try clear c1
   try clear p2
   try clear c3
   try clear c3b0
   try clear c3b1
   try clear c3b2
   try clear c6
   try clear hcz7_0
   try clear hcz8_0
   try clear hfz7_0
   try clear hfz8_0
   obtain ⟨x5_1, rfl, HA, HK1, BK279, BK280, HB⟩ := hrel
   cases gk with
   | zero => exact absurd HA.out (by simp [laws_sameArena.l0])
   | succ k1 =>
    have H := HA.out
    clear HA
    simp only [laws_sameArena.l0] at H
    by_cases c9 : x5_1 < (l0_0.length : Int)
    ·rw [if_pos c9] at H
     have c9b0 : decide (x5_1 < (l0_0.length : Int)) = true := decide_eq_true c9
     clear c9
     by_cases c10 : 0 ≤ x5_1
     ·rw [if_pos c10] at H
      have c10b0 : decide (0 ≤ x5_1) = true := decide_eq_true c10
      clear c10
      by_cases c11 : x5_1 < (l1_0.length : Int)
      ·rw [if_pos c11] at H
       have c11b0 : decide (x5_1 < (l1_0.length : Int)) = true := decide_eq_true c11
       clear c11
       by_cases c12 : (!(((rd_T34 l0_0 x5_1).f0) == ((rd_T34 l1_0 x5_1).f0)) || (!(((rd_T34 l0_0 x5_1).f1) == ((rd_T34 l1_0 x5_1).f1)) || (!(((rd_T34 l0_0 x5_1).f2) == ((rd_T34 l1_0 x5_1).f2)) || (!(((rd_T34 l0_0 x5_1).f3) == ((rd_T34 l1_0 x5_1).f3)))))) = true
       ·rw [if_pos c12] at H
        have c12b0 : (!(((rd_T34 l0_0 x5_1).f0) == ((rd_T34 l1_0 x5_1).f0)) || (!(((rd_T34 l0_0 x5_1).f1) == ((rd_T34 l1_0 x5_1).f1)) || (!(((rd_T34 l0_0 x5_1).f2) == ((rd_T34 l1_0 x5_1).f2)) || (!(((rd_T34 l0_0 x5_1).f3) == ((rd_T34 l1_0 x5_1).f3)))))) = true := c12
        clear c12
        obtain rfl := Option.some.inj H
        have hnb13 := NB279_280.out
        have hnc13 := NB280_279.out
        have hcz14_0 : wr.cell? ⟨gb279, 0, none⟩ = some (.slice A0_0 l0_0.length c0_0) := (blk_cell BK279.out 0).trans rfl
        have hfz14_0 := blk_frozen BK279.out 0
        have p281 : 0 ≤ (x5_1 : Int) := oda
        have q281 : x5_1 < (l0_0.length : Int) := oda
        obtain ⟨ad281, e281, hx281_0, hx281_1, hx281_2, hx281_3⟩ := at_T34 HR0_0.out x5_1 p281 q281
        cases e281
        replace hx281_0 := (HB.out.cell (World.block_lt_of_cell? w _ hx281_0)).trans hx281_0
        replace hx281_1 := (HB.out.cell (World.block_lt_of_cell? w _ hx281_1)).trans hx281_1
        replace hx281_2 := (HB.out.cell (World.block_lt_of_cell? w _ hx281_2)).trans hx281_2
        replace hx281_3 := (HB.out.cell (World.block_lt_of_cell? w _ hx281_3)).trans hx281_3
        replace p281 := eq_true p281
        replace q281 := eq_true q281
        have hcz15_0 : wr.cell? ⟨gb280, 0, none⟩ = some (.slice A1_0 l1_0.length c1_0) := (blk_cell BK280.out 0).trans rfl
        have hfz15_0 := blk_frozen BK280.out 0
        have p282 : 0 ≤ (x5_1 : Int) := oda
        have q282 : x5_1 < (l1_0.length : Int) := oda
        obtain ⟨ad282, e282, hx282_0, hx282_1, hx282_2, hx282_3⟩ := at_T34 HR1_0.out x5_1 p282 q282
        cases e282
        replace hx282_0 := (HB.out.cell (World.block_lt_of_cell? w _ hx282_0)).trans hx282_0
        replace hx282_1 := (HB.out.cell (World.block_lt_of_cell? w _ hx282_1)).trans hx282_1
        replace hx282_2 := (HB.out.cell (World.block_lt_of_cell? w _ hx282_2)).trans hx282_2
        replace hx282_3 := (HB.out.cell (World.block_lt_of_cell? w _ hx282_3)).trans hx282_3
        replace p282 := eq_true p282
        replace q282 := eq_true q282
        go_wp2
        repeat (go_quiet (fail); try go_wp2)
        go_ret
        exact ⟨by first | rfl | (simp [errW_none, errW_some] <;> rfl) | (simp [*, errW_none, errW_some] <;> rfl), bw HB.out⟩
       ·rw [if_neg c12] at H
        have c12b0 : (!(((rd_T34 l0_0 x5_1).f0) == ((rd_T34 l1_0 x5_1).f0)) || (!(((rd_T34 l0_0 x5_1).f1) == ((rd_T34 l1_0 x5_1).f1)) || (!(((rd_T34 l0_0 x5_1).f2) == ((rd_T34 l1_0 x5_1).f2)) || (!(((rd_T34 l0_0 x5_1).f3) == ((rd_T34 l1_0 x5_1).f3)))))) = false := by simpa using c12
        clear c12
        have H' := Aside0.mk H
        clear H
        have hnb16 := NB279_280.out
        have hnc16 := NB280_279.out
        have hcz17_0 : wr.cell? ⟨gb279, 0, none⟩ = some (.slice A0_0 l0_0.length c0_0) := (blk_cell BK279.out 0).trans rfl
        have hfz17_0 := blk_frozen BK279.out 0
        have p281 : 0 ≤ (x5_1 : Int) := oda
        have q281 : x5_1 < (l0_0.length : Int) := oda
        obtain ⟨ad281, e281, hx281_0, hx281_1, hx281_2, hx281_3⟩ := at_T34 HR0_0.out x5_1 p281 q281
        cases e281
        replace hx281_0 := (HB.out.cell (World.block_lt_of_cell? w _ hx281_0)).trans hx281_0
        replace hx281_1 := (HB.out.cell (World.block_lt_of_cell? w _ hx281_1)).trans hx281_1
        replace hx281_2 := (HB.out.cell (World.block_lt_of_cell? w _ hx281_2)).trans hx281_2
        replace hx281_3 := (HB.out.cell (World.block_lt_of_cell? w _ hx281_3)).trans hx281_3
        replace p281 := eq_true p281
        replace q281 := eq_true q281
        have hcz18_0 : wr.cell? ⟨gb280, 0, none⟩ = some (.slice A1_0 l1_0.length c1_0) := (blk_cell BK280.out 0).trans rfl
        have hfz18_0 := blk_frozen BK280.out 0
        have p282 : 0 ≤ (x5_1 : Int) := oda
        have q282 : x5_1 < (l1_0.length : Int) := oda
        obtain ⟨ad282, e282, hx282_0, hx282_1, hx282_2, hx282_3⟩ := at_T34 HR1_0.out x5_1 p282 q282
        cases e282
        replace hx282_0 := (HB.out.cell (World.block_lt_of_cell? w _ hx282_0)).trans hx282_0
        replace hx282_1 := (HB.out.cell (World.block_lt_of_cell? w _ hx282_1)).trans hx282_1
        replace hx282_2 := (HB.out.cell (World.block_lt_of_cell? w _ hx282_2)).trans hx282_2
        replace hx282_3 := (HB.out.cell (World.block_lt_of_cell? w _ hx282_3)).trans hx282_3
        replace p282 := eq_true p282
        replace q282 := eq_true q282
        go_wp2
        repeat (go_quiet (fail); try go_wp2)
        go_roundg k1
        case measure => have := HK1.out; omega
        case rel => exact ⟨(wrap64 (x5_1 + 1)), (by first | rfl | (simp; done) | (simp [*]; done)), H', ⟨by have := HK1.out; omega⟩, ⟨bl BK279.out⟩, ⟨bl BK280.out⟩, ⟨bw HB.out⟩⟩
      ·rw [if_neg c11] at H
       exact absurd H (by simp)
     ·rw [if_neg c10] at H
      exact absurd H (by simp)
    ·rw [if_neg c9] at H
     have c9b0 : decide (x5_1 < (l0_0.length : Int)) = false := decide_eq_false c9
     clear c9
     obtain rfl := Option.some.inj H
     have hnb19 := NB279_280.out
     have hnc19 := NB280_279.out
     have hcz20_0 : wr.cell? ⟨gb279, 0, none⟩ = some (.slice A0_0 l0_0.length c0_0) := (blk_cell BK279.out 0).trans rfl
     have hfz20_0 := blk_frozen BK279.out 0
     go_wp2
     repeat (go_quiet (fail); try go_wp2)
     go_ret
     exact ⟨by first | rfl | (simp [errW_none, errW_some] <;> rfl) | (simp [*, errW_none, errW_some] <;> rfl), bw HB.out⟩
 ·rw [if_neg c3] at H
  have c3b0 : ((l0_0.length : Int) == (l1_0.length : Int)) = false := beq_eq_false_iff_ne.mpr c3
  have c3b1 : ((l0_0.length : Int) != (l1_0.length : Int)) = true := bne_iff_ne.mpr c3
  have c3b2 : (l0_0.length == l1_0.length) = false := by first | simpa using c3 | (simp at c3 ⊢; omega)
  obtain rfl := Option.some.inj H
  go_enter Try.func61, Try.ntmps61
  go_wp2_with (first | ((with_reducible refine gate_dst (N := 2) rfl ?_); refine box_event ?hg (N := 2) ?hd (cs := #[.slice A0_0 l0_0.length c0_0]) (t := 26) ?hr ?_; (case hd => rfl); (case hg => rfl); (case hr => first | (go_simp; done) | (go_simp; rfl)); intro gb279 hg w21 hbox hb; have n0_ := Aside0.mk (below_step (bw HB.out) hb); have n1_ := Aside0.mk (hbox); have n2_ := Aside0.mk ((by rw [hg]; exact (below_size (bw HB.out)) : w.heap.size ≤ gb279)); have n3_ := Aside0.mk ((by rw [hg]; exact (below_size (bw HB.out)) : w.heap.size ≤ gb279)); clear HB; have HB := n0_; have BK279 := n1_; have GW279 := n2_; have GE279 := n3_; clear n0_ n1_ n2_ n3_ hb hbox hg) | ((with_reducible refine gate_dst (N := 3) rfl ?_); refine box_event ?hg (N := 3) ?hd (cs := #[.slice A1_0 l1_0.length c1_0]) (t := 26) ?hr ?_; (case hd => rfl); (case hg => rfl); (case hr => first | (go_simp; done) | (go_simp; rfl)); intro gb280 hg w22 hbox hb; have n0_ := Aside0.mk (blk_below (g := gb279) (o := .cells #[.slice A0_0 l0_0.length c0_0] 26 (0, 0)) (bl BK279.out) hb); have n1_ := Aside0.mk (below_step (bw HB.out) hb); have n2_ := Aside0.mk (hbox); have n3_ := Aside0.mk ((by rw [hg]; exact (below_size (bw HB.out)) : w.heap.size ≤ gb280)); have n4_ := Aside0.mk ((by rw [hg]; exact (below_size (bw HB.out)) : w.heap.size ≤ gb280)); have n5_ := Aside0.mk ((by rw [hg]; exact Nat.ne_of_lt (blk_lt (g := gb279) (o := .cells #[.slice A0_0 l0_0.length c0_0] 26 (0, 0)) (bl BK279.out)) : gb279 ≠ gb280)); have n6_ := Aside0.mk ((by rw [hg]; exact Nat.ne_of_gt (blk_lt (g := gb279) (o := .cells #[.slice A0_0 l0_0.length c0_0] 26 (0, 0)) (bl BK279.out)) : gb280 ≠ gb279)); clear BK279 HB; have BK279 := n0_; have HB := n1_; have BK280 := n2_; have GW280 := n3_; have GE280 := n4_; have NB279_280 := n5_; have NB280_279 := n6_; clear n0_ n1_ n2_ n3_ n4_ n5_ n6_ hb hbox hg; have hnb23 := NB279_280.out; have hnc23 := NB280_279.out; have hcz24_0 : w22.cell? ⟨gb279, 0, none⟩ = some (.slice A0_0 l0_0.length c0_0) := (blk_cell BK279.out 0).trans rfl; have hfz24_0 := blk_frozen BK279.out 0; have hcz25_0 : w22.cell? ⟨gb280, 0, none⟩ = some (.slice A1_0 l1_0.length c1_0) := (blk_cell BK280.out 0).trans rfl; have hfz25_0 := blk_frozen BK280.out 0))
  repeat (go_quiet (first | ((with_reducible refine gate_dst (N := 2) rfl ?_); refine box_event ?hg (N := 2) ?hd (cs := #[.slice A0_0 l0_0.length c0_0]) (t := 26) ?hr ?_; (case hd => rfl); (case hg => rfl); (case hr => first | (go_simp; done) | (go_simp; rfl)); intro gb279 hg w21 hbox hb; have n0_ := Aside0.mk (below_step (bw HB.out) hb); have n1_ := Aside0.mk (hbox); have n2_ := Aside0.mk ((by rw [hg]; exact (below_size (bw HB.out)) : w.heap.size ≤ gb279)); have n3_ := Aside0.mk ((by rw [hg]; exact (below_size (bw HB.out)) : w.heap.size ≤ gb279)); clear HB; have HB := n0_; have BK279 := n1_; have GW279 := n2_; have GE279 := n3_; clear n0_ n1_ n2_ n3_ hb hbox hg) | ((with_reducible refine gate_dst (N := 3) rfl ?_); refine box_event ?hg (N := 3) ?hd (cs := #[.slice A1_0 l1_0.length c1_0]) (t := 26) ?hr ?_; (case hd => rfl); (case hg => rfl); (case hr => first | (go_simp; done) | (go_simp; rfl)); intro gb280 hg w22 hbox hb; have n0_ := Aside0.mk (blk_below (g := gb279) (o := .cells #[.slice A0_0 l0_0.length c0_0] 26 (0, 0)) (bl BK279.out) hb); have n1_ := Aside0.mk (below_step (bw HB.out) hb); have n2_ := Aside0.mk (hbox); have n3_ := Aside0.mk ((by rw [hg]; exact (below_size (bw HB.out)) : w.heap.size ≤ gb280)); have n4_ := Aside0.mk ((by rw [hg]; exact (below_size (bw HB.out)) : w.heap.size ≤ gb280)); have n5_ := Aside0.mk ((by rw [hg]; exact Nat.ne_of_lt (blk_lt (g := gb279) (o := .cells #[.slice A0_0 l0_0.length c0_0] 26 (0, 0)) (bl BK279.out)) : gb279 ≠ gb280)); have n6_ := Aside0.mk ((by rw [hg]; exact Nat.ne_of_gt (blk_lt (g := gb279) (o := .cells #[.slice A0_0 l0_0.length c0_0] 26 (0, 0)) (bl BK279.out)) : gb280 ≠ gb279)); clear BK279 HB; have BK279 := n0_; have HB := n1_; have BK280 := n2_; have GW280 := n3_; have GE280 := n4_; have NB279_280 := n5_; have NB280_279 := n6_; clear n0_ n1_ n2_ n3_ n4_ n5_ n6_ hb hbox hg; have hnb23 := NB279_280.out; have hnc23 := NB280_279.out; have hcz24_0 : w22.cell? ⟨gb279, 0, none⟩ = some (.slice A0_0 l0_0.length c0_0) := (blk_cell BK279.out 0).trans rfl; have hfz24_0 := blk_frozen BK279.out 0; have hcz25_0 : w22.cell? ⟨gb280, 0, none⟩ = some (.slice A1_0 l1_0.length c1_0) := (blk_cell BK280.out 0).trans rfl; have hfz25_0 := blk_frozen BK280.out 0)); try go_wp2)
  go_ret
  exact ⟨by first | rfl | (simp [errW_none, errW_some] <;> rfl) | (simp [*, errW_none, errW_some] <;> rfl), bw HB.out⟩

/-! ### spec_l03Sizes: OWN: function 86 -/
mutual
def spec_l03Sizes.l0 : Nat → Int → List Int → Int → List (S34) → Option (List Int)
  | 0, _, _, _, _ => none
  | k + 1, x1, x5, x6, x284000 => if x6 ≤ x1 then (spec_l03Sizes.j1 k x1 x5 x6 (decide (x6 < (x284000.length : Int))) x284000) else (spec_l03Sizes.j1 k x1 x5 x6 false x284000)
def spec_l03Sizes.j1 : Nat → Int → List Int → Int → Bool → List (S34) → Option (List Int)
  | 0, _, _, _, _, _ => none
  | k + 1, x1, x5, x6, x19, x284000 => if x19 = true then (if 0 ≤ x6 then (if x6 < (x284000.length : Int) then ((spec_l03Node.f k ((rd_T34 x284000 x6).f0) ((rd_T34 x284000 x6).f1) ((rd_T34 x284000 x6).f2) ((rd_T34 x284000 x6).f3) x6).bind fun t289 => (if t289 = true then (if x6 > 0 then (if 0 ≤ (wrap64 (x6 - 1)) then (if (wrap64 (x6 - 1)) < (x5.length : Int) then (spec_l03Sizes.j2 k x1 x5 x6 ((rd x5 (wrap64 (x6 - 1))) == 0) x284000 ((rd_T34 x284000 x6).f0) ((rd_T34 x284000 x6).f1) ((rd_T34 x284000 x6).f2) ((rd_T34 x284000 x6).f3)) else (none)) else (none)) else (spec_l03Sizes.j2 k x1 x5 x6 false x284000 ((rd_T34 x284000 x6).f0) ((rd_T34 x284000 x6).f1) ((rd_T34 x284000 x6).f2) ((rd_T34 x284000 x6).f3))) else (spec_l03Sizes.j2 k x1 x5 x6 true x284000 ((rd_T34 x284000 x6).f0) ((rd_T34 x284000 x6).f1) ((rd_T34 x284000 x6).f2) ((rd_T34 x284000 x6).f3)))) else (none)) else (none)) else (some x5)
def spec_l03Sizes.j2 : Nat → Int → List Int → Int → Bool → List (S34) → Int → Int → Int → Int → Option (List Int)
  | 0, _, _, _, _, _, _, _, _, _ => none
  | k + 1, x1, x5, x6, x42, x284000, x289000, x289001, x289002, x289003 => if x42 = true then (if x5.length < 17592186044416 then (spec_l03Sizes.l0 k x1 (x5 ++ [0]) (wrap64 (x6 + 1)) x284000) else (none)) else (if x289000 = 1 then (if 1 > 100000 then (if x5.length < 17592186044416 then (spec_l03Sizes.l0 k x1 (x5 ++ [100000]) (wrap64 (x6 + 1)) x284000) else (none)) else (if x5.length < 17592186044416 then (spec_l03Sizes.l0 k x1 (x5 ++ [1]) (wrap64 (x6 + 1)) x284000) else (none))) else (if 0 ≤ x289002 then (if x289002 < (x5.length : Int) then ((spec_l03One.f x289000).bind fun t301 => (if t301 = true then (if (wrap64 (1 + (rd x5 x289002))) > 100000 then (if x5.length < 17592186044416 then (spec_l03Sizes.l0 k x1 (x5 ++ [100000]) (wrap64 (x6 + 1)) x284000) else (none)) else (if x5.length < 17592186044416 then (spec_l03Sizes.l0 k x1 (x5 ++ [wrap64 (1 + (rd x5 x289002))]) (wrap64 (x6 + 1)) x284000) else (none))) else (if 0 ≤ x289003 then (if x289003 < (x5.length : Int) then (if (wrap64 ((wrap64 (1 + (rd x5 x289002))) + (rd x5 x289003))) > 100000 then (if x5.length < 17592186044416 then (spec_l03Sizes.l0 k x1 (x5 ++ [100000]) (wrap64 (x6 + 1)) x284000) else (none)) else (if x5.length < 17592186044416 then (spec_l03Sizes.l0 k x1 (x5 ++ [wrap64 ((wrap64 (1 + (rd x5 x289002))) + (rd x5 x289003))]) (wrap64 (x6 + 1)) x284000) else (none))) else (none)) else (none)))) else (none)) else (none)))
end
def spec_l03Sizes.f (k : Nat) (l0_0 : List (S34)) (a1 : Int) : Option (List Int) := spec_l03Sizes.l0 k a1 (([] : List Int)) 0 l0_0
set_option maxHeartbeats 8000000 in
set_option maxRecDepth 100000 in
theorem spec_l03Sizes.calls (k : Nat) (A0_0 : Option Addr) (c0_0 : Nat) (l0_0 : List (S34)) (a1 : Int) (r : List Int) (w : World) (hr0_0 : Kd.C k34 w A0_0 l0_0.length l0_0) (hc0_0 : l0_0.length ≤ c0_0) (h : spec_l03Sizes.f k l0_0 a1 = some r) :
  Calls Try.prog 86 #[.agg #[.slice A0_0 l0_0.length c0_0], .int .i64 a1] w fun e w' => ∃ v0_ : Value, e = .returned (v0_) ∧ Kd.R (Kd.int .i64) 3 w' w.heap.size (fun _ => True) v0_ r ∧ Below w.heap.size w w' := by
 have hu26 := Try.underlying26
 have hu34 := Try.underlying34
 have HR0_0 := Aside0.mk hr0_0
 have HC0_0 := Aside0.mk hc0_0
 clear hr0_0 hc0_0
 have HB := Aside0.mk (Below.refl w.heap.size w)
 have H : (spec_l03Sizes.l0 k a1 (([] : List Int)) 0 l0_0) = some r := h
 clear h
 obtain ⟨y284, hy284⟩ : ∃ y_ : List Int, y_ = (([] : List Int)) := ⟨_, rfl⟩
 replace H : (spec_l03Sizes.l0 k a1 y284 0 l0_0) = some r := by first | (rw [hy284]; with_reducible exact H) | (have H2_ := (Option.bind_some _ _).symm.trans H; rw [hy284]; with_reducible exact H2_) | (have H2_ := (Option.bind_some _ _).symm.trans H; with_reducible exact H2_) | with_reducible exact H | (rw [hy284]; exact H) | exact H
 have Ny284 := Aside0.mk hy284
 clear hy284
 have H' := Aside0.mk H
 clear H
 go_enter Try.func86, Try.ntmps86
 go_wp2_with (first | ((with_reducible refine gate_dst (N := 2) rfl ?_); (try (refine gate_guard (by rfl) ?_; dsimp only)); refine box_event ?hg (N := 2) ?hd (cs := #[.slice A0_0 l0_0.length c0_0]) (t := 26) ?hr ?_; (case hd => rfl); (case hg => rfl); (case hr => first | (go_simp; done) | (go_simp; rfl)); intro gb283 hg w3 hbox hb; have n0_ := Aside0.mk (below_step (bw HB.out) hb); have n1_ := Aside0.mk (hbox); have n2_ := Aside0.mk ((by rw [hg]; exact (below_size (bw HB.out)) : w.heap.size ≤ gb283)); have n3_ := Aside0.mk ((by rw [hg]; exact (below_size (bw HB.out)) : w.heap.size ≤ gb283)); clear HB; have HB := n0_; have BK283 := n1_; have GW283 := n2_; have GE283 := n3_; clear n0_ n1_ n2_ n3_ hb hbox hg) | ((with_reducible refine gate_dst (N := 9) rfl ?_); (try (refine gate_guard (by rfl) ?_; dsimp only)); refine Kd.R_lit (Kd.int .i64) _ 3 ?hg (N := 9) ?hd (xs := ([] : List Int)) (inner := []) (ok := fun _ => True) (okp := fun _ => True) ?hr ?hp (fun _ hk => hk) trivial (Below.refl _ _) (Nat.le_refl _) (by simp) ?_; (case hd => rfl); (case hg => rfl); (case hr => first | (go_simp; done) | (go_simp; rfl)); (case hp => exact (Reps.none _ _)); intro v285 w4 ho5 hb hg_ hnew_; clear hg_ hnew_; (first | rw [← Ny284.out] at ho5 | (simp only [Int.reduceToNat] at ho5; rw [← Ny284.out] at ho5)); have n0_ := Aside0.mk (Kd.R_lower ho5 (below_size (bw HB.out))); have n1_ := Aside0.mk (blk_below (g := gb283) (o := .cells #[.slice A0_0 l0_0.length c0_0] 26 (0, 0)) (bl BK283.out) hb); have n2_ := Aside0.mk (below_step (bw HB.out) hb); clear BK283 HB; have HO286 := n0_; have BK283 := n1_; have HB := n2_; clear n0_ n1_ n2_ hb ho5))
 go_loopg [5, 6] k (fun kq v5 v6 w' => ∃ (x5_1 : List Int) (x6_1 : Int), v6 = .int .i64 x6_1 ∧ Aside0 (spec_l03Sizes.l0 kq a1 x5_1 x6_1 l0_0 = some r) ∧ Aside0 (kq ≤ k) ∧ Aside0 (Kd.R (Kd.int .i64) 3 w' w.heap.size (fun _ => True) v5 x5_1) ∧ Aside0 (w'.heap[gb283]? = some (.cells #[(.slice A0_0 l0_0.length c0_0)] 26 (0, 0))) ∧ Aside0 (Below w.heap.size w w'))
 case atStart => exact ⟨(y284), (0), (by first | rfl | (simp; done) | (simp [*]; done)), H', ⟨Nat.le_refl _⟩, ⟨rl HO286.out⟩, ⟨bl BK283.out⟩, ⟨bw HB.out⟩⟩
 case round =>
  clear H'
  try clear p2
  obtain ⟨x5_1, x6_1, rfl, HA, HK1, HO_5, BK283, HB⟩ := hrel
  cases gk with
  | zero => exact absurd HA.out (by simp [spec_l03Sizes.l0])
  | succ k1 =>
   have H := HA.out
   clear HA
   simp only [spec_l03Sizes.l0] at H
   have HC6 := Aside0.mk H
   clear H
   go_upto_region 3 with (fail)
   go_cut [19] (fun v19 wc => ∃ (kq : Nat) (x19_5 : Bool), v19 = .bool x19_5 ∧ Aside0 (spec_l03Sizes.j1 kq a1 x5_1 x6_1 x19_5 l0_0 = some r) ∧ Aside0 (kq ≤ k1) ∧ Aside0 (Kd.R (Kd.int .i64) 3 wc w.heap.size (fun _ => True) u5 x5_1) ∧ Aside0 (wc.heap[gb283]? = some (.cells #[(.slice A0_0 l0_0.length c0_0)] 26 (0, 0))) ∧ Aside0 (Below w.heap.size w wc))
   case first =>
    have H := HC6.out
    clear HC6
    by_cases c7 : x6_1 ≤ a1
    ·rw [if_pos c7] at H
     have c7b0 : decide (x6_1 ≤ a1) = true := decide_eq_true c7
     clear c7
     (first | rw [c7b0] | (simp only [i64_w, i32_w]; rw [c7b0]) | skip)
     have H' := Aside0.mk H
     clear H
     have hcz8_0 : wr.cell? ⟨gb283, 0, none⟩ = some (.slice A0_0 l0_0.length c0_0) := (blk_cell BK283.out 0).trans rfl
     have hfz8_0 := blk_frozen BK283.out 0
     go_wp2
     go_meet
     case rel => exact ⟨_, (decide (x6_1 < (l0_0.length : Int))), (by first | rfl | (simp; done) | (simp [*]; done)), H', ⟨by have := HK1.out; first | omega | exact Nat.le_refl _⟩, ⟨rl HO_5.out⟩, ⟨bl BK283.out⟩, ⟨bw HB.out⟩⟩
    ·rw [if_neg c7] at H
     have c7b0 : decide (x6_1 ≤ a1) = false := decide_eq_false c7
     clear c7
     (first | rw [c7b0] | (simp only [i64_w, i32_w]; rw [c7b0]) | skip)
     have H' := Aside0.mk H
     clear H
     go_wp2
     go_meet
     case rel => exact ⟨_, (false), (by first | rfl | (simp; done) | (simp [*]; done)), H', ⟨by have := HK1.out; first | omega | exact Nat.le_refl _⟩, ⟨rl HO_5.out⟩, ⟨bl BK283.out⟩, ⟨bw HB.out⟩⟩
   case rest =>
    clear HC6
    try clear p2
    try clear c7
    try clear c7b0
    try clear c8
    try clear hcz8_0
    try clear hfz8_0
    try clear p2
    obtain ⟨kq, x19_5, rfl, HA, HJ5, HO_5, BK283, HB⟩ := hcut
    cases kq with
    | zero => exact absurd HA.out (by simp [spec_l03Sizes.j1])
    | succ kj5 =>
     have H := HA.out
     clear HA
     simp only [spec_l03Sizes.j1] at H
     by_cases c9 : x19_5 = true
     ·subst c9
      have H1 : (if 0 ≤ x6_1 then (if x6_1 < (l0_0.length : Int) then ((spec_l03Node.f kj5 ((rd_T34 l0_0 x6_1).f0) ((rd_T34 l0_0 x6_1).f1) ((rd_T34 l0_0 x6_1).f2) ((rd_T34 l0_0 x6_1).f3) x6_1).bind fun t289 => (if t289 = true then (if x6_1 > 0 then (if 0 ≤ (wrap64 (x6_1 - 1)) then (if (wrap64 (x6_1 - 1)) < (x5_1.length : Int) then (spec_l03Sizes.j2 kj5 a1 x5_1 x6_1 ((rd x5_1 (wrap64 (x6_1 - 1))) == 0) l0_0 ((rd_T34 l0_0 x6_1).f0) ((rd_T34 l0_0 x6_1).f1) ((rd_T34 l0_0 x6_1).f2) ((rd_T34 l0_0 x6_1).f3)) else (none)) else (none)) else (spec_l03Sizes.j2 kj5 a1 x5_1 x6_1 false l0_0 ((rd_T34 l0_0 x6_1).f0) ((rd_T34 l0_0 x6_1).f1) ((rd_T34 l0_0 x6_1).f2) ((rd_T34 l0_0 x6_1).f3))) else (spec_l03Sizes.j2 kj5 a1 x5_1 x6_1 true l0_0 ((rd_T34 l0_0 x6_1).f0) ((rd_T34 l0_0 x6_1).f1) ((rd_T34 l0_0 x6_1).f2) ((rd_T34 l0_0 x6_1).f3)))) else (none)) else (none)) = some r := by rw [if_pos rfl] at H; exact H
      clear H
      have H := H1
      clear H1
      by_cases c10 : 0 ≤ x6_1
      ·rw [if_pos c10] at H
       have c10b0 : decide (0 ≤ x6_1) = true := decide_eq_true c10
       clear c10
       by_cases c11 : x6_1 < (l0_0.length : Int)
       ·rw [if_pos c11] at H
        have c11b0 : decide (x6_1 < (l0_0.length : Int)) = true := decide_eq_true c11
        clear c11
        have HC12 := Aside0.mk H
        clear H
        have hcz13_0 : wc.cell? ⟨gb283, 0, none⟩ = some (.slice A0_0 l0_0.length c0_0) := (blk_cell BK283.out 0).trans rfl
        have hfz13_0 := blk_frozen BK283.out 0
        have p287 : 0 ≤ (x6_1 : Int) := oda
        have q287 : x6_1 < (l0_0.length : Int) := oda
        obtain ⟨ad287, e287, hx287_0, hx287_1, hx287_2, hx287_3⟩ := at_T34 HR0_0.out x6_1 p287 q287
        cases e287
        replace hx287_0 := (HB.out.cell (World.block_lt_of_cell? w _ hx287_0)).trans hx287_0
        replace hx287_1 := (HB.out.cell (World.block_lt_of_cell? w _ hx287_1)).trans hx287_1
        replace hx287_2 := (HB.out.cell (World.block_lt_of_cell? w _ hx287_2)).trans hx287_2
        replace hx287_3 := (HB.out.cell (World.block_lt_of_cell? w _ hx287_3)).trans hx287_3
        replace p287 := eq_true p287
        replace q287 := eq_true q287
        go_upto_region 6 with (first | ((with_reducible refine gate_dst (N := 7) rfl ?_); (try (refine gate_guard (by rfl) ?_; dsimp only)); refine box_event ?hg (N := 7) ?hd (cs := #[.int .i64 0, .int .i64 0, .int .i64 0, .int .i64 0]) (t := 34) ?hr ?_; (case hd => rfl); (case hg => rfl); (case hr => first | (go_simp; done) | (go_simp; rfl)); intro gb288 hg w14 hbox hb; have n0_ := Aside0.mk (Kd.R_below (rl HO_5.out) hb); have n1_ := Aside0.mk (blk_below (g := gb283) (o := .cells #[.slice (some ad287) l0_0.length c0_0] 26 (0, 0)) (bl BK283.out) hb); have n2_ := Aside0.mk (below_step (bw HB.out) hb); have n3_ := Aside0.mk (hbox); have n4_ := Aside0.mk ((by rw [hg]; exact (below_size (bw HB.out)) : w.heap.size ≤ gb288)); have n5_ := Aside0.mk ((by rw [hg]; exact (below_size (bw HB.out)) : w.heap.size ≤ gb288)); have n6_ := Aside0.mk ((by rw [hg]; exact Nat.ne_of_lt (blk_lt (g := gb283) (o := .cells #[.slice (some ad287) l0_0.length c0_0] 26 (0, 0)) (bl BK283.out)) : gb283 ≠ gb288)); have n7_ := Aside0.mk ((by rw [hg]; exact Nat.ne_of_gt (blk_lt (g := gb283) (o := .cells #[.slice (some ad287) l0_0.length c0_0] 26 (0, 0)) (bl BK283.out)) : gb288 ≠ gb283)); clear HO_5 BK283 HB; have HO_5 := n0_; have BK283 := n1_; have HB := n2_; have BK288 := n3_; have GW288 := n4_; have GE288 := n5_; have NB283_288 := n6_; have NB288_283 := n7_; clear n0_ n1_ n2_ n3_ n4_ n5_ n6_ n7_ hb hbox hg; have hnb15 := NB288_283.out; have hnc15 := NB283_288.out; have hcz16_0 : w14.cell? ⟨gb288, 0, none⟩ = some (.int .i64 0) := (blk_cell BK288.out 0).trans rfl; have hcz16_1 : w14.cell? ⟨gb288, 1, none⟩ = some (.int .i64 0) := (blk_cell BK288.out 1).trans rfl; have hcz16_2 : w14.cell? ⟨gb288, 2, none⟩ = some (.int .i64 0) := (blk_cell BK288.out 2).trans rfl; have hcz16_3 : w14.cell? ⟨gb288, 3, none⟩ = some (.int .i64 0) := (blk_cell BK288.out 3).trans rfl; have hfz16_0 := blk_frozen BK288.out 0; have hfz16_1 := blk_frozen BK288.out 1; have hfz16_2 := blk_frozen BK288.out 2; have hfz16_3 := blk_frozen BK288.out 3))
        (try simp only [Act.put, List.setIfInBounds_toArray, List.set_cons_zero, List.set_cons_succ])
        go_cut [42] (fun v42 wc => ∃ (kq : Nat) (x42_11 : Bool), v42 = .bool x42_11 ∧ Aside0 (spec_l03Sizes.j2 kq a1 x5_1 x6_1 x42_11 l0_0 ((rd_T34 l0_0 x6_1).f0) ((rd_T34 l0_0 x6_1).f1) ((rd_T34 l0_0 x6_1).f2) ((rd_T34 l0_0 x6_1).f3) = some r) ∧ Aside0 (kq ≤ kj5) ∧ Aside0 (Kd.R (Kd.int .i64) 3 wc w.heap.size (fun _ => True) u5 x5_1) ∧ Aside0 (wc.heap[gb283]? = some (.cells #[(.slice (some ad287) l0_0.length c0_0)] 26 (0, 0))) ∧ Aside0 (wc.heap[gb288]? = some (.cells #[.int .i64 ((rd_T34 l0_0 x6_1).f0), .int .i64 ((rd_T34 l0_0 x6_1).f1), .int .i64 ((rd_T34 l0_0 x6_1).f2), .int .i64 ((rd_T34 l0_0 x6_1).f3)] 34 (0, 0))) ∧ Aside0 (Below w.heap.size w wc))
        case first =>
         have H := HC12.out
         clear HC12
         replace H := Option.bind_eq_some_iff.mp H
         obtain ⟨t289, A170, H⟩ := H
         replace H : (if t289 = true then (if x6_1 > 0 then (if 0 ≤ (wrap64 (x6_1 - 1)) then (if (wrap64 (x6_1 - 1)) < (x5_1.length : Int) then (spec_l03Sizes.j2 kj5 a1 x5_1 x6_1 ((rd x5_1 (wrap64 (x6_1 - 1))) == 0) l0_0 ((rd_T34 l0_0 x6_1).f0) ((rd_T34 l0_0 x6_1).f1) ((rd_T34 l0_0 x6_1).f2) ((rd_T34 l0_0 x6_1).f3)) else (none)) else (none)) else (spec_l03Sizes.j2 kj5 a1 x5_1 x6_1 false l0_0 ((rd_T34 l0_0 x6_1).f0) ((rd_T34 l0_0 x6_1).f1) ((rd_T34 l0_0 x6_1).f2) ((rd_T34 l0_0 x6_1).f3))) else (spec_l03Sizes.j2 kj5 a1 x5_1 x6_1 true l0_0 ((rd_T34 l0_0 x6_1).f0) ((rd_T34 l0_0 x6_1).f1) ((rd_T34 l0_0 x6_1).f2) ((rd_T34 l0_0 x6_1).f3))) = some r := H
         have A17 := Aside0.mk A170
         clear A170
         by_cases c18 : t289 = true
         ·subst c18
          have H1 : (if x6_1 > 0 then (if 0 ≤ (wrap64 (x6_1 - 1)) then (if (wrap64 (x6_1 - 1)) < (x5_1.length : Int) then (spec_l03Sizes.j2 kj5 a1 x5_1 x6_1 ((rd x5_1 (wrap64 (x6_1 - 1))) == 0) l0_0 ((rd_T34 l0_0 x6_1).f0) ((rd_T34 l0_0 x6_1).f1) ((rd_T34 l0_0 x6_1).f2) ((rd_T34 l0_0 x6_1).f3)) else (none)) else (none)) else (spec_l03Sizes.j2 kj5 a1 x5_1 x6_1 false l0_0 ((rd_T34 l0_0 x6_1).f0) ((rd_T34 l0_0 x6_1).f1) ((rd_T34 l0_0 x6_1).f2) ((rd_T34 l0_0 x6_1).f3))) = some r := by rw [if_pos rfl] at H; exact H
          clear H
          have H := H1
          clear H1
          by_cases c19 : x6_1 > 0
          ·rw [if_pos c19] at H
           have c19b0 : decide (0 < x6_1) = true := decide_eq_true c19
           clear c19
           (first | rw [c19b0] | (simp only [i64_w, i32_w]; rw [c19b0]) | skip)
           obtain ⟨ji20, hji20⟩ : ∃ j_ : Int, (wrap64 (x6_1 - 1)) = j_ := ⟨_, rfl⟩
           replace H : (if 0 ≤ (ji20) then (if (ji20) < (x5_1.length : Int) then (spec_l03Sizes.j2 kj5 a1 x5_1 x6_1 ((rd x5_1 (ji20)) == 0) l0_0 ((rd_T34 l0_0 x6_1).f0) ((rd_T34 l0_0 x6_1).f1) ((rd_T34 l0_0 x6_1).f2) ((rd_T34 l0_0 x6_1).f3)) else (none)) else (none)) = some r := by first | (rw [hji20] at H; exact H) | (simp only [hji20] at H ⊢; exact H)
           (try rw [hji20] at A17)
           have hji20w : (IntKind.i64.wrap (x6_1 - 1)) = ji20 := (i64_w _).trans hji20
           by_cases c21 : 0 ≤ (ji20)
           ·rw [if_pos c21] at H
            have c21b0 : decide (0 ≤ (ji20)) = true := decide_eq_true c21
            clear c21
            by_cases c22 : (ji20) < (x5_1.length : Int)
            ·rw [if_pos c22] at H
             have c22b0 : decide ((ji20) < (x5_1.length : Int)) = true := decide_eq_true c22
             clear c22
             have H' := Aside0.mk H
             clear H
             have hnb23 := NB288_283.out
             have hnc23 := NB283_288.out
             have hcz24_0 : w14.cell? ⟨gb288, 0, none⟩ = some (.int .i64 0) := (blk_cell BK288.out 0).trans rfl
             have hcz24_1 : w14.cell? ⟨gb288, 1, none⟩ = some (.int .i64 0) := (blk_cell BK288.out 1).trans rfl
             have hcz24_2 : w14.cell? ⟨gb288, 2, none⟩ = some (.int .i64 0) := (blk_cell BK288.out 2).trans rfl
             have hcz24_3 : w14.cell? ⟨gb288, 3, none⟩ = some (.int .i64 0) := (blk_cell BK288.out 3).trans rfl
             have hfz24_0 := blk_frozen BK288.out 0
             have hfz24_1 := blk_frozen BK288.out 1
             have hfz24_2 := blk_frozen BK288.out 2
             have hfz24_3 := blk_frozen BK288.out 3
             go_wp2_with (first | ((with_reducible refine gate_callee (f := 81) rfl ?_); refine goesL_ (some 29) rfl rfl Try.func81 (by kernel_rfl) rfl #[.agg #[.int .i64 ((rd_T34 l0_0 x6_1).f0), .int .i64 ((rd_T34 l0_0 x6_1).f1), .int .i64 ((rd_T34 l0_0 x6_1).f2), .int .i64 ((rd_T34 l0_0 x6_1).f3)], .int .i64 x6_1] rfl ar ?_; (with_reducible refine (spec_l03Node.calls kj5 ((rd_T34 l0_0 x6_1).f0) ((rd_T34 l0_0 x6_1).f1) ((rd_T34 l0_0 x6_1).f2) ((rd_T34 l0_0 x6_1).f3) x6_1 true _ A17.out).mono ?_); rintro e w25 ⟨rfl, hb⟩; refine ⟨_, rfl, ?_⟩; have n0_ := Aside0.mk (Kd.R_below (by (with_reducible repeat (first | apply Kd.R_alloc | apply Kd.R_drewN | apply Kd.R_drew)); exact (Kd.R_mono (Kd.R_far (p := ⟨gb288, 3, none⟩) (Kd.R_far (p := ⟨gb288, 2, none⟩) (Kd.R_far (p := ⟨gb288, 1, none⟩) (Kd.R_far (p := ⟨gb288, 0, none⟩) (Kd.R_types HO_5.out BK288.out (by decide)) (fun _ hk => hk.2) (.int .i64 ((rd_T34 l0_0 x6_1).f0))) (fun _ hk => hk.2) (.int .i64 ((rd_T34 l0_0 x6_1).f1))) (fun _ hk => hk.2) (.int .i64 ((rd_T34 l0_0 x6_1).f2))) (fun _ hk => hk.2) (.int .i64 ((rd_T34 l0_0 x6_1).f3))) (fun _ h_ => h_.1))) hb); have n1_ := Aside0.mk (blk_below (g := gb283) (o := .cells #[.slice (some ad287) l0_0.length c0_0] 26 (0, 0)) (by (with_reducible repeat (first | refine blk_drewN ?_ _ | refine blk_drew ?_ | refine blk_alloc ?_ _)); refine blk_far ?_ NB283_288.out _; (with_reducible repeat (first | refine blk_drewN ?_ _ | refine blk_drew ?_ | refine blk_alloc ?_ _)); refine blk_far ?_ NB283_288.out _; (with_reducible repeat (first | refine blk_drewN ?_ _ | refine blk_drew ?_ | refine blk_alloc ?_ _)); refine blk_far ?_ NB283_288.out _; (with_reducible repeat (first | refine blk_drewN ?_ _ | refine blk_drew ?_ | refine blk_alloc ?_ _)); refine blk_far ?_ NB283_288.out _; exact bl BK283.out) hb); have n2_ := Aside0.mk (blk_below (g := gb288) (o := .cells #[.int .i64 ((rd_T34 l0_0 x6_1).f0), .int .i64 ((rd_T34 l0_0 x6_1).f1), .int .i64 ((rd_T34 l0_0 x6_1).f2), .int .i64 ((rd_T34 l0_0 x6_1).f3)] 34 (0, 0)) (by (with_reducible repeat (first | refine blk_drewN ?_ _ | refine blk_drew ?_ | refine blk_alloc ?_ _)); refine blk_put (cs := #[.int .i64 ((rd_T34 l0_0 x6_1).f0), .int .i64 ((rd_T34 l0_0 x6_1).f1), .int .i64 ((rd_T34 l0_0 x6_1).f2), .int .i64 0]) ?_ 3 _ rfl; (with_reducible repeat (first | refine blk_drewN ?_ _ | refine blk_drew ?_ | refine blk_alloc ?_ _)); refine blk_put (cs := #[.int .i64 ((rd_T34 l0_0 x6_1).f0), .int .i64 ((rd_T34 l0_0 x6_1).f1), .int .i64 0, .int .i64 0]) ?_ 2 _ rfl; (with_reducible repeat (first | refine blk_drewN ?_ _ | refine blk_drew ?_ | refine blk_alloc ?_ _)); refine blk_put (cs := #[.int .i64 ((rd_T34 l0_0 x6_1).f0), .int .i64 0, .int .i64 0, .int .i64 0]) ?_ 1 _ rfl; (with_reducible repeat (first | refine blk_drewN ?_ _ | refine blk_drew ?_ | refine blk_alloc ?_ _)); refine blk_put (cs := #[.int .i64 0, .int .i64 0, .int .i64 0, .int .i64 0]) ?_ 0 _ rfl; exact bl BK288.out) hb); have n3_ := Aside0.mk (below_step (bw HB.out) hb); clear HO_5 BK283 BK288 HB; have HO_5 := n0_; have BK283 := n1_; have BK288 := n2_; have HB := n3_; clear n0_ n1_ n2_ n3_; (try clear hb); (try clear hb2); (try clear hk); (try clear hi); obtain ⟨Ao26, co26, eo26⟩ := Kd.R_slice HO_5.out; subst eo26; have p290 : 0 ≤ ((ji20) : Int) := oda; have q290 : (ji20) < (x5_1.length : Int) := oda; obtain ⟨ad290, e290, hx290_0⟩ := Kd.at_int (Kd.R_reads' HO_5.out).2.2 (ji20) p290 q290; cases e290; replace p290 := eq_true p290; replace q290 := eq_true q290))
             go_meet
             case rel => exact ⟨_, (((rd x5_1 (ji20)) == 0)), (by first | rfl | (simp; done) | (simp only [← hji20] <;> (first | rfl | simp)) | (simp [*]; done)), H', ⟨by have := HK1.out; have := HJ5.out; first | omega | exact Nat.le_refl _⟩, ⟨rl HO_5.out⟩, ⟨bl BK283.out⟩, ⟨bl BK288.out⟩, ⟨bw HB.out⟩⟩
            ·rw [if_neg c22] at H
             exact absurd H (by simp)
           ·rw [if_neg c21] at H
            exact absurd H (by simp)
          ·rw [if_neg c19] at H
           have c19b0 : decide (0 < x6_1) = false := decide_eq_false c19
           clear c19
           (first | rw [c19b0] | (simp only [i64_w, i32_w]; rw [c19b0]) | skip)
           have H' := Aside0.mk H
           clear H
           have hnb27 := NB288_283.out
           have hnc27 := NB283_288.out
           have hcz28_0 : w14.cell? ⟨gb288, 0, none⟩ = some (.int .i64 0) := (blk_cell BK288.out 0).trans rfl
           have hcz28_1 : w14.cell? ⟨gb288, 1, none⟩ = some (.int .i64 0) := (blk_cell BK288.out 1).trans rfl
           have hcz28_2 : w14.cell? ⟨gb288, 2, none⟩ = some (.int .i64 0) := (blk_cell BK288.out 2).trans rfl
           have hcz28_3 : w14.cell? ⟨gb288, 3, none⟩ = some (.int .i64 0) := (blk_cell BK288.out 3).trans rfl
           have hfz28_0 := blk_frozen BK288.out 0
           have hfz28_1 := blk_frozen BK288.out 1
           have hfz28_2 := blk_frozen BK288.out 2
           have hfz28_3 := blk_frozen BK288.out 3
           go_wp2_with (first | ((with_reducible refine gate_callee (f := 81) rfl ?_); refine goesL_ (some 29) rfl rfl Try.func81 (by kernel_rfl) rfl #[.agg #[.int .i64 ((rd_T34 l0_0 x6_1).f0), .int .i64 ((rd_T34 l0_0 x6_1).f1), .int .i64 ((rd_T34 l0_0 x6_1).f2), .int .i64 ((rd_T34 l0_0 x6_1).f3)], .int .i64 x6_1] rfl ar ?_; (with_reducible refine (spec_l03Node.calls kj5 ((rd_T34 l0_0 x6_1).f0) ((rd_T34 l0_0 x6_1).f1) ((rd_T34 l0_0 x6_1).f2) ((rd_T34 l0_0 x6_1).f3) x6_1 true _ A17.out).mono ?_); rintro e w29 ⟨rfl, hb⟩; refine ⟨_, rfl, ?_⟩; have n0_ := Aside0.mk (Kd.R_below (by (with_reducible repeat (first | apply Kd.R_alloc | apply Kd.R_drewN | apply Kd.R_drew)); exact (Kd.R_mono (Kd.R_far (p := ⟨gb288, 3, none⟩) (Kd.R_far (p := ⟨gb288, 2, none⟩) (Kd.R_far (p := ⟨gb288, 1, none⟩) (Kd.R_far (p := ⟨gb288, 0, none⟩) (Kd.R_types HO_5.out BK288.out (by decide)) (fun _ hk => hk.2) (.int .i64 ((rd_T34 l0_0 x6_1).f0))) (fun _ hk => hk.2) (.int .i64 ((rd_T34 l0_0 x6_1).f1))) (fun _ hk => hk.2) (.int .i64 ((rd_T34 l0_0 x6_1).f2))) (fun _ hk => hk.2) (.int .i64 ((rd_T34 l0_0 x6_1).f3))) (fun _ h_ => h_.1))) hb); have n1_ := Aside0.mk (blk_below (g := gb283) (o := .cells #[.slice (some ad287) l0_0.length c0_0] 26 (0, 0)) (by (with_reducible repeat (first | refine blk_drewN ?_ _ | refine blk_drew ?_ | refine blk_alloc ?_ _)); refine blk_far ?_ NB283_288.out _; (with_reducible repeat (first | refine blk_drewN ?_ _ | refine blk_drew ?_ | refine blk_alloc ?_ _)); refine blk_far ?_ NB283_288.out _; (with_reducible repeat (first | refine blk_drewN ?_ _ | refine blk_drew ?_ | refine blk_alloc ?_ _)); refine blk_far ?_ NB283_288.out _; (with_reducible repeat (first | refine blk_drewN ?_ _ | refine blk_drew ?_ | refine blk_alloc ?_ _)); refine blk_far ?_ NB283_288.out _; exact bl BK283.out) hb); have n2_ := Aside0.mk (blk_below (g := gb288) (o := .cells #[.int .i64 ((rd_T34 l0_0 x6_1).f0), .int .i64 ((rd_T34 l0_0 x6_1).f1), .int .i64 ((rd_T34 l0_0 x6_1).f2), .int .i64 ((rd_T34 l0_0 x6_1).f3)] 34 (0, 0)) (by (with_reducible repeat (first | refine blk_drewN ?_ _ | refine blk_drew ?_ | refine blk_alloc ?_ _)); refine blk_put (cs := #[.int .i64 ((rd_T34 l0_0 x6_1).f0), .int .i64 ((rd_T34 l0_0 x6_1).f1), .int .i64 ((rd_T34 l0_0 x6_1).f2), .int .i64 0]) ?_ 3 _ rfl; (with_reducible repeat (first | refine blk_drewN ?_ _ | refine blk_drew ?_ | refine blk_alloc ?_ _)); refine blk_put (cs := #[.int .i64 ((rd_T34 l0_0 x6_1).f0), .int .i64 ((rd_T34 l0_0 x6_1).f1), .int .i64 0, .int .i64 0]) ?_ 2 _ rfl; (with_reducible repeat (first | refine blk_drewN ?_ _ | refine blk_drew ?_ | refine blk_alloc ?_ _)); refine blk_put (cs := #[.int .i64 ((rd_T34 l0_0 x6_1).f0), .int .i64 0, .int .i64 0, .int .i64 0]) ?_ 1 _ rfl; (with_reducible repeat (first | refine blk_drewN ?_ _ | refine blk_drew ?_ | refine blk_alloc ?_ _)); refine blk_put (cs := #[.int .i64 0, .int .i64 0, .int .i64 0, .int .i64 0]) ?_ 0 _ rfl; exact bl BK288.out) hb); have n3_ := Aside0.mk (below_step (bw HB.out) hb); clear HO_5 BK283 BK288 HB; have HO_5 := n0_; have BK283 := n1_; have BK288 := n2_; have HB := n3_; clear n0_ n1_ n2_ n3_; (try clear hb); (try clear hb2); (try clear hk); (try clear hi)))
           go_meet
           case rel => exact ⟨_, (false), (by first | rfl | (simp; done) | (simp [*]; done)), H', ⟨by have := HK1.out; have := HJ5.out; first | omega | exact Nat.le_refl _⟩, ⟨rl HO_5.out⟩, ⟨bl BK283.out⟩, ⟨bl BK288.out⟩, ⟨bw HB.out⟩⟩
         ·replace c18 := Bool.eq_false_iff.mpr c18
          subst c18
          have H1 : (spec_l03Sizes.j2 kj5 a1 x5_1 x6_1 true l0_0 ((rd_T34 l0_0 x6_1).f0) ((rd_T34 l0_0 x6_1).f1) ((rd_T34 l0_0 x6_1).f2) ((rd_T34 l0_0 x6_1).f3)) = some r := by rw [if_neg (show ¬ (false = true) by decide)] at H; exact H
          clear H
          have H := H1
          clear H1
          have H' := Aside0.mk H
          clear H
          have hnb30 := NB288_283.out
          have hnc30 := NB283_288.out
          have hcz31_0 : w14.cell? ⟨gb288, 0, none⟩ = some (.int .i64 0) := (blk_cell BK288.out 0).trans rfl
          have hcz31_1 : w14.cell? ⟨gb288, 1, none⟩ = some (.int .i64 0) := (blk_cell BK288.out 1).trans rfl
          have hcz31_2 : w14.cell? ⟨gb288, 2, none⟩ = some (.int .i64 0) := (blk_cell BK288.out 2).trans rfl
          have hcz31_3 : w14.cell? ⟨gb288, 3, none⟩ = some (.int .i64 0) := (blk_cell BK288.out 3).trans rfl
          have hfz31_0 := blk_frozen BK288.out 0
          have hfz31_1 := blk_frozen BK288.out 1
          have hfz31_2 := blk_frozen BK288.out 2
          have hfz31_3 := blk_frozen BK288.out 3
          go_wp2_with (first | ((with_reducible refine gate_callee (f := 81) rfl ?_); refine goesL_ (some 29) rfl rfl Try.func81 (by kernel_rfl) rfl #[.agg #[.int .i64 ((rd_T34 l0_0 x6_1).f0), .int .i64 ((rd_T34 l0_0 x6_1).f1), .int .i64 ((rd_T34 l0_0 x6_1).f2), .int .i64 ((rd_T34 l0_0 x6_1).f3)], .int .i64 x6_1] rfl ar ?_; (with_reducible refine (spec_l03Node.calls kj5 ((rd_T34 l0_0 x6_1).f0) ((rd_T34 l0_0 x6_1).f1) ((rd_T34 l0_0 x6_1).f2) ((rd_T34 l0_0 x6_1).f3) x6_1 false _ A17.out).mono ?_); rintro e w32 ⟨rfl, hb⟩; refine ⟨_, rfl, ?_⟩; have n0_ := Aside0.mk (Kd.R_below (by (with_reducible repeat (first | apply Kd.R_alloc | apply Kd.R_drewN | apply Kd.R_drew)); exact (Kd.R_mono (Kd.R_far (p := ⟨gb288, 3, none⟩) (Kd.R_far (p := ⟨gb288, 2, none⟩) (Kd.R_far (p := ⟨gb288, 1, none⟩) (Kd.R_far (p := ⟨gb288, 0, none⟩) (Kd.R_types HO_5.out BK288.out (by decide)) (fun _ hk => hk.2) (.int .i64 ((rd_T34 l0_0 x6_1).f0))) (fun _ hk => hk.2) (.int .i64 ((rd_T34 l0_0 x6_1).f1))) (fun _ hk => hk.2) (.int .i64 ((rd_T34 l0_0 x6_1).f2))) (fun _ hk => hk.2) (.int .i64 ((rd_T34 l0_0 x6_1).f3))) (fun _ h_ => h_.1))) hb); have n1_ := Aside0.mk (blk_below (g := gb283) (o := .cells #[.slice (some ad287) l0_0.length c0_0] 26 (0, 0)) (by (with_reducible repeat (first | refine blk_drewN ?_ _ | refine blk_drew ?_ | refine blk_alloc ?_ _)); refine blk_far ?_ NB283_288.out _; (with_reducible repeat (first | refine blk_drewN ?_ _ | refine blk_drew ?_ | refine blk_alloc ?_ _)); refine blk_far ?_ NB283_288.out _; (with_reducible repeat (first | refine blk_drewN ?_ _ | refine blk_drew ?_ | refine blk_alloc ?_ _)); refine blk_far ?_ NB283_288.out _; (with_reducible repeat (first | refine blk_drewN ?_ _ | refine blk_drew ?_ | refine blk_alloc ?_ _)); refine blk_far ?_ NB283_288.out _; exact bl BK283.out) hb); have n2_ := Aside0.mk (blk_below (g := gb288) (o := .cells #[.int .i64 ((rd_T34 l0_0 x6_1).f0), .int .i64 ((rd_T34 l0_0 x6_1).f1), .int .i64 ((rd_T34 l0_0 x6_1).f2), .int .i64 ((rd_T34 l0_0 x6_1).f3)] 34 (0, 0)) (by (with_reducible repeat (first | refine blk_drewN ?_ _ | refine blk_drew ?_ | refine blk_alloc ?_ _)); refine blk_put (cs := #[.int .i64 ((rd_T34 l0_0 x6_1).f0), .int .i64 ((rd_T34 l0_0 x6_1).f1), .int .i64 ((rd_T34 l0_0 x6_1).f2), .int .i64 0]) ?_ 3 _ rfl; (with_reducible repeat (first | refine blk_drewN ?_ _ | refine blk_drew ?_ | refine blk_alloc ?_ _)); refine blk_put (cs := #[.int .i64 ((rd_T34 l0_0 x6_1).f0), .int .i64 ((rd_T34 l0_0 x6_1).f1), .int .i64 0, .int .i64 0]) ?_ 2 _ rfl; (with_reducible repeat (first | refine blk_drewN ?_ _ | refine blk_drew ?_ | refine blk_alloc ?_ _)); refine blk_put (cs := #[.int .i64 ((rd_T34 l0_0 x6_1).f0), .int .i64 0, .int .i64 0, .int .i64 0]) ?_ 1 _ rfl; (with_reducible repeat (first | refine blk_drewN ?_ _ | refine blk_drew ?_ | refine blk_alloc ?_ _)); refine blk_put (cs := #[.int .i64 0, .int .i64 0, .int .i64 0, .int .i64 0]) ?_ 0 _ rfl; exact bl BK288.out) hb); have n3_ := Aside0.mk (below_step (bw HB.out) hb); clear HO_5 BK283 BK288 HB; have HO_5 := n0_; have BK283 := n1_; have BK288 := n2_; have HB := n3_; clear n0_ n1_ n2_ n3_; (try clear hb); (try clear hb2); (try clear hk); (try clear hi)))
          go_meet
          case rel => exact ⟨_, (true), (by first | rfl | (simp; done) | (simp [*]; done)), H', ⟨by have := HK1.out; have := HJ5.out; first | omega | exact Nat.le_refl _⟩, ⟨rl HO_5.out⟩, ⟨bl BK283.out⟩, ⟨bl BK288.out⟩, ⟨bw HB.out⟩⟩
        case rest =>
         clear HC12
         try clear c1
         try clear c2
         try clear p2
         try clear q2
         try clear hx2
         try clear c3
         try clear p6
         try clear c7
         try clear c7b0
         try clear c8
         try clear c9
         try clear c10
         try clear c10b0
         try clear c11
         try clear c11b0
         try clear c15
         try clear c18
         try clear c19
         try clear c19b0
         try clear c21
         try clear c21b0
         try clear c22
         try clear c22b0
         try clear c23
         try clear c27
         try clear p28
         try clear q28
         try clear hx28
         try clear p29
         try clear q29
         try clear hx29
         try clear c30
         try clear hcz13_0
         try clear hcz16_0
         try clear hcz16_1
         try clear hcz16_2
         try clear hcz16_3
         try clear hcz24_0
         try clear hcz24_1
         try clear hcz24_2
         try clear hcz24_3
         try clear hcz28_0
         try clear hcz28_1
         try clear hcz28_2
         try clear hcz28_3
         try clear hcz31_0
         try clear hcz31_1
         try clear hcz31_2
         try clear hcz31_3
         try clear hcz8_0
         try clear hfz13_0
         try clear hfz16_0
         try clear hfz16_1
         try clear hfz16_2
         try clear hfz16_3
         try clear hfz24_0
         try clear hfz24_1
         try clear hfz24_2
         try clear hfz24_3
         try clear hfz28_0
         try clear hfz28_1
         try clear hfz28_2
         try clear hfz28_3
         try clear hfz31_0
         try clear hfz31_1
         try clear hfz31_2
         try clear hfz31_3
         try clear hfz8_0
         try clear hx287_0
         try clear hx287_1
         try clear hx287_2
         try clear hx287_3
         try clear hx290_0
         try clear p2
         try clear p287
         try clear p290
         try clear q287
         try clear q290
         obtain ⟨kq, x42_11, rfl, HA, HJ11, HO_5, BK283, BK288, HB⟩ := hcut
         cases kq with
         | zero => exact absurd HA.out (by simp [spec_l03Sizes.j2])
         | succ kj11 =>
          have H := HA.out
          clear HA
          simp only [spec_l03Sizes.j2] at H
          by_cases c33 : x42_11 = true
          ·subst c33
           have H1 : (if x5_1.length < 17592186044416 then (spec_l03Sizes.l0 kj11 a1 (x5_1 ++ [0]) (wrap64 (x6_1 + 1)) l0_0) else (none)) = some r := by rw [if_pos rfl] at H; exact H
           clear H
           have H := H1
           clear H1
           by_cases c34 : x5_1.length < 17592186044416
           ·rw [if_pos c34] at H
            have LMc34 := Aside0.mk c34
            clear c34
            obtain ⟨y291, hy291⟩ : ∃ y_ : List Int, y_ = (x5_1 ++ [0]) := ⟨_, rfl⟩
            replace H : (spec_l03Sizes.l0 kj11 a1 y291 (wrap64 (x6_1 + 1)) l0_0) = some r := by first | (rw [hy291]; with_reducible exact H) | (have H2_ := (Option.bind_some _ _).symm.trans H; rw [hy291]; with_reducible exact H2_) | (have H2_ := (Option.bind_some _ _).symm.trans H; with_reducible exact H2_) | with_reducible exact H | (rw [hy291]; exact H) | exact H
            have Ny291 := Aside0.mk hy291
            clear hy291
            have H' := Aside0.mk H
            clear H
            go_wp2_with (first | ((with_reducible refine gate_builtin (b := .append) (xs := #[.tmp 43, .tmp 44]) rfl ?_); (try (refine gate_guard (by rfl) ?_; dsimp only)); at_builtin; refine Kd.R_append (Kd.int .i64) (w0 := w) w.heap.size rfl (.tmp 43) (.tmp 44) 27 3 (.int .i64 0) 8 rfl Try.underlying27 info3 rfl (by decide) (by omega) u5 x5_1 0 [.int .i64 0] (fun _ => True) (fun _ => False) rfl rfl ?aP (fun _ hk => hk.elim) ?aF ?aO ?aB ?aS ?aL ?_; (case aP => exact rfl); (case aB => exact (bw HB.out)); (case aF => exact (fun _ _ => trivial)); (case aO => exact (rl HO_5.out)); (case aS => exact (below_size (bw HB.out))); (case aL => have := LMc34.out; omega); intro v292 w35 ho hb hg hat; rw [← Ny291.out] at ho; have n0_ := Aside0.mk (blk_grown (g := gb283) (o := .cells #[.slice (some ad287) l0_0.length c0_0] 26 (0, 0)) (bl BK283.out) hg (Kd.R_ne HO_5.out BK283.out (by decide))); have n1_ := Aside0.mk (blk_grown (g := gb288) (o := .cells #[.int .i64 ((rd_T34 l0_0 x6_1).f0), .int .i64 ((rd_T34 l0_0 x6_1).f1), .int .i64 ((rd_T34 l0_0 x6_1).f2), .int .i64 ((rd_T34 l0_0 x6_1).f3)] 34 (0, 0)) (bl BK288.out) hg (Kd.R_ne HO_5.out BK288.out (by decide))); have n2_ := Aside0.mk (hb); have n3_ := Aside0.mk (ho); clear BK283 BK288 HB HO_5; have BK283 := n0_; have BK288 := n1_; have HB := n2_; have HO293 := n3_; clear n0_ n1_ n2_ n3_ ho hb hg hat))
            go_roundg kj11
            case measure => have := HK1.out; have := HJ5.out; have := HJ11.out; omega
            case rel => exact ⟨(y291), (wrap64 (x6_1 + 1)), (by first | rfl | (simp; done) | (simp [*]; done)), H', ⟨by have := HK1.out; have := HJ5.out; have := HJ11.out; omega⟩, ⟨rl HO293.out⟩, ⟨bl BK283.out⟩, ⟨bw HB.out⟩⟩
           ·rw [if_neg c34] at H
            exact absurd H (by simp)
          ·replace c33 := Bool.eq_false_iff.mpr c33
           subst c33
           have H1 : (if ((rd_T34 l0_0 x6_1).f0) = 1 then (if 1 > 100000 then (if x5_1.length < 17592186044416 then (spec_l03Sizes.l0 kj11 a1 (x5_1 ++ [100000]) (wrap64 (x6_1 + 1)) l0_0) else (none)) else (if x5_1.length < 17592186044416 then (spec_l03Sizes.l0 kj11 a1 (x5_1 ++ [1]) (wrap64 (x6_1 + 1)) l0_0) else (none))) else (if 0 ≤ ((rd_T34 l0_0 x6_1).f2) then (if ((rd_T34 l0_0 x6_1).f2) < (x5_1.length : Int) then ((spec_l03One.f ((rd_T34 l0_0 x6_1).f0)).bind fun t301 => (if t301 = true then (if (wrap64 (1 + (rd x5_1 ((rd_T34 l0_0 x6_1).f2)))) > 100000 then (if x5_1.length < 17592186044416 then (spec_l03Sizes.l0 kj11 a1 (x5_1 ++ [100000]) (wrap64 (x6_1 + 1)) l0_0) else (none)) else (if x5_1.length < 17592186044416 then (spec_l03Sizes.l0 kj11 a1 (x5_1 ++ [wrap64 (1 + (rd x5_1 ((rd_T34 l0_0 x6_1).f2)))]) (wrap64 (x6_1 + 1)) l0_0) else (none))) else (if 0 ≤ ((rd_T34 l0_0 x6_1).f3) then (if ((rd_T34 l0_0 x6_1).f3) < (x5_1.length : Int) then (if (wrap64 ((wrap64 (1 + (rd x5_1 ((rd_T34 l0_0 x6_1).f2)))) + (rd x5_1 ((rd_T34 l0_0 x6_1).f3)))) > 100000 then (if x5_1.length < 17592186044416 then (spec_l03Sizes.l0 kj11 a1 (x5_1 ++ [100000]) (wrap64 (x6_1 + 1)) l0_0) else (none)) else (if x5_1.length < 17592186044416 then (spec_l03Sizes.l0 kj11 a1 (x5_1 ++ [wrap64 ((wrap64 (1 + (rd x5_1 ((rd_T34 l0_0 x6_1).f2)))) + (rd x5_1 ((rd_T34 l0_0 x6_1).f3)))]) (wrap64 (x6_1 + 1)) l0_0) else (none))) else (none)) else (none)))) else (none)) else (none))) = some r := by rw [if_neg (show ¬ (false = true) by decide)] at H; exact H
           clear H
           have H := H1
           clear H1
           by_cases c36 : ((rd_T34 l0_0 x6_1).f0) = 1
           ·rw [if_pos c36] at H
            have c36b0 : (((rd_T34 l0_0 x6_1).f0) == 1) = true := beq_iff_eq.mpr c36
            have c36b1 : (((rd_T34 l0_0 x6_1).f0) != 1) = false := bne_eq_false_iff_eq.mpr c36
            clear c36
            by_cases c37 : 1 > 100000
            ·exact absurd c37 (by omega)
            ·rw [if_neg c37] at H
             have c37b0 : decide (100000 < 1) = false := decide_eq_false c37
             clear c37
             by_cases c42 : x5_1.length < 17592186044416
             ·rw [if_pos c42] at H
              have LMc42 := Aside0.mk c42
              clear c42
              obtain ⟨y297, hy297⟩ : ∃ y_ : List Int, y_ = (x5_1 ++ [1]) := ⟨_, rfl⟩
              replace H : (spec_l03Sizes.l0 kj11 a1 y297 (wrap64 (x6_1 + 1)) l0_0) = some r := by first | (rw [hy297]; with_reducible exact H) | (have H2_ := (Option.bind_some _ _).symm.trans H; rw [hy297]; with_reducible exact H2_) | (have H2_ := (Option.bind_some _ _).symm.trans H; with_reducible exact H2_) | with_reducible exact H | (rw [hy297]; exact H) | exact H
              have Ny297 := Aside0.mk hy297
              clear hy297
              have H' := Aside0.mk H
              clear H
              have hnb43 := NB288_283.out
              have hnc43 := NB283_288.out
              have hcz44_0 : wc.cell? ⟨gb288, 0, none⟩ = some (.int .i64 ((rd_T34 l0_0 x6_1).f0)) := (blk_cell BK288.out 0).trans rfl
              have hcz44_1 : wc.cell? ⟨gb288, 1, none⟩ = some (.int .i64 ((rd_T34 l0_0 x6_1).f1)) := (blk_cell BK288.out 1).trans rfl
              have hcz44_2 : wc.cell? ⟨gb288, 2, none⟩ = some (.int .i64 ((rd_T34 l0_0 x6_1).f2)) := (blk_cell BK288.out 2).trans rfl
              have hcz44_3 : wc.cell? ⟨gb288, 3, none⟩ = some (.int .i64 ((rd_T34 l0_0 x6_1).f3)) := (blk_cell BK288.out 3).trans rfl
              have hfz44_0 := blk_frozen BK288.out 0
              have hfz44_1 := blk_frozen BK288.out 1
              have hfz44_2 := blk_frozen BK288.out 2
              have hfz44_3 := blk_frozen BK288.out 3
              go_wp2_with (first | ((with_reducible refine gate_builtin (b := .append) (xs := #[.tmp 69, .tmp 71]) rfl ?_); (try (refine gate_guard (by rfl) ?_; dsimp only)); at_builtin; refine Kd.R_append (Kd.int .i64) (w0 := w) w.heap.size rfl (.tmp 69) (.tmp 71) 27 3 (.int .i64 0) 8 rfl Try.underlying27 info3 rfl (by decide) (by omega) u5 x5_1 1 [.int .i64 1] (fun _ => True) (fun _ => False) rfl rfl ?aP (fun _ hk => hk.elim) ?aF ?aO ?aB ?aS ?aL ?_; (case aP => exact rfl); (case aB => exact (bw HB.out)); (case aF => exact (fun _ _ => trivial)); (case aO => exact (rl HO_5.out)); (case aS => exact (below_size (bw HB.out))); (case aL => have := LMc42.out; omega); intro v298 w45 ho hb hg hat; rw [← Ny297.out] at ho; have n0_ := Aside0.mk (blk_grown (g := gb283) (o := .cells #[.slice (some ad287) l0_0.length c0_0] 26 (0, 0)) (bl BK283.out) hg (Kd.R_ne HO_5.out BK283.out (by decide))); have n1_ := Aside0.mk (blk_grown (g := gb288) (o := .cells #[.int .i64 ((rd_T34 l0_0 x6_1).f0), .int .i64 ((rd_T34 l0_0 x6_1).f1), .int .i64 ((rd_T34 l0_0 x6_1).f2), .int .i64 ((rd_T34 l0_0 x6_1).f3)] 34 (0, 0)) (bl BK288.out) hg (Kd.R_ne HO_5.out BK288.out (by decide))); have n2_ := Aside0.mk (hb); have n3_ := Aside0.mk (ho); clear BK283 BK288 HB HO_5; have BK283 := n0_; have BK288 := n1_; have HB := n2_; have HO299 := n3_; clear n0_ n1_ n2_ n3_ ho hb hg hat))
              go_roundg kj11
              case measure => have := HK1.out; have := HJ5.out; have := HJ11.out; omega
              case rel => exact ⟨(y297), (wrap64 (x6_1 + 1)), (by first | rfl | (simp; done) | (simp [*]; done)), H', ⟨by have := HK1.out; have := HJ5.out; have := HJ11.out; omega⟩, ⟨rl HO299.out⟩, ⟨bl BK283.out⟩, ⟨bw HB.out⟩⟩
             ·rw [if_neg c42] at H
              exact absurd H (by simp)
           ·rw [if_neg c36] at H
            have c36b0 : (((rd_T34 l0_0 x6_1).f0) == 1) = false := beq_eq_false_iff_ne.mpr c36
            have c36b1 : (((rd_T34 l0_0 x6_1).f0) != 1) = true := bne_iff_ne.mpr c36
            by_cases c46 : 0 ≤ ((rd_T34 l0_0 x6_1).f2)
            ·rw [if_pos c46] at H
             have c46b0 : decide (0 ≤ ((rd_T34 l0_0 x6_1).f2)) = true := decide_eq_true c46
             clear c46
             by_cases c47 : ((rd_T34 l0_0 x6_1).f2) < (x5_1.length : Int)
             ·rw [if_pos c47] at H
              have c47b0 : decide (((rd_T34 l0_0 x6_1).f2) < (x5_1.length : Int)) = true := decide_eq_true c47
              clear c47
              replace H := Option.bind_eq_some_iff.mp H
              obtain ⟨t301, A480, H⟩ := H
              replace H : (if t301 = true then (if (wrap64 (1 + (rd x5_1 ((rd_T34 l0_0 x6_1).f2)))) > 100000 then (if x5_1.length < 17592186044416 then (spec_l03Sizes.l0 kj11 a1 (x5_1 ++ [100000]) (wrap64 (x6_1 + 1)) l0_0) else (none)) else (if x5_1.length < 17592186044416 then (spec_l03Sizes.l0 kj11 a1 (x5_1 ++ [wrap64 (1 + (rd x5_1 ((rd_T34 l0_0 x6_1).f2)))]) (wrap64 (x6_1 + 1)) l0_0) else (none))) else (if 0 ≤ ((rd_T34 l0_0 x6_1).f3) then (if ((rd_T34 l0_0 x6_1).f3) < (x5_1.length : Int) then (if (wrap64 ((wrap64 (1 + (rd x5_1 ((rd_T34 l0_0 x6_1).f2)))) + (rd x5_1 ((rd_T34 l0_0 x6_1).f3)))) > 100000 then (if x5_1.length < 17592186044416 then (spec_l03Sizes.l0 kj11 a1 (x5_1 ++ [100000]) (wrap64 (x6_1 + 1)) l0_0) else (none)) else (if x5_1.length < 17592186044416 then (spec_l03Sizes.l0 kj11 a1 (x5_1 ++ [wrap64 ((wrap64 (1 + (rd x5_1 ((rd_T34 l0_0 x6_1).f2)))) + (rd x5_1 ((rd_T34 l0_0 x6_1).f3)))]) (wrap64 (x6_1 + 1)) l0_0) else (none))) else (none)) else (none))) = some r := H
              have A48 := Aside0.mk A480
              clear A480
              by_cases c49 : t301 = true
              ·subst c49
               have H1 : (if (wrap64 (1 + (rd x5_1 ((rd_T34 l0_0 x6_1).f2)))) > 100000 then (if x5_1.length < 17592186044416 then (spec_l03Sizes.l0 kj11 a1 (x5_1 ++ [100000]) (wrap64 (x6_1 + 1)) l0_0) else (none)) else (if x5_1.length < 17592186044416 then (spec_l03Sizes.l0 kj11 a1 (x5_1 ++ [wrap64 (1 + (rd x5_1 ((rd_T34 l0_0 x6_1).f2)))]) (wrap64 (x6_1 + 1)) l0_0) else (none))) = some r := by rw [if_pos rfl] at H; exact H
               clear H
               have H := H1
               clear H1
               by_cases c50 : (wrap64 (1 + (rd x5_1 ((rd_T34 l0_0 x6_1).f2)))) > 100000
               ·rw [if_pos c50] at H
                have c50b0 : decide (100000 < (wrap64 (1 + (rd x5_1 ((rd_T34 l0_0 x6_1).f2))))) = true := decide_eq_true c50
                clear c50
                by_cases c51 : x5_1.length < 17592186044416
                ·rw [if_pos c51] at H
                 have LMc51 := Aside0.mk c51
                 clear c51
                 obtain ⟨y302, hy302⟩ : ∃ y_ : List Int, y_ = (x5_1 ++ [100000]) := ⟨_, rfl⟩
                 replace H : (spec_l03Sizes.l0 kj11 a1 y302 (wrap64 (x6_1 + 1)) l0_0) = some r := by first | (rw [hy302]; with_reducible exact H) | (have H2_ := (Option.bind_some _ _).symm.trans H; rw [hy302]; with_reducible exact H2_) | (have H2_ := (Option.bind_some _ _).symm.trans H; with_reducible exact H2_) | with_reducible exact H | (rw [hy302]; exact H) | exact H
                 have Ny302 := Aside0.mk hy302
                 clear hy302
                 have H' := Aside0.mk H
                 clear H
                 have hnb52 := NB288_283.out
                 have hnc52 := NB283_288.out
                 have hcz53_0 : wc.cell? ⟨gb288, 0, none⟩ = some (.int .i64 ((rd_T34 l0_0 x6_1).f0)) := (blk_cell BK288.out 0).trans rfl
                 have hcz53_1 : wc.cell? ⟨gb288, 1, none⟩ = some (.int .i64 ((rd_T34 l0_0 x6_1).f1)) := (blk_cell BK288.out 1).trans rfl
                 have hcz53_2 : wc.cell? ⟨gb288, 2, none⟩ = some (.int .i64 ((rd_T34 l0_0 x6_1).f2)) := (blk_cell BK288.out 2).trans rfl
                 have hcz53_3 : wc.cell? ⟨gb288, 3, none⟩ = some (.int .i64 ((rd_T34 l0_0 x6_1).f3)) := (blk_cell BK288.out 3).trans rfl
                 have hfz53_0 := blk_frozen BK288.out 0
                 have hfz53_1 := blk_frozen BK288.out 1
                 have hfz53_2 := blk_frozen BK288.out 2
                 have hfz53_3 := blk_frozen BK288.out 3
                 obtain ⟨Ao54, co54, eo54⟩ := Kd.R_slice HO_5.out
                 subst eo54
                 have p300 : 0 ≤ (((rd_T34 l0_0 x6_1).f2) : Int) := oda
                 have q300 : ((rd_T34 l0_0 x6_1).f2) < (x5_1.length : Int) := oda
                 obtain ⟨ad300, e300, hx300_0⟩ := Kd.at_int (Kd.R_reads' HO_5.out).2.2 ((rd_T34 l0_0 x6_1).f2) p300 q300
                 cases e300
                 replace p300 := eq_true p300
                 replace q300 := eq_true q300
                 go_wp2_with (first | ((with_reducible refine gate_callee (f := 111) rfl ?_); refine goesL_ (some 58) rfl rfl Try.func111 (by kernel_rfl) rfl #[.int .i64 ((rd_T34 l0_0 x6_1).f0)] rfl ar ?_; (with_reducible refine (spec_l03One.calls ((rd_T34 l0_0 x6_1).f0) true _ A48.out).mono ?_); rintro e w' ⟨rfl, ⟨nd, rfl⟩⟩; refine ⟨_, rfl, ?_⟩) | ((with_reducible refine gate_builtin (b := .append) (xs := #[.tmp 69, .tmp 71]) rfl ?_); (try (refine gate_guard (by rfl) ?_; dsimp only)); at_builtin; refine Kd.R_append (Kd.int .i64) (w0 := w) w.heap.size rfl (.tmp 69) (.tmp 71) 27 3 (.int .i64 0) 8 rfl Try.underlying27 info3 rfl (by decide) (by omega) (.slice (some ad300) x5_1.length co54) x5_1 100000 [.int .i64 100000] (fun _ => True) (fun _ => False) rfl rfl ?aP (fun _ hk => hk.elim) ?aF ?aO ?aB ?aS ?aL ?_; (case aP => exact rfl); (case aB => exact (bw HB.out)); (case aF => exact (fun _ _ => trivial)); (case aO => exact (rl HO_5.out)); (case aS => exact (below_size (bw HB.out))); (case aL => have := LMc51.out; omega); intro v303 w55 ho hb hg hat; rw [← Ny302.out] at ho; have n0_ := Aside0.mk (blk_grown (g := gb283) (o := .cells #[.slice (some ad287) l0_0.length c0_0] 26 (0, 0)) (bl BK283.out) hg (Kd.R_ne HO_5.out BK283.out (by decide))); have n1_ := Aside0.mk (blk_grown (g := gb288) (o := .cells #[.int .i64 ((rd_T34 l0_0 x6_1).f0), .int .i64 ((rd_T34 l0_0 x6_1).f1), .int .i64 ((rd_T34 l0_0 x6_1).f2), .int .i64 ((rd_T34 l0_0 x6_1).f3)] 34 (0, 0)) (bl BK288.out) hg (Kd.R_ne HO_5.out BK288.out (by decide))); have n2_ := Aside0.mk (hb); have n3_ := Aside0.mk (ho); clear BK283 BK288 HB HO_5; have BK283 := n0_; have BK288 := n1_; have HB := n2_; have HO304 := n3_; clear n0_ n1_ n2_ n3_ ho hb hg hat))
                 go_roundg kj11
                 case measure => have := HK1.out; have := HJ5.out; have := HJ11.out; omega
                 case rel => exact ⟨(y302), (wrap64 (x6_1 + 1)), (by first | rfl | (simp; done) | (simp [*]; done)), H', ⟨by have := HK1.out; have := HJ5.out; have := HJ11.out; omega⟩, ⟨rl HO304.out⟩, ⟨bl BK283.out⟩, ⟨bw HB.out⟩⟩
                ·rw [if_neg c51] at H
                 exact absurd H (by simp)
               ·rw [if_neg c50] at H
                have c50b0 : decide (100000 < (wrap64 (1 + (rd x5_1 ((rd_T34 l0_0 x6_1).f2))))) = false := decide_eq_false c50
                clear c50
                by_cases c56 : x5_1.length < 17592186044416
                ·rw [if_pos c56] at H
                 have LMc56 := Aside0.mk c56
                 clear c56
                 obtain ⟨y305, hy305⟩ : ∃ y_ : List Int, y_ = (x5_1 ++ [wrap64 (1 + (rd x5_1 ((rd_T34 l0_0 x6_1).f2)))]) := ⟨_, rfl⟩
                 replace H : (spec_l03Sizes.l0 kj11 a1 y305 (wrap64 (x6_1 + 1)) l0_0) = some r := by first | (rw [hy305]; with_reducible exact H) | (have H2_ := (Option.bind_some _ _).symm.trans H; rw [hy305]; with_reducible exact H2_) | (have H2_ := (Option.bind_some _ _).symm.trans H; with_reducible exact H2_) | with_reducible exact H | (rw [hy305]; exact H) | exact H
                 have Ny305 := Aside0.mk hy305
                 clear hy305
                 have H' := Aside0.mk H
                 clear H
                 have hnb57 := NB288_283.out
                 have hnc57 := NB283_288.out
                 have hcz58_0 : wc.cell? ⟨gb288, 0, none⟩ = some (.int .i64 ((rd_T34 l0_0 x6_1).f0)) := (blk_cell BK288.out 0).trans rfl
                 have hcz58_1 : wc.cell? ⟨gb288, 1, none⟩ = some (.int .i64 ((rd_T34 l0_0 x6_1).f1)) := (blk_cell BK288.out 1).trans rfl
                 have hcz58_2 : wc.cell? ⟨gb288, 2, none⟩ = some (.int .i64 ((rd_T34 l0_0 x6_1).f2)) := (blk_cell BK288.out 2).trans rfl
                 have hcz58_3 : wc.cell? ⟨gb288, 3, none⟩ = some (.int .i64 ((rd_T34 l0_0 x6_1).f3)) := (blk_cell BK288.out 3).trans rfl
                 have hfz58_0 := blk_frozen BK288.out 0
                 have hfz58_1 := blk_frozen BK288.out 1
                 have hfz58_2 := blk_frozen BK288.out 2
                 have hfz58_3 := blk_frozen BK288.out 3
                 obtain ⟨Ao59, co59, eo59⟩ := Kd.R_slice HO_5.out
                 subst eo59
                 have p300 : 0 ≤ (((rd_T34 l0_0 x6_1).f2) : Int) := oda
                 have q300 : ((rd_T34 l0_0 x6_1).f2) < (x5_1.length : Int) := oda
                 obtain ⟨ad300, e300, hx300_0⟩ := Kd.at_int (Kd.R_reads' HO_5.out).2.2 ((rd_T34 l0_0 x6_1).f2) p300 q300
                 cases e300
                 replace p300 := eq_true p300
                 replace q300 := eq_true q300
                 go_wp2_with (first | ((with_reducible refine gate_callee (f := 111) rfl ?_); refine goesL_ (some 58) rfl rfl Try.func111 (by kernel_rfl) rfl #[.int .i64 ((rd_T34 l0_0 x6_1).f0)] rfl ar ?_; (with_reducible refine (spec_l03One.calls ((rd_T34 l0_0 x6_1).f0) true _ A48.out).mono ?_); rintro e w' ⟨rfl, ⟨nd, rfl⟩⟩; refine ⟨_, rfl, ?_⟩) | ((with_reducible refine gate_builtin (b := .append) (xs := #[.tmp 69, .tmp 71]) rfl ?_); (try (refine gate_guard (by rfl) ?_; dsimp only)); at_builtin; refine Kd.R_append (Kd.int .i64) (w0 := w) w.heap.size rfl (.tmp 69) (.tmp 71) 27 3 (.int .i64 0) 8 rfl Try.underlying27 info3 rfl (by decide) (by omega) (.slice (some ad300) x5_1.length co59) x5_1 (wrap64 (1 + (rd x5_1 ((rd_T34 l0_0 x6_1).f2)))) [.int .i64 (wrap64 (1 + (rd x5_1 ((rd_T34 l0_0 x6_1).f2))))] (fun _ => True) (fun _ => False) rfl rfl ?aP (fun _ hk => hk.elim) ?aF ?aO ?aB ?aS ?aL ?_; (case aP => exact rfl); (case aB => exact (bw HB.out)); (case aF => exact (fun _ _ => trivial)); (case aO => exact (rl HO_5.out)); (case aS => exact (below_size (bw HB.out))); (case aL => have := LMc56.out; omega); intro v306 w60 ho hb hg hat; rw [← Ny305.out] at ho; have n0_ := Aside0.mk (blk_grown (g := gb283) (o := .cells #[.slice (some ad287) l0_0.length c0_0] 26 (0, 0)) (bl BK283.out) hg (Kd.R_ne HO_5.out BK283.out (by decide))); have n1_ := Aside0.mk (blk_grown (g := gb288) (o := .cells #[.int .i64 ((rd_T34 l0_0 x6_1).f0), .int .i64 ((rd_T34 l0_0 x6_1).f1), .int .i64 ((rd_T34 l0_0 x6_1).f2), .int .i64 ((rd_T34 l0_0 x6_1).f3)] 34 (0, 0)) (bl BK288.out) hg (Kd.R_ne HO_5.out BK288.out (by decide))); have n2_ := Aside0.mk (hb); have n3_ := Aside0.mk (ho); clear BK283 BK288 HB HO_5; have BK283 := n0_; have BK288 := n1_; have HB := n2_; have HO307 := n3_; clear n0_ n1_ n2_ n3_ ho hb hg hat))
                 go_roundg kj11
                 case measure => have := HK1.out; have := HJ5.out; have := HJ11.out; omega
                 case rel => exact ⟨(y305), (wrap64 (x6_1 + 1)), (by first | rfl | (simp; done) | (simp [*]; done)), H', ⟨by have := HK1.out; have := HJ5.out; have := HJ11.out; omega⟩, ⟨rl HO307.out⟩, ⟨bl BK283.out⟩, ⟨bw HB.out⟩⟩
                ·rw [if_neg c56] at H
                 exact absurd H (by simp)
              ·replace c49 := Bool.eq_false_iff.mpr c49
               subst c49
               have H1 : (if 0 ≤ ((rd_T34 l0_0 x6_1).f3) then (if ((rd_T34 l0_0 x6_1).f3) < (x5_1.length : Int) then (if (wrap64 ((wrap64 (1 + (rd x5_1 ((rd_T34 l0_0 x6_1).f2)))) + (rd x5_1 ((rd_T34 l0_0 x6_1).f3)))) > 100000 then (if x5_1.length < 17592186044416 then (spec_l03Sizes.l0 kj11 a1 (x5_1 ++ [100000]) (wrap64 (x6_1 + 1)) l0_0) else (none)) else (if x5_1.length < 17592186044416 then (spec_l03Sizes.l0 kj11 a1 (x5_1 ++ [wrap64 ((wrap64 (1 + (rd x5_1 ((rd_T34 l0_0 x6_1).f2)))) + (rd x5_1 ((rd_T34 l0_0 x6_1).f3)))]) (wrap64 (x6_1 + 1)) l0_0) else (none))) else (none)) else (none)) = some r := by rw [if_neg (show ¬ (false = true) by decide)] at H; exact H
               clear H
               have H := H1
               clear H1
               by_cases c61 : 0 ≤ ((rd_T34 l0_0 x6_1).f3)
               ·rw [if_pos c61] at H
                have c61b0 : decide (0 ≤ ((rd_T34 l0_0 x6_1).f3)) = true := decide_eq_true c61
                clear c61
                by_cases c62 : ((rd_T34 l0_0 x6_1).f3) < (x5_1.length : Int)
                ·rw [if_pos c62] at H
                 have c62b0 : decide (((rd_T34 l0_0 x6_1).f3) < (x5_1.length : Int)) = true := decide_eq_true c62
                 clear c62
                 by_cases c63 : (wrap64 ((wrap64 (1 + (rd x5_1 ((rd_T34 l0_0 x6_1).f2)))) + (rd x5_1 ((rd_T34 l0_0 x6_1).f3)))) > 100000
                 ·rw [if_pos c63] at H
                  have c63b0 : decide (100000 < (wrap64 ((wrap64 (1 + (rd x5_1 ((rd_T34 l0_0 x6_1).f2)))) + (rd x5_1 ((rd_T34 l0_0 x6_1).f3))))) = true := decide_eq_true c63
                  clear c63
                  by_cases c64 : x5_1.length < 17592186044416
                  ·rw [if_pos c64] at H
                   have LMc64 := Aside0.mk c64
                   clear c64
                   obtain ⟨y309, hy309⟩ : ∃ y_ : List Int, y_ = (x5_1 ++ [100000]) := ⟨_, rfl⟩
                   replace H : (spec_l03Sizes.l0 kj11 a1 y309 (wrap64 (x6_1 + 1)) l0_0) = some r := by first | (rw [hy309]; with_reducible exact H) | (have H2_ := (Option.bind_some _ _).symm.trans H; rw [hy309]; with_reducible exact H2_) | (have H2_ := (Option.bind_some _ _).symm.trans H; with_reducible exact H2_) | with_reducible exact H | (rw [hy309]; exact H) | exact H
                   have Ny309 := Aside0.mk hy309
                   clear hy309
                   have H' := Aside0.mk H
                   clear H
                   have hnb65 := NB288_283.out
                   have hnc65 := NB283_288.out
                   have hcz66_0 : wc.cell? ⟨gb288, 0, none⟩ = some (.int .i64 ((rd_T34 l0_0 x6_1).f0)) := (blk_cell BK288.out 0).trans rfl
                   have hcz66_1 : wc.cell? ⟨gb288, 1, none⟩ = some (.int .i64 ((rd_T34 l0_0 x6_1).f1)) := (blk_cell BK288.out 1).trans rfl
                   have hcz66_2 : wc.cell? ⟨gb288, 2, none⟩ = some (.int .i64 ((rd_T34 l0_0 x6_1).f2)) := (blk_cell BK288.out 2).trans rfl
                   have hcz66_3 : wc.cell? ⟨gb288, 3, none⟩ = some (.int .i64 ((rd_T34 l0_0 x6_1).f3)) := (blk_cell BK288.out 3).trans rfl
                   have hfz66_0 := blk_frozen BK288.out 0
                   have hfz66_1 := blk_frozen BK288.out 1
                   have hfz66_2 := blk_frozen BK288.out 2
                   have hfz66_3 := blk_frozen BK288.out 3
                   obtain ⟨Ao67, co67, eo67⟩ := Kd.R_slice HO_5.out
                   subst eo67
                   have p300 : 0 ≤ (((rd_T34 l0_0 x6_1).f2) : Int) := oda
                   have q300 : ((rd_T34 l0_0 x6_1).f2) < (x5_1.length : Int) := oda
                   obtain ⟨ad300, e300, hx300_0⟩ := Kd.at_int (Kd.R_reads' HO_5.out).2.2 ((rd_T34 l0_0 x6_1).f2) p300 q300
                   cases e300
                   replace p300 := eq_true p300
                   replace q300 := eq_true q300
                   go_wp2_with (first | ((with_reducible refine gate_callee (f := 111) rfl ?_); refine goesL_ (some 58) rfl rfl Try.func111 (by kernel_rfl) rfl #[.int .i64 ((rd_T34 l0_0 x6_1).f0)] rfl ar ?_; (with_reducible refine (spec_l03One.calls ((rd_T34 l0_0 x6_1).f0) false _ A48.out).mono ?_); rintro e w' ⟨rfl, ⟨nd, rfl⟩⟩; refine ⟨_, rfl, ?_⟩; have p308 : 0 ≤ (((rd_T34 l0_0 x6_1).f3) : Int) := oda; have q308 : ((rd_T34 l0_0 x6_1).f3) < (x5_1.length : Int) := oda; obtain ⟨ad308, e308, hx308_0⟩ := Kd.at_int (Kd.R_reads' HO_5.out).2.2 ((rd_T34 l0_0 x6_1).f3) p308 q308; obtain rfl : ad300 = ad308 := (by injection e308); replace p308 := eq_true p308; replace q308 := eq_true q308) | ((with_reducible refine gate_builtin (b := .append) (xs := #[.tmp 69, .tmp 71]) rfl ?_); (try (refine gate_guard (by rfl) ?_; dsimp only)); at_builtin; refine Kd.R_append (Kd.int .i64) (w0 := w) w.heap.size rfl (.tmp 69) (.tmp 71) 27 3 (.int .i64 0) 8 rfl Try.underlying27 info3 rfl (by decide) (by omega) (.slice (some ad300) x5_1.length co67) x5_1 100000 [.int .i64 100000] (fun _ => True) (fun _ => False) rfl rfl ?aP (fun _ hk => hk.elim) ?aF ?aO ?aB ?aS ?aL ?_; (case aP => exact rfl); (case aB => exact (bw HB.out)); (case aF => exact (fun _ _ => trivial)); (case aO => exact (rl HO_5.out)); (case aS => exact (below_size (bw HB.out))); (case aL => have := LMc64.out; omega); intro v310 w68 ho hb hg hat; rw [← Ny309.out] at ho; have n0_ := Aside0.mk (blk_grown (g := gb283) (o := .cells #[.slice (some ad287) l0_0.length c0_0] 26 (0, 0)) (bl BK283.out) hg (Kd.R_ne HO_5.out BK283.out (by decide))); have n1_ := Aside0.mk (blk_grown (g := gb288) (o := .cells #[.int .i64 ((rd_T34 l0_0 x6_1).f0), .int .i64 ((rd_T34 l0_0 x6_1).f1), .int .i64 ((rd_T34 l0_0 x6_1).f2), .int .i64 ((rd_T34 l0_0 x6_1).f3)] 34 (0, 0)) (bl BK288.out) hg (Kd.R_ne HO_5.out BK288.out (by decide))); have n2_ := Aside0.mk (hb); have n3_ := Aside0.mk (ho); clear BK283 BK288 HB HO_5; have BK283 := n0_; have BK288 := n1_; have HB := n2_; have HO311 := n3_; clear n0_ n1_ n2_ n3_ ho hb hg hat))
                   go_roundg kj11
                   case measure => have := HK1.out; have := HJ5.out; have := HJ11.out; omega
                   case rel => exact ⟨(y309), (wrap64 (x6_1 + 1)), (by first | rfl | (simp; done) | (simp [*]; done)), H', ⟨by have := HK1.out; have := HJ5.out; have := HJ11.out; omega⟩, ⟨rl HO311.out⟩, ⟨bl BK283.out⟩, ⟨bw HB.out⟩⟩
                  ·rw [if_neg c64] at H
                   exact absurd H (by simp)
                 ·rw [if_neg c63] at H
                  have c63b0 : decide (100000 < (wrap64 ((wrap64 (1 + (rd x5_1 ((rd_T34 l0_0 x6_1).f2)))) + (rd x5_1 ((rd_T34 l0_0 x6_1).f3))))) = false := decide_eq_false c63
                  clear c63
                  by_cases c69 : x5_1.length < 17592186044416
                  ·rw [if_pos c69] at H
                   have LMc69 := Aside0.mk c69
                   clear c69
                   obtain ⟨y312, hy312⟩ : ∃ y_ : List Int, y_ = (x5_1 ++ [wrap64 ((wrap64 (1 + (rd x5_1 ((rd_T34 l0_0 x6_1).f2)))) + (rd x5_1 ((rd_T34 l0_0 x6_1).f3)))]) := ⟨_, rfl⟩
                   replace H : (spec_l03Sizes.l0 kj11 a1 y312 (wrap64 (x6_1 + 1)) l0_0) = some r := by first | (rw [hy312]; with_reducible exact H) | (have H2_ := (Option.bind_some _ _).symm.trans H; rw [hy312]; with_reducible exact H2_) | (have H2_ := (Option.bind_some _ _).symm.trans H; with_reducible exact H2_) | with_reducible exact H | (rw [hy312]; exact H) | exact H
                   have Ny312 := Aside0.mk hy312
                   clear hy312
                   have H' := Aside0.mk H
                   clear H
                   have hnb70 := NB288_283.out
                   have hnc70 := NB283_288.out
                   have hcz71_0 : wc.cell? ⟨gb288, 0, none⟩ = some (.int .i64 ((rd_T34 l0_0 x6_1).f0)) := (blk_cell BK288.out 0).trans rfl
                   have hcz71_1 : wc.cell? ⟨gb288, 1, none⟩ = some (.int .i64 ((rd_T34 l0_0 x6_1).f1)) := (blk_cell BK288.out 1).trans rfl
                   have hcz71_2 : wc.cell? ⟨gb288, 2, none⟩ = some (.int .i64 ((rd_T34 l0_0 x6_1).f2)) := (blk_cell BK288.out 2).trans rfl
                   have hcz71_3 : wc.cell? ⟨gb288, 3, none⟩ = some (.int .i64 ((rd_T34 l0_0 x6_1).f3)) := (blk_cell BK288.out 3).trans rfl
                   have hfz71_0 := blk_frozen BK288.out 0
                   have hfz71_1 := blk_frozen BK288.out 1
                   have hfz71_2 := blk_frozen BK288.out 2
                   have hfz71_3 := blk_frozen BK288.out 3
                   obtain ⟨Ao72, co72, eo72⟩ := Kd.R_slice HO_5.out
                   subst eo72
                   have p300 : 0 ≤ (((rd_T34 l0_0 x6_1).f2) : Int) := oda
                   have q300 : ((rd_T34 l0_0 x6_1).f2) < (x5_1.length : Int) := oda
                   obtain ⟨ad300, e300, hx300_0⟩ := Kd.at_int (Kd.R_reads' HO_5.out).2.2 ((rd_T34 l0_0 x6_1).f2) p300 q300
                   cases e300
                   replace p300 := eq_true p300
                   replace q300 := eq_true q300
                   go_wp2_with (first | ((with_reducible refine gate_callee (f := 111) rfl ?_); refine goesL_ (some 58) rfl rfl Try.func111 (by kernel_rfl) rfl #[.int .i64 ((rd_T34 l0_0 x6_1).f0)] rfl ar ?_; (with_reducible refine (spec_l03One.calls ((rd_T34 l0_0 x6_1).f0) false _ A48.out).mono ?_); rintro e w' ⟨rfl, ⟨nd, rfl⟩⟩; refine ⟨_, rfl, ?_⟩; have p308 : 0 ≤ (((rd_T34 l0_0 x6_1).f3) : Int) := oda; have q308 : ((rd_T34 l0_0 x6_1).f3) < (x5_1.length : Int) := oda; obtain ⟨ad308, e308, hx308_0⟩ := Kd.at_int (Kd.R_reads' HO_5.out).2.2 ((rd_T34 l0_0 x6_1).f3) p308 q308; obtain rfl : ad300 = ad308 := (by injection e308); replace p308 := eq_true p308; replace q308 := eq_true q308) | ((with_reducible refine gate_builtin (b := .append) (xs := #[.tmp 69, .tmp 71]) rfl ?_); (try (refine gate_guard (by rfl) ?_; dsimp only)); at_builtin; refine Kd.R_append (Kd.int .i64) (w0 := w) w.heap.size rfl (.tmp 69) (.tmp 71) 27 3 (.int .i64 0) 8 rfl Try.underlying27 info3 rfl (by decide) (by omega) (.slice (some ad300) x5_1.length co72) x5_1 (wrap64 ((wrap64 (1 + (rd x5_1 ((rd_T34 l0_0 x6_1).f2)))) + (rd x5_1 ((rd_T34 l0_0 x6_1).f3)))) [.int .i64 (wrap64 ((wrap64 (1 + (rd x5_1 ((rd_T34 l0_0 x6_1).f2)))) + (rd x5_1 ((rd_T34 l0_0 x6_1).f3))))] (fun _ => True) (fun _ => False) rfl rfl ?aP (fun _ hk => hk.elim) ?aF ?aO ?aB ?aS ?aL ?_; (case aP => exact rfl); (case aB => exact (bw HB.out)); (case aF => exact (fun _ _ => trivial)); (case aO => exact (rl HO_5.out)); (case aS => exact (below_size (bw HB.out))); (case aL => have := LMc69.out; omega); intro v313 w73 ho hb hg hat; rw [← Ny312.out] at ho; have n0_ := Aside0.mk (blk_grown (g := gb283) (o := .cells #[.slice (some ad287) l0_0.length c0_0] 26 (0, 0)) (bl BK283.out) hg (Kd.R_ne HO_5.out BK283.out (by decide))); have n1_ := Aside0.mk (blk_grown (g := gb288) (o := .cells #[.int .i64 ((rd_T34 l0_0 x6_1).f0), .int .i64 ((rd_T34 l0_0 x6_1).f1), .int .i64 ((rd_T34 l0_0 x6_1).f2), .int .i64 ((rd_T34 l0_0 x6_1).f3)] 34 (0, 0)) (bl BK288.out) hg (Kd.R_ne HO_5.out BK288.out (by decide))); have n2_ := Aside0.mk (hb); have n3_ := Aside0.mk (ho); clear BK283 BK288 HB HO_5; have BK283 := n0_; have BK288 := n1_; have HB := n2_; have HO314 := n3_; clear n0_ n1_ n2_ n3_ ho hb hg hat))
                   go_roundg kj11
                   case measure => have := HK1.out; have := HJ5.out; have := HJ11.out; omega
                   case rel => exact ⟨(y312), (wrap64 (x6_1 + 1)), (by first | rfl | (simp; done) | (simp [*]; done)), H', ⟨by have := HK1.out; have := HJ5.out; have := HJ11.out; omega⟩, ⟨rl HO314.out⟩, ⟨bl BK283.out⟩, ⟨bw HB.out⟩⟩
                  ·rw [if_neg c69] at H
                   exact absurd H (by simp)
                ·rw [if_neg c62] at H
                 exact absurd H (by simp)
               ·rw [if_neg c61] at H
                exact absurd H (by simp)
             ·rw [if_neg c47] at H
              exact absurd H (by simp)
            ·rw [if_neg c46] at H
             exact absurd H (by simp)
       ·rw [if_neg c11] at H
        exact absurd H (by simp)
      ·rw [if_neg c10] at H
       exact absurd H (by simp)
     ·replace c9 := Bool.eq_false_iff.mpr c9
      subst c9
      have H1 : (some x5_1) = some r := by rw [if_neg (show ¬ (false = true) by decide)] at H; exact H
      clear H
      have H := H1
      clear H1
      obtain rfl := Option.some.inj H
      go_wp2
      go_ret
      exact ⟨_, by first | rfl | (simp [errW_none, errW_some] <;> rfl) | (simp [*, errW_none, errW_some] <;> rfl), by (with_reducible repeat (first | apply Kd.R_alloc | apply Kd.R_drewN | apply Kd.R_drew)); exact HO_5.out, bw HB.out⟩

end Go.Proofs.Ytkckdibalopagaa.SFnTerms
