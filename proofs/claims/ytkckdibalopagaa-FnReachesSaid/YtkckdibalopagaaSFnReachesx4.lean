-- Began as a print of the kit over stubs (wip/stub.py); the sections that are named OWN are this session's.
import Derived.Test.YtkckdibalopagaaSFnReachesx0
import Derived.Test.YtkckdibalopagaaVShort
namespace Go.Proofs.Ytkckdibalopagaa.SFnReaches
open Go.RowKit Go.Proofs.YtkckdibalopagaaW.PrintWords Go.Proofs.YtkckdibalopagaaW.PrintLast Go.Proofs.YtkckdibalopagaaW.PrintMore Go.Proofs.Ytkckdibalopagaa.Short
attribute [local go_sem] max2_int min2_int max_two min_two max_three min_three max_four min_four   -- for this text's walks alone
set_option linter.unusedVariables false
set_option linter.unusedSimpArgs false

/-! ### impl_canMake: function 72 -/
def impl_canMake.j0 : Nat → List Bool → List Int → Int → Bool → Int → Int → Int → Int → Option (Bool)
  | 0, _, _, _, _, _, _, _, _ => none
  | k + 1, x1, x2, x8, x11, x181000, x181001, x181002, x181003 => if x11 = true then (if 0 ≤ x181002 then (if x181002 < (x1.length : Int) then (some (rdOf false x1 x181002)) else (none)) else (none)) else (if x8 = 7 then (if 0 ≤ x181002 then (if x181002 < (x1.length : Int) then (if rdOf false x1 x181002 = true then (if 0 ≤ x181003 then (if x181003 < (x2.length : Int) then (if (rd x2 x181003) > 0 then (if 0 ≤ (rd x2 x181003) then (if (rd x2 x181003) < (x1.length : Int) then (if rdOf false x1 (rd x2 x181003) = true then (some true) else (if x181003 < (x1.length : Int) then (if rdOf false x1 x181003 = true then (if x181002 < (x2.length : Int) then (if (rd x2 x181002) > 0 then (if 0 ≤ (rd x2 x181002) then (if (rd x2 x181002) < (x1.length : Int) then (some (rdOf false x1 (rd x2 x181002))) else (none)) else (none)) else (some false)) else (none)) else (some false)) else (none))) else (none)) else (none)) else (if x181003 < (x1.length : Int) then (if rdOf false x1 x181003 = true then (if x181002 < (x2.length : Int) then (if (rd x2 x181002) > 0 then (if 0 ≤ (rd x2 x181002) then (if (rd x2 x181002) < (x1.length : Int) then (some (rdOf false x1 (rd x2 x181002))) else (none)) else (none)) else (some false)) else (none)) else (some false)) else (none))) else (none)) else (none)) else (if 0 ≤ x181003 then (if x181003 < (x1.length : Int) then (if rdOf false x1 x181003 = true then (if x181002 < (x2.length : Int) then (if (rd x2 x181002) > 0 then (if 0 ≤ (rd x2 x181002) then (if (rd x2 x181002) < (x1.length : Int) then (some (rdOf false x1 (rd x2 x181002))) else (none)) else (none)) else (some false)) else (none)) else (some false)) else (none)) else (none))) else (none)) else (none)) else (if 0 ≤ x181002 then (if x181002 < (x1.length : Int) then (if rdOf false x1 x181002 = true then (if 0 ≤ x181003 then (if x181003 < (x1.length : Int) then (some (rdOf false x1 x181003)) else (none)) else (none)) else (some false)) else (none)) else (none)))
def impl_canMake.f (k : Nat) (a0_0 : Int) (a0_1 : Int) (a0_2 : Int) (a0_3 : Int) (l1 : List Bool) (l2 : List Int) : Option (Bool) := if a0_0 = 1 then (some false) else (if a0_0 = 3 then (impl_canMake.j0 k l1 l2 a0_0 (a0_0 == 3) a0_0 a0_1 a0_2 a0_3) else (impl_canMake.j0 k l1 l2 a0_0 (a0_0 == 6) a0_0 a0_1 a0_2 a0_3))
set_option maxHeartbeats 8000000 in
set_option maxRecDepth 100000 in
theorem impl_canMake.calls (k : Nat) (a0_0 : Int) (a0_1 : Int) (a0_2 : Int) (a0_3 : Int) (A1 : Option Addr) (c1 : Nat) (l1 : List Bool) (A2 : Option Addr) (c2 : Nat) (l2 : List Int) (r : Bool) (w : World) (hr1 : Kd.C Kd.bool w A1 l1.length l1) (hc1 : l1.length ≤ c1) (hr2 : Kd.C (Kd.int .i64) w A2 l2.length l2) (hc2 : l2.length ≤ c2) (h : impl_canMake.f k a0_0 a0_1 a0_2 a0_3 l1 l2 = some r) :
  Calls Try.prog 72 #[.agg #[.int .i64 a0_0, .int .i64 a0_1, .int .i64 a0_2, .int .i64 a0_3], .slice A1 l1.length c1, .slice A2 l2.length c2] w fun e w' => e = .returned (.bool r) ∧ Below w.heap.size w w' := by
 have hu34 := Try.underlying34
 have HR1 := Aside0.mk hr1
 have HC1 := Aside0.mk hc1
 clear hr1 hc1
 have HR2 := Aside0.mk hr2
 have HC2 := Aside0.mk hc2
 clear hr2 hc2
 have HB := Aside0.mk (Below.refl w.heap.size w)
 have H : (if a0_0 = 1 then (some false) else (if a0_0 = 3 then (impl_canMake.j0 k l1 l2 a0_0 (a0_0 == 3) a0_0 a0_1 a0_2 a0_3) else (impl_canMake.j0 k l1 l2 a0_0 (a0_0 == 6) a0_0 a0_1 a0_2 a0_3))) = some r := h
 clear h
 by_cases c4 : a0_0 = 1
 ·rw [if_pos c4] at H
  have c4b0 : (a0_0 == 1) = true := beq_iff_eq.mpr c4
  have c4b1 : (a0_0 != 1) = false := bne_eq_false_iff_eq.mpr c4
  clear c4
  obtain rfl := Option.some.inj H
  go_enter Try.func72, Try.ntmps72
  go_wp2_with (first | ((with_reducible refine gate_dst (N := 3) rfl ?_); refine box_event ?hg (N := 3) ?hd (cs := #[.int .i64 a0_0, .int .i64 a0_1, .int .i64 a0_2, .int .i64 a0_3]) (t := 34) ?hr ?_; (case hd => rfl); (case hg => rfl); (case hr => first | (go_simp; done) | (go_simp; rfl)); intro gb180 hg w5 hbox hb; have n0_ := Aside0.mk (below_step (bw HB.out) hb); have n1_ := Aside0.mk (hbox); have n2_ := Aside0.mk ((by rw [hg]; exact (below_size (bw HB.out)) : w.heap.size ≤ gb180)); have n3_ := Aside0.mk ((by rw [hg]; exact (below_size (bw HB.out)) : w.heap.size ≤ gb180)); clear HB; have HB := n0_; have BK180 := n1_; have GW180 := n2_; have GE180 := n3_; clear n0_ n1_ n2_ n3_ hb hbox hg; have hcz6_0 : w5.cell? ⟨gb180, 0, none⟩ = some (.int .i64 a0_0) := (blk_cell BK180.out 0).trans rfl; have hcz6_1 : w5.cell? ⟨gb180, 1, none⟩ = some (.int .i64 a0_1) := (blk_cell BK180.out 1).trans rfl; have hcz6_2 : w5.cell? ⟨gb180, 2, none⟩ = some (.int .i64 a0_2) := (blk_cell BK180.out 2).trans rfl; have hcz6_3 : w5.cell? ⟨gb180, 3, none⟩ = some (.int .i64 a0_3) := (blk_cell BK180.out 3).trans rfl; have hfz6_0 := blk_frozen BK180.out 0; have hfz6_1 := blk_frozen BK180.out 1; have hfz6_2 := blk_frozen BK180.out 2; have hfz6_3 := blk_frozen BK180.out 3))
  go_ret
  exact ⟨by first | rfl | (simp [errW_none, errW_some] <;> rfl) | (simp [*, errW_none, errW_some] <;> rfl), bw HB.out⟩
 ·rw [if_neg c4] at H
  have c4b0 : (a0_0 == 1) = false := beq_eq_false_iff_ne.mpr c4
  have c4b1 : (a0_0 != 1) = true := bne_iff_ne.mpr c4
  have HC7 := Aside0.mk H
  clear H
  go_enter Try.func72, Try.ntmps72
  go_upto_if 11 with (first | ((with_reducible refine gate_dst (N := 3) rfl ?_); refine box_event ?hg (N := 3) ?hd (cs := #[.int .i64 a0_0, .int .i64 a0_1, .int .i64 a0_2, .int .i64 a0_3]) (t := 34) ?hr ?_; (case hd => rfl); (case hg => rfl); (case hr => first | (go_simp; done) | (go_simp; rfl)); intro gb180 hg w8 hbox hb; have n0_ := Aside0.mk (below_step (bw HB.out) hb); have n1_ := Aside0.mk (hbox); have n2_ := Aside0.mk ((by rw [hg]; exact (below_size (bw HB.out)) : w.heap.size ≤ gb180)); have n3_ := Aside0.mk ((by rw [hg]; exact (below_size (bw HB.out)) : w.heap.size ≤ gb180)); clear HB; have HB := n0_; have BK180 := n1_; have GW180 := n2_; have GE180 := n3_; clear n0_ n1_ n2_ n3_ hb hbox hg; have hcz9_0 : w8.cell? ⟨gb180, 0, none⟩ = some (.int .i64 a0_0) := (blk_cell BK180.out 0).trans rfl; have hcz9_1 : w8.cell? ⟨gb180, 1, none⟩ = some (.int .i64 a0_1) := (blk_cell BK180.out 1).trans rfl; have hcz9_2 : w8.cell? ⟨gb180, 2, none⟩ = some (.int .i64 a0_2) := (blk_cell BK180.out 2).trans rfl; have hcz9_3 : w8.cell? ⟨gb180, 3, none⟩ = some (.int .i64 a0_3) := (blk_cell BK180.out 3).trans rfl; have hfz9_0 := blk_frozen BK180.out 0; have hfz9_1 := blk_frozen BK180.out 1; have hfz9_2 := blk_frozen BK180.out 2; have hfz9_3 := blk_frozen BK180.out 3))
  (try simp only [Act.put, List.setIfInBounds_toArray, List.set_cons_zero, List.set_cons_succ])
  go_cut [11] (fun v11 wc => ∃ (kq : Nat) (x11_6 : Bool), v11 = .bool x11_6 ∧ Aside0 (impl_canMake.j0 kq l1 l2 a0_0 x11_6 a0_0 a0_1 a0_2 a0_3 = some r) ∧ Aside0 (kq ≤ k) ∧ Aside0 (wc.heap[gb180]? = some (.cells #[.int .i64 a0_0, .int .i64 a0_1, .int .i64 a0_2, .int .i64 a0_3] 34 (0, 0))) ∧ Aside0 (Below w.heap.size w wc))
  case first =>
   have H := HC7.out
   clear HC7
   by_cases c10 : a0_0 = 3
   ·rw [if_pos c10] at H
    have c10b0 : (a0_0 == 3) = true := beq_iff_eq.mpr c10
    have c10b1 : (a0_0 != 3) = false := bne_eq_false_iff_eq.mpr c10
    clear c10
    (first | rw [c10b0] | (simp only [i64_w, i32_w]; rw [c10b0]) | skip)
    have H' := Aside0.mk H
    clear H
    go_wp2
    go_meet
    case rel => exact ⟨_, ((a0_0 == 3)), (by first | rfl | (simp; done) | (simp [*]; done)), H', ⟨by first | omega | exact Nat.le_refl _⟩, ⟨bl BK180.out⟩, ⟨bw HB.out⟩⟩
   ·rw [if_neg c10] at H
    have c10b0 : (a0_0 == 3) = false := beq_eq_false_iff_ne.mpr c10
    have c10b1 : (a0_0 != 3) = true := bne_iff_ne.mpr c10
    (first | rw [c10b0] | (simp only [i64_w, i32_w]; rw [c10b0]) | skip)
    have H' := Aside0.mk H
    clear H
    go_wp2
    go_meet
    case rel => exact ⟨_, ((a0_0 == 6)), (by first | rfl | (simp; done) | (simp [*]; done)), H', ⟨by first | omega | exact Nat.le_refl _⟩, ⟨bl BK180.out⟩, ⟨bw HB.out⟩⟩
  case rest =>
   clear HC7
   try clear c1
   try clear c2
   try clear p2
   try clear c4
   try clear c4b0
   try clear c4b1
   try clear c7
   try clear c10
   try clear c10b0
   try clear c10b1
   try clear hcz6_0
   try clear hcz6_1
   try clear hcz6_2
   try clear hcz6_3
   try clear hcz9_0
   try clear hcz9_1
   try clear hcz9_2
   try clear hcz9_3
   try clear hfz6_0
   try clear hfz6_1
   try clear hfz6_2
   try clear hfz6_3
   try clear hfz9_0
   try clear hfz9_1
   try clear hfz9_2
   try clear hfz9_3
   obtain ⟨kq, x11_6, rfl, HA, HJ6, BK180, HB⟩ := hcut
   cases kq with
   | zero => exact absurd HA.out (by simp [impl_canMake.j0])
   | succ kj6 =>
    have H := HA.out
    clear HA
    simp only [impl_canMake.j0] at H
    by_cases c11 : x11_6 = true
    ·subst c11
     have H1 : (if 0 ≤ a0_2 then (if a0_2 < (l1.length : Int) then (some (rdOf false l1 a0_2)) else (none)) else (none)) = some r := by rw [if_pos rfl] at H; exact H
     clear H
     have H := H1
     clear H1
     by_cases c12 : 0 ≤ a0_2
     ·rw [if_pos c12] at H
      have c12b0 : decide (0 ≤ a0_2) = true := decide_eq_true c12
      clear c12
      by_cases c13 : a0_2 < (l1.length : Int)
      ·rw [if_pos c13] at H
       have c13b0 : decide (a0_2 < (l1.length : Int)) = true := decide_eq_true c13
       clear c13
       obtain rfl := Option.some.inj H
       have hcz14_0 : wc.cell? ⟨gb180, 0, none⟩ = some (.int .i64 a0_0) := (blk_cell BK180.out 0).trans rfl
       have hcz14_1 : wc.cell? ⟨gb180, 1, none⟩ = some (.int .i64 a0_1) := (blk_cell BK180.out 1).trans rfl
       have hcz14_2 : wc.cell? ⟨gb180, 2, none⟩ = some (.int .i64 a0_2) := (blk_cell BK180.out 2).trans rfl
       have hcz14_3 : wc.cell? ⟨gb180, 3, none⟩ = some (.int .i64 a0_3) := (blk_cell BK180.out 3).trans rfl
       have hfz14_0 := blk_frozen BK180.out 0
       have hfz14_1 := blk_frozen BK180.out 1
       have hfz14_2 := blk_frozen BK180.out 2
       have hfz14_3 := blk_frozen BK180.out 3
       have p181 : 0 ≤ (a0_2 : Int) := oda
       have q181 : a0_2 < (l1.length : Int) := oda
       obtain ⟨ad181, e181, hx181_0⟩ := Kd.at_bool HR1.out a0_2 p181 q181
       cases e181
       replace hx181_0 := (HB.out.cell (World.block_lt_of_cell? w _ hx181_0)).trans hx181_0
       replace p181 := eq_true p181
       replace q181 := eq_true q181
       go_wp2
       go_ret
       exact ⟨by first | rfl | (simp [errW_none, errW_some] <;> rfl) | (simp [*, errW_none, errW_some] <;> rfl), bw HB.out⟩
      ·rw [if_neg c13] at H
       exact absurd H (by simp)
     ·rw [if_neg c12] at H
      exact absurd H (by simp)
    ·replace c11 := Bool.eq_false_iff.mpr c11
     subst c11
     have H1 : (if a0_0 = 7 then (if 0 ≤ a0_2 then (if a0_2 < (l1.length : Int) then (if rdOf false l1 a0_2 = true then (if 0 ≤ a0_3 then (if a0_3 < (l2.length : Int) then (if (rd l2 a0_3) > 0 then (if 0 ≤ (rd l2 a0_3) then (if (rd l2 a0_3) < (l1.length : Int) then (if rdOf false l1 (rd l2 a0_3) = true then (some true) else (if a0_3 < (l1.length : Int) then (if rdOf false l1 a0_3 = true then (if a0_2 < (l2.length : Int) then (if (rd l2 a0_2) > 0 then (if 0 ≤ (rd l2 a0_2) then (if (rd l2 a0_2) < (l1.length : Int) then (some (rdOf false l1 (rd l2 a0_2))) else (none)) else (none)) else (some false)) else (none)) else (some false)) else (none))) else (none)) else (none)) else (if a0_3 < (l1.length : Int) then (if rdOf false l1 a0_3 = true then (if a0_2 < (l2.length : Int) then (if (rd l2 a0_2) > 0 then (if 0 ≤ (rd l2 a0_2) then (if (rd l2 a0_2) < (l1.length : Int) then (some (rdOf false l1 (rd l2 a0_2))) else (none)) else (none)) else (some false)) else (none)) else (some false)) else (none))) else (none)) else (none)) else (if 0 ≤ a0_3 then (if a0_3 < (l1.length : Int) then (if rdOf false l1 a0_3 = true then (if a0_2 < (l2.length : Int) then (if (rd l2 a0_2) > 0 then (if 0 ≤ (rd l2 a0_2) then (if (rd l2 a0_2) < (l1.length : Int) then (some (rdOf false l1 (rd l2 a0_2))) else (none)) else (none)) else (some false)) else (none)) else (some false)) else (none)) else (none))) else (none)) else (none)) else (if 0 ≤ a0_2 then (if a0_2 < (l1.length : Int) then (if rdOf false l1 a0_2 = true then (if 0 ≤ a0_3 then (if a0_3 < (l1.length : Int) then (some (rdOf false l1 a0_3)) else (none)) else (none)) else (some false)) else (none)) else (none))) = some r := by rw [if_neg (show ¬ (false = true) by decide)] at H; exact H
     clear H
     have H := H1
     clear H1
     by_cases c15 : a0_0 = 7
     ·rw [if_pos c15] at H
      have c15b0 : (a0_0 == 7) = true := beq_iff_eq.mpr c15
      have c15b1 : (a0_0 != 7) = false := bne_eq_false_iff_eq.mpr c15
      clear c15
      by_cases c16 : 0 ≤ a0_2
      ·rw [if_pos c16] at H
       have c16b0 : decide (0 ≤ a0_2) = true := decide_eq_true c16
       clear c16
       by_cases c17 : a0_2 < (l1.length : Int)
       ·rw [if_pos c17] at H
        have c17b0 : decide (a0_2 < (l1.length : Int)) = true := decide_eq_true c17
        clear c17
        obtain ⟨bq18, hbq18⟩ : ∃ b_ : Bool, b_ = (rdOf false l1 a0_2) := ⟨_, rfl⟩
        replace H : (if bq18 = true then (if 0 ≤ a0_3 then (if a0_3 < (l2.length : Int) then (if (rd l2 a0_3) > 0 then (if 0 ≤ (rd l2 a0_3) then (if (rd l2 a0_3) < (l1.length : Int) then (if rdOf false l1 (rd l2 a0_3) = true then (some true) else (if a0_3 < (l1.length : Int) then (if rdOf false l1 a0_3 = true then (if a0_2 < (l2.length : Int) then (if (rd l2 a0_2) > 0 then (if 0 ≤ (rd l2 a0_2) then (if (rd l2 a0_2) < (l1.length : Int) then (some (rdOf false l1 (rd l2 a0_2))) else (none)) else (none)) else (some false)) else (none)) else (some false)) else (none))) else (none)) else (none)) else (if a0_3 < (l1.length : Int) then (if rdOf false l1 a0_3 = true then (if a0_2 < (l2.length : Int) then (if (rd l2 a0_2) > 0 then (if 0 ≤ (rd l2 a0_2) then (if (rd l2 a0_2) < (l1.length : Int) then (some (rdOf false l1 (rd l2 a0_2))) else (none)) else (none)) else (some false)) else (none)) else (some false)) else (none))) else (none)) else (none)) else (if 0 ≤ a0_3 then (if a0_3 < (l1.length : Int) then (if rdOf false l1 a0_3 = true then (if a0_2 < (l2.length : Int) then (if (rd l2 a0_2) > 0 then (if 0 ≤ (rd l2 a0_2) then (if (rd l2 a0_2) < (l1.length : Int) then (some (rdOf false l1 (rd l2 a0_2))) else (none)) else (none)) else (some false)) else (none)) else (some false)) else (none)) else (none))) = some r := by rw [← hbq18] at H; exact H
        have Nbq18 := Aside0.mk hbq18
        clear hbq18
        by_cases c19 : bq18 = true
        ·subst c19
         have H1 : (if 0 ≤ a0_3 then (if a0_3 < (l2.length : Int) then (if (rd l2 a0_3) > 0 then (if 0 ≤ (rd l2 a0_3) then (if (rd l2 a0_3) < (l1.length : Int) then (if rdOf false l1 (rd l2 a0_3) = true then (some true) else (if a0_3 < (l1.length : Int) then (if rdOf false l1 a0_3 = true then (if a0_2 < (l2.length : Int) then (if (rd l2 a0_2) > 0 then (if 0 ≤ (rd l2 a0_2) then (if (rd l2 a0_2) < (l1.length : Int) then (some (rdOf false l1 (rd l2 a0_2))) else (none)) else (none)) else (some false)) else (none)) else (some false)) else (none))) else (none)) else (none)) else (if a0_3 < (l1.length : Int) then (if rdOf false l1 a0_3 = true then (if a0_2 < (l2.length : Int) then (if (rd l2 a0_2) > 0 then (if 0 ≤ (rd l2 a0_2) then (if (rd l2 a0_2) < (l1.length : Int) then (some (rdOf false l1 (rd l2 a0_2))) else (none)) else (none)) else (some false)) else (none)) else (some false)) else (none))) else (none)) else (none)) = some r := by rw [if_pos rfl] at H; exact H
         clear H
         have H := H1
         clear H1
         by_cases c20 : 0 ≤ a0_3
         ·rw [if_pos c20] at H
          have c20b0 : decide (0 ≤ a0_3) = true := decide_eq_true c20
          clear c20
          by_cases c21 : a0_3 < (l2.length : Int)
          ·rw [if_pos c21] at H
           have c21b0 : decide (a0_3 < (l2.length : Int)) = true := decide_eq_true c21
           clear c21
           by_cases c22 : (rd l2 a0_3) > 0
           ·rw [if_pos c22] at H
            have c22b0 : decide (0 < (rd l2 a0_3)) = true := decide_eq_true c22
            clear c22
            by_cases c23 : 0 ≤ (rd l2 a0_3)
            ·rw [if_pos c23] at H
             have c23b0 : decide (0 ≤ (rd l2 a0_3)) = true := decide_eq_true c23
             clear c23
             by_cases c24 : (rd l2 a0_3) < (l1.length : Int)
             ·rw [if_pos c24] at H
              have c24b0 : decide ((rd l2 a0_3) < (l1.length : Int)) = true := decide_eq_true c24
              clear c24
              obtain ⟨bq25, hbq25⟩ : ∃ b_ : Bool, b_ = (rdOf false l1 (rd l2 a0_3)) := ⟨_, rfl⟩
              replace H : (if bq25 = true then (some true) else (if a0_3 < (l1.length : Int) then (if rdOf false l1 a0_3 = true then (if a0_2 < (l2.length : Int) then (if (rd l2 a0_2) > 0 then (if 0 ≤ (rd l2 a0_2) then (if (rd l2 a0_2) < (l1.length : Int) then (some (rdOf false l1 (rd l2 a0_2))) else (none)) else (none)) else (some false)) else (none)) else (some false)) else (none))) = some r := by rw [← hbq25] at H; exact H
              have Nbq25 := Aside0.mk hbq25
              clear hbq25
              by_cases c26 : bq25 = true
              ·subst c26
               have H1 : (some true) = some r := by rw [if_pos rfl] at H; exact H
               clear H
               have H := H1
               clear H1
               obtain rfl := Option.some.inj H
               have hcz27_0 : wc.cell? ⟨gb180, 0, none⟩ = some (.int .i64 a0_0) := (blk_cell BK180.out 0).trans rfl
               have hcz27_1 : wc.cell? ⟨gb180, 1, none⟩ = some (.int .i64 a0_1) := (blk_cell BK180.out 1).trans rfl
               have hcz27_2 : wc.cell? ⟨gb180, 2, none⟩ = some (.int .i64 a0_2) := (blk_cell BK180.out 2).trans rfl
               have hcz27_3 : wc.cell? ⟨gb180, 3, none⟩ = some (.int .i64 a0_3) := (blk_cell BK180.out 3).trans rfl
               have hfz27_0 := blk_frozen BK180.out 0
               have hfz27_1 := blk_frozen BK180.out 1
               have hfz27_2 := blk_frozen BK180.out 2
               have hfz27_3 := blk_frozen BK180.out 3
               have p182 : 0 ≤ (a0_2 : Int) := oda
               have q182 : a0_2 < (l1.length : Int) := oda
               obtain ⟨ad182, e182, hx182_0⟩ := Kd.at_bool HR1.out a0_2 p182 q182
               (try rw [← Nbq18.out] at hx182_0)
               (try rw [← Nbq25.out] at hx182_0)
               cases e182
               replace hx182_0 := (HB.out.cell (World.block_lt_of_cell? w _ hx182_0)).trans hx182_0
               replace p182 := eq_true p182
               replace q182 := eq_true q182
               have p183 : 0 ≤ (a0_3 : Int) := oda
               have q183 : a0_3 < (l2.length : Int) := oda
               obtain ⟨ad183, e183, hx183_0⟩ := Kd.at_int HR2.out a0_3 p183 q183
               cases e183
               replace hx183_0 := (HB.out.cell (World.block_lt_of_cell? w _ hx183_0)).trans hx183_0
               replace p183 := eq_true p183
               replace q183 := eq_true q183
               have p184 : 0 ≤ (a0_3 : Int) := oda
               have q184 : a0_3 < (l2.length : Int) := oda
               obtain ⟨ad184, e184, hx184_0⟩ := Kd.at_int HR2.out a0_3 p184 q184
               obtain rfl : ad183 = ad184 := (by injection e184)
               replace hx184_0 := (HB.out.cell (World.block_lt_of_cell? w _ hx184_0)).trans hx184_0
               replace p184 := eq_true p184
               replace q184 := eq_true q184
               have p185 : 0 ≤ ((rd l2 a0_3) : Int) := oda
               have q185 : (rd l2 a0_3) < (l1.length : Int) := oda
               obtain ⟨ad185, e185, hx185_0⟩ := Kd.at_bool HR1.out (rd l2 a0_3) p185 q185
               (try rw [← Nbq18.out] at hx185_0)
               (try rw [← Nbq25.out] at hx185_0)
               obtain rfl : ad182 = ad185 := (by injection e185)
               replace hx185_0 := (HB.out.cell (World.block_lt_of_cell? w _ hx185_0)).trans hx185_0
               replace p185 := eq_true p185
               replace q185 := eq_true q185
               go_wp2
               go_ret
               exact ⟨by first | rfl | (simp [errW_none, errW_some] <;> rfl) | (simp [*, errW_none, errW_some] <;> rfl), bw HB.out⟩
              ·replace c26 := Bool.eq_false_iff.mpr c26
               subst c26
               have H1 : (if a0_3 < (l1.length : Int) then (if rdOf false l1 a0_3 = true then (if a0_2 < (l2.length : Int) then (if (rd l2 a0_2) > 0 then (if 0 ≤ (rd l2 a0_2) then (if (rd l2 a0_2) < (l1.length : Int) then (some (rdOf false l1 (rd l2 a0_2))) else (none)) else (none)) else (some false)) else (none)) else (some false)) else (none)) = some r := by rw [if_neg (show ¬ (false = true) by decide)] at H; exact H
               clear H
               have H := H1
               clear H1
               by_cases c28 : a0_3 < (l1.length : Int)
               ·rw [if_pos c28] at H
                have c28b0 : decide (a0_3 < (l1.length : Int)) = true := decide_eq_true c28
                clear c28
                obtain ⟨bq29, hbq29⟩ : ∃ b_ : Bool, b_ = (rdOf false l1 a0_3) := ⟨_, rfl⟩
                replace H : (if bq29 = true then (if a0_2 < (l2.length : Int) then (if (rd l2 a0_2) > 0 then (if 0 ≤ (rd l2 a0_2) then (if (rd l2 a0_2) < (l1.length : Int) then (some (rdOf false l1 (rd l2 a0_2))) else (none)) else (none)) else (some false)) else (none)) else (some false)) = some r := by rw [← hbq29] at H; exact H
                have Nbq29 := Aside0.mk hbq29
                clear hbq29
                by_cases c30 : bq29 = true
                ·subst c30
                 have H1 : (if a0_2 < (l2.length : Int) then (if (rd l2 a0_2) > 0 then (if 0 ≤ (rd l2 a0_2) then (if (rd l2 a0_2) < (l1.length : Int) then (some (rdOf false l1 (rd l2 a0_2))) else (none)) else (none)) else (some false)) else (none)) = some r := by rw [if_pos rfl] at H; exact H
                 clear H
                 have H := H1
                 clear H1
                 by_cases c31 : a0_2 < (l2.length : Int)
                 ·rw [if_pos c31] at H
                  have c31b0 : decide (a0_2 < (l2.length : Int)) = true := decide_eq_true c31
                  clear c31
                  by_cases c32 : (rd l2 a0_2) > 0
                  ·rw [if_pos c32] at H
                   have c32b0 : decide (0 < (rd l2 a0_2)) = true := decide_eq_true c32
                   clear c32
                   by_cases c33 : 0 ≤ (rd l2 a0_2)
                   ·rw [if_pos c33] at H
                    have c33b0 : decide (0 ≤ (rd l2 a0_2)) = true := decide_eq_true c33
                    clear c33
                    by_cases c34 : (rd l2 a0_2) < (l1.length : Int)
                    ·rw [if_pos c34] at H
                     have c34b0 : decide ((rd l2 a0_2) < (l1.length : Int)) = true := decide_eq_true c34
                     clear c34
                     obtain rfl := Option.some.inj H
                     have hcz35_0 : wc.cell? ⟨gb180, 0, none⟩ = some (.int .i64 a0_0) := (blk_cell BK180.out 0).trans rfl
                     have hcz35_1 : wc.cell? ⟨gb180, 1, none⟩ = some (.int .i64 a0_1) := (blk_cell BK180.out 1).trans rfl
                     have hcz35_2 : wc.cell? ⟨gb180, 2, none⟩ = some (.int .i64 a0_2) := (blk_cell BK180.out 2).trans rfl
                     have hcz35_3 : wc.cell? ⟨gb180, 3, none⟩ = some (.int .i64 a0_3) := (blk_cell BK180.out 3).trans rfl
                     have hfz35_0 := blk_frozen BK180.out 0
                     have hfz35_1 := blk_frozen BK180.out 1
                     have hfz35_2 := blk_frozen BK180.out 2
                     have hfz35_3 := blk_frozen BK180.out 3
                     have p182 : 0 ≤ (a0_2 : Int) := oda
                     have q182 : a0_2 < (l1.length : Int) := oda
                     obtain ⟨ad182, e182, hx182_0⟩ := Kd.at_bool HR1.out a0_2 p182 q182
                     (try rw [← Nbq18.out] at hx182_0)
                     (try rw [← Nbq25.out] at hx182_0)
                     (try rw [← Nbq29.out] at hx182_0)
                     cases e182
                     replace hx182_0 := (HB.out.cell (World.block_lt_of_cell? w _ hx182_0)).trans hx182_0
                     replace p182 := eq_true p182
                     replace q182 := eq_true q182
                     have p183 : 0 ≤ (a0_3 : Int) := oda
                     have q183 : a0_3 < (l2.length : Int) := oda
                     obtain ⟨ad183, e183, hx183_0⟩ := Kd.at_int HR2.out a0_3 p183 q183
                     cases e183
                     replace hx183_0 := (HB.out.cell (World.block_lt_of_cell? w _ hx183_0)).trans hx183_0
                     replace p183 := eq_true p183
                     replace q183 := eq_true q183
                     have p184 : 0 ≤ (a0_3 : Int) := oda
                     have q184 : a0_3 < (l2.length : Int) := oda
                     obtain ⟨ad184, e184, hx184_0⟩ := Kd.at_int HR2.out a0_3 p184 q184
                     obtain rfl : ad183 = ad184 := (by injection e184)
                     replace hx184_0 := (HB.out.cell (World.block_lt_of_cell? w _ hx184_0)).trans hx184_0
                     replace p184 := eq_true p184
                     replace q184 := eq_true q184
                     have p185 : 0 ≤ ((rd l2 a0_3) : Int) := oda
                     have q185 : (rd l2 a0_3) < (l1.length : Int) := oda
                     obtain ⟨ad185, e185, hx185_0⟩ := Kd.at_bool HR1.out (rd l2 a0_3) p185 q185
                     (try rw [← Nbq18.out] at hx185_0)
                     (try rw [← Nbq25.out] at hx185_0)
                     (try rw [← Nbq29.out] at hx185_0)
                     obtain rfl : ad182 = ad185 := (by injection e185)
                     replace hx185_0 := (HB.out.cell (World.block_lt_of_cell? w _ hx185_0)).trans hx185_0
                     replace p185 := eq_true p185
                     replace q185 := eq_true q185
                     have p186 : 0 ≤ (a0_3 : Int) := oda
                     have q186 : a0_3 < (l1.length : Int) := oda
                     obtain ⟨ad186, e186, hx186_0⟩ := Kd.at_bool HR1.out a0_3 p186 q186
                     (try rw [← Nbq18.out] at hx186_0)
                     (try rw [← Nbq25.out] at hx186_0)
                     (try rw [← Nbq29.out] at hx186_0)
                     obtain rfl : ad182 = ad186 := (by injection e186)
                     replace hx186_0 := (HB.out.cell (World.block_lt_of_cell? w _ hx186_0)).trans hx186_0
                     replace p186 := eq_true p186
                     replace q186 := eq_true q186
                     have p187 : 0 ≤ (a0_2 : Int) := oda
                     have q187 : a0_2 < (l2.length : Int) := oda
                     obtain ⟨ad187, e187, hx187_0⟩ := Kd.at_int HR2.out a0_2 p187 q187
                     obtain rfl : ad183 = ad187 := (by injection e187)
                     replace hx187_0 := (HB.out.cell (World.block_lt_of_cell? w _ hx187_0)).trans hx187_0
                     replace p187 := eq_true p187
                     replace q187 := eq_true q187
                     have p188 : 0 ≤ (a0_2 : Int) := oda
                     have q188 : a0_2 < (l2.length : Int) := oda
                     obtain ⟨ad188, e188, hx188_0⟩ := Kd.at_int HR2.out a0_2 p188 q188
                     obtain rfl : ad183 = ad188 := (by injection e188)
                     replace hx188_0 := (HB.out.cell (World.block_lt_of_cell? w _ hx188_0)).trans hx188_0
                     replace p188 := eq_true p188
                     replace q188 := eq_true q188
                     have p189 : 0 ≤ ((rd l2 a0_2) : Int) := oda
                     have q189 : (rd l2 a0_2) < (l1.length : Int) := oda
                     obtain ⟨ad189, e189, hx189_0⟩ := Kd.at_bool HR1.out (rd l2 a0_2) p189 q189
                     (try rw [← Nbq18.out] at hx189_0)
                     (try rw [← Nbq25.out] at hx189_0)
                     (try rw [← Nbq29.out] at hx189_0)
                     obtain rfl : ad182 = ad189 := (by injection e189)
                     replace hx189_0 := (HB.out.cell (World.block_lt_of_cell? w _ hx189_0)).trans hx189_0
                     replace p189 := eq_true p189
                     replace q189 := eq_true q189
                     go_wp2
                     go_ret
                     exact ⟨by first | rfl | (simp [errW_none, errW_some] <;> rfl) | (simp [*, errW_none, errW_some] <;> rfl), bw HB.out⟩
                    ·rw [if_neg c34] at H
                     exact absurd H (by simp)
                   ·rw [if_neg c33] at H
                    exact absurd H (by simp)
                  ·rw [if_neg c32] at H
                   have c32b0 : decide (0 < (rd l2 a0_2)) = false := decide_eq_false c32
                   clear c32
                   obtain rfl := Option.some.inj H
                   have hcz36_0 : wc.cell? ⟨gb180, 0, none⟩ = some (.int .i64 a0_0) := (blk_cell BK180.out 0).trans rfl
                   have hcz36_1 : wc.cell? ⟨gb180, 1, none⟩ = some (.int .i64 a0_1) := (blk_cell BK180.out 1).trans rfl
                   have hcz36_2 : wc.cell? ⟨gb180, 2, none⟩ = some (.int .i64 a0_2) := (blk_cell BK180.out 2).trans rfl
                   have hcz36_3 : wc.cell? ⟨gb180, 3, none⟩ = some (.int .i64 a0_3) := (blk_cell BK180.out 3).trans rfl
                   have hfz36_0 := blk_frozen BK180.out 0
                   have hfz36_1 := blk_frozen BK180.out 1
                   have hfz36_2 := blk_frozen BK180.out 2
                   have hfz36_3 := blk_frozen BK180.out 3
                   have p182 : 0 ≤ (a0_2 : Int) := oda
                   have q182 : a0_2 < (l1.length : Int) := oda
                   obtain ⟨ad182, e182, hx182_0⟩ := Kd.at_bool HR1.out a0_2 p182 q182
                   (try rw [← Nbq18.out] at hx182_0)
                   (try rw [← Nbq25.out] at hx182_0)
                   (try rw [← Nbq29.out] at hx182_0)
                   cases e182
                   replace hx182_0 := (HB.out.cell (World.block_lt_of_cell? w _ hx182_0)).trans hx182_0
                   replace p182 := eq_true p182
                   replace q182 := eq_true q182
                   have p183 : 0 ≤ (a0_3 : Int) := oda
                   have q183 : a0_3 < (l2.length : Int) := oda
                   obtain ⟨ad183, e183, hx183_0⟩ := Kd.at_int HR2.out a0_3 p183 q183
                   cases e183
                   replace hx183_0 := (HB.out.cell (World.block_lt_of_cell? w _ hx183_0)).trans hx183_0
                   replace p183 := eq_true p183
                   replace q183 := eq_true q183
                   have p184 : 0 ≤ (a0_3 : Int) := oda
                   have q184 : a0_3 < (l2.length : Int) := oda
                   obtain ⟨ad184, e184, hx184_0⟩ := Kd.at_int HR2.out a0_3 p184 q184
                   obtain rfl : ad183 = ad184 := (by injection e184)
                   replace hx184_0 := (HB.out.cell (World.block_lt_of_cell? w _ hx184_0)).trans hx184_0
                   replace p184 := eq_true p184
                   replace q184 := eq_true q184
                   have p185 : 0 ≤ ((rd l2 a0_3) : Int) := oda
                   have q185 : (rd l2 a0_3) < (l1.length : Int) := oda
                   obtain ⟨ad185, e185, hx185_0⟩ := Kd.at_bool HR1.out (rd l2 a0_3) p185 q185
                   (try rw [← Nbq18.out] at hx185_0)
                   (try rw [← Nbq25.out] at hx185_0)
                   (try rw [← Nbq29.out] at hx185_0)
                   obtain rfl : ad182 = ad185 := (by injection e185)
                   replace hx185_0 := (HB.out.cell (World.block_lt_of_cell? w _ hx185_0)).trans hx185_0
                   replace p185 := eq_true p185
                   replace q185 := eq_true q185
                   have p186 : 0 ≤ (a0_3 : Int) := oda
                   have q186 : a0_3 < (l1.length : Int) := oda
                   obtain ⟨ad186, e186, hx186_0⟩ := Kd.at_bool HR1.out a0_3 p186 q186
                   (try rw [← Nbq18.out] at hx186_0)
                   (try rw [← Nbq25.out] at hx186_0)
                   (try rw [← Nbq29.out] at hx186_0)
                   obtain rfl : ad182 = ad186 := (by injection e186)
                   replace hx186_0 := (HB.out.cell (World.block_lt_of_cell? w _ hx186_0)).trans hx186_0
                   replace p186 := eq_true p186
                   replace q186 := eq_true q186
                   have p187 : 0 ≤ (a0_2 : Int) := oda
                   have q187 : a0_2 < (l2.length : Int) := oda
                   obtain ⟨ad187, e187, hx187_0⟩ := Kd.at_int HR2.out a0_2 p187 q187
                   obtain rfl : ad183 = ad187 := (by injection e187)
                   replace hx187_0 := (HB.out.cell (World.block_lt_of_cell? w _ hx187_0)).trans hx187_0
                   replace p187 := eq_true p187
                   replace q187 := eq_true q187
                   go_wp2
                   go_ret
                   exact ⟨by first | rfl | (simp [errW_none, errW_some] <;> rfl) | (simp [*, errW_none, errW_some] <;> rfl), bw HB.out⟩
                 ·rw [if_neg c31] at H
                  exact absurd H (by simp)
                ·replace c30 := Bool.eq_false_iff.mpr c30
                 subst c30
                 have H1 : (some false) = some r := by rw [if_neg (show ¬ (false = true) by decide)] at H; exact H
                 clear H
                 have H := H1
                 clear H1
                 obtain rfl := Option.some.inj H
                 have hcz37_0 : wc.cell? ⟨gb180, 0, none⟩ = some (.int .i64 a0_0) := (blk_cell BK180.out 0).trans rfl
                 have hcz37_1 : wc.cell? ⟨gb180, 1, none⟩ = some (.int .i64 a0_1) := (blk_cell BK180.out 1).trans rfl
                 have hcz37_2 : wc.cell? ⟨gb180, 2, none⟩ = some (.int .i64 a0_2) := (blk_cell BK180.out 2).trans rfl
                 have hcz37_3 : wc.cell? ⟨gb180, 3, none⟩ = some (.int .i64 a0_3) := (blk_cell BK180.out 3).trans rfl
                 have hfz37_0 := blk_frozen BK180.out 0
                 have hfz37_1 := blk_frozen BK180.out 1
                 have hfz37_2 := blk_frozen BK180.out 2
                 have hfz37_3 := blk_frozen BK180.out 3
                 have p182 : 0 ≤ (a0_2 : Int) := oda
                 have q182 : a0_2 < (l1.length : Int) := oda
                 obtain ⟨ad182, e182, hx182_0⟩ := Kd.at_bool HR1.out a0_2 p182 q182
                 (try rw [← Nbq18.out] at hx182_0)
                 (try rw [← Nbq25.out] at hx182_0)
                 (try rw [← Nbq29.out] at hx182_0)
                 cases e182
                 replace hx182_0 := (HB.out.cell (World.block_lt_of_cell? w _ hx182_0)).trans hx182_0
                 replace p182 := eq_true p182
                 replace q182 := eq_true q182
                 have p183 : 0 ≤ (a0_3 : Int) := oda
                 have q183 : a0_3 < (l2.length : Int) := oda
                 obtain ⟨ad183, e183, hx183_0⟩ := Kd.at_int HR2.out a0_3 p183 q183
                 cases e183
                 replace hx183_0 := (HB.out.cell (World.block_lt_of_cell? w _ hx183_0)).trans hx183_0
                 replace p183 := eq_true p183
                 replace q183 := eq_true q183
                 have p184 : 0 ≤ (a0_3 : Int) := oda
                 have q184 : a0_3 < (l2.length : Int) := oda
                 obtain ⟨ad184, e184, hx184_0⟩ := Kd.at_int HR2.out a0_3 p184 q184
                 obtain rfl : ad183 = ad184 := (by injection e184)
                 replace hx184_0 := (HB.out.cell (World.block_lt_of_cell? w _ hx184_0)).trans hx184_0
                 replace p184 := eq_true p184
                 replace q184 := eq_true q184
                 have p185 : 0 ≤ ((rd l2 a0_3) : Int) := oda
                 have q185 : (rd l2 a0_3) < (l1.length : Int) := oda
                 obtain ⟨ad185, e185, hx185_0⟩ := Kd.at_bool HR1.out (rd l2 a0_3) p185 q185
                 (try rw [← Nbq18.out] at hx185_0)
                 (try rw [← Nbq25.out] at hx185_0)
                 (try rw [← Nbq29.out] at hx185_0)
                 obtain rfl : ad182 = ad185 := (by injection e185)
                 replace hx185_0 := (HB.out.cell (World.block_lt_of_cell? w _ hx185_0)).trans hx185_0
                 replace p185 := eq_true p185
                 replace q185 := eq_true q185
                 have p186 : 0 ≤ (a0_3 : Int) := oda
                 have q186 : a0_3 < (l1.length : Int) := oda
                 obtain ⟨ad186, e186, hx186_0⟩ := Kd.at_bool HR1.out a0_3 p186 q186
                 (try rw [← Nbq18.out] at hx186_0)
                 (try rw [← Nbq25.out] at hx186_0)
                 (try rw [← Nbq29.out] at hx186_0)
                 obtain rfl : ad182 = ad186 := (by injection e186)
                 replace hx186_0 := (HB.out.cell (World.block_lt_of_cell? w _ hx186_0)).trans hx186_0
                 replace p186 := eq_true p186
                 replace q186 := eq_true q186
                 go_wp2
                 go_ret
                 exact ⟨by first | rfl | (simp [errW_none, errW_some] <;> rfl) | (simp [*, errW_none, errW_some] <;> rfl), bw HB.out⟩
               ·rw [if_neg c28] at H
                exact absurd H (by simp)
             ·rw [if_neg c24] at H
              exact absurd H (by simp)
            ·rw [if_neg c23] at H
             exact absurd H (by simp)
           ·rw [if_neg c22] at H
            have c22b0 : decide (0 < (rd l2 a0_3)) = false := decide_eq_false c22
            clear c22
            by_cases c38 : a0_3 < (l1.length : Int)
            ·rw [if_pos c38] at H
             have c38b0 : decide (a0_3 < (l1.length : Int)) = true := decide_eq_true c38
             clear c38
             obtain ⟨bq39, hbq39⟩ : ∃ b_ : Bool, b_ = (rdOf false l1 a0_3) := ⟨_, rfl⟩
             replace H : (if bq39 = true then (if a0_2 < (l2.length : Int) then (if (rd l2 a0_2) > 0 then (if 0 ≤ (rd l2 a0_2) then (if (rd l2 a0_2) < (l1.length : Int) then (some (rdOf false l1 (rd l2 a0_2))) else (none)) else (none)) else (some false)) else (none)) else (some false)) = some r := by rw [← hbq39] at H; exact H
             have Nbq39 := Aside0.mk hbq39
             clear hbq39
             by_cases c40 : bq39 = true
             ·subst c40
              have H1 : (if a0_2 < (l2.length : Int) then (if (rd l2 a0_2) > 0 then (if 0 ≤ (rd l2 a0_2) then (if (rd l2 a0_2) < (l1.length : Int) then (some (rdOf false l1 (rd l2 a0_2))) else (none)) else (none)) else (some false)) else (none)) = some r := by rw [if_pos rfl] at H; exact H
              clear H
              have H := H1
              clear H1
              by_cases c41 : a0_2 < (l2.length : Int)
              ·rw [if_pos c41] at H
               have c41b0 : decide (a0_2 < (l2.length : Int)) = true := decide_eq_true c41
               clear c41
               by_cases c42 : (rd l2 a0_2) > 0
               ·rw [if_pos c42] at H
                have c42b0 : decide (0 < (rd l2 a0_2)) = true := decide_eq_true c42
                clear c42
                by_cases c43 : 0 ≤ (rd l2 a0_2)
                ·rw [if_pos c43] at H
                 have c43b0 : decide (0 ≤ (rd l2 a0_2)) = true := decide_eq_true c43
                 clear c43
                 by_cases c44 : (rd l2 a0_2) < (l1.length : Int)
                 ·rw [if_pos c44] at H
                  have c44b0 : decide ((rd l2 a0_2) < (l1.length : Int)) = true := decide_eq_true c44
                  clear c44
                  obtain rfl := Option.some.inj H
                  have hcz45_0 : wc.cell? ⟨gb180, 0, none⟩ = some (.int .i64 a0_0) := (blk_cell BK180.out 0).trans rfl
                  have hcz45_1 : wc.cell? ⟨gb180, 1, none⟩ = some (.int .i64 a0_1) := (blk_cell BK180.out 1).trans rfl
                  have hcz45_2 : wc.cell? ⟨gb180, 2, none⟩ = some (.int .i64 a0_2) := (blk_cell BK180.out 2).trans rfl
                  have hcz45_3 : wc.cell? ⟨gb180, 3, none⟩ = some (.int .i64 a0_3) := (blk_cell BK180.out 3).trans rfl
                  have hfz45_0 := blk_frozen BK180.out 0
                  have hfz45_1 := blk_frozen BK180.out 1
                  have hfz45_2 := blk_frozen BK180.out 2
                  have hfz45_3 := blk_frozen BK180.out 3
                  have p182 : 0 ≤ (a0_2 : Int) := oda
                  have q182 : a0_2 < (l1.length : Int) := oda
                  obtain ⟨ad182, e182, hx182_0⟩ := Kd.at_bool HR1.out a0_2 p182 q182
                  (try rw [← Nbq18.out] at hx182_0)
                  (try rw [← Nbq39.out] at hx182_0)
                  cases e182
                  replace hx182_0 := (HB.out.cell (World.block_lt_of_cell? w _ hx182_0)).trans hx182_0
                  replace p182 := eq_true p182
                  replace q182 := eq_true q182
                  have p183 : 0 ≤ (a0_3 : Int) := oda
                  have q183 : a0_3 < (l2.length : Int) := oda
                  obtain ⟨ad183, e183, hx183_0⟩ := Kd.at_int HR2.out a0_3 p183 q183
                  cases e183
                  replace hx183_0 := (HB.out.cell (World.block_lt_of_cell? w _ hx183_0)).trans hx183_0
                  replace p183 := eq_true p183
                  replace q183 := eq_true q183
                  have p190 : 0 ≤ (a0_3 : Int) := oda
                  have q190 : a0_3 < (l1.length : Int) := oda
                  obtain ⟨ad190, e190, hx190_0⟩ := Kd.at_bool HR1.out a0_3 p190 q190
                  (try rw [← Nbq18.out] at hx190_0)
                  (try rw [← Nbq39.out] at hx190_0)
                  obtain rfl : ad182 = ad190 := (by injection e190)
                  replace hx190_0 := (HB.out.cell (World.block_lt_of_cell? w _ hx190_0)).trans hx190_0
                  replace p190 := eq_true p190
                  replace q190 := eq_true q190
                  have p191 : 0 ≤ (a0_2 : Int) := oda
                  have q191 : a0_2 < (l2.length : Int) := oda
                  obtain ⟨ad191, e191, hx191_0⟩ := Kd.at_int HR2.out a0_2 p191 q191
                  obtain rfl : ad183 = ad191 := (by injection e191)
                  replace hx191_0 := (HB.out.cell (World.block_lt_of_cell? w _ hx191_0)).trans hx191_0
                  replace p191 := eq_true p191
                  replace q191 := eq_true q191
                  have p192 : 0 ≤ (a0_2 : Int) := oda
                  have q192 : a0_2 < (l2.length : Int) := oda
                  obtain ⟨ad192, e192, hx192_0⟩ := Kd.at_int HR2.out a0_2 p192 q192
                  obtain rfl : ad183 = ad192 := (by injection e192)
                  replace hx192_0 := (HB.out.cell (World.block_lt_of_cell? w _ hx192_0)).trans hx192_0
                  replace p192 := eq_true p192
                  replace q192 := eq_true q192
                  have p193 : 0 ≤ ((rd l2 a0_2) : Int) := oda
                  have q193 : (rd l2 a0_2) < (l1.length : Int) := oda
                  obtain ⟨ad193, e193, hx193_0⟩ := Kd.at_bool HR1.out (rd l2 a0_2) p193 q193
                  (try rw [← Nbq18.out] at hx193_0)
                  (try rw [← Nbq39.out] at hx193_0)
                  obtain rfl : ad182 = ad193 := (by injection e193)
                  replace hx193_0 := (HB.out.cell (World.block_lt_of_cell? w _ hx193_0)).trans hx193_0
                  replace p193 := eq_true p193
                  replace q193 := eq_true q193
                  go_wp2
                  go_ret
                  exact ⟨by first | rfl | (simp [errW_none, errW_some] <;> rfl) | (simp [*, errW_none, errW_some] <;> rfl), bw HB.out⟩
                 ·rw [if_neg c44] at H
                  exact absurd H (by simp)
                ·rw [if_neg c43] at H
                 exact absurd H (by simp)
               ·rw [if_neg c42] at H
                have c42b0 : decide (0 < (rd l2 a0_2)) = false := decide_eq_false c42
                clear c42
                obtain rfl := Option.some.inj H
                have hcz46_0 : wc.cell? ⟨gb180, 0, none⟩ = some (.int .i64 a0_0) := (blk_cell BK180.out 0).trans rfl
                have hcz46_1 : wc.cell? ⟨gb180, 1, none⟩ = some (.int .i64 a0_1) := (blk_cell BK180.out 1).trans rfl
                have hcz46_2 : wc.cell? ⟨gb180, 2, none⟩ = some (.int .i64 a0_2) := (blk_cell BK180.out 2).trans rfl
                have hcz46_3 : wc.cell? ⟨gb180, 3, none⟩ = some (.int .i64 a0_3) := (blk_cell BK180.out 3).trans rfl
                have hfz46_0 := blk_frozen BK180.out 0
                have hfz46_1 := blk_frozen BK180.out 1
                have hfz46_2 := blk_frozen BK180.out 2
                have hfz46_3 := blk_frozen BK180.out 3
                have p182 : 0 ≤ (a0_2 : Int) := oda
                have q182 : a0_2 < (l1.length : Int) := oda
                obtain ⟨ad182, e182, hx182_0⟩ := Kd.at_bool HR1.out a0_2 p182 q182
                (try rw [← Nbq18.out] at hx182_0)
                (try rw [← Nbq39.out] at hx182_0)
                cases e182
                replace hx182_0 := (HB.out.cell (World.block_lt_of_cell? w _ hx182_0)).trans hx182_0
                replace p182 := eq_true p182
                replace q182 := eq_true q182
                have p183 : 0 ≤ (a0_3 : Int) := oda
                have q183 : a0_3 < (l2.length : Int) := oda
                obtain ⟨ad183, e183, hx183_0⟩ := Kd.at_int HR2.out a0_3 p183 q183
                cases e183
                replace hx183_0 := (HB.out.cell (World.block_lt_of_cell? w _ hx183_0)).trans hx183_0
                replace p183 := eq_true p183
                replace q183 := eq_true q183
                have p190 : 0 ≤ (a0_3 : Int) := oda
                have q190 : a0_3 < (l1.length : Int) := oda
                obtain ⟨ad190, e190, hx190_0⟩ := Kd.at_bool HR1.out a0_3 p190 q190
                (try rw [← Nbq18.out] at hx190_0)
                (try rw [← Nbq39.out] at hx190_0)
                obtain rfl : ad182 = ad190 := (by injection e190)
                replace hx190_0 := (HB.out.cell (World.block_lt_of_cell? w _ hx190_0)).trans hx190_0
                replace p190 := eq_true p190
                replace q190 := eq_true q190
                have p191 : 0 ≤ (a0_2 : Int) := oda
                have q191 : a0_2 < (l2.length : Int) := oda
                obtain ⟨ad191, e191, hx191_0⟩ := Kd.at_int HR2.out a0_2 p191 q191
                obtain rfl : ad183 = ad191 := (by injection e191)
                replace hx191_0 := (HB.out.cell (World.block_lt_of_cell? w _ hx191_0)).trans hx191_0
                replace p191 := eq_true p191
                replace q191 := eq_true q191
                go_wp2
                go_ret
                exact ⟨by first | rfl | (simp [errW_none, errW_some] <;> rfl) | (simp [*, errW_none, errW_some] <;> rfl), bw HB.out⟩
              ·rw [if_neg c41] at H
               exact absurd H (by simp)
             ·replace c40 := Bool.eq_false_iff.mpr c40
              subst c40
              have H1 : (some false) = some r := by rw [if_neg (show ¬ (false = true) by decide)] at H; exact H
              clear H
              have H := H1
              clear H1
              obtain rfl := Option.some.inj H
              have hcz47_0 : wc.cell? ⟨gb180, 0, none⟩ = some (.int .i64 a0_0) := (blk_cell BK180.out 0).trans rfl
              have hcz47_1 : wc.cell? ⟨gb180, 1, none⟩ = some (.int .i64 a0_1) := (blk_cell BK180.out 1).trans rfl
              have hcz47_2 : wc.cell? ⟨gb180, 2, none⟩ = some (.int .i64 a0_2) := (blk_cell BK180.out 2).trans rfl
              have hcz47_3 : wc.cell? ⟨gb180, 3, none⟩ = some (.int .i64 a0_3) := (blk_cell BK180.out 3).trans rfl
              have hfz47_0 := blk_frozen BK180.out 0
              have hfz47_1 := blk_frozen BK180.out 1
              have hfz47_2 := blk_frozen BK180.out 2
              have hfz47_3 := blk_frozen BK180.out 3
              have p182 : 0 ≤ (a0_2 : Int) := oda
              have q182 : a0_2 < (l1.length : Int) := oda
              obtain ⟨ad182, e182, hx182_0⟩ := Kd.at_bool HR1.out a0_2 p182 q182
              (try rw [← Nbq18.out] at hx182_0)
              (try rw [← Nbq39.out] at hx182_0)
              cases e182
              replace hx182_0 := (HB.out.cell (World.block_lt_of_cell? w _ hx182_0)).trans hx182_0
              replace p182 := eq_true p182
              replace q182 := eq_true q182
              have p183 : 0 ≤ (a0_3 : Int) := oda
              have q183 : a0_3 < (l2.length : Int) := oda
              obtain ⟨ad183, e183, hx183_0⟩ := Kd.at_int HR2.out a0_3 p183 q183
              cases e183
              replace hx183_0 := (HB.out.cell (World.block_lt_of_cell? w _ hx183_0)).trans hx183_0
              replace p183 := eq_true p183
              replace q183 := eq_true q183
              have p190 : 0 ≤ (a0_3 : Int) := oda
              have q190 : a0_3 < (l1.length : Int) := oda
              obtain ⟨ad190, e190, hx190_0⟩ := Kd.at_bool HR1.out a0_3 p190 q190
              (try rw [← Nbq18.out] at hx190_0)
              (try rw [← Nbq39.out] at hx190_0)
              obtain rfl : ad182 = ad190 := (by injection e190)
              replace hx190_0 := (HB.out.cell (World.block_lt_of_cell? w _ hx190_0)).trans hx190_0
              replace p190 := eq_true p190
              replace q190 := eq_true q190
              go_wp2
              go_ret
              exact ⟨by first | rfl | (simp [errW_none, errW_some] <;> rfl) | (simp [*, errW_none, errW_some] <;> rfl), bw HB.out⟩
            ·rw [if_neg c38] at H
             exact absurd H (by simp)
          ·rw [if_neg c21] at H
           exact absurd H (by simp)
         ·rw [if_neg c20] at H
          exact absurd H (by simp)
        ·replace c19 := Bool.eq_false_iff.mpr c19
         subst c19
         have H1 : (if 0 ≤ a0_3 then (if a0_3 < (l1.length : Int) then (if rdOf false l1 a0_3 = true then (if a0_2 < (l2.length : Int) then (if (rd l2 a0_2) > 0 then (if 0 ≤ (rd l2 a0_2) then (if (rd l2 a0_2) < (l1.length : Int) then (some (rdOf false l1 (rd l2 a0_2))) else (none)) else (none)) else (some false)) else (none)) else (some false)) else (none)) else (none)) = some r := by rw [if_neg (show ¬ (false = true) by decide)] at H; exact H
         clear H
         have H := H1
         clear H1
         by_cases c48 : 0 ≤ a0_3
         ·rw [if_pos c48] at H
          have c48b0 : decide (0 ≤ a0_3) = true := decide_eq_true c48
          clear c48
          by_cases c49 : a0_3 < (l1.length : Int)
          ·rw [if_pos c49] at H
           have c49b0 : decide (a0_3 < (l1.length : Int)) = true := decide_eq_true c49
           clear c49
           obtain ⟨bq50, hbq50⟩ : ∃ b_ : Bool, b_ = (rdOf false l1 a0_3) := ⟨_, rfl⟩
           replace H : (if bq50 = true then (if a0_2 < (l2.length : Int) then (if (rd l2 a0_2) > 0 then (if 0 ≤ (rd l2 a0_2) then (if (rd l2 a0_2) < (l1.length : Int) then (some (rdOf false l1 (rd l2 a0_2))) else (none)) else (none)) else (some false)) else (none)) else (some false)) = some r := by rw [← hbq50] at H; exact H
           have Nbq50 := Aside0.mk hbq50
           clear hbq50
           by_cases c51 : bq50 = true
           ·subst c51
            have H1 : (if a0_2 < (l2.length : Int) then (if (rd l2 a0_2) > 0 then (if 0 ≤ (rd l2 a0_2) then (if (rd l2 a0_2) < (l1.length : Int) then (some (rdOf false l1 (rd l2 a0_2))) else (none)) else (none)) else (some false)) else (none)) = some r := by rw [if_pos rfl] at H; exact H
            clear H
            have H := H1
            clear H1
            by_cases c52 : a0_2 < (l2.length : Int)
            ·rw [if_pos c52] at H
             have c52b0 : decide (a0_2 < (l2.length : Int)) = true := decide_eq_true c52
             clear c52
             by_cases c53 : (rd l2 a0_2) > 0
             ·rw [if_pos c53] at H
              have c53b0 : decide (0 < (rd l2 a0_2)) = true := decide_eq_true c53
              clear c53
              by_cases c54 : 0 ≤ (rd l2 a0_2)
              ·rw [if_pos c54] at H
               have c54b0 : decide (0 ≤ (rd l2 a0_2)) = true := decide_eq_true c54
               clear c54
               by_cases c55 : (rd l2 a0_2) < (l1.length : Int)
               ·rw [if_pos c55] at H
                have c55b0 : decide ((rd l2 a0_2) < (l1.length : Int)) = true := decide_eq_true c55
                clear c55
                obtain rfl := Option.some.inj H
                have hcz56_0 : wc.cell? ⟨gb180, 0, none⟩ = some (.int .i64 a0_0) := (blk_cell BK180.out 0).trans rfl
                have hcz56_1 : wc.cell? ⟨gb180, 1, none⟩ = some (.int .i64 a0_1) := (blk_cell BK180.out 1).trans rfl
                have hcz56_2 : wc.cell? ⟨gb180, 2, none⟩ = some (.int .i64 a0_2) := (blk_cell BK180.out 2).trans rfl
                have hcz56_3 : wc.cell? ⟨gb180, 3, none⟩ = some (.int .i64 a0_3) := (blk_cell BK180.out 3).trans rfl
                have hfz56_0 := blk_frozen BK180.out 0
                have hfz56_1 := blk_frozen BK180.out 1
                have hfz56_2 := blk_frozen BK180.out 2
                have hfz56_3 := blk_frozen BK180.out 3
                have p182 : 0 ≤ (a0_2 : Int) := oda
                have q182 : a0_2 < (l1.length : Int) := oda
                obtain ⟨ad182, e182, hx182_0⟩ := Kd.at_bool HR1.out a0_2 p182 q182
                (try rw [← Nbq18.out] at hx182_0)
                (try rw [← Nbq50.out] at hx182_0)
                cases e182
                replace hx182_0 := (HB.out.cell (World.block_lt_of_cell? w _ hx182_0)).trans hx182_0
                replace p182 := eq_true p182
                replace q182 := eq_true q182
                have p194 : 0 ≤ (a0_3 : Int) := oda
                have q194 : a0_3 < (l1.length : Int) := oda
                obtain ⟨ad194, e194, hx194_0⟩ := Kd.at_bool HR1.out a0_3 p194 q194
                (try rw [← Nbq18.out] at hx194_0)
                (try rw [← Nbq50.out] at hx194_0)
                obtain rfl : ad182 = ad194 := (by injection e194)
                replace hx194_0 := (HB.out.cell (World.block_lt_of_cell? w _ hx194_0)).trans hx194_0
                replace p194 := eq_true p194
                replace q194 := eq_true q194
                have p195 : 0 ≤ (a0_2 : Int) := oda
                have q195 : a0_2 < (l2.length : Int) := oda
                obtain ⟨ad195, e195, hx195_0⟩ := Kd.at_int HR2.out a0_2 p195 q195
                cases e195
                replace hx195_0 := (HB.out.cell (World.block_lt_of_cell? w _ hx195_0)).trans hx195_0
                replace p195 := eq_true p195
                replace q195 := eq_true q195
                have p196 : 0 ≤ (a0_2 : Int) := oda
                have q196 : a0_2 < (l2.length : Int) := oda
                obtain ⟨ad196, e196, hx196_0⟩ := Kd.at_int HR2.out a0_2 p196 q196
                obtain rfl : ad195 = ad196 := (by injection e196)
                replace hx196_0 := (HB.out.cell (World.block_lt_of_cell? w _ hx196_0)).trans hx196_0
                replace p196 := eq_true p196
                replace q196 := eq_true q196
                have p197 : 0 ≤ ((rd l2 a0_2) : Int) := oda
                have q197 : (rd l2 a0_2) < (l1.length : Int) := oda
                obtain ⟨ad197, e197, hx197_0⟩ := Kd.at_bool HR1.out (rd l2 a0_2) p197 q197
                (try rw [← Nbq18.out] at hx197_0)
                (try rw [← Nbq50.out] at hx197_0)
                obtain rfl : ad182 = ad197 := (by injection e197)
                replace hx197_0 := (HB.out.cell (World.block_lt_of_cell? w _ hx197_0)).trans hx197_0
                replace p197 := eq_true p197
                replace q197 := eq_true q197
                go_wp2
                go_ret
                exact ⟨by first | rfl | (simp [errW_none, errW_some] <;> rfl) | (simp [*, errW_none, errW_some] <;> rfl), bw HB.out⟩
               ·rw [if_neg c55] at H
                exact absurd H (by simp)
              ·rw [if_neg c54] at H
               exact absurd H (by simp)
             ·rw [if_neg c53] at H
              have c53b0 : decide (0 < (rd l2 a0_2)) = false := decide_eq_false c53
              clear c53
              obtain rfl := Option.some.inj H
              have hcz57_0 : wc.cell? ⟨gb180, 0, none⟩ = some (.int .i64 a0_0) := (blk_cell BK180.out 0).trans rfl
              have hcz57_1 : wc.cell? ⟨gb180, 1, none⟩ = some (.int .i64 a0_1) := (blk_cell BK180.out 1).trans rfl
              have hcz57_2 : wc.cell? ⟨gb180, 2, none⟩ = some (.int .i64 a0_2) := (blk_cell BK180.out 2).trans rfl
              have hcz57_3 : wc.cell? ⟨gb180, 3, none⟩ = some (.int .i64 a0_3) := (blk_cell BK180.out 3).trans rfl
              have hfz57_0 := blk_frozen BK180.out 0
              have hfz57_1 := blk_frozen BK180.out 1
              have hfz57_2 := blk_frozen BK180.out 2
              have hfz57_3 := blk_frozen BK180.out 3
              have p182 : 0 ≤ (a0_2 : Int) := oda
              have q182 : a0_2 < (l1.length : Int) := oda
              obtain ⟨ad182, e182, hx182_0⟩ := Kd.at_bool HR1.out a0_2 p182 q182
              (try rw [← Nbq18.out] at hx182_0)
              (try rw [← Nbq50.out] at hx182_0)
              cases e182
              replace hx182_0 := (HB.out.cell (World.block_lt_of_cell? w _ hx182_0)).trans hx182_0
              replace p182 := eq_true p182
              replace q182 := eq_true q182
              have p194 : 0 ≤ (a0_3 : Int) := oda
              have q194 : a0_3 < (l1.length : Int) := oda
              obtain ⟨ad194, e194, hx194_0⟩ := Kd.at_bool HR1.out a0_3 p194 q194
              (try rw [← Nbq18.out] at hx194_0)
              (try rw [← Nbq50.out] at hx194_0)
              obtain rfl : ad182 = ad194 := (by injection e194)
              replace hx194_0 := (HB.out.cell (World.block_lt_of_cell? w _ hx194_0)).trans hx194_0
              replace p194 := eq_true p194
              replace q194 := eq_true q194
              have p195 : 0 ≤ (a0_2 : Int) := oda
              have q195 : a0_2 < (l2.length : Int) := oda
              obtain ⟨ad195, e195, hx195_0⟩ := Kd.at_int HR2.out a0_2 p195 q195
              cases e195
              replace hx195_0 := (HB.out.cell (World.block_lt_of_cell? w _ hx195_0)).trans hx195_0
              replace p195 := eq_true p195
              replace q195 := eq_true q195
              go_wp2
              go_ret
              exact ⟨by first | rfl | (simp [errW_none, errW_some] <;> rfl) | (simp [*, errW_none, errW_some] <;> rfl), bw HB.out⟩
            ·rw [if_neg c52] at H
             exact absurd H (by simp)
           ·replace c51 := Bool.eq_false_iff.mpr c51
            subst c51
            have H1 : (some false) = some r := by rw [if_neg (show ¬ (false = true) by decide)] at H; exact H
            clear H
            have H := H1
            clear H1
            obtain rfl := Option.some.inj H
            have hcz58_0 : wc.cell? ⟨gb180, 0, none⟩ = some (.int .i64 a0_0) := (blk_cell BK180.out 0).trans rfl
            have hcz58_1 : wc.cell? ⟨gb180, 1, none⟩ = some (.int .i64 a0_1) := (blk_cell BK180.out 1).trans rfl
            have hcz58_2 : wc.cell? ⟨gb180, 2, none⟩ = some (.int .i64 a0_2) := (blk_cell BK180.out 2).trans rfl
            have hcz58_3 : wc.cell? ⟨gb180, 3, none⟩ = some (.int .i64 a0_3) := (blk_cell BK180.out 3).trans rfl
            have hfz58_0 := blk_frozen BK180.out 0
            have hfz58_1 := blk_frozen BK180.out 1
            have hfz58_2 := blk_frozen BK180.out 2
            have hfz58_3 := blk_frozen BK180.out 3
            have p182 : 0 ≤ (a0_2 : Int) := oda
            have q182 : a0_2 < (l1.length : Int) := oda
            obtain ⟨ad182, e182, hx182_0⟩ := Kd.at_bool HR1.out a0_2 p182 q182
            (try rw [← Nbq18.out] at hx182_0)
            (try rw [← Nbq50.out] at hx182_0)
            cases e182
            replace hx182_0 := (HB.out.cell (World.block_lt_of_cell? w _ hx182_0)).trans hx182_0
            replace p182 := eq_true p182
            replace q182 := eq_true q182
            have p194 : 0 ≤ (a0_3 : Int) := oda
            have q194 : a0_3 < (l1.length : Int) := oda
            obtain ⟨ad194, e194, hx194_0⟩ := Kd.at_bool HR1.out a0_3 p194 q194
            (try rw [← Nbq18.out] at hx194_0)
            (try rw [← Nbq50.out] at hx194_0)
            obtain rfl : ad182 = ad194 := (by injection e194)
            replace hx194_0 := (HB.out.cell (World.block_lt_of_cell? w _ hx194_0)).trans hx194_0
            replace p194 := eq_true p194
            replace q194 := eq_true q194
            go_wp2
            go_ret
            exact ⟨by first | rfl | (simp [errW_none, errW_some] <;> rfl) | (simp [*, errW_none, errW_some] <;> rfl), bw HB.out⟩
          ·rw [if_neg c49] at H
           exact absurd H (by simp)
         ·rw [if_neg c48] at H
          exact absurd H (by simp)
       ·rw [if_neg c17] at H
        exact absurd H (by simp)
      ·rw [if_neg c16] at H
       exact absurd H (by simp)
     ·rw [if_neg c15] at H
      have c15b0 : (a0_0 == 7) = false := beq_eq_false_iff_ne.mpr c15
      have c15b1 : (a0_0 != 7) = true := bne_iff_ne.mpr c15
      by_cases c59 : 0 ≤ a0_2
      ·rw [if_pos c59] at H
       have c59b0 : decide (0 ≤ a0_2) = true := decide_eq_true c59
       clear c59
       by_cases c60 : a0_2 < (l1.length : Int)
       ·rw [if_pos c60] at H
        have c60b0 : decide (a0_2 < (l1.length : Int)) = true := decide_eq_true c60
        clear c60
        obtain ⟨bq61, hbq61⟩ : ∃ b_ : Bool, b_ = (rdOf false l1 a0_2) := ⟨_, rfl⟩
        replace H : (if bq61 = true then (if 0 ≤ a0_3 then (if a0_3 < (l1.length : Int) then (some (rdOf false l1 a0_3)) else (none)) else (none)) else (some false)) = some r := by rw [← hbq61] at H; exact H
        have Nbq61 := Aside0.mk hbq61
        clear hbq61
        by_cases c62 : bq61 = true
        ·subst c62
         have H1 : (if 0 ≤ a0_3 then (if a0_3 < (l1.length : Int) then (some (rdOf false l1 a0_3)) else (none)) else (none)) = some r := by rw [if_pos rfl] at H; exact H
         clear H
         have H := H1
         clear H1
         by_cases c63 : 0 ≤ a0_3
         ·rw [if_pos c63] at H
          have c63b0 : decide (0 ≤ a0_3) = true := decide_eq_true c63
          clear c63
          by_cases c64 : a0_3 < (l1.length : Int)
          ·rw [if_pos c64] at H
           have c64b0 : decide (a0_3 < (l1.length : Int)) = true := decide_eq_true c64
           clear c64
           obtain rfl := Option.some.inj H
           have hcz65_0 : wc.cell? ⟨gb180, 0, none⟩ = some (.int .i64 a0_0) := (blk_cell BK180.out 0).trans rfl
           have hcz65_1 : wc.cell? ⟨gb180, 1, none⟩ = some (.int .i64 a0_1) := (blk_cell BK180.out 1).trans rfl
           have hcz65_2 : wc.cell? ⟨gb180, 2, none⟩ = some (.int .i64 a0_2) := (blk_cell BK180.out 2).trans rfl
           have hcz65_3 : wc.cell? ⟨gb180, 3, none⟩ = some (.int .i64 a0_3) := (blk_cell BK180.out 3).trans rfl
           have hfz65_0 := blk_frozen BK180.out 0
           have hfz65_1 := blk_frozen BK180.out 1
           have hfz65_2 := blk_frozen BK180.out 2
           have hfz65_3 := blk_frozen BK180.out 3
           have p198 : 0 ≤ (a0_2 : Int) := oda
           have q198 : a0_2 < (l1.length : Int) := oda
           obtain ⟨ad198, e198, hx198_0⟩ := Kd.at_bool HR1.out a0_2 p198 q198
           (try rw [← Nbq61.out] at hx198_0)
           cases e198
           replace hx198_0 := (HB.out.cell (World.block_lt_of_cell? w _ hx198_0)).trans hx198_0
           replace p198 := eq_true p198
           replace q198 := eq_true q198
           have p199 : 0 ≤ (a0_3 : Int) := oda
           have q199 : a0_3 < (l1.length : Int) := oda
           obtain ⟨ad199, e199, hx199_0⟩ := Kd.at_bool HR1.out a0_3 p199 q199
           (try rw [← Nbq61.out] at hx199_0)
           obtain rfl : ad198 = ad199 := (by injection e199)
           replace hx199_0 := (HB.out.cell (World.block_lt_of_cell? w _ hx199_0)).trans hx199_0
           replace p199 := eq_true p199
           replace q199 := eq_true q199
           go_wp2
           go_ret
           exact ⟨by first | rfl | (simp [errW_none, errW_some] <;> rfl) | (simp [*, errW_none, errW_some] <;> rfl), bw HB.out⟩
          ·rw [if_neg c64] at H
           exact absurd H (by simp)
         ·rw [if_neg c63] at H
          exact absurd H (by simp)
        ·replace c62 := Bool.eq_false_iff.mpr c62
         subst c62
         have H1 : (some false) = some r := by rw [if_neg (show ¬ (false = true) by decide)] at H; exact H
         clear H
         have H := H1
         clear H1
         obtain rfl := Option.some.inj H
         have hcz66_0 : wc.cell? ⟨gb180, 0, none⟩ = some (.int .i64 a0_0) := (blk_cell BK180.out 0).trans rfl
         have hcz66_1 : wc.cell? ⟨gb180, 1, none⟩ = some (.int .i64 a0_1) := (blk_cell BK180.out 1).trans rfl
         have hcz66_2 : wc.cell? ⟨gb180, 2, none⟩ = some (.int .i64 a0_2) := (blk_cell BK180.out 2).trans rfl
         have hcz66_3 : wc.cell? ⟨gb180, 3, none⟩ = some (.int .i64 a0_3) := (blk_cell BK180.out 3).trans rfl
         have hfz66_0 := blk_frozen BK180.out 0
         have hfz66_1 := blk_frozen BK180.out 1
         have hfz66_2 := blk_frozen BK180.out 2
         have hfz66_3 := blk_frozen BK180.out 3
         have p198 : 0 ≤ (a0_2 : Int) := oda
         have q198 : a0_2 < (l1.length : Int) := oda
         obtain ⟨ad198, e198, hx198_0⟩ := Kd.at_bool HR1.out a0_2 p198 q198
         (try rw [← Nbq61.out] at hx198_0)
         cases e198
         replace hx198_0 := (HB.out.cell (World.block_lt_of_cell? w _ hx198_0)).trans hx198_0
         replace p198 := eq_true p198
         replace q198 := eq_true q198
         go_wp2
         go_ret
         exact ⟨by first | rfl | (simp [errW_none, errW_some] <;> rfl) | (simp [*, errW_none, errW_some] <;> rfl), bw HB.out⟩
       ·rw [if_neg c60] at H
        exact absurd H (by simp)
      ·rw [if_neg c59] at H
       exact absurd H (by simp)

end Go.Proofs.Ytkckdibalopagaa.SFnReaches
