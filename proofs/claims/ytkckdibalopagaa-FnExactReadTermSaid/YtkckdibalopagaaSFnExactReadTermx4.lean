-- Began as a print of the kit over stubs (wip/stub.py); the sections that are named OWN are this session's.
import Derived.Test.YtkckdibalopagaaSFnExactReadTermx0
import Derived.Test.YtkckdibalopagaaSFnExactReadTermx3
import Derived.Test.YtkckdibalopagaaRShort
namespace Go.Proofs.Ytkckdibalopagaa.SFnExactReadTerm
open Go.RowKit Go.Proofs.YtkckdibalopagaaW.PrintWords Go.Proofs.YtkckdibalopagaaW.PrintLast Go.Proofs.YtkckdibalopagaaW.PrintMore Go.Proofs.Ytkckdibalopagaa.Short
attribute [local go_sem] max2_int min2_int max_two min_two max_three min_three max_four min_four   -- for this text's walks alone
set_option linter.unusedVariables false
set_option linter.unusedSimpArgs false

/-! ### spec_l03Sizes: OWN: function 86 -/
mutual
def spec_l03Sizes.l0 : Nat → Int → List Int → Int → List (S34) → Option (List Int)
  | 0, _, _, _, _ => none
  | k + 1, x1, x5, x6, x149000 => if x6 ≤ x1 then (spec_l03Sizes.j1 k x1 x5 x6 (decide (x6 < (x149000.length : Int))) x149000) else (spec_l03Sizes.j1 k x1 x5 x6 false x149000)
def spec_l03Sizes.j1 : Nat → Int → List Int → Int → Bool → List (S34) → Option (List Int)
  | 0, _, _, _, _, _ => none
  | k + 1, x1, x5, x6, x19, x149000 => if x19 = true then (if 0 ≤ x6 then (if x6 < (x149000.length : Int) then ((spec_l03Node.f k ((rd_T34 x149000 x6).f0) ((rd_T34 x149000 x6).f1) ((rd_T34 x149000 x6).f2) ((rd_T34 x149000 x6).f3) x6).bind fun t154 => (if t154 = true then (if x6 > 0 then (if 0 ≤ (wrap64 (x6 - 1)) then (if (wrap64 (x6 - 1)) < (x5.length : Int) then (spec_l03Sizes.j2 k x1 x5 x6 ((rd x5 (wrap64 (x6 - 1))) == 0) x149000 ((rd_T34 x149000 x6).f0) ((rd_T34 x149000 x6).f1) ((rd_T34 x149000 x6).f2) ((rd_T34 x149000 x6).f3)) else (none)) else (none)) else (spec_l03Sizes.j2 k x1 x5 x6 false x149000 ((rd_T34 x149000 x6).f0) ((rd_T34 x149000 x6).f1) ((rd_T34 x149000 x6).f2) ((rd_T34 x149000 x6).f3))) else (spec_l03Sizes.j2 k x1 x5 x6 true x149000 ((rd_T34 x149000 x6).f0) ((rd_T34 x149000 x6).f1) ((rd_T34 x149000 x6).f2) ((rd_T34 x149000 x6).f3)))) else (none)) else (none)) else (some x5)
def spec_l03Sizes.j2 : Nat → Int → List Int → Int → Bool → List (S34) → Int → Int → Int → Int → Option (List Int)
  | 0, _, _, _, _, _, _, _, _, _ => none
  | k + 1, x1, x5, x6, x42, x149000, x154000, x154001, x154002, x154003 => if x42 = true then (if x5.length < 17592186044416 then (spec_l03Sizes.l0 k x1 (x5 ++ [0]) (wrap64 (x6 + 1)) x149000) else (none)) else (if x154000 = 1 then (if 1 > 100000 then (if x5.length < 17592186044416 then (spec_l03Sizes.l0 k x1 (x5 ++ [100000]) (wrap64 (x6 + 1)) x149000) else (none)) else (if x5.length < 17592186044416 then (spec_l03Sizes.l0 k x1 (x5 ++ [1]) (wrap64 (x6 + 1)) x149000) else (none))) else (if 0 ≤ x154002 then (if x154002 < (x5.length : Int) then ((spec_l03One.f x154000).bind fun t166 => (if t166 = true then (if (wrap64 (1 + (rd x5 x154002))) > 100000 then (if x5.length < 17592186044416 then (spec_l03Sizes.l0 k x1 (x5 ++ [100000]) (wrap64 (x6 + 1)) x149000) else (none)) else (if x5.length < 17592186044416 then (spec_l03Sizes.l0 k x1 (x5 ++ [wrap64 (1 + (rd x5 x154002))]) (wrap64 (x6 + 1)) x149000) else (none))) else (if 0 ≤ x154003 then (if x154003 < (x5.length : Int) then (if (wrap64 ((wrap64 (1 + (rd x5 x154002))) + (rd x5 x154003))) > 100000 then (if x5.length < 17592186044416 then (spec_l03Sizes.l0 k x1 (x5 ++ [100000]) (wrap64 (x6 + 1)) x149000) else (none)) else (if x5.length < 17592186044416 then (spec_l03Sizes.l0 k x1 (x5 ++ [wrap64 ((wrap64 (1 + (rd x5 x154002))) + (rd x5 x154003))]) (wrap64 (x6 + 1)) x149000) else (none))) else (none)) else (none)))) else (none)) else (none)))
end
def spec_l03Sizes.f (k : Nat) (l0_0 : List (S34)) (a1 : Int) : Option (List Int) := spec_l03Sizes.l0 k a1 (([] : List Int)) 0 l0_0
set_option maxHeartbeats 8000000 in
set_option maxRecDepth 100000 in
theorem spec_l03Sizes.calls (k : Nat) (A0_0 : Option Addr) (c0_0 : Nat) (l0_0 : List (S34)) (a1 : Int) (r : List Int) (w : World) (hr0_0 : Kd.C k34 w A0_0 l0_0.length l0_0) (hc0_0 : l0_0.length ≤ c0_0) (h : spec_l03Sizes.f k l0_0 a1 = some r) :
  Calls Try.prog 86 #[.agg #[.slice A0_0 l0_0.length c0_0], .int .i64 a1] w fun e w' => ∃ v0_ : Value, e = .returned (v0_) ∧ Kd.R (Kd.int .i64) 3 w' w.heap.size (fun _ => True) v0_ r ∧ Below w.heap.size w w' := by
 have hu26 := Try.underlying26
 have hu34 := Try.underlying34
 have HR0_0 := Aside0.mk hr0_0
 have HC0_0 := Aside0.mk hc0_0
 clear hr0_0 hc0_0
 have HB := Aside0.mk (Below.refl w.heap.size w)
 have H : (spec_l03Sizes.l0 k a1 (([] : List Int)) 0 l0_0) = some r := h
 clear h
 obtain ⟨y149, hy149⟩ : ∃ y_ : List Int, y_ = (([] : List Int)) := ⟨_, rfl⟩
 replace H : (spec_l03Sizes.l0 k a1 y149 0 l0_0) = some r := by first | (rw [hy149]; with_reducible exact H) | (have H2_ := (Option.bind_some _ _).symm.trans H; rw [hy149]; with_reducible exact H2_) | (have H2_ := (Option.bind_some _ _).symm.trans H; with_reducible exact H2_) | with_reducible exact H | (rw [hy149]; exact H) | exact H
 have Ny149 := Aside0.mk hy149
 clear hy149
 have H' := Aside0.mk H
 clear H
 go_enter Try.func86, Try.ntmps86
 go_wp2_with (first | ((with_reducible refine gate_dst (N := 2) rfl ?_); (try (refine gate_guard (by rfl) ?_; dsimp only)); refine box_event ?hg (N := 2) ?hd (cs := #[.slice A0_0 l0_0.length c0_0]) (t := 26) ?hr ?_; (case hd => rfl); (case hg => rfl); (case hr => first | (go_simp; done) | (go_simp; rfl)); intro gb148 hg w3 hbox hb; have n0_ := Aside0.mk (below_step (bw HB.out) hb); have n1_ := Aside0.mk (hbox); have n2_ := Aside0.mk ((by rw [hg]; exact (below_size (bw HB.out)) : w.heap.size ≤ gb148)); have n3_ := Aside0.mk ((by rw [hg]; exact (below_size (bw HB.out)) : w.heap.size ≤ gb148)); clear HB; have HB := n0_; have BK148 := n1_; have GW148 := n2_; have GE148 := n3_; clear n0_ n1_ n2_ n3_ hb hbox hg) | ((with_reducible refine gate_dst (N := 9) rfl ?_); (try (refine gate_guard (by rfl) ?_; dsimp only)); refine Kd.R_lit (Kd.int .i64) _ 3 ?hg (N := 9) ?hd (xs := ([] : List Int)) (inner := []) (ok := fun _ => True) (okp := fun _ => True) ?hr ?hp (fun _ hk => hk) trivial (Below.refl _ _) (Nat.le_refl _) (by simp) ?_; (case hd => rfl); (case hg => rfl); (case hr => first | (go_simp; done) | (go_simp; rfl)); (case hp => exact (Reps.none _ _)); intro v150 w4 ho5 hb hg_ hnew_; clear hg_ hnew_; (first | rw [← Ny149.out] at ho5 | (simp only [Int.reduceToNat] at ho5; rw [← Ny149.out] at ho5)); have n0_ := Aside0.mk (Kd.R_lower ho5 (below_size (bw HB.out))); have n1_ := Aside0.mk (blk_below (g := gb148) (o := .cells #[.slice A0_0 l0_0.length c0_0] 26 (0, 0)) (bl BK148.out) hb); have n2_ := Aside0.mk (below_step (bw HB.out) hb); clear BK148 HB; have HO151 := n0_; have BK148 := n1_; have HB := n2_; clear n0_ n1_ n2_ hb ho5))
 go_loopg [5, 6] k (fun kq v5 v6 w' => ∃ (x5_1 : List Int) (x6_1 : Int), v6 = .int .i64 x6_1 ∧ Aside0 (spec_l03Sizes.l0 kq a1 x5_1 x6_1 l0_0 = some r) ∧ Aside0 (kq ≤ k) ∧ Aside0 (Kd.R (Kd.int .i64) 3 w' w.heap.size (fun _ => True) v5 x5_1) ∧ Aside0 (w'.heap[gb148]? = some (.cells #[(.slice A0_0 l0_0.length c0_0)] 26 (0, 0))) ∧ Aside0 (Below w.heap.size w w'))
 case atStart => exact ⟨(y149), (0), (by first | rfl | (simp; done) | (simp [*]; done)), H', ⟨Nat.le_refl _⟩, ⟨rl HO151.out⟩, ⟨bl BK148.out⟩, ⟨bw HB.out⟩⟩
 case round =>
  clear H'
  try clear p2
  obtain ⟨x5_1, x6_1, rfl, HA, HK1, HO_5, BK148, HB⟩ := hrel
  cases gk with
  | zero => exact absurd HA.out (by simp [spec_l03Sizes.l0])
  | succ k1 =>
   have H := HA.out
   clear HA
   simp only [spec_l03Sizes.l0] at H
   have HC6 := Aside0.mk H
   clear H
   go_upto_region 3 with (fail)
   go_cut [19] (fun v19 wc => ∃ (kq : Nat) (x19_5 : Bool), v19 = .bool x19_5 ∧ Aside0 (spec_l03Sizes.j1 kq a1 x5_1 x6_1 x19_5 l0_0 = some r) ∧ Aside0 (kq ≤ k1) ∧ Aside0 (Kd.R (Kd.int .i64) 3 wc w.heap.size (fun _ => True) u5 x5_1) ∧ Aside0 (wc.heap[gb148]? = some (.cells #[(.slice A0_0 l0_0.length c0_0)] 26 (0, 0))) ∧ Aside0 (Below w.heap.size w wc))
   case first =>
    have H := HC6.out
    clear HC6
    by_cases c7 : x6_1 ≤ a1
    ·rw [if_pos c7] at H
     have c7b0 : decide (x6_1 ≤ a1) = true := decide_eq_true c7
     clear c7
     (first | rw [c7b0] | (simp only [i64_w, i32_w]; rw [c7b0]) | skip)
     have H' := Aside0.mk H
     clear H
     have hcz8_0 : wr.cell? ⟨gb148, 0, none⟩ = some (.slice A0_0 l0_0.length c0_0) := (blk_cell BK148.out 0).trans rfl
     have hfz8_0 := blk_frozen BK148.out 0
     go_wp2
     go_meet
     case rel => exact ⟨_, (decide (x6_1 < (l0_0.length : Int))), (by first | rfl | (simp; done) | (simp [*]; done)), H', ⟨by have := HK1.out; first | omega | exact Nat.le_refl _⟩, ⟨rl HO_5.out⟩, ⟨bl BK148.out⟩, ⟨bw HB.out⟩⟩
    ·rw [if_neg c7] at H
     have c7b0 : decide (x6_1 ≤ a1) = false := decide_eq_false c7
     clear c7
     (first | rw [c7b0] | (simp only [i64_w, i32_w]; rw [c7b0]) | skip)
     have H' := Aside0.mk H
     clear H
     go_wp2
     go_meet
     case rel => exact ⟨_, (false), (by first | rfl | (simp; done) | (simp [*]; done)), H', ⟨by have := HK1.out; first | omega | exact Nat.le_refl _⟩, ⟨rl HO_5.out⟩, ⟨bl BK148.out⟩, ⟨bw HB.out⟩⟩
   case rest =>
    clear HC6
    try clear p2
    try clear c7
    try clear c7b0
    try clear c8
    try clear hcz8_0
    try clear hfz8_0
    try clear p2
    obtain ⟨kq, x19_5, rfl, HA, HJ5, HO_5, BK148, HB⟩ := hcut
    cases kq with
    | zero => exact absurd HA.out (by simp [spec_l03Sizes.j1])
    | succ kj5 =>
     have H := HA.out
     clear HA
     simp only [spec_l03Sizes.j1] at H
     by_cases c9 : x19_5 = true
     ·subst c9
      have H1 : (if 0 ≤ x6_1 then (if x6_1 < (l0_0.length : Int) then ((spec_l03Node.f kj5 ((rd_T34 l0_0 x6_1).f0) ((rd_T34 l0_0 x6_1).f1) ((rd_T34 l0_0 x6_1).f2) ((rd_T34 l0_0 x6_1).f3) x6_1).bind fun t154 => (if t154 = true then (if x6_1 > 0 then (if 0 ≤ (wrap64 (x6_1 - 1)) then (if (wrap64 (x6_1 - 1)) < (x5_1.length : Int) then (spec_l03Sizes.j2 kj5 a1 x5_1 x6_1 ((rd x5_1 (wrap64 (x6_1 - 1))) == 0) l0_0 ((rd_T34 l0_0 x6_1).f0) ((rd_T34 l0_0 x6_1).f1) ((rd_T34 l0_0 x6_1).f2) ((rd_T34 l0_0 x6_1).f3)) else (none)) else (none)) else (spec_l03Sizes.j2 kj5 a1 x5_1 x6_1 false l0_0 ((rd_T34 l0_0 x6_1).f0) ((rd_T34 l0_0 x6_1).f1) ((rd_T34 l0_0 x6_1).f2) ((rd_T34 l0_0 x6_1).f3))) else (spec_l03Sizes.j2 kj5 a1 x5_1 x6_1 true l0_0 ((rd_T34 l0_0 x6_1).f0) ((rd_T34 l0_0 x6_1).f1) ((rd_T34 l0_0 x6_1).f2) ((rd_T34 l0_0 x6_1).f3)))) else (none)) else (none)) = some r := by rw [if_pos rfl] at H; exact H
      clear H
      have H := H1
      clear H1
      by_cases c10 : 0 ≤ x6_1
      ·rw [if_pos c10] at H
       have c10b0 : decide (0 ≤ x6_1) = true := decide_eq_true c10
       clear c10
       by_cases c11 : x6_1 < (l0_0.length : Int)
       ·rw [if_pos c11] at H
        have c11b0 : decide (x6_1 < (l0_0.length : Int)) = true := decide_eq_true c11
        clear c11
        have HC12 := Aside0.mk H
        clear H
        have hcz13_0 : wc.cell? ⟨gb148, 0, none⟩ = some (.slice A0_0 l0_0.length c0_0) := (blk_cell BK148.out 0).trans rfl
        have hfz13_0 := blk_frozen BK148.out 0
        have p152 : 0 ≤ (x6_1 : Int) := oda
        have q152 : x6_1 < (l0_0.length : Int) := oda
        obtain ⟨ad152, e152, hx152_0, hx152_1, hx152_2, hx152_3⟩ := at_T34 HR0_0.out x6_1 p152 q152
        cases e152
        replace hx152_0 := (HB.out.cell (World.block_lt_of_cell? w _ hx152_0)).trans hx152_0
        replace hx152_1 := (HB.out.cell (World.block_lt_of_cell? w _ hx152_1)).trans hx152_1
        replace hx152_2 := (HB.out.cell (World.block_lt_of_cell? w _ hx152_2)).trans hx152_2
        replace hx152_3 := (HB.out.cell (World.block_lt_of_cell? w _ hx152_3)).trans hx152_3
        replace p152 := eq_true p152
        replace q152 := eq_true q152
        go_upto_region 6 with (first | ((with_reducible refine gate_dst (N := 7) rfl ?_); (try (refine gate_guard (by rfl) ?_; dsimp only)); refine box_event ?hg (N := 7) ?hd (cs := #[.int .i64 0, .int .i64 0, .int .i64 0, .int .i64 0]) (t := 34) ?hr ?_; (case hd => rfl); (case hg => rfl); (case hr => first | (go_simp; done) | (go_simp; rfl)); intro gb153 hg w14 hbox hb; have n0_ := Aside0.mk (Kd.R_below (rl HO_5.out) hb); have n1_ := Aside0.mk (blk_below (g := gb148) (o := .cells #[.slice (some ad152) l0_0.length c0_0] 26 (0, 0)) (bl BK148.out) hb); have n2_ := Aside0.mk (below_step (bw HB.out) hb); have n3_ := Aside0.mk (hbox); have n4_ := Aside0.mk ((by rw [hg]; exact (below_size (bw HB.out)) : w.heap.size ≤ gb153)); have n5_ := Aside0.mk ((by rw [hg]; exact (below_size (bw HB.out)) : w.heap.size ≤ gb153)); have n6_ := Aside0.mk ((by rw [hg]; exact Nat.ne_of_lt (blk_lt (g := gb148) (o := .cells #[.slice (some ad152) l0_0.length c0_0] 26 (0, 0)) (bl BK148.out)) : gb148 ≠ gb153)); have n7_ := Aside0.mk ((by rw [hg]; exact Nat.ne_of_gt (blk_lt (g := gb148) (o := .cells #[.slice (some ad152) l0_0.length c0_0] 26 (0, 0)) (bl BK148.out)) : gb153 ≠ gb148)); clear HO_5 BK148 HB; have HO_5 := n0_; have BK148 := n1_; have HB := n2_; have BK153 := n3_; have GW153 := n4_; have GE153 := n5_; have NB148_153 := n6_; have NB153_148 := n7_; clear n0_ n1_ n2_ n3_ n4_ n5_ n6_ n7_ hb hbox hg; have hnb15 := NB153_148.out; have hnc15 := NB148_153.out; have hcz16_0 : w14.cell? ⟨gb153, 0, none⟩ = some (.int .i64 0) := (blk_cell BK153.out 0).trans rfl; have hcz16_1 : w14.cell? ⟨gb153, 1, none⟩ = some (.int .i64 0) := (blk_cell BK153.out 1).trans rfl; have hcz16_2 : w14.cell? ⟨gb153, 2, none⟩ = some (.int .i64 0) := (blk_cell BK153.out 2).trans rfl; have hcz16_3 : w14.cell? ⟨gb153, 3, none⟩ = some (.int .i64 0) := (blk_cell BK153.out 3).trans rfl; have hfz16_0 := blk_frozen BK153.out 0; have hfz16_1 := blk_frozen BK153.out 1; have hfz16_2 := blk_frozen BK153.out 2; have hfz16_3 := blk_frozen BK153.out 3))
        (try simp only [Act.put, List.setIfInBounds_toArray, List.set_cons_zero, List.set_cons_succ])
        go_cut [42] (fun v42 wc => ∃ (kq : Nat) (x42_11 : Bool), v42 = .bool x42_11 ∧ Aside0 (spec_l03Sizes.j2 kq a1 x5_1 x6_1 x42_11 l0_0 ((rd_T34 l0_0 x6_1).f0) ((rd_T34 l0_0 x6_1).f1) ((rd_T34 l0_0 x6_1).f2) ((rd_T34 l0_0 x6_1).f3) = some r) ∧ Aside0 (kq ≤ kj5) ∧ Aside0 (Kd.R (Kd.int .i64) 3 wc w.heap.size (fun _ => True) u5 x5_1) ∧ Aside0 (wc.heap[gb148]? = some (.cells #[(.slice (some ad152) l0_0.length c0_0)] 26 (0, 0))) ∧ Aside0 (wc.heap[gb153]? = some (.cells #[.int .i64 ((rd_T34 l0_0 x6_1).f0), .int .i64 ((rd_T34 l0_0 x6_1).f1), .int .i64 ((rd_T34 l0_0 x6_1).f2), .int .i64 ((rd_T34 l0_0 x6_1).f3)] 34 (0, 0))) ∧ Aside0 (Below w.heap.size w wc))
        case first =>
         have H := HC12.out
         clear HC12
         replace H := Option.bind_eq_some_iff.mp H
         obtain ⟨t154, A170, H⟩ := H
         replace H : (if t154 = true then (if x6_1 > 0 then (if 0 ≤ (wrap64 (x6_1 - 1)) then (if (wrap64 (x6_1 - 1)) < (x5_1.length : Int) then (spec_l03Sizes.j2 kj5 a1 x5_1 x6_1 ((rd x5_1 (wrap64 (x6_1 - 1))) == 0) l0_0 ((rd_T34 l0_0 x6_1).f0) ((rd_T34 l0_0 x6_1).f1) ((rd_T34 l0_0 x6_1).f2) ((rd_T34 l0_0 x6_1).f3)) else (none)) else (none)) else (spec_l03Sizes.j2 kj5 a1 x5_1 x6_1 false l0_0 ((rd_T34 l0_0 x6_1).f0) ((rd_T34 l0_0 x6_1).f1) ((rd_T34 l0_0 x6_1).f2) ((rd_T34 l0_0 x6_1).f3))) else (spec_l03Sizes.j2 kj5 a1 x5_1 x6_1 true l0_0 ((rd_T34 l0_0 x6_1).f0) ((rd_T34 l0_0 x6_1).f1) ((rd_T34 l0_0 x6_1).f2) ((rd_T34 l0_0 x6_1).f3))) = some r := H
         have A17 := Aside0.mk A170
         clear A170
         by_cases c18 : t154 = true
         ·subst c18
          have H1 : (if x6_1 > 0 then (if 0 ≤ (wrap64 (x6_1 - 1)) then (if (wrap64 (x6_1 - 1)) < (x5_1.length : Int) then (spec_l03Sizes.j2 kj5 a1 x5_1 x6_1 ((rd x5_1 (wrap64 (x6_1 - 1))) == 0) l0_0 ((rd_T34 l0_0 x6_1).f0) ((rd_T34 l0_0 x6_1).f1) ((rd_T34 l0_0 x6_1).f2) ((rd_T34 l0_0 x6_1).f3)) else (none)) else (none)) else (spec_l03Sizes.j2 kj5 a1 x5_1 x6_1 false l0_0 ((rd_T34 l0_0 x6_1).f0) ((rd_T34 l0_0 x6_1).f1) ((rd_T34 l0_0 x6_1).f2) ((rd_T34 l0_0 x6_1).f3))) = some r := by rw [if_pos rfl] at H; exact H
          clear H
          have H := H1
          clear H1
          by_cases c19 : x6_1 > 0
          ·rw [if_pos c19] at H
           have c19b0 : decide (0 < x6_1) = true := decide_eq_true c19
           clear c19
           (first | rw [c19b0] | (simp only [i64_w, i32_w]; rw [c19b0]) | skip)
           obtain ⟨ji20, hji20⟩ : ∃ j_ : Int, (wrap64 (x6_1 - 1)) = j_ := ⟨_, rfl⟩
           replace H : (if 0 ≤ (ji20) then (if (ji20) < (x5_1.length : Int) then (spec_l03Sizes.j2 kj5 a1 x5_1 x6_1 ((rd x5_1 (ji20)) == 0) l0_0 ((rd_T34 l0_0 x6_1).f0) ((rd_T34 l0_0 x6_1).f1) ((rd_T34 l0_0 x6_1).f2) ((rd_T34 l0_0 x6_1).f3)) else (none)) else (none)) = some r := by first | (rw [hji20] at H; exact H) | (simp only [hji20] at H ⊢; exact H)
           (try rw [hji20] at A17)
           have hji20w : (IntKind.i64.wrap (x6_1 - 1)) = ji20 := (i64_w _).trans hji20
           by_cases c21 : 0 ≤ (ji20)
           ·rw [if_pos c21] at H
            have c21b0 : decide (0 ≤ (ji20)) = true := decide_eq_true c21
            clear c21
            by_cases c22 : (ji20) < (x5_1.length : Int)
            ·rw [if_pos c22] at H
             have c22b0 : decide ((ji20) < (x5_1.length : Int)) = true := decide_eq_true c22
             clear c22
             have H' := Aside0.mk H
             clear H
             have hnb23 := NB153_148.out
             have hnc23 := NB148_153.out
             have hcz24_0 : w14.cell? ⟨gb153, 0, none⟩ = some (.int .i64 0) := (blk_cell BK153.out 0).trans rfl
             have hcz24_1 : w14.cell? ⟨gb153, 1, none⟩ = some (.int .i64 0) := (blk_cell BK153.out 1).trans rfl
             have hcz24_2 : w14.cell? ⟨gb153, 2, none⟩ = some (.int .i64 0) := (blk_cell BK153.out 2).trans rfl
             have hcz24_3 : w14.cell? ⟨gb153, 3, none⟩ = some (.int .i64 0) := (blk_cell BK153.out 3).trans rfl
             have hfz24_0 := blk_frozen BK153.out 0
             have hfz24_1 := blk_frozen BK153.out 1
             have hfz24_2 := blk_frozen BK153.out 2
             have hfz24_3 := blk_frozen BK153.out 3
             go_wp2_with (first | ((with_reducible refine gate_callee (f := 81) rfl ?_); refine goesL_ (some 29) rfl rfl Try.func81 (by kernel_rfl) rfl #[.agg #[.int .i64 ((rd_T34 l0_0 x6_1).f0), .int .i64 ((rd_T34 l0_0 x6_1).f1), .int .i64 ((rd_T34 l0_0 x6_1).f2), .int .i64 ((rd_T34 l0_0 x6_1).f3)], .int .i64 x6_1] rfl ar ?_; (with_reducible refine (spec_l03Node.calls kj5 ((rd_T34 l0_0 x6_1).f0) ((rd_T34 l0_0 x6_1).f1) ((rd_T34 l0_0 x6_1).f2) ((rd_T34 l0_0 x6_1).f3) x6_1 true _ A17.out).mono ?_); rintro e w25 ⟨rfl, hb⟩; refine ⟨_, rfl, ?_⟩; have n0_ := Aside0.mk (Kd.R_below (by (with_reducible repeat (first | apply Kd.R_alloc | apply Kd.R_drewN | apply Kd.R_drew)); exact (Kd.R_mono (Kd.R_far (p := ⟨gb153, 3, none⟩) (Kd.R_far (p := ⟨gb153, 2, none⟩) (Kd.R_far (p := ⟨gb153, 1, none⟩) (Kd.R_far (p := ⟨gb153, 0, none⟩) (Kd.R_types HO_5.out BK153.out (by decide)) (fun _ hk => hk.2) (.int .i64 ((rd_T34 l0_0 x6_1).f0))) (fun _ hk => hk.2) (.int .i64 ((rd_T34 l0_0 x6_1).f1))) (fun _ hk => hk.2) (.int .i64 ((rd_T34 l0_0 x6_1).f2))) (fun _ hk => hk.2) (.int .i64 ((rd_T34 l0_0 x6_1).f3))) (fun _ h_ => h_.1))) hb); have n1_ := Aside0.mk (blk_below (g := gb148) (o := .cells #[.slice (some ad152) l0_0.length c0_0] 26 (0, 0)) (by (with_reducible repeat (first | refine blk_drewN ?_ _ | refine blk_drew ?_ | refine blk_alloc ?_ _)); refine blk_far ?_ NB148_153.out _; (with_reducible repeat (first | refine blk_drewN ?_ _ | refine blk_drew ?_ | refine blk_alloc ?_ _)); refine blk_far ?_ NB148_153.out _; (with_reducible repeat (first | refine blk_drewN ?_ _ | refine blk_drew ?_ | refine blk_alloc ?_ _)); refine blk_far ?_ NB148_153.out _; (with_reducible repeat (first | refine blk_drewN ?_ _ | refine blk_drew ?_ | refine blk_alloc ?_ _)); refine blk_far ?_ NB148_153.out _; (with_reducible repeat (first | refine blk_drewN ?_ _ | refine blk_drew ?_ | refine blk_alloc ?_ _)); exact BK148.out) hb); have n2_ := Aside0.mk (blk_below (g := gb153) (o := .cells #[.int .i64 ((rd_T34 l0_0 x6_1).f0), .int .i64 ((rd_T34 l0_0 x6_1).f1), .int .i64 ((rd_T34 l0_0 x6_1).f2), .int .i64 ((rd_T34 l0_0 x6_1).f3)] 34 (0, 0)) (by (with_reducible repeat (first | refine blk_drewN ?_ _ | refine blk_drew ?_ | refine blk_alloc ?_ _)); refine blk_put (cs := #[.int .i64 ((rd_T34 l0_0 x6_1).f0), .int .i64 ((rd_T34 l0_0 x6_1).f1), .int .i64 ((rd_T34 l0_0 x6_1).f2), .int .i64 0]) ?_ 3 _ rfl; (with_reducible repeat (first | refine blk_drewN ?_ _ | refine blk_drew ?_ | refine blk_alloc ?_ _)); refine blk_put (cs := #[.int .i64 ((rd_T34 l0_0 x6_1).f0), .int .i64 ((rd_T34 l0_0 x6_1).f1), .int .i64 0, .int .i64 0]) ?_ 2 _ rfl; (with_reducible repeat (first | refine blk_drewN ?_ _ | refine blk_drew ?_ | refine blk_alloc ?_ _)); refine blk_put (cs := #[.int .i64 ((rd_T34 l0_0 x6_1).f0), .int .i64 0, .int .i64 0, .int .i64 0]) ?_ 1 _ rfl; (with_reducible repeat (first | refine blk_drewN ?_ _ | refine blk_drew ?_ | refine blk_alloc ?_ _)); refine blk_put (cs := #[.int .i64 0, .int .i64 0, .int .i64 0, .int .i64 0]) ?_ 0 _ rfl; (with_reducible repeat (first | refine blk_drewN ?_ _ | refine blk_drew ?_ | refine blk_alloc ?_ _)); exact BK153.out) hb); have n3_ := Aside0.mk (below_step (bw HB.out) hb); clear HO_5 BK148 BK153 HB; have HO_5 := n0_; have BK148 := n1_; have BK153 := n2_; have HB := n3_; clear n0_ n1_ n2_ n3_; (try clear hb); (try clear hb2); (try clear hk); (try clear hi); obtain ⟨Ao26, co26, eo26⟩ := Kd.R_slice HO_5.out; subst eo26; have p155 : 0 ≤ ((ji20) : Int) := oda; have q155 : (ji20) < (x5_1.length : Int) := oda; obtain ⟨ad155, e155, hx155_0⟩ := Kd.at_int (Kd.R_reads' HO_5.out).2.2 (ji20) p155 q155; cases e155; replace p155 := eq_true p155; replace q155 := eq_true q155))
             go_meet
             case rel => exact ⟨_, (((rd x5_1 (ji20)) == 0)), (by first | rfl | (simp; done) | (simp only [← hji20] <;> (first | rfl | simp)) | (simp [*]; done)), H', ⟨by have := HK1.out; have := HJ5.out; first | omega | exact Nat.le_refl _⟩, ⟨rl HO_5.out⟩, ⟨bl BK148.out⟩, ⟨bl BK153.out⟩, ⟨bw HB.out⟩⟩
            ·rw [if_neg c22] at H
             exact absurd H (by simp)
           ·rw [if_neg c21] at H
            exact absurd H (by simp)
          ·rw [if_neg c19] at H
           have c19b0 : decide (0 < x6_1) = false := decide_eq_false c19
           clear c19
           (first | rw [c19b0] | (simp only [i64_w, i32_w]; rw [c19b0]) | skip)
           have H' := Aside0.mk H
           clear H
           have hnb27 := NB153_148.out
           have hnc27 := NB148_153.out
           have hcz28_0 : w14.cell? ⟨gb153, 0, none⟩ = some (.int .i64 0) := (blk_cell BK153.out 0).trans rfl
           have hcz28_1 : w14.cell? ⟨gb153, 1, none⟩ = some (.int .i64 0) := (blk_cell BK153.out 1).trans rfl
           have hcz28_2 : w14.cell? ⟨gb153, 2, none⟩ = some (.int .i64 0) := (blk_cell BK153.out 2).trans rfl
           have hcz28_3 : w14.cell? ⟨gb153, 3, none⟩ = some (.int .i64 0) := (blk_cell BK153.out 3).trans rfl
           have hfz28_0 := blk_frozen BK153.out 0
           have hfz28_1 := blk_frozen BK153.out 1
           have hfz28_2 := blk_frozen BK153.out 2
           have hfz28_3 := blk_frozen BK153.out 3
           go_wp2_with (first | ((with_reducible refine gate_callee (f := 81) rfl ?_); refine goesL_ (some 29) rfl rfl Try.func81 (by kernel_rfl) rfl #[.agg #[.int .i64 ((rd_T34 l0_0 x6_1).f0), .int .i64 ((rd_T34 l0_0 x6_1).f1), .int .i64 ((rd_T34 l0_0 x6_1).f2), .int .i64 ((rd_T34 l0_0 x6_1).f3)], .int .i64 x6_1] rfl ar ?_; (with_reducible refine (spec_l03Node.calls kj5 ((rd_T34 l0_0 x6_1).f0) ((rd_T34 l0_0 x6_1).f1) ((rd_T34 l0_0 x6_1).f2) ((rd_T34 l0_0 x6_1).f3) x6_1 true _ A17.out).mono ?_); rintro e w29 ⟨rfl, hb⟩; refine ⟨_, rfl, ?_⟩; have n0_ := Aside0.mk (Kd.R_below (by (with_reducible repeat (first | apply Kd.R_alloc | apply Kd.R_drewN | apply Kd.R_drew)); exact (Kd.R_mono (Kd.R_far (p := ⟨gb153, 3, none⟩) (Kd.R_far (p := ⟨gb153, 2, none⟩) (Kd.R_far (p := ⟨gb153, 1, none⟩) (Kd.R_far (p := ⟨gb153, 0, none⟩) (Kd.R_types HO_5.out BK153.out (by decide)) (fun _ hk => hk.2) (.int .i64 ((rd_T34 l0_0 x6_1).f0))) (fun _ hk => hk.2) (.int .i64 ((rd_T34 l0_0 x6_1).f1))) (fun _ hk => hk.2) (.int .i64 ((rd_T34 l0_0 x6_1).f2))) (fun _ hk => hk.2) (.int .i64 ((rd_T34 l0_0 x6_1).f3))) (fun _ h_ => h_.1))) hb); have n1_ := Aside0.mk (blk_below (g := gb148) (o := .cells #[.slice (some ad152) l0_0.length c0_0] 26 (0, 0)) (by (with_reducible repeat (first | refine blk_drewN ?_ _ | refine blk_drew ?_ | refine blk_alloc ?_ _)); refine blk_far ?_ NB148_153.out _; (with_reducible repeat (first | refine blk_drewN ?_ _ | refine blk_drew ?_ | refine blk_alloc ?_ _)); refine blk_far ?_ NB148_153.out _; (with_reducible repeat (first | refine blk_drewN ?_ _ | refine blk_drew ?_ | refine blk_alloc ?_ _)); refine blk_far ?_ NB148_153.out _; (with_reducible repeat (first | refine blk_drewN ?_ _ | refine blk_drew ?_ | refine blk_alloc ?_ _)); refine blk_far ?_ NB148_153.out _; (with_reducible repeat (first | refine blk_drewN ?_ _ | refine blk_drew ?_ | refine blk_alloc ?_ _)); exact BK148.out) hb); have n2_ := Aside0.mk (blk_below (g := gb153) (o := .cells #[.int .i64 ((rd_T34 l0_0 x6_1).f0), .int .i64 ((rd_T34 l0_0 x6_1).f1), .int .i64 ((rd_T34 l0_0 x6_1).f2), .int .i64 ((rd_T34 l0_0 x6_1).f3)] 34 (0, 0)) (by (with_reducible repeat (first | refine blk_drewN ?_ _ | refine blk_drew ?_ | refine blk_alloc ?_ _)); refine blk_put (cs := #[.int .i64 ((rd_T34 l0_0 x6_1).f0), .int .i64 ((rd_T34 l0_0 x6_1).f1), .int .i64 ((rd_T34 l0_0 x6_1).f2), .int .i64 0]) ?_ 3 _ rfl; (with_reducible repeat (first | refine blk_drewN ?_ _ | refine blk_drew ?_ | refine blk_alloc ?_ _)); refine blk_put (cs := #[.int .i64 ((rd_T34 l0_0 x6_1).f0), .int .i64 ((rd_T34 l0_0 x6_1).f1), .int .i64 0, .int .i64 0]) ?_ 2 _ rfl; (with_reducible repeat (first | refine blk_drewN ?_ _ | refine blk_drew ?_ | refine blk_alloc ?_ _)); refine blk_put (cs := #[.int .i64 ((rd_T34 l0_0 x6_1).f0), .int .i64 0, .int .i64 0, .int .i64 0]) ?_ 1 _ rfl; (with_reducible repeat (first | refine blk_drewN ?_ _ | refine blk_drew ?_ | refine blk_alloc ?_ _)); refine blk_put (cs := #[.int .i64 0, .int .i64 0, .int .i64 0, .int .i64 0]) ?_ 0 _ rfl; (with_reducible repeat (first | refine blk_drewN ?_ _ | refine blk_drew ?_ | refine blk_alloc ?_ _)); exact BK153.out) hb); have n3_ := Aside0.mk (below_step (bw HB.out) hb); clear HO_5 BK148 BK153 HB; have HO_5 := n0_; have BK148 := n1_; have BK153 := n2_; have HB := n3_; clear n0_ n1_ n2_ n3_; (try clear hb); (try clear hb2); (try clear hk); (try clear hi)))
           go_meet
           case rel => exact ⟨_, (false), (by first | rfl | (simp; done) | (simp [*]; done)), H', ⟨by have := HK1.out; have := HJ5.out; first | omega | exact Nat.le_refl _⟩, ⟨rl HO_5.out⟩, ⟨bl BK148.out⟩, ⟨bl BK153.out⟩, ⟨bw HB.out⟩⟩
         ·replace c18 := Bool.eq_false_iff.mpr c18
          subst c18
          have H1 : (spec_l03Sizes.j2 kj5 a1 x5_1 x6_1 true l0_0 ((rd_T34 l0_0 x6_1).f0) ((rd_T34 l0_0 x6_1).f1) ((rd_T34 l0_0 x6_1).f2) ((rd_T34 l0_0 x6_1).f3)) = some r := by rw [if_neg (show ¬ (false = true) by decide)] at H; exact H
          clear H
          have H := H1
          clear H1
          have H' := Aside0.mk H
          clear H
          have hnb30 := NB153_148.out
          have hnc30 := NB148_153.out
          have hcz31_0 : w14.cell? ⟨gb153, 0, none⟩ = some (.int .i64 0) := (blk_cell BK153.out 0).trans rfl
          have hcz31_1 : w14.cell? ⟨gb153, 1, none⟩ = some (.int .i64 0) := (blk_cell BK153.out 1).trans rfl
          have hcz31_2 : w14.cell? ⟨gb153, 2, none⟩ = some (.int .i64 0) := (blk_cell BK153.out 2).trans rfl
          have hcz31_3 : w14.cell? ⟨gb153, 3, none⟩ = some (.int .i64 0) := (blk_cell BK153.out 3).trans rfl
          have hfz31_0 := blk_frozen BK153.out 0
          have hfz31_1 := blk_frozen BK153.out 1
          have hfz31_2 := blk_frozen BK153.out 2
          have hfz31_3 := blk_frozen BK153.out 3
          go_wp2_with (first | ((with_reducible refine gate_callee (f := 81) rfl ?_); refine goesL_ (some 29) rfl rfl Try.func81 (by kernel_rfl) rfl #[.agg #[.int .i64 ((rd_T34 l0_0 x6_1).f0), .int .i64 ((rd_T34 l0_0 x6_1).f1), .int .i64 ((rd_T34 l0_0 x6_1).f2), .int .i64 ((rd_T34 l0_0 x6_1).f3)], .int .i64 x6_1] rfl ar ?_; (with_reducible refine (spec_l03Node.calls kj5 ((rd_T34 l0_0 x6_1).f0) ((rd_T34 l0_0 x6_1).f1) ((rd_T34 l0_0 x6_1).f2) ((rd_T34 l0_0 x6_1).f3) x6_1 false _ A17.out).mono ?_); rintro e w32 ⟨rfl, hb⟩; refine ⟨_, rfl, ?_⟩; have n0_ := Aside0.mk (Kd.R_below (by (with_reducible repeat (first | apply Kd.R_alloc | apply Kd.R_drewN | apply Kd.R_drew)); exact (Kd.R_mono (Kd.R_far (p := ⟨gb153, 3, none⟩) (Kd.R_far (p := ⟨gb153, 2, none⟩) (Kd.R_far (p := ⟨gb153, 1, none⟩) (Kd.R_far (p := ⟨gb153, 0, none⟩) (Kd.R_types HO_5.out BK153.out (by decide)) (fun _ hk => hk.2) (.int .i64 ((rd_T34 l0_0 x6_1).f0))) (fun _ hk => hk.2) (.int .i64 ((rd_T34 l0_0 x6_1).f1))) (fun _ hk => hk.2) (.int .i64 ((rd_T34 l0_0 x6_1).f2))) (fun _ hk => hk.2) (.int .i64 ((rd_T34 l0_0 x6_1).f3))) (fun _ h_ => h_.1))) hb); have n1_ := Aside0.mk (blk_below (g := gb148) (o := .cells #[.slice (some ad152) l0_0.length c0_0] 26 (0, 0)) (by (with_reducible repeat (first | refine blk_drewN ?_ _ | refine blk_drew ?_ | refine blk_alloc ?_ _)); refine blk_far ?_ NB148_153.out _; (with_reducible repeat (first | refine blk_drewN ?_ _ | refine blk_drew ?_ | refine blk_alloc ?_ _)); refine blk_far ?_ NB148_153.out _; (with_reducible repeat (first | refine blk_drewN ?_ _ | refine blk_drew ?_ | refine blk_alloc ?_ _)); refine blk_far ?_ NB148_153.out _; (with_reducible repeat (first | refine blk_drewN ?_ _ | refine blk_drew ?_ | refine blk_alloc ?_ _)); refine blk_far ?_ NB148_153.out _; (with_reducible repeat (first | refine blk_drewN ?_ _ | refine blk_drew ?_ | refine blk_alloc ?_ _)); exact BK148.out) hb); have n2_ := Aside0.mk (blk_below (g := gb153) (o := .cells #[.int .i64 ((rd_T34 l0_0 x6_1).f0), .int .i64 ((rd_T34 l0_0 x6_1).f1), .int .i64 ((rd_T34 l0_0 x6_1).f2), .int .i64 ((rd_T34 l0_0 x6_1).f3)] 34 (0, 0)) (by (with_reducible repeat (first | refine blk_drewN ?_ _ | refine blk_drew ?_ | refine blk_alloc ?_ _)); refine blk_put (cs := #[.int .i64 ((rd_T34 l0_0 x6_1).f0), .int .i64 ((rd_T34 l0_0 x6_1).f1), .int .i64 ((rd_T34 l0_0 x6_1).f2), .int .i64 0]) ?_ 3 _ rfl; (with_reducible repeat (first | refine blk_drewN ?_ _ | refine blk_drew ?_ | refine blk_alloc ?_ _)); refine blk_put (cs := #[.int .i64 ((rd_T34 l0_0 x6_1).f0), .int .i64 ((rd_T34 l0_0 x6_1).f1), .int .i64 0, .int .i64 0]) ?_ 2 _ rfl; (with_reducible repeat (first | refine blk_drewN ?_ _ | refine blk_drew ?_ | refine blk_alloc ?_ _)); refine blk_put (cs := #[.int .i64 ((rd_T34 l0_0 x6_1).f0), .int .i64 0, .int .i64 0, .int .i64 0]) ?_ 1 _ rfl; (with_reducible repeat (first | refine blk_drewN ?_ _ | refine blk_drew ?_ | refine blk_alloc ?_ _)); refine blk_put (cs := #[.int .i64 0, .int .i64 0, .int .i64 0, .int .i64 0]) ?_ 0 _ rfl; (with_reducible repeat (first | refine blk_drewN ?_ _ | refine blk_drew ?_ | refine blk_alloc ?_ _)); exact BK153.out) hb); have n3_ := Aside0.mk (below_step (bw HB.out) hb); clear HO_5 BK148 BK153 HB; have HO_5 := n0_; have BK148 := n1_; have BK153 := n2_; have HB := n3_; clear n0_ n1_ n2_ n3_; (try clear hb); (try clear hb2); (try clear hk); (try clear hi)))
          go_meet
          case rel => exact ⟨_, (true), (by first | rfl | (simp; done) | (simp [*]; done)), H', ⟨by have := HK1.out; have := HJ5.out; first | omega | exact Nat.le_refl _⟩, ⟨rl HO_5.out⟩, ⟨bl BK148.out⟩, ⟨bl BK153.out⟩, ⟨bw HB.out⟩⟩
        case rest =>
         clear HC12
         try clear c1
         try clear p1
         try clear q1
         try clear hx1
         try clear c2
         try clear p2
         try clear c3
         try clear p6
         try clear c7
         try clear c7b0
         try clear c8
         try clear c9
         try clear c10
         try clear c10b0
         try clear c11
         try clear c11b0
         try clear c15
         try clear p15
         try clear q15
         try clear hx15
         try clear c18
         try clear c19
         try clear c19b0
         try clear c21
         try clear c21b0
         try clear c22
         try clear c22b0
         try clear c23
         try clear c27
         try clear c30
         try clear hcz13_0
         try clear hcz16_0
         try clear hcz16_1
         try clear hcz16_2
         try clear hcz16_3
         try clear hcz24_0
         try clear hcz24_1
         try clear hcz24_2
         try clear hcz24_3
         try clear hcz28_0
         try clear hcz28_1
         try clear hcz28_2
         try clear hcz28_3
         try clear hcz31_0
         try clear hcz31_1
         try clear hcz31_2
         try clear hcz31_3
         try clear hcz8_0
         try clear hfz13_0
         try clear hfz16_0
         try clear hfz16_1
         try clear hfz16_2
         try clear hfz16_3
         try clear hfz24_0
         try clear hfz24_1
         try clear hfz24_2
         try clear hfz24_3
         try clear hfz28_0
         try clear hfz28_1
         try clear hfz28_2
         try clear hfz28_3
         try clear hfz31_0
         try clear hfz31_1
         try clear hfz31_2
         try clear hfz31_3
         try clear hfz8_0
         try clear hx152_0
         try clear hx152_1
         try clear hx152_2
         try clear hx152_3
         try clear hx155_0
         try clear p152
         try clear p155
         try clear p2
         try clear q152
         try clear q155
         obtain ⟨kq, x42_11, rfl, HA, HJ11, HO_5, BK148, BK153, HB⟩ := hcut
         cases kq with
         | zero => exact absurd HA.out (by simp [spec_l03Sizes.j2])
         | succ kj11 =>
          have H := HA.out
          clear HA
          simp only [spec_l03Sizes.j2] at H
          by_cases c33 : x42_11 = true
          ·subst c33
           have H1 : (if x5_1.length < 17592186044416 then (spec_l03Sizes.l0 kj11 a1 (x5_1 ++ [0]) (wrap64 (x6_1 + 1)) l0_0) else (none)) = some r := by rw [if_pos rfl] at H; exact H
           clear H
           have H := H1
           clear H1
           by_cases c34 : x5_1.length < 17592186044416
           ·rw [if_pos c34] at H
            have LMc34 := Aside0.mk c34
            clear c34
            obtain ⟨y156, hy156⟩ : ∃ y_ : List Int, y_ = (x5_1 ++ [0]) := ⟨_, rfl⟩
            replace H : (spec_l03Sizes.l0 kj11 a1 y156 (wrap64 (x6_1 + 1)) l0_0) = some r := by first | (rw [hy156]; with_reducible exact H) | (have H2_ := (Option.bind_some _ _).symm.trans H; rw [hy156]; with_reducible exact H2_) | (have H2_ := (Option.bind_some _ _).symm.trans H; with_reducible exact H2_) | with_reducible exact H | (rw [hy156]; exact H) | exact H
            have Ny156 := Aside0.mk hy156
            clear hy156
            have H' := Aside0.mk H
            clear H
            go_wp2_with (first | ((with_reducible refine gate_builtin (b := .append) (xs := #[.tmp 43, .tmp 44]) rfl ?_); (try (refine gate_guard (by rfl) ?_; dsimp only)); at_builtin; refine Kd.R_append (Kd.int .i64) (w0 := w) w.heap.size rfl (.tmp 43) (.tmp 44) 27 3 (.int .i64 0) 8 rfl Try.underlying27 info3 rfl (by decide) (by omega) u5 x5_1 0 [.int .i64 0] (fun _ => True) (fun _ => False) rfl rfl ?aP (fun _ hk => hk.elim) ?aF ?aO ?aB ?aS ?aL ?_; (case aP => exact rfl); (case aB => exact (bw HB.out)); (case aF => exact (fun _ _ => trivial)); (case aO => exact (rl HO_5.out)); (case aS => exact (below_size (bw HB.out))); (case aL => have := LMc34.out; omega); intro v157 w35 ho hb hg hat; rw [← Ny156.out] at ho; have n0_ := Aside0.mk (blk_grown (g := gb148) (o := .cells #[.slice (some ad152) l0_0.length c0_0] 26 (0, 0)) (bl BK148.out) hg (Kd.R_ne HO_5.out BK148.out (by decide))); have n1_ := Aside0.mk (blk_grown (g := gb153) (o := .cells #[.int .i64 ((rd_T34 l0_0 x6_1).f0), .int .i64 ((rd_T34 l0_0 x6_1).f1), .int .i64 ((rd_T34 l0_0 x6_1).f2), .int .i64 ((rd_T34 l0_0 x6_1).f3)] 34 (0, 0)) (bl BK153.out) hg (Kd.R_ne HO_5.out BK153.out (by decide))); have n2_ := Aside0.mk (hb); have n3_ := Aside0.mk (ho); clear BK148 BK153 HB HO_5; have BK148 := n0_; have BK153 := n1_; have HB := n2_; have HO158 := n3_; clear n0_ n1_ n2_ n3_ ho hb hg hat))
            go_roundg kj11
            case measure => have := HK1.out; have := HJ5.out; have := HJ11.out; omega
            case rel => exact ⟨(y156), (wrap64 (x6_1 + 1)), (by first | rfl | (simp; done) | (simp [*]; done)), H', ⟨by have := HK1.out; have := HJ5.out; have := HJ11.out; omega⟩, ⟨rl HO158.out⟩, ⟨bl BK148.out⟩, ⟨bw HB.out⟩⟩
           ·rw [if_neg c34] at H
            exact absurd H (by simp)
          ·replace c33 := Bool.eq_false_iff.mpr c33
           subst c33
           have H1 : (if ((rd_T34 l0_0 x6_1).f0) = 1 then (if 1 > 100000 then (if x5_1.length < 17592186044416 then (spec_l03Sizes.l0 kj11 a1 (x5_1 ++ [100000]) (wrap64 (x6_1 + 1)) l0_0) else (none)) else (if x5_1.length < 17592186044416 then (spec_l03Sizes.l0 kj11 a1 (x5_1 ++ [1]) (wrap64 (x6_1 + 1)) l0_0) else (none))) else (if 0 ≤ ((rd_T34 l0_0 x6_1).f2) then (if ((rd_T34 l0_0 x6_1).f2) < (x5_1.length : Int) then ((spec_l03One.f ((rd_T34 l0_0 x6_1).f0)).bind fun t166 => (if t166 = true then (if (wrap64 (1 + (rd x5_1 ((rd_T34 l0_0 x6_1).f2)))) > 100000 then (if x5_1.length < 17592186044416 then (spec_l03Sizes.l0 kj11 a1 (x5_1 ++ [100000]) (wrap64 (x6_1 + 1)) l0_0) else (none)) else (if x5_1.length < 17592186044416 then (spec_l03Sizes.l0 kj11 a1 (x5_1 ++ [wrap64 (1 + (rd x5_1 ((rd_T34 l0_0 x6_1).f2)))]) (wrap64 (x6_1 + 1)) l0_0) else (none))) else (if 0 ≤ ((rd_T34 l0_0 x6_1).f3) then (if ((rd_T34 l0_0 x6_1).f3) < (x5_1.length : Int) then (if (wrap64 ((wrap64 (1 + (rd x5_1 ((rd_T34 l0_0 x6_1).f2)))) + (rd x5_1 ((rd_T34 l0_0 x6_1).f3)))) > 100000 then (if x5_1.length < 17592186044416 then (spec_l03Sizes.l0 kj11 a1 (x5_1 ++ [100000]) (wrap64 (x6_1 + 1)) l0_0) else (none)) else (if x5_1.length < 17592186044416 then (spec_l03Sizes.l0 kj11 a1 (x5_1 ++ [wrap64 ((wrap64 (1 + (rd x5_1 ((rd_T34 l0_0 x6_1).f2)))) + (rd x5_1 ((rd_T34 l0_0 x6_1).f3)))]) (wrap64 (x6_1 + 1)) l0_0) else (none))) else (none)) else (none)))) else (none)) else (none))) = some r := by rw [if_neg (show ¬ (false = true) by decide)] at H; exact H
           clear H
           have H := H1
           clear H1
           by_cases c36 : ((rd_T34 l0_0 x6_1).f0) = 1
           ·rw [if_pos c36] at H
            have c36b0 : (((rd_T34 l0_0 x6_1).f0) == 1) = true := beq_iff_eq.mpr c36
            have c36b1 : (((rd_T34 l0_0 x6_1).f0) != 1) = false := bne_eq_false_iff_eq.mpr c36
            clear c36
            by_cases c37 : 1 > 100000
            ·exact absurd c37 (by omega)
            ·rw [if_neg c37] at H
             have c37b0 : decide (100000 < 1) = false := decide_eq_false c37
             clear c37
             by_cases c42 : x5_1.length < 17592186044416
             ·rw [if_pos c42] at H
              have LMc42 := Aside0.mk c42
              clear c42
              obtain ⟨y162, hy162⟩ : ∃ y_ : List Int, y_ = (x5_1 ++ [1]) := ⟨_, rfl⟩
              replace H : (spec_l03Sizes.l0 kj11 a1 y162 (wrap64 (x6_1 + 1)) l0_0) = some r := by first | (rw [hy162]; with_reducible exact H) | (have H2_ := (Option.bind_some _ _).symm.trans H; rw [hy162]; with_reducible exact H2_) | (have H2_ := (Option.bind_some _ _).symm.trans H; with_reducible exact H2_) | with_reducible exact H | (rw [hy162]; exact H) | exact H
              have Ny162 := Aside0.mk hy162
              clear hy162
              have H' := Aside0.mk H
              clear H
              have hnb43 := NB153_148.out
              have hnc43 := NB148_153.out
              have hcz44_0 : wc.cell? ⟨gb153, 0, none⟩ = some (.int .i64 ((rd_T34 l0_0 x6_1).f0)) := (blk_cell BK153.out 0).trans rfl
              have hcz44_1 : wc.cell? ⟨gb153, 1, none⟩ = some (.int .i64 ((rd_T34 l0_0 x6_1).f1)) := (blk_cell BK153.out 1).trans rfl
              have hcz44_2 : wc.cell? ⟨gb153, 2, none⟩ = some (.int .i64 ((rd_T34 l0_0 x6_1).f2)) := (blk_cell BK153.out 2).trans rfl
              have hcz44_3 : wc.cell? ⟨gb153, 3, none⟩ = some (.int .i64 ((rd_T34 l0_0 x6_1).f3)) := (blk_cell BK153.out 3).trans rfl
              have hfz44_0 := blk_frozen BK153.out 0
              have hfz44_1 := blk_frozen BK153.out 1
              have hfz44_2 := blk_frozen BK153.out 2
              have hfz44_3 := blk_frozen BK153.out 3
              go_wp2_with (first | ((with_reducible refine gate_builtin (b := .append) (xs := #[.tmp 69, .tmp 71]) rfl ?_); (try (refine gate_guard (by rfl) ?_; dsimp only)); at_builtin; refine Kd.R_append (Kd.int .i64) (w0 := w) w.heap.size rfl (.tmp 69) (.tmp 71) 27 3 (.int .i64 0) 8 rfl Try.underlying27 info3 rfl (by decide) (by omega) u5 x5_1 1 [.int .i64 1] (fun _ => True) (fun _ => False) rfl rfl ?aP (fun _ hk => hk.elim) ?aF ?aO ?aB ?aS ?aL ?_; (case aP => exact rfl); (case aB => exact (bw HB.out)); (case aF => exact (fun _ _ => trivial)); (case aO => exact (rl HO_5.out)); (case aS => exact (below_size (bw HB.out))); (case aL => have := LMc42.out; omega); intro v163 w45 ho hb hg hat; rw [← Ny162.out] at ho; have n0_ := Aside0.mk (blk_grown (g := gb148) (o := .cells #[.slice (some ad152) l0_0.length c0_0] 26 (0, 0)) (bl BK148.out) hg (Kd.R_ne HO_5.out BK148.out (by decide))); have n1_ := Aside0.mk (blk_grown (g := gb153) (o := .cells #[.int .i64 ((rd_T34 l0_0 x6_1).f0), .int .i64 ((rd_T34 l0_0 x6_1).f1), .int .i64 ((rd_T34 l0_0 x6_1).f2), .int .i64 ((rd_T34 l0_0 x6_1).f3)] 34 (0, 0)) (bl BK153.out) hg (Kd.R_ne HO_5.out BK153.out (by decide))); have n2_ := Aside0.mk (hb); have n3_ := Aside0.mk (ho); clear BK148 BK153 HB HO_5; have BK148 := n0_; have BK153 := n1_; have HB := n2_; have HO164 := n3_; clear n0_ n1_ n2_ n3_ ho hb hg hat))
              go_roundg kj11
              case measure => have := HK1.out; have := HJ5.out; have := HJ11.out; omega
              case rel => exact ⟨(y162), (wrap64 (x6_1 + 1)), (by first | rfl | (simp; done) | (simp [*]; done)), H', ⟨by have := HK1.out; have := HJ5.out; have := HJ11.out; omega⟩, ⟨rl HO164.out⟩, ⟨bl BK148.out⟩, ⟨bw HB.out⟩⟩
             ·rw [if_neg c42] at H
              exact absurd H (by simp)
           ·rw [if_neg c36] at H
            have c36b0 : (((rd_T34 l0_0 x6_1).f0) == 1) = false := beq_eq_false_iff_ne.mpr c36
            have c36b1 : (((rd_T34 l0_0 x6_1).f0) != 1) = true := bne_iff_ne.mpr c36
            by_cases c46 : 0 ≤ ((rd_T34 l0_0 x6_1).f2)
            ·rw [if_pos c46] at H
             have c46b0 : decide (0 ≤ ((rd_T34 l0_0 x6_1).f2)) = true := decide_eq_true c46
             clear c46
             by_cases c47 : ((rd_T34 l0_0 x6_1).f2) < (x5_1.length : Int)
             ·rw [if_pos c47] at H
              have c47b0 : decide (((rd_T34 l0_0 x6_1).f2) < (x5_1.length : Int)) = true := decide_eq_true c47
              clear c47
              replace H := Option.bind_eq_some_iff.mp H
              obtain ⟨t166, A480, H⟩ := H
              replace H : (if t166 = true then (if (wrap64 (1 + (rd x5_1 ((rd_T34 l0_0 x6_1).f2)))) > 100000 then (if x5_1.length < 17592186044416 then (spec_l03Sizes.l0 kj11 a1 (x5_1 ++ [100000]) (wrap64 (x6_1 + 1)) l0_0) else (none)) else (if x5_1.length < 17592186044416 then (spec_l03Sizes.l0 kj11 a1 (x5_1 ++ [wrap64 (1 + (rd x5_1 ((rd_T34 l0_0 x6_1).f2)))]) (wrap64 (x6_1 + 1)) l0_0) else (none))) else (if 0 ≤ ((rd_T34 l0_0 x6_1).f3) then (if ((rd_T34 l0_0 x6_1).f3) < (x5_1.length : Int) then (if (wrap64 ((wrap64 (1 + (rd x5_1 ((rd_T34 l0_0 x6_1).f2)))) + (rd x5_1 ((rd_T34 l0_0 x6_1).f3)))) > 100000 then (if x5_1.length < 17592186044416 then (spec_l03Sizes.l0 kj11 a1 (x5_1 ++ [100000]) (wrap64 (x6_1 + 1)) l0_0) else (none)) else (if x5_1.length < 17592186044416 then (spec_l03Sizes.l0 kj11 a1 (x5_1 ++ [wrap64 ((wrap64 (1 + (rd x5_1 ((rd_T34 l0_0 x6_1).f2)))) + (rd x5_1 ((rd_T34 l0_0 x6_1).f3)))]) (wrap64 (x6_1 + 1)) l0_0) else (none))) else (none)) else (none))) = some r := H
              have A48 := Aside0.mk A480
              clear A480
              by_cases c49 : t166 = true
              ·subst c49
               have H1 : (if (wrap64 (1 + (rd x5_1 ((rd_T34 l0_0 x6_1).f2)))) > 100000 then (if x5_1.length < 17592186044416 then (spec_l03Sizes.l0 kj11 a1 (x5_1 ++ [100000]) (wrap64 (x6_1 + 1)) l0_0) else (none)) else (if x5_1.length < 17592186044416 then (spec_l03Sizes.l0 kj11 a1 (x5_1 ++ [wrap64 (1 + (rd x5_1 ((rd_T34 l0_0 x6_1).f2)))]) (wrap64 (x6_1 + 1)) l0_0) else (none))) = some r := by rw [if_pos rfl] at H; exact H
               clear H
               have H := H1
               clear H1
               by_cases c50 : (wrap64 (1 + (rd x5_1 ((rd_T34 l0_0 x6_1).f2)))) > 100000
               ·rw [if_pos c50] at H
                have c50b0 : decide (100000 < (wrap64 (1 + (rd x5_1 ((rd_T34 l0_0 x6_1).f2))))) = true := decide_eq_true c50
                clear c50
                by_cases c51 : x5_1.length < 17592186044416
                ·rw [if_pos c51] at H
                 have LMc51 := Aside0.mk c51
                 clear c51
                 obtain ⟨y167, hy167⟩ : ∃ y_ : List Int, y_ = (x5_1 ++ [100000]) := ⟨_, rfl⟩
                 replace H : (spec_l03Sizes.l0 kj11 a1 y167 (wrap64 (x6_1 + 1)) l0_0) = some r := by first | (rw [hy167]; with_reducible exact H) | (have H2_ := (Option.bind_some _ _).symm.trans H; rw [hy167]; with_reducible exact H2_) | (have H2_ := (Option.bind_some _ _).symm.trans H; with_reducible exact H2_) | with_reducible exact H | (rw [hy167]; exact H) | exact H
                 have Ny167 := Aside0.mk hy167
                 clear hy167
                 have H' := Aside0.mk H
                 clear H
                 have hnb52 := NB153_148.out
                 have hnc52 := NB148_153.out
                 have hcz53_0 : wc.cell? ⟨gb153, 0, none⟩ = some (.int .i64 ((rd_T34 l0_0 x6_1).f0)) := (blk_cell BK153.out 0).trans rfl
                 have hcz53_1 : wc.cell? ⟨gb153, 1, none⟩ = some (.int .i64 ((rd_T34 l0_0 x6_1).f1)) := (blk_cell BK153.out 1).trans rfl
                 have hcz53_2 : wc.cell? ⟨gb153, 2, none⟩ = some (.int .i64 ((rd_T34 l0_0 x6_1).f2)) := (blk_cell BK153.out 2).trans rfl
                 have hcz53_3 : wc.cell? ⟨gb153, 3, none⟩ = some (.int .i64 ((rd_T34 l0_0 x6_1).f3)) := (blk_cell BK153.out 3).trans rfl
                 have hfz53_0 := blk_frozen BK153.out 0
                 have hfz53_1 := blk_frozen BK153.out 1
                 have hfz53_2 := blk_frozen BK153.out 2
                 have hfz53_3 := blk_frozen BK153.out 3
                 obtain ⟨Ao54, co54, eo54⟩ := Kd.R_slice HO_5.out
                 subst eo54
                 have p165 : 0 ≤ (((rd_T34 l0_0 x6_1).f2) : Int) := oda
                 have q165 : ((rd_T34 l0_0 x6_1).f2) < (x5_1.length : Int) := oda
                 obtain ⟨ad165, e165, hx165_0⟩ := Kd.at_int (Kd.R_reads' HO_5.out).2.2 ((rd_T34 l0_0 x6_1).f2) p165 q165
                 cases e165
                 replace p165 := eq_true p165
                 replace q165 := eq_true q165
                 go_wp2_with (first | ((with_reducible refine gate_callee (f := 111) rfl ?_); refine goesL_ (some 58) rfl rfl Try.func111 (by kernel_rfl) rfl #[.int .i64 ((rd_T34 l0_0 x6_1).f0)] rfl ar ?_; (with_reducible refine (spec_l03One.calls ((rd_T34 l0_0 x6_1).f0) true _ A48.out).mono ?_); rintro e w' ⟨rfl, ⟨nd, rfl⟩⟩; refine ⟨_, rfl, ?_⟩) | ((with_reducible refine gate_builtin (b := .append) (xs := #[.tmp 69, .tmp 71]) rfl ?_); (try (refine gate_guard (by rfl) ?_; dsimp only)); at_builtin; refine Kd.R_append (Kd.int .i64) (w0 := w) w.heap.size rfl (.tmp 69) (.tmp 71) 27 3 (.int .i64 0) 8 rfl Try.underlying27 info3 rfl (by decide) (by omega) (.slice (some ad165) x5_1.length co54) x5_1 100000 [.int .i64 100000] (fun _ => True) (fun _ => False) rfl rfl ?aP (fun _ hk => hk.elim) ?aF ?aO ?aB ?aS ?aL ?_; (case aP => exact rfl); (case aB => exact (bw HB.out)); (case aF => exact (fun _ _ => trivial)); (case aO => exact (rl HO_5.out)); (case aS => exact (below_size (bw HB.out))); (case aL => have := LMc51.out; omega); intro v168 w55 ho hb hg hat; rw [← Ny167.out] at ho; have n0_ := Aside0.mk (blk_grown (g := gb148) (o := .cells #[.slice (some ad152) l0_0.length c0_0] 26 (0, 0)) (bl BK148.out) hg (Kd.R_ne HO_5.out BK148.out (by decide))); have n1_ := Aside0.mk (blk_grown (g := gb153) (o := .cells #[.int .i64 ((rd_T34 l0_0 x6_1).f0), .int .i64 ((rd_T34 l0_0 x6_1).f1), .int .i64 ((rd_T34 l0_0 x6_1).f2), .int .i64 ((rd_T34 l0_0 x6_1).f3)] 34 (0, 0)) (bl BK153.out) hg (Kd.R_ne HO_5.out BK153.out (by decide))); have n2_ := Aside0.mk (hb); have n3_ := Aside0.mk (ho); clear BK148 BK153 HB HO_5; have BK148 := n0_; have BK153 := n1_; have HB := n2_; have HO169 := n3_; clear n0_ n1_ n2_ n3_ ho hb hg hat))
                 go_roundg kj11
                 case measure => have := HK1.out; have := HJ5.out; have := HJ11.out; omega
                 case rel => exact ⟨(y167), (wrap64 (x6_1 + 1)), (by first | rfl | (simp; done) | (simp [*]; done)), H', ⟨by have := HK1.out; have := HJ5.out; have := HJ11.out; omega⟩, ⟨rl HO169.out⟩, ⟨bl BK148.out⟩, ⟨bw HB.out⟩⟩
                ·rw [if_neg c51] at H
                 exact absurd H (by simp)
               ·rw [if_neg c50] at H
                have c50b0 : decide (100000 < (wrap64 (1 + (rd x5_1 ((rd_T34 l0_0 x6_1).f2))))) = false := decide_eq_false c50
                clear c50
                by_cases c56 : x5_1.length < 17592186044416
                ·rw [if_pos c56] at H
                 have LMc56 := Aside0.mk c56
                 clear c56
                 obtain ⟨y170, hy170⟩ : ∃ y_ : List Int, y_ = (x5_1 ++ [wrap64 (1 + (rd x5_1 ((rd_T34 l0_0 x6_1).f2)))]) := ⟨_, rfl⟩
                 replace H : (spec_l03Sizes.l0 kj11 a1 y170 (wrap64 (x6_1 + 1)) l0_0) = some r := by first | (rw [hy170]; with_reducible exact H) | (have H2_ := (Option.bind_some _ _).symm.trans H; rw [hy170]; with_reducible exact H2_) | (have H2_ := (Option.bind_some _ _).symm.trans H; with_reducible exact H2_) | with_reducible exact H | (rw [hy170]; exact H) | exact H
                 have Ny170 := Aside0.mk hy170
                 clear hy170
                 have H' := Aside0.mk H
                 clear H
                 have hnb57 := NB153_148.out
                 have hnc57 := NB148_153.out
                 have hcz58_0 : wc.cell? ⟨gb153, 0, none⟩ = some (.int .i64 ((rd_T34 l0_0 x6_1).f0)) := (blk_cell BK153.out 0).trans rfl
                 have hcz58_1 : wc.cell? ⟨gb153, 1, none⟩ = some (.int .i64 ((rd_T34 l0_0 x6_1).f1)) := (blk_cell BK153.out 1).trans rfl
                 have hcz58_2 : wc.cell? ⟨gb153, 2, none⟩ = some (.int .i64 ((rd_T34 l0_0 x6_1).f2)) := (blk_cell BK153.out 2).trans rfl
                 have hcz58_3 : wc.cell? ⟨gb153, 3, none⟩ = some (.int .i64 ((rd_T34 l0_0 x6_1).f3)) := (blk_cell BK153.out 3).trans rfl
                 have hfz58_0 := blk_frozen BK153.out 0
                 have hfz58_1 := blk_frozen BK153.out 1
                 have hfz58_2 := blk_frozen BK153.out 2
                 have hfz58_3 := blk_frozen BK153.out 3
                 obtain ⟨Ao59, co59, eo59⟩ := Kd.R_slice HO_5.out
                 subst eo59
                 have p165 : 0 ≤ (((rd_T34 l0_0 x6_1).f2) : Int) := oda
                 have q165 : ((rd_T34 l0_0 x6_1).f2) < (x5_1.length : Int) := oda
                 obtain ⟨ad165, e165, hx165_0⟩ := Kd.at_int (Kd.R_reads' HO_5.out).2.2 ((rd_T34 l0_0 x6_1).f2) p165 q165
                 cases e165
                 replace p165 := eq_true p165
                 replace q165 := eq_true q165
                 go_wp2_with (first | ((with_reducible refine gate_callee (f := 111) rfl ?_); refine goesL_ (some 58) rfl rfl Try.func111 (by kernel_rfl) rfl #[.int .i64 ((rd_T34 l0_0 x6_1).f0)] rfl ar ?_; (with_reducible refine (spec_l03One.calls ((rd_T34 l0_0 x6_1).f0) true _ A48.out).mono ?_); rintro e w' ⟨rfl, ⟨nd, rfl⟩⟩; refine ⟨_, rfl, ?_⟩) | ((with_reducible refine gate_builtin (b := .append) (xs := #[.tmp 69, .tmp 71]) rfl ?_); (try (refine gate_guard (by rfl) ?_; dsimp only)); at_builtin; refine Kd.R_append (Kd.int .i64) (w0 := w) w.heap.size rfl (.tmp 69) (.tmp 71) 27 3 (.int .i64 0) 8 rfl Try.underlying27 info3 rfl (by decide) (by omega) (.slice (some ad165) x5_1.length co59) x5_1 (wrap64 (1 + (rd x5_1 ((rd_T34 l0_0 x6_1).f2)))) [.int .i64 (wrap64 (1 + (rd x5_1 ((rd_T34 l0_0 x6_1).f2))))] (fun _ => True) (fun _ => False) rfl rfl ?aP (fun _ hk => hk.elim) ?aF ?aO ?aB ?aS ?aL ?_; (case aP => exact rfl); (case aB => exact (bw HB.out)); (case aF => exact (fun _ _ => trivial)); (case aO => exact (rl HO_5.out)); (case aS => exact (below_size (bw HB.out))); (case aL => have := LMc56.out; omega); intro v171 w60 ho hb hg hat; rw [← Ny170.out] at ho; have n0_ := Aside0.mk (blk_grown (g := gb148) (o := .cells #[.slice (some ad152) l0_0.length c0_0] 26 (0, 0)) (bl BK148.out) hg (Kd.R_ne HO_5.out BK148.out (by decide))); have n1_ := Aside0.mk (blk_grown (g := gb153) (o := .cells #[.int .i64 ((rd_T34 l0_0 x6_1).f0), .int .i64 ((rd_T34 l0_0 x6_1).f1), .int .i64 ((rd_T34 l0_0 x6_1).f2), .int .i64 ((rd_T34 l0_0 x6_1).f3)] 34 (0, 0)) (bl BK153.out) hg (Kd.R_ne HO_5.out BK153.out (by decide))); have n2_ := Aside0.mk (hb); have n3_ := Aside0.mk (ho); clear BK148 BK153 HB HO_5; have BK148 := n0_; have BK153 := n1_; have HB := n2_; have HO172 := n3_; clear n0_ n1_ n2_ n3_ ho hb hg hat))
                 go_roundg kj11
                 case measure => have := HK1.out; have := HJ5.out; have := HJ11.out; omega
                 case rel => exact ⟨(y170), (wrap64 (x6_1 + 1)), (by first | rfl | (simp; done) | (simp [*]; done)), H', ⟨by have := HK1.out; have := HJ5.out; have := HJ11.out; omega⟩, ⟨rl HO172.out⟩, ⟨bl BK148.out⟩, ⟨bw HB.out⟩⟩
                ·rw [if_neg c56] at H
                 exact absurd H (by simp)
              ·replace c49 := Bool.eq_false_iff.mpr c49
               subst c49
               have H1 : (if 0 ≤ ((rd_T34 l0_0 x6_1).f3) then (if ((rd_T34 l0_0 x6_1).f3) < (x5_1.length : Int) then (if (wrap64 ((wrap64 (1 + (rd x5_1 ((rd_T34 l0_0 x6_1).f2)))) + (rd x5_1 ((rd_T34 l0_0 x6_1).f3)))) > 100000 then (if x5_1.length < 17592186044416 then (spec_l03Sizes.l0 kj11 a1 (x5_1 ++ [100000]) (wrap64 (x6_1 + 1)) l0_0) else (none)) else (if x5_1.length < 17592186044416 then (spec_l03Sizes.l0 kj11 a1 (x5_1 ++ [wrap64 ((wrap64 (1 + (rd x5_1 ((rd_T34 l0_0 x6_1).f2)))) + (rd x5_1 ((rd_T34 l0_0 x6_1).f3)))]) (wrap64 (x6_1 + 1)) l0_0) else (none))) else (none)) else (none)) = some r := by rw [if_neg (show ¬ (false = true) by decide)] at H; exact H
               clear H
               have H := H1
               clear H1
               by_cases c61 : 0 ≤ ((rd_T34 l0_0 x6_1).f3)
               ·rw [if_pos c61] at H
                have c61b0 : decide (0 ≤ ((rd_T34 l0_0 x6_1).f3)) = true := decide_eq_true c61
                clear c61
                by_cases c62 : ((rd_T34 l0_0 x6_1).f3) < (x5_1.length : Int)
                ·rw [if_pos c62] at H
                 have c62b0 : decide (((rd_T34 l0_0 x6_1).f3) < (x5_1.length : Int)) = true := decide_eq_true c62
                 clear c62
                 by_cases c63 : (wrap64 ((wrap64 (1 + (rd x5_1 ((rd_T34 l0_0 x6_1).f2)))) + (rd x5_1 ((rd_T34 l0_0 x6_1).f3)))) > 100000
                 ·rw [if_pos c63] at H
                  have c63b0 : decide (100000 < (wrap64 ((wrap64 (1 + (rd x5_1 ((rd_T34 l0_0 x6_1).f2)))) + (rd x5_1 ((rd_T34 l0_0 x6_1).f3))))) = true := decide_eq_true c63
                  clear c63
                  by_cases c64 : x5_1.length < 17592186044416
                  ·rw [if_pos c64] at H
                   have LMc64 := Aside0.mk c64
                   clear c64
                   obtain ⟨y174, hy174⟩ : ∃ y_ : List Int, y_ = (x5_1 ++ [100000]) := ⟨_, rfl⟩
                   replace H : (spec_l03Sizes.l0 kj11 a1 y174 (wrap64 (x6_1 + 1)) l0_0) = some r := by first | (rw [hy174]; with_reducible exact H) | (have H2_ := (Option.bind_some _ _).symm.trans H; rw [hy174]; with_reducible exact H2_) | (have H2_ := (Option.bind_some _ _).symm.trans H; with_reducible exact H2_) | with_reducible exact H | (rw [hy174]; exact H) | exact H
                   have Ny174 := Aside0.mk hy174
                   clear hy174
                   have H' := Aside0.mk H
                   clear H
                   have hnb65 := NB153_148.out
                   have hnc65 := NB148_153.out
                   have hcz66_0 : wc.cell? ⟨gb153, 0, none⟩ = some (.int .i64 ((rd_T34 l0_0 x6_1).f0)) := (blk_cell BK153.out 0).trans rfl
                   have hcz66_1 : wc.cell? ⟨gb153, 1, none⟩ = some (.int .i64 ((rd_T34 l0_0 x6_1).f1)) := (blk_cell BK153.out 1).trans rfl
                   have hcz66_2 : wc.cell? ⟨gb153, 2, none⟩ = some (.int .i64 ((rd_T34 l0_0 x6_1).f2)) := (blk_cell BK153.out 2).trans rfl
                   have hcz66_3 : wc.cell? ⟨gb153, 3, none⟩ = some (.int .i64 ((rd_T34 l0_0 x6_1).f3)) := (blk_cell BK153.out 3).trans rfl
                   have hfz66_0 := blk_frozen BK153.out 0
                   have hfz66_1 := blk_frozen BK153.out 1
                   have hfz66_2 := blk_frozen BK153.out 2
                   have hfz66_3 := blk_frozen BK153.out 3
                   obtain ⟨Ao67, co67, eo67⟩ := Kd.R_slice HO_5.out
                   subst eo67
                   have p165 : 0 ≤ (((rd_T34 l0_0 x6_1).f2) : Int) := oda
                   have q165 : ((rd_T34 l0_0 x6_1).f2) < (x5_1.length : Int) := oda
                   obtain ⟨ad165, e165, hx165_0⟩ := Kd.at_int (Kd.R_reads' HO_5.out).2.2 ((rd_T34 l0_0 x6_1).f2) p165 q165
                   cases e165
                   replace p165 := eq_true p165
                   replace q165 := eq_true q165
                   go_wp2_with (first | ((with_reducible refine gate_callee (f := 111) rfl ?_); refine goesL_ (some 58) rfl rfl Try.func111 (by kernel_rfl) rfl #[.int .i64 ((rd_T34 l0_0 x6_1).f0)] rfl ar ?_; (with_reducible refine (spec_l03One.calls ((rd_T34 l0_0 x6_1).f0) false _ A48.out).mono ?_); rintro e w' ⟨rfl, ⟨nd, rfl⟩⟩; refine ⟨_, rfl, ?_⟩; have p173 : 0 ≤ (((rd_T34 l0_0 x6_1).f3) : Int) := oda; have q173 : ((rd_T34 l0_0 x6_1).f3) < (x5_1.length : Int) := oda; obtain ⟨ad173, e173, hx173_0⟩ := Kd.at_int (Kd.R_reads' HO_5.out).2.2 ((rd_T34 l0_0 x6_1).f3) p173 q173; obtain rfl : ad165 = ad173 := (by injection e173); replace p173 := eq_true p173; replace q173 := eq_true q173) | ((with_reducible refine gate_builtin (b := .append) (xs := #[.tmp 69, .tmp 71]) rfl ?_); (try (refine gate_guard (by rfl) ?_; dsimp only)); at_builtin; refine Kd.R_append (Kd.int .i64) (w0 := w) w.heap.size rfl (.tmp 69) (.tmp 71) 27 3 (.int .i64 0) 8 rfl Try.underlying27 info3 rfl (by decide) (by omega) (.slice (some ad165) x5_1.length co67) x5_1 100000 [.int .i64 100000] (fun _ => True) (fun _ => False) rfl rfl ?aP (fun _ hk => hk.elim) ?aF ?aO ?aB ?aS ?aL ?_; (case aP => exact rfl); (case aB => exact (bw HB.out)); (case aF => exact (fun _ _ => trivial)); (case aO => exact (rl HO_5.out)); (case aS => exact (below_size (bw HB.out))); (case aL => have := LMc64.out; omega); intro v175 w68 ho hb hg hat; rw [← Ny174.out] at ho; have n0_ := Aside0.mk (blk_grown (g := gb148) (o := .cells #[.slice (some ad152) l0_0.length c0_0] 26 (0, 0)) (bl BK148.out) hg (Kd.R_ne HO_5.out BK148.out (by decide))); have n1_ := Aside0.mk (blk_grown (g := gb153) (o := .cells #[.int .i64 ((rd_T34 l0_0 x6_1).f0), .int .i64 ((rd_T34 l0_0 x6_1).f1), .int .i64 ((rd_T34 l0_0 x6_1).f2), .int .i64 ((rd_T34 l0_0 x6_1).f3)] 34 (0, 0)) (bl BK153.out) hg (Kd.R_ne HO_5.out BK153.out (by decide))); have n2_ := Aside0.mk (hb); have n3_ := Aside0.mk (ho); clear BK148 BK153 HB HO_5; have BK148 := n0_; have BK153 := n1_; have HB := n2_; have HO176 := n3_; clear n0_ n1_ n2_ n3_ ho hb hg hat))
                   go_roundg kj11
                   case measure => have := HK1.out; have := HJ5.out; have := HJ11.out; omega
                   case rel => exact ⟨(y174), (wrap64 (x6_1 + 1)), (by first | rfl | (simp; done) | (simp [*]; done)), H', ⟨by have := HK1.out; have := HJ5.out; have := HJ11.out; omega⟩, ⟨rl HO176.out⟩, ⟨bl BK148.out⟩, ⟨bw HB.out⟩⟩
                  ·rw [if_neg c64] at H
                   exact absurd H (by simp)
                 ·rw [if_neg c63] at H
                  have c63b0 : decide (100000 < (wrap64 ((wrap64 (1 + (rd x5_1 ((rd_T34 l0_0 x6_1).f2)))) + (rd x5_1 ((rd_T34 l0_0 x6_1).f3))))) = false := decide_eq_false c63
                  clear c63
                  by_cases c69 : x5_1.length < 17592186044416
                  ·rw [if_pos c69] at H
                   have LMc69 := Aside0.mk c69
                   clear c69
                   obtain ⟨y177, hy177⟩ : ∃ y_ : List Int, y_ = (x5_1 ++ [wrap64 ((wrap64 (1 + (rd x5_1 ((rd_T34 l0_0 x6_1).f2)))) + (rd x5_1 ((rd_T34 l0_0 x6_1).f3)))]) := ⟨_, rfl⟩
                   replace H : (spec_l03Sizes.l0 kj11 a1 y177 (wrap64 (x6_1 + 1)) l0_0) = some r := by first | (rw [hy177]; with_reducible exact H) | (have H2_ := (Option.bind_some _ _).symm.trans H; rw [hy177]; with_reducible exact H2_) | (have H2_ := (Option.bind_some _ _).symm.trans H; with_reducible exact H2_) | with_reducible exact H | (rw [hy177]; exact H) | exact H
                   have Ny177 := Aside0.mk hy177
                   clear hy177
                   have H' := Aside0.mk H
                   clear H
                   have hnb70 := NB153_148.out
                   have hnc70 := NB148_153.out
                   have hcz71_0 : wc.cell? ⟨gb153, 0, none⟩ = some (.int .i64 ((rd_T34 l0_0 x6_1).f0)) := (blk_cell BK153.out 0).trans rfl
                   have hcz71_1 : wc.cell? ⟨gb153, 1, none⟩ = some (.int .i64 ((rd_T34 l0_0 x6_1).f1)) := (blk_cell BK153.out 1).trans rfl
                   have hcz71_2 : wc.cell? ⟨gb153, 2, none⟩ = some (.int .i64 ((rd_T34 l0_0 x6_1).f2)) := (blk_cell BK153.out 2).trans rfl
                   have hcz71_3 : wc.cell? ⟨gb153, 3, none⟩ = some (.int .i64 ((rd_T34 l0_0 x6_1).f3)) := (blk_cell BK153.out 3).trans rfl
                   have hfz71_0 := blk_frozen BK153.out 0
                   have hfz71_1 := blk_frozen BK153.out 1
                   have hfz71_2 := blk_frozen BK153.out 2
                   have hfz71_3 := blk_frozen BK153.out 3
                   obtain ⟨Ao72, co72, eo72⟩ := Kd.R_slice HO_5.out
                   subst eo72
                   have p165 : 0 ≤ (((rd_T34 l0_0 x6_1).f2) : Int) := oda
                   have q165 : ((rd_T34 l0_0 x6_1).f2) < (x5_1.length : Int) := oda
                   obtain ⟨ad165, e165, hx165_0⟩ := Kd.at_int (Kd.R_reads' HO_5.out).2.2 ((rd_T34 l0_0 x6_1).f2) p165 q165
                   cases e165
                   replace p165 := eq_true p165
                   replace q165 := eq_true q165
                   go_wp2_with (first | ((with_reducible refine gate_callee (f := 111) rfl ?_); refine goesL_ (some 58) rfl rfl Try.func111 (by kernel_rfl) rfl #[.int .i64 ((rd_T34 l0_0 x6_1).f0)] rfl ar ?_; (with_reducible refine (spec_l03One.calls ((rd_T34 l0_0 x6_1).f0) false _ A48.out).mono ?_); rintro e w' ⟨rfl, ⟨nd, rfl⟩⟩; refine ⟨_, rfl, ?_⟩; have p173 : 0 ≤ (((rd_T34 l0_0 x6_1).f3) : Int) := oda; have q173 : ((rd_T34 l0_0 x6_1).f3) < (x5_1.length : Int) := oda; obtain ⟨ad173, e173, hx173_0⟩ := Kd.at_int (Kd.R_reads' HO_5.out).2.2 ((rd_T34 l0_0 x6_1).f3) p173 q173; obtain rfl : ad165 = ad173 := (by injection e173); replace p173 := eq_true p173; replace q173 := eq_true q173) | ((with_reducible refine gate_builtin (b := .append) (xs := #[.tmp 69, .tmp 71]) rfl ?_); (try (refine gate_guard (by rfl) ?_; dsimp only)); at_builtin; refine Kd.R_append (Kd.int .i64) (w0 := w) w.heap.size rfl (.tmp 69) (.tmp 71) 27 3 (.int .i64 0) 8 rfl Try.underlying27 info3 rfl (by decide) (by omega) (.slice (some ad165) x5_1.length co72) x5_1 (wrap64 ((wrap64 (1 + (rd x5_1 ((rd_T34 l0_0 x6_1).f2)))) + (rd x5_1 ((rd_T34 l0_0 x6_1).f3)))) [.int .i64 (wrap64 ((wrap64 (1 + (rd x5_1 ((rd_T34 l0_0 x6_1).f2)))) + (rd x5_1 ((rd_T34 l0_0 x6_1).f3))))] (fun _ => True) (fun _ => False) rfl rfl ?aP (fun _ hk => hk.elim) ?aF ?aO ?aB ?aS ?aL ?_; (case aP => exact rfl); (case aB => exact (bw HB.out)); (case aF => exact (fun _ _ => trivial)); (case aO => exact (rl HO_5.out)); (case aS => exact (below_size (bw HB.out))); (case aL => have := LMc69.out; omega); intro v178 w73 ho hb hg hat; rw [← Ny177.out] at ho; have n0_ := Aside0.mk (blk_grown (g := gb148) (o := .cells #[.slice (some ad152) l0_0.length c0_0] 26 (0, 0)) (bl BK148.out) hg (Kd.R_ne HO_5.out BK148.out (by decide))); have n1_ := Aside0.mk (blk_grown (g := gb153) (o := .cells #[.int .i64 ((rd_T34 l0_0 x6_1).f0), .int .i64 ((rd_T34 l0_0 x6_1).f1), .int .i64 ((rd_T34 l0_0 x6_1).f2), .int .i64 ((rd_T34 l0_0 x6_1).f3)] 34 (0, 0)) (bl BK153.out) hg (Kd.R_ne HO_5.out BK153.out (by decide))); have n2_ := Aside0.mk (hb); have n3_ := Aside0.mk (ho); clear BK148 BK153 HB HO_5; have BK148 := n0_; have BK153 := n1_; have HB := n2_; have HO179 := n3_; clear n0_ n1_ n2_ n3_ ho hb hg hat))
                   go_roundg kj11
                   case measure => have := HK1.out; have := HJ5.out; have := HJ11.out; omega
                   case rel => exact ⟨(y177), (wrap64 (x6_1 + 1)), (by first | rfl | (simp; done) | (simp [*]; done)), H', ⟨by have := HK1.out; have := HJ5.out; have := HJ11.out; omega⟩, ⟨rl HO179.out⟩, ⟨bl BK148.out⟩, ⟨bw HB.out⟩⟩
                  ·rw [if_neg c69] at H
                   exact absurd H (by simp)
                ·rw [if_neg c62] at H
                 exact absurd H (by simp)
               ·rw [if_neg c61] at H
                exact absurd H (by simp)
             ·rw [if_neg c47] at H
              exact absurd H (by simp)
            ·rw [if_neg c46] at H
             exact absurd H (by simp)
       ·rw [if_neg c11] at H
        exact absurd H (by simp)
      ·rw [if_neg c10] at H
       exact absurd H (by simp)
     ·replace c9 := Bool.eq_false_iff.mpr c9
      subst c9
      have H1 : (some x5_1) = some r := by rw [if_neg (show ¬ (false = true) by decide)] at H; exact H
      clear H
      have H := H1
      clear H1
      obtain rfl := Option.some.inj H
      go_wp2
      go_ret
      exact ⟨_, by first | rfl | (simp [errW_none, errW_some] <;> rfl) | (simp [*, errW_none, errW_some] <;> rfl), by (with_reducible repeat (first | apply Kd.R_alloc | apply Kd.R_drewN | apply Kd.R_drew)); exact HO_5.out, bw HB.out⟩

/-! ### spec_SizeOf: function 29 -/
def spec_SizeOf.f (k : Nat) (l0_0 : List (S34)) (a1 : Int) : Option (Int) := (spec_l01In.f a1 0 (wrap64 ((l0_0.length : Int) - 1))).bind fun t181 => (if t181 = true then ((spec_l03Sizes.f k l0_0 a1).bind fun t182 => (if 0 ≤ a1 then (if a1 < (t182.length : Int) then (some (rd t182 a1)) else (none)) else (none))) else (some 0))
set_option maxHeartbeats 8000000 in
set_option maxRecDepth 100000 in
theorem spec_SizeOf.calls (k : Nat) (A0_0 : Option Addr) (c0_0 : Nat) (l0_0 : List (S34)) (a1 : Int) (r : Int) (w : World) (hr0_0 : Kd.C k34 w A0_0 l0_0.length l0_0) (hc0_0 : l0_0.length ≤ c0_0) (h : spec_SizeOf.f k l0_0 a1 = some r) :
  Calls Try.prog 29 #[.agg #[.slice A0_0 l0_0.length c0_0], .int .i64 a1] w fun e w' => e = .returned (.int .i64 r) ∧ Below w.heap.size w w' := by
 have hu26 := Try.underlying26
 have HR0_0 := Aside0.mk hr0_0
 have HC0_0 := Aside0.mk hc0_0
 clear hr0_0 hc0_0
 have HB := Aside0.mk (Below.refl w.heap.size w)
 have H : ((spec_l01In.f a1 0 (wrap64 ((l0_0.length : Int) - 1))).bind fun t181 => (if t181 = true then ((spec_l03Sizes.f k l0_0 a1).bind fun t182 => (if 0 ≤ a1 then (if a1 < (t182.length : Int) then (some (rd t182 a1)) else (none)) else (none))) else (some 0))) = some r := h
 clear h
 replace H := Option.bind_eq_some_iff.mp H
 obtain ⟨t181, A30, H⟩ := H
 replace H : (if t181 = true then ((spec_l03Sizes.f k l0_0 a1).bind fun t182 => (if 0 ≤ a1 then (if a1 < (t182.length : Int) then (some (rd t182 a1)) else (none)) else (none))) else (some 0)) = some r := H
 have A3 := Aside0.mk A30
 clear A30
 by_cases c4 : t181 = true
 ·subst c4
  have H1 : ((spec_l03Sizes.f k l0_0 a1).bind fun t182 => (if 0 ≤ a1 then (if a1 < (t182.length : Int) then (some (rd t182 a1)) else (none)) else (none))) = some r := by rw [if_pos rfl] at H; exact H
  clear H
  have H := H1
  clear H1
  replace H := Option.bind_eq_some_iff.mp H
  obtain ⟨t182, A50, H⟩ := H
  replace H : (if 0 ≤ a1 then (if a1 < (t182.length : Int) then (some (rd t182 a1)) else (none)) else (none)) = some r := H
  have A5 := Aside0.mk A50
  clear A50
  by_cases c6 : 0 ≤ a1
  ·rw [if_pos c6] at H
   have c6b0 : decide (0 ≤ a1) = true := decide_eq_true c6
   clear c6
   by_cases c7 : a1 < (t182.length : Int)
   ·rw [if_pos c7] at H
    have c7b0 : decide (a1 < (t182.length : Int)) = true := decide_eq_true c7
    clear c7
    obtain rfl := Option.some.inj H
    go_enter Try.func29, Try.ntmps29
    go_wp2_with (first | ((with_reducible refine gate_dst (N := 2) rfl ?_); refine box_event ?hg (N := 2) ?hd (cs := #[.slice A0_0 l0_0.length c0_0]) (t := 26) ?hr ?_; (case hd => rfl); (case hg => rfl); (case hr => first | (go_simp; done) | (go_simp; rfl)); intro gb180 hg w8 hbox hb; have n0_ := Aside0.mk (below_step (bw HB.out) hb); have n1_ := Aside0.mk (hbox); have n2_ := Aside0.mk ((by rw [hg]; exact (below_size (bw HB.out)) : w.heap.size ≤ gb180)); have n3_ := Aside0.mk ((by rw [hg]; exact (below_size (bw HB.out)) : w.heap.size ≤ gb180)); clear HB; have HB := n0_; have BK180 := n1_; have GW180 := n2_; have GE180 := n3_; clear n0_ n1_ n2_ n3_ hb hbox hg; have hcz9_0 : w8.cell? ⟨gb180, 0, none⟩ = some (.slice A0_0 l0_0.length c0_0) := (blk_cell BK180.out 0).trans rfl; have hfz9_0 := blk_frozen BK180.out 0) | ((with_reducible refine gate_callee (f := 79) rfl ?_); refine goesL_ (some 10) rfl rfl Try.func79 (by kernel_rfl) rfl #[.int .i64 a1, .int .i64 0, .int .i64 (wrap64 ((l0_0.length : Int) - 1))] rfl ar ?_; (with_reducible refine (spec_l01In.calls a1 0 (wrap64 ((l0_0.length : Int) - 1)) true _ A3.out).mono ?_); rintro e w' ⟨rfl, ⟨nd, rfl⟩⟩; refine ⟨_, rfl, ?_⟩) | ((with_reducible refine gate_callee (f := 86) rfl ?_); refine goesL_ (some 14) rfl rfl Try.func86 (by kernel_rfl) rfl #[.agg #[.slice A0_0 l0_0.length c0_0], .int .i64 a1] rfl ar ?_; (with_reducible refine (spec_l03Sizes.calls k _ _ l0_0 a1 t182 _ ?side1 ?side2 A5.out).mono ?_); (case side1 => exact cl (Kd.C_below HR0_0.out (bw HB.out))); (case side2 => exact HC0_0.out); rintro e w10 ⟨v183, rfl, ho0, hb⟩; refine ⟨_, rfl, ?_⟩; have n0_ := Aside0.mk (Kd.R_lower ho0 (below_size (bw HB.out))); have n1_ := Aside0.mk (blk_below (g := gb180) (o := .cells #[.slice A0_0 l0_0.length c0_0] 26 (0, 0)) (bl BK180.out) hb); have n2_ := Aside0.mk (below_step (bw HB.out) hb); clear BK180 HB; have HO184 := n0_; have BK180 := n1_; have HB := n2_; clear n0_ n1_ n2_; (try clear hb); (try clear hb2); (try clear hk); (try clear hi); (try clear ho0); obtain ⟨Ao11, co11, eo11⟩ := Kd.R_slice HO184.out; subst eo11; have p185 : 0 ≤ (a1 : Int) := oda; have q185 : a1 < (t182.length : Int) := oda; obtain ⟨ad185, e185, hx185_0⟩ := Kd.at_int (Kd.R_reads' HO184.out).2.2 a1 p185 q185; cases e185; replace p185 := eq_true p185; replace q185 := eq_true q185))
    go_ret
    exact ⟨by first | rfl | (simp [errW_none, errW_some] <;> rfl) | (simp [*, errW_none, errW_some] <;> rfl), bw HB.out⟩
   ·rw [if_neg c7] at H
    exact absurd H (by simp)
  ·rw [if_neg c6] at H
   exact absurd H (by simp)
 ·replace c4 := Bool.eq_false_iff.mpr c4
  subst c4
  have H1 : (some 0) = some r := by rw [if_neg (show ¬ (false = true) by decide)] at H; exact H
  clear H
  have H := H1
  clear H1
  obtain rfl := Option.some.inj H
  go_enter Try.func29, Try.ntmps29
  go_wp2_with (first | ((with_reducible refine gate_dst (N := 2) rfl ?_); refine box_event ?hg (N := 2) ?hd (cs := #[.slice A0_0 l0_0.length c0_0]) (t := 26) ?hr ?_; (case hd => rfl); (case hg => rfl); (case hr => first | (go_simp; done) | (go_simp; rfl)); intro gb180 hg w12 hbox hb; have n0_ := Aside0.mk (below_step (bw HB.out) hb); have n1_ := Aside0.mk (hbox); have n2_ := Aside0.mk ((by rw [hg]; exact (below_size (bw HB.out)) : w.heap.size ≤ gb180)); have n3_ := Aside0.mk ((by rw [hg]; exact (below_size (bw HB.out)) : w.heap.size ≤ gb180)); clear HB; have HB := n0_; have BK180 := n1_; have GW180 := n2_; have GE180 := n3_; clear n0_ n1_ n2_ n3_ hb hbox hg; have hcz13_0 : w12.cell? ⟨gb180, 0, none⟩ = some (.slice A0_0 l0_0.length c0_0) := (blk_cell BK180.out 0).trans rfl; have hfz13_0 := blk_frozen BK180.out 0) | ((with_reducible refine gate_callee (f := 79) rfl ?_); refine goesL_ (some 10) rfl rfl Try.func79 (by kernel_rfl) rfl #[.int .i64 a1, .int .i64 0, .int .i64 (wrap64 ((l0_0.length : Int) - 1))] rfl ar ?_; (with_reducible refine (spec_l01In.calls a1 0 (wrap64 ((l0_0.length : Int) - 1)) false _ A3.out).mono ?_); rintro e w' ⟨rfl, ⟨nd, rfl⟩⟩; refine ⟨_, rfl, ?_⟩))
  go_ret
  exact ⟨by first | rfl | (simp [errW_none, errW_some] <;> rfl) | (simp [*, errW_none, errW_some] <;> rfl), bw HB.out⟩

/-! ### spec_l01Var: function 123 -/
def spec_l01Var.l0 : Nat → Int → List Int → Option (ByteArray)
  | 0, _, _ => none
  | k + 1, x0, x3 => if x0 > 127 then (if x3.length < 140737488355328 then (spec_l01Var.l0 k (wrap64 (Int.tdiv x0 128)) (x3 ++ [(wrap64 ((Int.tmod x0 128) + 128)) % 256])) else (none)) else (if x3.length < 140737488355328 then (some (strOfNums (x3 ++ [(x0) % 256]))) else (none))
def spec_l01Var.f (k : Nat) (a0 : Int) : Option (ByteArray) := spec_l01Var.l0 k a0 (([] : List Int))
set_option maxHeartbeats 8000000 in
set_option maxRecDepth 100000 in
theorem spec_l01Var.calls (k : Nat) (a0 : Int) (r : ByteArray) (w : World) (h : spec_l01Var.f k a0 = some r) :
  Calls Try.prog 123 #[.int .i64 a0] w fun e w' => e = .returned (.string r) ∧ Below w.heap.size w w' := by
 have HB := Aside0.mk (Below.refl w.heap.size w)
 have H : (spec_l01Var.l0 k a0 (([] : List Int))) = some r := h
 clear h
 obtain ⟨y186, hy186⟩ : ∃ y_ : List Int, y_ = (([] : List Int)) := ⟨_, rfl⟩
 replace H : (spec_l01Var.l0 k a0 y186) = some r := by first | (rw [hy186]; with_reducible exact H) | (have H2_ := (Option.bind_some _ _).symm.trans H; rw [hy186]; with_reducible exact H2_) | (have H2_ := (Option.bind_some _ _).symm.trans H; with_reducible exact H2_) | with_reducible exact H | (rw [hy186]; exact H) | exact H
 have Ny186 := Aside0.mk hy186
 clear hy186
 have H' := Aside0.mk H
 clear H
 go_enter Try.func123, Try.ntmps123
 go_wp2_with (first | ((with_reducible refine gate_dst (N := 4) rfl ?_); refine Kd.R_lit (Kd.int .u8) _ 5 ?hg (N := 4) ?hd (xs := ([] : List Int)) (inner := []) (ok := fun _ => True) (okp := fun _ => True) ?hr ?hp (fun _ hk => hk) trivial (Below.refl _ _) (Nat.le_refl _) (by simp) ?_; (case hd => rfl); (case hg => rfl); (case hr => first | (go_simp; done) | (go_simp; rfl)); (case hp => exact (Reps.none _ _)); intro v187 w2 ho3 hb hg_ hnew_; clear hg_ hnew_; (first | rw [← Ny186.out] at ho3 | (simp only [Int.reduceToNat] at ho3; rw [← Ny186.out] at ho3)); have n0_ := Aside0.mk (Kd.R_lower ho3 (below_size (bw HB.out))); have n1_ := Aside0.mk (below_step (bw HB.out) hb); clear HB; have HO188 := n0_; have HB := n1_; clear n0_ n1_ hb ho3))
 go_loopg [0, 3] k (fun kq v0 v3 w' => ∃ (x0_1 : Int) (x3_1 : List Int), v0 = .int .i64 x0_1 ∧ Aside0 (spec_l01Var.l0 kq x0_1 x3_1 = some r) ∧ Aside0 (kq ≤ k) ∧ Aside0 (Kd.R (Kd.int .u8) 5 w' w.heap.size (fun _ => True) v3 x3_1) ∧ Aside0 (Below w.heap.size w w'))
 case atStart => exact ⟨(a0), (y186), (by first | rfl | (simp; done) | (simp [*]; done)), H', ⟨Nat.le_refl _⟩, ⟨rl HO188.out⟩, ⟨bw HB.out⟩⟩
 case round =>
  clear H'
  try clear c1
  try clear p2
  obtain ⟨x0_1, x3_1, rfl, HA, HK1, HO_3, HB⟩ := hrel
  cases gk with
  | zero => exact absurd HA.out (by simp [spec_l01Var.l0])
  | succ k1 =>
   have H := HA.out
   clear HA
   simp only [spec_l01Var.l0] at H
   by_cases c4 : x0_1 > 127
   ·rw [if_pos c4] at H
    have c4b0 : decide (127 < x0_1) = true := decide_eq_true c4
    clear c4
    by_cases c5 : x3_1.length < 140737488355328
    ·rw [if_pos c5] at H
     have LMc5 := Aside0.mk c5
     clear c5
     obtain ⟨y189, hy189⟩ : ∃ y_ : List Int, y_ = (x3_1 ++ [(wrap64 ((Int.tmod x0_1 128) + 128)) % 256]) := ⟨_, rfl⟩
     replace H : (spec_l01Var.l0 k1 (wrap64 (Int.tdiv x0_1 128)) y189) = some r := by first | (rw [hy189]; with_reducible exact H) | (have H2_ := (Option.bind_some _ _).symm.trans H; rw [hy189]; with_reducible exact H2_) | (have H2_ := (Option.bind_some _ _).symm.trans H; with_reducible exact H2_) | with_reducible exact H | (rw [hy189]; exact H) | exact H
     have Ny189 := Aside0.mk hy189
     clear hy189
     have H' := Aside0.mk H
     clear H
     go_wp2_with (first | ((with_reducible refine gate_builtin (b := .append) (xs := #[.tmp 7, .tmp 12]) rfl ?_); at_builtin; refine Kd.R_append (Kd.int .u8) (w0 := w) w.heap.size rfl (.tmp 7) (.tmp 12) 22 5 (.int .u8 0) 1 rfl Try.underlying22 info5 rfl (by decide) (by omega) u3 x3_1 ((wrap64 ((Int.tmod x0_1 128) + 128)) % 256) [.int .u8 ((wrap64 ((Int.tmod x0_1 128) + 128)) % 256)] (fun _ => True) (fun _ => False) rfl rfl ?aP (fun _ hk => hk.elim) ?aF ?aO ?aB ?aS ?aL ?_; (case aP => exact rfl); (case aB => exact (bw HB.out)); (case aF => exact (fun _ _ => trivial)); (case aO => exact (rl HO_3.out)); (case aS => exact (below_size (bw HB.out))); (case aL => have := LMc5.out; omega); intro v190 w6 ho hb hg hat; rw [← Ny189.out] at ho; have n0_ := Aside0.mk (hb); have n1_ := Aside0.mk (ho); clear HB HO_3; have HB := n0_; have HO191 := n1_; clear n0_ n1_ ho hb hg hat))
     go_roundg k1
     case measure => have := HK1.out; omega
     case rel => exact ⟨(wrap64 (Int.tdiv x0_1 128)), (y189), (by first | rfl | (simp; done) | (simp [*]; done)), H', ⟨by have := HK1.out; omega⟩, ⟨rl HO191.out⟩, ⟨bw HB.out⟩⟩
    ·rw [if_neg c5] at H
     exact absurd H (by simp)
   ·rw [if_neg c4] at H
    have c4b0 : decide (127 < x0_1) = false := decide_eq_false c4
    clear c4
    by_cases c7 : x3_1.length < 140737488355328
    ·rw [if_pos c7] at H
     have LMc7 := Aside0.mk c7
     clear c7
     obtain ⟨y192, hy192⟩ : ∃ y_ : List Int, y_ = (x3_1 ++ [(x0_1) % 256]) := ⟨_, rfl⟩
     replace H : (some (strOfNums y192)) = some r := by first | (rw [hy192]; with_reducible exact H) | (have H2_ := (Option.bind_some _ _).symm.trans H; rw [hy192]; with_reducible exact H2_) | (have H2_ := (Option.bind_some _ _).symm.trans H; with_reducible exact H2_) | with_reducible exact H | (rw [hy192]; exact H) | exact H
     have Ny192 := Aside0.mk hy192
     clear hy192
     obtain rfl := Option.some.inj H
     go_wp2_with (first | ((with_reducible refine gate_builtin (b := .append) (xs := #[.tmp 16, .tmp 19]) rfl ?_); at_builtin; refine Kd.R_append (Kd.int .u8) (w0 := w) w.heap.size rfl (.tmp 16) (.tmp 19) 22 5 (.int .u8 0) 1 rfl Try.underlying22 info5 rfl (by decide) (by omega) u3 x3_1 ((x0_1) % 256) [.int .u8 ((x0_1) % 256)] (fun _ => True) (fun _ => False) rfl rfl ?aP (fun _ hk => hk.elim) ?aF ?aO ?aB ?aS ?aL ?_; (case aP => exact rfl); (case aB => exact (bw HB.out)); (case aF => exact (fun _ _ => trivial)); (case aO => exact (rl HO_3.out)); (case aS => exact (below_size (bw HB.out))); (case aL => have := LMc7.out; omega); intro v193 w8 ho hb hg hat; rw [← Ny192.out] at ho; have n0_ := Aside0.mk (hb); have n1_ := Aside0.mk (ho); clear HB HO_3; have HB := n0_; have HO194 := n1_; clear n0_ n1_ ho hb hg hat; have hcv9 := own_string (P := Try.prog) Try.underlying22 Try.underlying5 Try.underlying9 (Kd.own_of_R HO194.out)))
     go_ret
     exact ⟨by first | rfl | (simp [errW_none, errW_some] <;> rfl) | (simp [*, errW_none, errW_some] <;> rfl), bw HB.out⟩
    ·rw [if_neg c7] at H
     exact absurd H (by simp)

end Go.Proofs.Ytkckdibalopagaa.SFnExactReadTerm
