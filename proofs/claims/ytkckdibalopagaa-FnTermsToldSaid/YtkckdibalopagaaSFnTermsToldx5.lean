-- Began as a print of the kit over stubs (wip/stub.py); the sections that are named OWN are this session's.
import Derived.Test.YtkckdibalopagaaSFnTermsToldx0
import Derived.Test.YtkckdibalopagaaSFnTermsToldx2
import Derived.Test.YtkckdibalopagaaSFnTermsToldx3
import Derived.Test.YtkckdibalopagaaRShort
namespace Go.Proofs.Ytkckdibalopagaa.SFnTermsTold
open Go.RowKit Go.Proofs.YtkckdibalopagaaW.PrintWords Go.Proofs.YtkckdibalopagaaW.PrintLast Go.Proofs.YtkckdibalopagaaW.PrintMore Go.Proofs.Ytkckdibalopagaa.Short
attribute [local go_sem] max2_int min2_int max_two min_two max_three min_three max_four min_four   -- for this text's walks alone
set_option linter.unusedVariables false
set_option linter.unusedSimpArgs false

/-! ### spec_l03Sizes: OWN: function 86 -/
mutual
def spec_l03Sizes.l0 : Nat → Int → List Int → Int → List (S34) → Option (List Int)
  | 0, _, _, _, _ => none
  | k + 1, x1, x5, x6, x122000 => if x6 ≤ x1 then (spec_l03Sizes.j1 k x1 x5 x6 (decide (x6 < (x122000.length : Int))) x122000) else (spec_l03Sizes.j1 k x1 x5 x6 false x122000)
def spec_l03Sizes.j1 : Nat → Int → List Int → Int → Bool → List (S34) → Option (List Int)
  | 0, _, _, _, _, _ => none
  | k + 1, x1, x5, x6, x19, x122000 => if x19 = true then (if 0 ≤ x6 then (if x6 < (x122000.length : Int) then ((spec_l03Node.f k ((rd_T34 x122000 x6).f0) ((rd_T34 x122000 x6).f1) ((rd_T34 x122000 x6).f2) ((rd_T34 x122000 x6).f3) x6).bind fun t127 => (if t127 = true then (if x6 > 0 then (if 0 ≤ (wrap64 (x6 - 1)) then (if (wrap64 (x6 - 1)) < (x5.length : Int) then (spec_l03Sizes.j2 k x1 x5 x6 ((rd x5 (wrap64 (x6 - 1))) == 0) x122000 ((rd_T34 x122000 x6).f0) ((rd_T34 x122000 x6).f1) ((rd_T34 x122000 x6).f2) ((rd_T34 x122000 x6).f3)) else (none)) else (none)) else (spec_l03Sizes.j2 k x1 x5 x6 false x122000 ((rd_T34 x122000 x6).f0) ((rd_T34 x122000 x6).f1) ((rd_T34 x122000 x6).f2) ((rd_T34 x122000 x6).f3))) else (spec_l03Sizes.j2 k x1 x5 x6 true x122000 ((rd_T34 x122000 x6).f0) ((rd_T34 x122000 x6).f1) ((rd_T34 x122000 x6).f2) ((rd_T34 x122000 x6).f3)))) else (none)) else (none)) else (some x5)
def spec_l03Sizes.j2 : Nat → Int → List Int → Int → Bool → List (S34) → Int → Int → Int → Int → Option (List Int)
  | 0, _, _, _, _, _, _, _, _, _ => none
  | k + 1, x1, x5, x6, x42, x122000, x127000, x127001, x127002, x127003 => if x42 = true then (if x5.length < 17592186044416 then (spec_l03Sizes.l0 k x1 (x5 ++ [0]) (wrap64 (x6 + 1)) x122000) else (none)) else (if x127000 = 1 then (if 1 > 100000 then (if x5.length < 17592186044416 then (spec_l03Sizes.l0 k x1 (x5 ++ [100000]) (wrap64 (x6 + 1)) x122000) else (none)) else (if x5.length < 17592186044416 then (spec_l03Sizes.l0 k x1 (x5 ++ [1]) (wrap64 (x6 + 1)) x122000) else (none))) else (if 0 ≤ x127002 then (if x127002 < (x5.length : Int) then ((spec_l03One.f x127000).bind fun t139 => (if t139 = true then (if (wrap64 (1 + (rd x5 x127002))) > 100000 then (if x5.length < 17592186044416 then (spec_l03Sizes.l0 k x1 (x5 ++ [100000]) (wrap64 (x6 + 1)) x122000) else (none)) else (if x5.length < 17592186044416 then (spec_l03Sizes.l0 k x1 (x5 ++ [wrap64 (1 + (rd x5 x127002))]) (wrap64 (x6 + 1)) x122000) else (none))) else (if 0 ≤ x127003 then (if x127003 < (x5.length : Int) then (if (wrap64 ((wrap64 (1 + (rd x5 x127002))) + (rd x5 x127003))) > 100000 then (if x5.length < 17592186044416 then (spec_l03Sizes.l0 k x1 (x5 ++ [100000]) (wrap64 (x6 + 1)) x122000) else (none)) else (if x5.length < 17592186044416 then (spec_l03Sizes.l0 k x1 (x5 ++ [wrap64 ((wrap64 (1 + (rd x5 x127002))) + (rd x5 x127003))]) (wrap64 (x6 + 1)) x122000) else (none))) else (none)) else (none)))) else (none)) else (none)))
end
def spec_l03Sizes.f (k : Nat) (l0_0 : List (S34)) (a1 : Int) : Option (List Int) := spec_l03Sizes.l0 k a1 (([] : List Int)) 0 l0_0
set_option maxHeartbeats 8000000 in
set_option maxRecDepth 100000 in
theorem spec_l03Sizes.calls (k : Nat) (A0_0 : Option Addr) (c0_0 : Nat) (l0_0 : List (S34)) (a1 : Int) (r : List Int) (w : World) (hr0_0 : Kd.C k34 w A0_0 l0_0.length l0_0) (hc0_0 : l0_0.length ≤ c0_0) (h : spec_l03Sizes.f k l0_0 a1 = some r) :
  Calls Try.prog 86 #[.agg #[.slice A0_0 l0_0.length c0_0], .int .i64 a1] w fun e w' => ∃ v0_ : Value, e = .returned (v0_) ∧ Kd.R (Kd.int .i64) 3 w' w.heap.size (fun _ => True) v0_ r ∧ Below w.heap.size w w' := by
 have hu26 := Try.underlying26
 have hu34 := Try.underlying34
 have HR0_0 := Aside0.mk hr0_0
 have HC0_0 := Aside0.mk hc0_0
 clear hr0_0 hc0_0
 have HB := Aside0.mk (Below.refl w.heap.size w)
 have H : (spec_l03Sizes.l0 k a1 (([] : List Int)) 0 l0_0) = some r := h
 clear h
 obtain ⟨y122, hy122⟩ : ∃ y_ : List Int, y_ = (([] : List Int)) := ⟨_, rfl⟩
 replace H : (spec_l03Sizes.l0 k a1 y122 0 l0_0) = some r := by first | (rw [hy122]; with_reducible exact H) | (have H2_ := (Option.bind_some _ _).symm.trans H; rw [hy122]; with_reducible exact H2_) | (have H2_ := (Option.bind_some _ _).symm.trans H; with_reducible exact H2_) | with_reducible exact H | (rw [hy122]; exact H) | exact H
 have Ny122 := Aside0.mk hy122
 clear hy122
 have H' := Aside0.mk H
 clear H
 go_enter Try.func86, Try.ntmps86
 go_wp2_with (first | ((with_reducible refine gate_dst (N := 2) rfl ?_); (try (refine gate_guard (by rfl) ?_; dsimp only)); refine box_event ?hg (N := 2) ?hd (cs := #[.slice A0_0 l0_0.length c0_0]) (t := 26) ?hr ?_; (case hd => rfl); (case hg => rfl); (case hr => first | (go_simp; done) | (go_simp; rfl)); intro gb121 hg w3 hbox hb; have n0_ := Aside0.mk (below_step (bw HB.out) hb); have n1_ := Aside0.mk (hbox); have n2_ := Aside0.mk ((by rw [hg]; exact (below_size (bw HB.out)) : w.heap.size ≤ gb121)); have n3_ := Aside0.mk ((by rw [hg]; exact (below_size (bw HB.out)) : w.heap.size ≤ gb121)); clear HB; have HB := n0_; have BK121 := n1_; have GW121 := n2_; have GE121 := n3_; clear n0_ n1_ n2_ n3_ hb hbox hg) | ((with_reducible refine gate_dst (N := 9) rfl ?_); (try (refine gate_guard (by rfl) ?_; dsimp only)); refine Kd.R_lit (Kd.int .i64) _ 3 ?hg (N := 9) ?hd (xs := ([] : List Int)) (inner := []) (ok := fun _ => True) (okp := fun _ => True) ?hr ?hp (fun _ hk => hk) trivial (Below.refl _ _) (Nat.le_refl _) (by simp) ?_; (case hd => rfl); (case hg => rfl); (case hr => first | (go_simp; done) | (go_simp; rfl)); (case hp => exact (Reps.none _ _)); intro v123 w4 ho5 hb hg_ hnew_; clear hg_ hnew_; (first | rw [← Ny122.out] at ho5 | (simp only [Int.reduceToNat] at ho5; rw [← Ny122.out] at ho5)); have n0_ := Aside0.mk (Kd.R_lower ho5 (below_size (bw HB.out))); have n1_ := Aside0.mk (blk_below (g := gb121) (o := .cells #[.slice A0_0 l0_0.length c0_0] 26 (0, 0)) (bl BK121.out) hb); have n2_ := Aside0.mk (below_step (bw HB.out) hb); clear BK121 HB; have HO124 := n0_; have BK121 := n1_; have HB := n2_; clear n0_ n1_ n2_ hb ho5))
 go_loopg [5, 6] k (fun kq v5 v6 w' => ∃ (x5_1 : List Int) (x6_1 : Int), v6 = .int .i64 x6_1 ∧ Aside0 (spec_l03Sizes.l0 kq a1 x5_1 x6_1 l0_0 = some r) ∧ Aside0 (kq ≤ k) ∧ Aside0 (Kd.R (Kd.int .i64) 3 w' w.heap.size (fun _ => True) v5 x5_1) ∧ Aside0 (w'.heap[gb121]? = some (.cells #[(.slice A0_0 l0_0.length c0_0)] 26 (0, 0))) ∧ Aside0 (Below w.heap.size w w'))
 case atStart => exact ⟨(y122), (0), (by first | rfl | (simp; done) | (simp [*]; done)), H', ⟨Nat.le_refl _⟩, ⟨rl HO124.out⟩, ⟨bl BK121.out⟩, ⟨bw HB.out⟩⟩
 case round =>
  clear H'
  try clear p2
  obtain ⟨x5_1, x6_1, rfl, HA, HK1, HO_5, BK121, HB⟩ := hrel
  cases gk with
  | zero => exact absurd HA.out (by simp [spec_l03Sizes.l0])
  | succ k1 =>
   have H := HA.out
   clear HA
   simp only [spec_l03Sizes.l0] at H
   have HC6 := Aside0.mk H
   clear H
   go_upto_region 3 with (fail)
   go_cut [19] (fun v19 wc => ∃ (kq : Nat) (x19_5 : Bool), v19 = .bool x19_5 ∧ Aside0 (spec_l03Sizes.j1 kq a1 x5_1 x6_1 x19_5 l0_0 = some r) ∧ Aside0 (kq ≤ k1) ∧ Aside0 (Kd.R (Kd.int .i64) 3 wc w.heap.size (fun _ => True) u5 x5_1) ∧ Aside0 (wc.heap[gb121]? = some (.cells #[(.slice A0_0 l0_0.length c0_0)] 26 (0, 0))) ∧ Aside0 (Below w.heap.size w wc))
   case first =>
    have H := HC6.out
    clear HC6
    by_cases c7 : x6_1 ≤ a1
    ·rw [if_pos c7] at H
     have c7b0 : decide (x6_1 ≤ a1) = true := decide_eq_true c7
     clear c7
     (first | rw [c7b0] | (simp only [i64_w, i32_w]; rw [c7b0]) | skip)
     have H' := Aside0.mk H
     clear H
     have hcz8_0 : wr.cell? ⟨gb121, 0, none⟩ = some (.slice A0_0 l0_0.length c0_0) := (blk_cell BK121.out 0).trans rfl
     have hfz8_0 := blk_frozen BK121.out 0
     go_wp2
     go_meet
     case rel => exact ⟨_, (decide (x6_1 < (l0_0.length : Int))), (by first | rfl | (simp; done) | (simp [*]; done)), H', ⟨by have := HK1.out; first | omega | exact Nat.le_refl _⟩, ⟨rl HO_5.out⟩, ⟨bl BK121.out⟩, ⟨bw HB.out⟩⟩
    ·rw [if_neg c7] at H
     have c7b0 : decide (x6_1 ≤ a1) = false := decide_eq_false c7
     clear c7
     (first | rw [c7b0] | (simp only [i64_w, i32_w]; rw [c7b0]) | skip)
     have H' := Aside0.mk H
     clear H
     go_wp2
     go_meet
     case rel => exact ⟨_, (false), (by first | rfl | (simp; done) | (simp [*]; done)), H', ⟨by have := HK1.out; first | omega | exact Nat.le_refl _⟩, ⟨rl HO_5.out⟩, ⟨bl BK121.out⟩, ⟨bw HB.out⟩⟩
   case rest =>
    clear HC6
    try clear p2
    try clear c7
    try clear c7b0
    try clear c8
    try clear hcz8_0
    try clear hfz8_0
    try clear p2
    obtain ⟨kq, x19_5, rfl, HA, HJ5, HO_5, BK121, HB⟩ := hcut
    cases kq with
    | zero => exact absurd HA.out (by simp [spec_l03Sizes.j1])
    | succ kj5 =>
     have H := HA.out
     clear HA
     simp only [spec_l03Sizes.j1] at H
     by_cases c9 : x19_5 = true
     ·subst c9
      have H1 : (if 0 ≤ x6_1 then (if x6_1 < (l0_0.length : Int) then ((spec_l03Node.f kj5 ((rd_T34 l0_0 x6_1).f0) ((rd_T34 l0_0 x6_1).f1) ((rd_T34 l0_0 x6_1).f2) ((rd_T34 l0_0 x6_1).f3) x6_1).bind fun t127 => (if t127 = true then (if x6_1 > 0 then (if 0 ≤ (wrap64 (x6_1 - 1)) then (if (wrap64 (x6_1 - 1)) < (x5_1.length : Int) then (spec_l03Sizes.j2 kj5 a1 x5_1 x6_1 ((rd x5_1 (wrap64 (x6_1 - 1))) == 0) l0_0 ((rd_T34 l0_0 x6_1).f0) ((rd_T34 l0_0 x6_1).f1) ((rd_T34 l0_0 x6_1).f2) ((rd_T34 l0_0 x6_1).f3)) else (none)) else (none)) else (spec_l03Sizes.j2 kj5 a1 x5_1 x6_1 false l0_0 ((rd_T34 l0_0 x6_1).f0) ((rd_T34 l0_0 x6_1).f1) ((rd_T34 l0_0 x6_1).f2) ((rd_T34 l0_0 x6_1).f3))) else (spec_l03Sizes.j2 kj5 a1 x5_1 x6_1 true l0_0 ((rd_T34 l0_0 x6_1).f0) ((rd_T34 l0_0 x6_1).f1) ((rd_T34 l0_0 x6_1).f2) ((rd_T34 l0_0 x6_1).f3)))) else (none)) else (none)) = some r := by rw [if_pos rfl] at H; exact H
      clear H
      have H := H1
      clear H1
      by_cases c10 : 0 ≤ x6_1
      ·rw [if_pos c10] at H
       have c10b0 : decide (0 ≤ x6_1) = true := decide_eq_true c10
       clear c10
       by_cases c11 : x6_1 < (l0_0.length : Int)
       ·rw [if_pos c11] at H
        have c11b0 : decide (x6_1 < (l0_0.length : Int)) = true := decide_eq_true c11
        clear c11
        have HC12 := Aside0.mk H
        clear H
        have hcz13_0 : wc.cell? ⟨gb121, 0, none⟩ = some (.slice A0_0 l0_0.length c0_0) := (blk_cell BK121.out 0).trans rfl
        have hfz13_0 := blk_frozen BK121.out 0
        have p125 : 0 ≤ (x6_1 : Int) := oda
        have q125 : x6_1 < (l0_0.length : Int) := oda
        obtain ⟨ad125, e125, hx125_0, hx125_1, hx125_2, hx125_3⟩ := at_T34 HR0_0.out x6_1 p125 q125
        cases e125
        replace hx125_0 := (HB.out.cell (World.block_lt_of_cell? w _ hx125_0)).trans hx125_0
        replace hx125_1 := (HB.out.cell (World.block_lt_of_cell? w _ hx125_1)).trans hx125_1
        replace hx125_2 := (HB.out.cell (World.block_lt_of_cell? w _ hx125_2)).trans hx125_2
        replace hx125_3 := (HB.out.cell (World.block_lt_of_cell? w _ hx125_3)).trans hx125_3
        replace p125 := eq_true p125
        replace q125 := eq_true q125
        go_upto_region 6 with (first | ((with_reducible refine gate_dst (N := 7) rfl ?_); (try (refine gate_guard (by rfl) ?_; dsimp only)); refine box_event ?hg (N := 7) ?hd (cs := #[.int .i64 0, .int .i64 0, .int .i64 0, .int .i64 0]) (t := 34) ?hr ?_; (case hd => rfl); (case hg => rfl); (case hr => first | (go_simp; done) | (go_simp; rfl)); intro gb126 hg w14 hbox hb; have n0_ := Aside0.mk (Kd.R_below (rl HO_5.out) hb); have n1_ := Aside0.mk (blk_below (g := gb121) (o := .cells #[.slice (some ad125) l0_0.length c0_0] 26 (0, 0)) (bl BK121.out) hb); have n2_ := Aside0.mk (below_step (bw HB.out) hb); have n3_ := Aside0.mk (hbox); have n4_ := Aside0.mk ((by rw [hg]; exact (below_size (bw HB.out)) : w.heap.size ≤ gb126)); have n5_ := Aside0.mk ((by rw [hg]; exact (below_size (bw HB.out)) : w.heap.size ≤ gb126)); have n6_ := Aside0.mk ((by rw [hg]; exact Nat.ne_of_lt (blk_lt (g := gb121) (o := .cells #[.slice (some ad125) l0_0.length c0_0] 26 (0, 0)) (bl BK121.out)) : gb121 ≠ gb126)); have n7_ := Aside0.mk ((by rw [hg]; exact Nat.ne_of_gt (blk_lt (g := gb121) (o := .cells #[.slice (some ad125) l0_0.length c0_0] 26 (0, 0)) (bl BK121.out)) : gb126 ≠ gb121)); clear HO_5 BK121 HB; have HO_5 := n0_; have BK121 := n1_; have HB := n2_; have BK126 := n3_; have GW126 := n4_; have GE126 := n5_; have NB121_126 := n6_; have NB126_121 := n7_; clear n0_ n1_ n2_ n3_ n4_ n5_ n6_ n7_ hb hbox hg; have hnb15 := NB126_121.out; have hnc15 := NB121_126.out; have hcz16_0 : w14.cell? ⟨gb126, 0, none⟩ = some (.int .i64 0) := (blk_cell BK126.out 0).trans rfl; have hcz16_1 : w14.cell? ⟨gb126, 1, none⟩ = some (.int .i64 0) := (blk_cell BK126.out 1).trans rfl; have hcz16_2 : w14.cell? ⟨gb126, 2, none⟩ = some (.int .i64 0) := (blk_cell BK126.out 2).trans rfl; have hcz16_3 : w14.cell? ⟨gb126, 3, none⟩ = some (.int .i64 0) := (blk_cell BK126.out 3).trans rfl; have hfz16_0 := blk_frozen BK126.out 0; have hfz16_1 := blk_frozen BK126.out 1; have hfz16_2 := blk_frozen BK126.out 2; have hfz16_3 := blk_frozen BK126.out 3))
        (try simp only [Act.put, List.setIfInBounds_toArray, List.set_cons_zero, List.set_cons_succ])
        go_cut [42] (fun v42 wc => ∃ (kq : Nat) (x42_11 : Bool), v42 = .bool x42_11 ∧ Aside0 (spec_l03Sizes.j2 kq a1 x5_1 x6_1 x42_11 l0_0 ((rd_T34 l0_0 x6_1).f0) ((rd_T34 l0_0 x6_1).f1) ((rd_T34 l0_0 x6_1).f2) ((rd_T34 l0_0 x6_1).f3) = some r) ∧ Aside0 (kq ≤ kj5) ∧ Aside0 (Kd.R (Kd.int .i64) 3 wc w.heap.size (fun _ => True) u5 x5_1) ∧ Aside0 (wc.heap[gb121]? = some (.cells #[(.slice (some ad125) l0_0.length c0_0)] 26 (0, 0))) ∧ Aside0 (wc.heap[gb126]? = some (.cells #[.int .i64 ((rd_T34 l0_0 x6_1).f0), .int .i64 ((rd_T34 l0_0 x6_1).f1), .int .i64 ((rd_T34 l0_0 x6_1).f2), .int .i64 ((rd_T34 l0_0 x6_1).f3)] 34 (0, 0))) ∧ Aside0 (Below w.heap.size w wc))
        case first =>
         have H := HC12.out
         clear HC12
         replace H := Option.bind_eq_some_iff.mp H
         obtain ⟨t127, A170, H⟩ := H
         replace H : (if t127 = true then (if x6_1 > 0 then (if 0 ≤ (wrap64 (x6_1 - 1)) then (if (wrap64 (x6_1 - 1)) < (x5_1.length : Int) then (spec_l03Sizes.j2 kj5 a1 x5_1 x6_1 ((rd x5_1 (wrap64 (x6_1 - 1))) == 0) l0_0 ((rd_T34 l0_0 x6_1).f0) ((rd_T34 l0_0 x6_1).f1) ((rd_T34 l0_0 x6_1).f2) ((rd_T34 l0_0 x6_1).f3)) else (none)) else (none)) else (spec_l03Sizes.j2 kj5 a1 x5_1 x6_1 false l0_0 ((rd_T34 l0_0 x6_1).f0) ((rd_T34 l0_0 x6_1).f1) ((rd_T34 l0_0 x6_1).f2) ((rd_T34 l0_0 x6_1).f3))) else (spec_l03Sizes.j2 kj5 a1 x5_1 x6_1 true l0_0 ((rd_T34 l0_0 x6_1).f0) ((rd_T34 l0_0 x6_1).f1) ((rd_T34 l0_0 x6_1).f2) ((rd_T34 l0_0 x6_1).f3))) = some r := H
         have A17 := Aside0.mk A170
         clear A170
         by_cases c18 : t127 = true
         ·subst c18
          have H1 : (if x6_1 > 0 then (if 0 ≤ (wrap64 (x6_1 - 1)) then (if (wrap64 (x6_1 - 1)) < (x5_1.length : Int) then (spec_l03Sizes.j2 kj5 a1 x5_1 x6_1 ((rd x5_1 (wrap64 (x6_1 - 1))) == 0) l0_0 ((rd_T34 l0_0 x6_1).f0) ((rd_T34 l0_0 x6_1).f1) ((rd_T34 l0_0 x6_1).f2) ((rd_T34 l0_0 x6_1).f3)) else (none)) else (none)) else (spec_l03Sizes.j2 kj5 a1 x5_1 x6_1 false l0_0 ((rd_T34 l0_0 x6_1).f0) ((rd_T34 l0_0 x6_1).f1) ((rd_T34 l0_0 x6_1).f2) ((rd_T34 l0_0 x6_1).f3))) = some r := by rw [if_pos rfl] at H; exact H
          clear H
          have H := H1
          clear H1
          by_cases c19 : x6_1 > 0
          ·rw [if_pos c19] at H
           have c19b0 : decide (0 < x6_1) = true := decide_eq_true c19
           clear c19
           (first | rw [c19b0] | (simp only [i64_w, i32_w]; rw [c19b0]) | skip)
           obtain ⟨ji20, hji20⟩ : ∃ j_ : Int, (wrap64 (x6_1 - 1)) = j_ := ⟨_, rfl⟩
           replace H : (if 0 ≤ (ji20) then (if (ji20) < (x5_1.length : Int) then (spec_l03Sizes.j2 kj5 a1 x5_1 x6_1 ((rd x5_1 (ji20)) == 0) l0_0 ((rd_T34 l0_0 x6_1).f0) ((rd_T34 l0_0 x6_1).f1) ((rd_T34 l0_0 x6_1).f2) ((rd_T34 l0_0 x6_1).f3)) else (none)) else (none)) = some r := by first | (rw [hji20] at H; exact H) | (simp only [hji20] at H ⊢; exact H)
           (try rw [hji20] at A17)
           have hji20w : (IntKind.i64.wrap (x6_1 - 1)) = ji20 := (i64_w _).trans hji20
           by_cases c21 : 0 ≤ (ji20)
           ·rw [if_pos c21] at H
            have c21b0 : decide (0 ≤ (ji20)) = true := decide_eq_true c21
            clear c21
            by_cases c22 : (ji20) < (x5_1.length : Int)
            ·rw [if_pos c22] at H
             have c22b0 : decide ((ji20) < (x5_1.length : Int)) = true := decide_eq_true c22
             clear c22
             have H' := Aside0.mk H
             clear H
             have hnb23 := NB126_121.out
             have hnc23 := NB121_126.out
             have hcz24_0 : w14.cell? ⟨gb126, 0, none⟩ = some (.int .i64 0) := (blk_cell BK126.out 0).trans rfl
             have hcz24_1 : w14.cell? ⟨gb126, 1, none⟩ = some (.int .i64 0) := (blk_cell BK126.out 1).trans rfl
             have hcz24_2 : w14.cell? ⟨gb126, 2, none⟩ = some (.int .i64 0) := (blk_cell BK126.out 2).trans rfl
             have hcz24_3 : w14.cell? ⟨gb126, 3, none⟩ = some (.int .i64 0) := (blk_cell BK126.out 3).trans rfl
             have hfz24_0 := blk_frozen BK126.out 0
             have hfz24_1 := blk_frozen BK126.out 1
             have hfz24_2 := blk_frozen BK126.out 2
             have hfz24_3 := blk_frozen BK126.out 3
             go_wp2_with (first | ((with_reducible refine gate_callee (f := 81) rfl ?_); refine goesL_ (some 29) rfl rfl Try.func81 (by kernel_rfl) rfl #[.agg #[.int .i64 ((rd_T34 l0_0 x6_1).f0), .int .i64 ((rd_T34 l0_0 x6_1).f1), .int .i64 ((rd_T34 l0_0 x6_1).f2), .int .i64 ((rd_T34 l0_0 x6_1).f3)], .int .i64 x6_1] rfl ar ?_; (with_reducible refine (spec_l03Node.calls kj5 ((rd_T34 l0_0 x6_1).f0) ((rd_T34 l0_0 x6_1).f1) ((rd_T34 l0_0 x6_1).f2) ((rd_T34 l0_0 x6_1).f3) x6_1 true _ A17.out).mono ?_); rintro e w25 ⟨rfl, hb⟩; refine ⟨_, rfl, ?_⟩; have n0_ := Aside0.mk (Kd.R_below (by (with_reducible repeat (first | apply Kd.R_alloc | apply Kd.R_drewN | apply Kd.R_drew)); exact (Kd.R_mono (Kd.R_far (p := ⟨gb126, 3, none⟩) (Kd.R_far (p := ⟨gb126, 2, none⟩) (Kd.R_far (p := ⟨gb126, 1, none⟩) (Kd.R_far (p := ⟨gb126, 0, none⟩) (Kd.R_types HO_5.out BK126.out (by decide)) (fun _ hk => hk.2) (.int .i64 ((rd_T34 l0_0 x6_1).f0))) (fun _ hk => hk.2) (.int .i64 ((rd_T34 l0_0 x6_1).f1))) (fun _ hk => hk.2) (.int .i64 ((rd_T34 l0_0 x6_1).f2))) (fun _ hk => hk.2) (.int .i64 ((rd_T34 l0_0 x6_1).f3))) (fun _ h_ => h_.1))) hb); have n1_ := Aside0.mk (blk_below (g := gb121) (o := .cells #[.slice (some ad125) l0_0.length c0_0] 26 (0, 0)) (by (with_reducible repeat (first | refine blk_drewN ?_ _ | refine blk_drew ?_ | refine blk_alloc ?_ _)); refine blk_far ?_ NB121_126.out _; (with_reducible repeat (first | refine blk_drewN ?_ _ | refine blk_drew ?_ | refine blk_alloc ?_ _)); refine blk_far ?_ NB121_126.out _; (with_reducible repeat (first | refine blk_drewN ?_ _ | refine blk_drew ?_ | refine blk_alloc ?_ _)); refine blk_far ?_ NB121_126.out _; (with_reducible repeat (first | refine blk_drewN ?_ _ | refine blk_drew ?_ | refine blk_alloc ?_ _)); refine blk_far ?_ NB121_126.out _; (with_reducible repeat (first | refine blk_drewN ?_ _ | refine blk_drew ?_ | refine blk_alloc ?_ _)); exact BK121.out) hb); have n2_ := Aside0.mk (blk_below (g := gb126) (o := .cells #[.int .i64 ((rd_T34 l0_0 x6_1).f0), .int .i64 ((rd_T34 l0_0 x6_1).f1), .int .i64 ((rd_T34 l0_0 x6_1).f2), .int .i64 ((rd_T34 l0_0 x6_1).f3)] 34 (0, 0)) (by (with_reducible repeat (first | refine blk_drewN ?_ _ | refine blk_drew ?_ | refine blk_alloc ?_ _)); refine blk_put (cs := #[.int .i64 ((rd_T34 l0_0 x6_1).f0), .int .i64 ((rd_T34 l0_0 x6_1).f1), .int .i64 ((rd_T34 l0_0 x6_1).f2), .int .i64 0]) ?_ 3 _ rfl; (with_reducible repeat (first | refine blk_drewN ?_ _ | refine blk_drew ?_ | refine blk_alloc ?_ _)); refine blk_put (cs := #[.int .i64 ((rd_T34 l0_0 x6_1).f0), .int .i64 ((rd_T34 l0_0 x6_1).f1), .int .i64 0, .int .i64 0]) ?_ 2 _ rfl; (with_reducible repeat (first | refine blk_drewN ?_ _ | refine blk_drew ?_ | refine blk_alloc ?_ _)); refine blk_put (cs := #[.int .i64 ((rd_T34 l0_0 x6_1).f0), .int .i64 0, .int .i64 0, .int .i64 0]) ?_ 1 _ rfl; (with_reducible repeat (first | refine blk_drewN ?_ _ | refine blk_drew ?_ | refine blk_alloc ?_ _)); refine blk_put (cs := #[.int .i64 0, .int .i64 0, .int .i64 0, .int .i64 0]) ?_ 0 _ rfl; (with_reducible repeat (first | refine blk_drewN ?_ _ | refine blk_drew ?_ | refine blk_alloc ?_ _)); exact BK126.out) hb); have n3_ := Aside0.mk (below_step (bw HB.out) hb); clear HO_5 BK121 BK126 HB; have HO_5 := n0_; have BK121 := n1_; have BK126 := n2_; have HB := n3_; clear n0_ n1_ n2_ n3_; (try clear hb); (try clear hb2); (try clear hk); (try clear hi); obtain ⟨Ao26, co26, eo26⟩ := Kd.R_slice HO_5.out; subst eo26; have p128 : 0 ≤ ((ji20) : Int) := oda; have q128 : (ji20) < (x5_1.length : Int) := oda; obtain ⟨ad128, e128, hx128_0⟩ := Kd.at_int (Kd.R_reads' HO_5.out).2.2 (ji20) p128 q128; cases e128; replace p128 := eq_true p128; replace q128 := eq_true q128))
             go_meet
             case rel => exact ⟨_, (((rd x5_1 (ji20)) == 0)), (by first | rfl | (simp; done) | (simp only [← hji20] <;> (first | rfl | simp)) | (simp [*]; done)), H', ⟨by have := HK1.out; have := HJ5.out; first | omega | exact Nat.le_refl _⟩, ⟨rl HO_5.out⟩, ⟨bl BK121.out⟩, ⟨bl BK126.out⟩, ⟨bw HB.out⟩⟩
            ·rw [if_neg c22] at H
             exact absurd H (by simp)
           ·rw [if_neg c21] at H
            exact absurd H (by simp)
          ·rw [if_neg c19] at H
           have c19b0 : decide (0 < x6_1) = false := decide_eq_false c19
           clear c19
           (first | rw [c19b0] | (simp only [i64_w, i32_w]; rw [c19b0]) | skip)
           have H' := Aside0.mk H
           clear H
           have hnb27 := NB126_121.out
           have hnc27 := NB121_126.out
           have hcz28_0 : w14.cell? ⟨gb126, 0, none⟩ = some (.int .i64 0) := (blk_cell BK126.out 0).trans rfl
           have hcz28_1 : w14.cell? ⟨gb126, 1, none⟩ = some (.int .i64 0) := (blk_cell BK126.out 1).trans rfl
           have hcz28_2 : w14.cell? ⟨gb126, 2, none⟩ = some (.int .i64 0) := (blk_cell BK126.out 2).trans rfl
           have hcz28_3 : w14.cell? ⟨gb126, 3, none⟩ = some (.int .i64 0) := (blk_cell BK126.out 3).trans rfl
           have hfz28_0 := blk_frozen BK126.out 0
           have hfz28_1 := blk_frozen BK126.out 1
           have hfz28_2 := blk_frozen BK126.out 2
           have hfz28_3 := blk_frozen BK126.out 3
           go_wp2_with (first | ((with_reducible refine gate_callee (f := 81) rfl ?_); refine goesL_ (some 29) rfl rfl Try.func81 (by kernel_rfl) rfl #[.agg #[.int .i64 ((rd_T34 l0_0 x6_1).f0), .int .i64 ((rd_T34 l0_0 x6_1).f1), .int .i64 ((rd_T34 l0_0 x6_1).f2), .int .i64 ((rd_T34 l0_0 x6_1).f3)], .int .i64 x6_1] rfl ar ?_; (with_reducible refine (spec_l03Node.calls kj5 ((rd_T34 l0_0 x6_1).f0) ((rd_T34 l0_0 x6_1).f1) ((rd_T34 l0_0 x6_1).f2) ((rd_T34 l0_0 x6_1).f3) x6_1 true _ A17.out).mono ?_); rintro e w29 ⟨rfl, hb⟩; refine ⟨_, rfl, ?_⟩; have n0_ := Aside0.mk (Kd.R_below (by (with_reducible repeat (first | apply Kd.R_alloc | apply Kd.R_drewN | apply Kd.R_drew)); exact (Kd.R_mono (Kd.R_far (p := ⟨gb126, 3, none⟩) (Kd.R_far (p := ⟨gb126, 2, none⟩) (Kd.R_far (p := ⟨gb126, 1, none⟩) (Kd.R_far (p := ⟨gb126, 0, none⟩) (Kd.R_types HO_5.out BK126.out (by decide)) (fun _ hk => hk.2) (.int .i64 ((rd_T34 l0_0 x6_1).f0))) (fun _ hk => hk.2) (.int .i64 ((rd_T34 l0_0 x6_1).f1))) (fun _ hk => hk.2) (.int .i64 ((rd_T34 l0_0 x6_1).f2))) (fun _ hk => hk.2) (.int .i64 ((rd_T34 l0_0 x6_1).f3))) (fun _ h_ => h_.1))) hb); have n1_ := Aside0.mk (blk_below (g := gb121) (o := .cells #[.slice (some ad125) l0_0.length c0_0] 26 (0, 0)) (by (with_reducible repeat (first | refine blk_drewN ?_ _ | refine blk_drew ?_ | refine blk_alloc ?_ _)); refine blk_far ?_ NB121_126.out _; (with_reducible repeat (first | refine blk_drewN ?_ _ | refine blk_drew ?_ | refine blk_alloc ?_ _)); refine blk_far ?_ NB121_126.out _; (with_reducible repeat (first | refine blk_drewN ?_ _ | refine blk_drew ?_ | refine blk_alloc ?_ _)); refine blk_far ?_ NB121_126.out _; (with_reducible repeat (first | refine blk_drewN ?_ _ | refine blk_drew ?_ | refine blk_alloc ?_ _)); refine blk_far ?_ NB121_126.out _; (with_reducible repeat (first | refine blk_drewN ?_ _ | refine blk_drew ?_ | refine blk_alloc ?_ _)); exact BK121.out) hb); have n2_ := Aside0.mk (blk_below (g := gb126) (o := .cells #[.int .i64 ((rd_T34 l0_0 x6_1).f0), .int .i64 ((rd_T34 l0_0 x6_1).f1), .int .i64 ((rd_T34 l0_0 x6_1).f2), .int .i64 ((rd_T34 l0_0 x6_1).f3)] 34 (0, 0)) (by (with_reducible repeat (first | refine blk_drewN ?_ _ | refine blk_drew ?_ | refine blk_alloc ?_ _)); refine blk_put (cs := #[.int .i64 ((rd_T34 l0_0 x6_1).f0), .int .i64 ((rd_T34 l0_0 x6_1).f1), .int .i64 ((rd_T34 l0_0 x6_1).f2), .int .i64 0]) ?_ 3 _ rfl; (with_reducible repeat (first | refine blk_drewN ?_ _ | refine blk_drew ?_ | refine blk_alloc ?_ _)); refine blk_put (cs := #[.int .i64 ((rd_T34 l0_0 x6_1).f0), .int .i64 ((rd_T34 l0_0 x6_1).f1), .int .i64 0, .int .i64 0]) ?_ 2 _ rfl; (with_reducible repeat (first | refine blk_drewN ?_ _ | refine blk_drew ?_ | refine blk_alloc ?_ _)); refine blk_put (cs := #[.int .i64 ((rd_T34 l0_0 x6_1).f0), .int .i64 0, .int .i64 0, .int .i64 0]) ?_ 1 _ rfl; (with_reducible repeat (first | refine blk_drewN ?_ _ | refine blk_drew ?_ | refine blk_alloc ?_ _)); refine blk_put (cs := #[.int .i64 0, .int .i64 0, .int .i64 0, .int .i64 0]) ?_ 0 _ rfl; (with_reducible repeat (first | refine blk_drewN ?_ _ | refine blk_drew ?_ | refine blk_alloc ?_ _)); exact BK126.out) hb); have n3_ := Aside0.mk (below_step (bw HB.out) hb); clear HO_5 BK121 BK126 HB; have HO_5 := n0_; have BK121 := n1_; have BK126 := n2_; have HB := n3_; clear n0_ n1_ n2_ n3_; (try clear hb); (try clear hb2); (try clear hk); (try clear hi)))
           go_meet
           case rel => exact ⟨_, (false), (by first | rfl | (simp; done) | (simp [*]; done)), H', ⟨by have := HK1.out; have := HJ5.out; first | omega | exact Nat.le_refl _⟩, ⟨rl HO_5.out⟩, ⟨bl BK121.out⟩, ⟨bl BK126.out⟩, ⟨bw HB.out⟩⟩
         ·replace c18 := Bool.eq_false_iff.mpr c18
          subst c18
          have H1 : (spec_l03Sizes.j2 kj5 a1 x5_1 x6_1 true l0_0 ((rd_T34 l0_0 x6_1).f0) ((rd_T34 l0_0 x6_1).f1) ((rd_T34 l0_0 x6_1).f2) ((rd_T34 l0_0 x6_1).f3)) = some r := by rw [if_neg (show ¬ (false = true) by decide)] at H; exact H
          clear H
          have H := H1
          clear H1
          have H' := Aside0.mk H
          clear H
          have hnb30 := NB126_121.out
          have hnc30 := NB121_126.out
          have hcz31_0 : w14.cell? ⟨gb126, 0, none⟩ = some (.int .i64 0) := (blk_cell BK126.out 0).trans rfl
          have hcz31_1 : w14.cell? ⟨gb126, 1, none⟩ = some (.int .i64 0) := (blk_cell BK126.out 1).trans rfl
          have hcz31_2 : w14.cell? ⟨gb126, 2, none⟩ = some (.int .i64 0) := (blk_cell BK126.out 2).trans rfl
          have hcz31_3 : w14.cell? ⟨gb126, 3, none⟩ = some (.int .i64 0) := (blk_cell BK126.out 3).trans rfl
          have hfz31_0 := blk_frozen BK126.out 0
          have hfz31_1 := blk_frozen BK126.out 1
          have hfz31_2 := blk_frozen BK126.out 2
          have hfz31_3 := blk_frozen BK126.out 3
          go_wp2_with (first | ((with_reducible refine gate_callee (f := 81) rfl ?_); refine goesL_ (some 29) rfl rfl Try.func81 (by kernel_rfl) rfl #[.agg #[.int .i64 ((rd_T34 l0_0 x6_1).f0), .int .i64 ((rd_T34 l0_0 x6_1).f1), .int .i64 ((rd_T34 l0_0 x6_1).f2), .int .i64 ((rd_T34 l0_0 x6_1).f3)], .int .i64 x6_1] rfl ar ?_; (with_reducible refine (spec_l03Node.calls kj5 ((rd_T34 l0_0 x6_1).f0) ((rd_T34 l0_0 x6_1).f1) ((rd_T34 l0_0 x6_1).f2) ((rd_T34 l0_0 x6_1).f3) x6_1 false _ A17.out).mono ?_); rintro e w32 ⟨rfl, hb⟩; refine ⟨_, rfl, ?_⟩; have n0_ := Aside0.mk (Kd.R_below (by (with_reducible repeat (first | apply Kd.R_alloc | apply Kd.R_drewN | apply Kd.R_drew)); exact (Kd.R_mono (Kd.R_far (p := ⟨gb126, 3, none⟩) (Kd.R_far (p := ⟨gb126, 2, none⟩) (Kd.R_far (p := ⟨gb126, 1, none⟩) (Kd.R_far (p := ⟨gb126, 0, none⟩) (Kd.R_types HO_5.out BK126.out (by decide)) (fun _ hk => hk.2) (.int .i64 ((rd_T34 l0_0 x6_1).f0))) (fun _ hk => hk.2) (.int .i64 ((rd_T34 l0_0 x6_1).f1))) (fun _ hk => hk.2) (.int .i64 ((rd_T34 l0_0 x6_1).f2))) (fun _ hk => hk.2) (.int .i64 ((rd_T34 l0_0 x6_1).f3))) (fun _ h_ => h_.1))) hb); have n1_ := Aside0.mk (blk_below (g := gb121) (o := .cells #[.slice (some ad125) l0_0.length c0_0] 26 (0, 0)) (by (with_reducible repeat (first | refine blk_drewN ?_ _ | refine blk_drew ?_ | refine blk_alloc ?_ _)); refine blk_far ?_ NB121_126.out _; (with_reducible repeat (first | refine blk_drewN ?_ _ | refine blk_drew ?_ | refine blk_alloc ?_ _)); refine blk_far ?_ NB121_126.out _; (with_reducible repeat (first | refine blk_drewN ?_ _ | refine blk_drew ?_ | refine blk_alloc ?_ _)); refine blk_far ?_ NB121_126.out _; (with_reducible repeat (first | refine blk_drewN ?_ _ | refine blk_drew ?_ | refine blk_alloc ?_ _)); refine blk_far ?_ NB121_126.out _; (with_reducible repeat (first | refine blk_drewN ?_ _ | refine blk_drew ?_ | refine blk_alloc ?_ _)); exact BK121.out) hb); have n2_ := Aside0.mk (blk_below (g := gb126) (o := .cells #[.int .i64 ((rd_T34 l0_0 x6_1).f0), .int .i64 ((rd_T34 l0_0 x6_1).f1), .int .i64 ((rd_T34 l0_0 x6_1).f2), .int .i64 ((rd_T34 l0_0 x6_1).f3)] 34 (0, 0)) (by (with_reducible repeat (first | refine blk_drewN ?_ _ | refine blk_drew ?_ | refine blk_alloc ?_ _)); refine blk_put (cs := #[.int .i64 ((rd_T34 l0_0 x6_1).f0), .int .i64 ((rd_T34 l0_0 x6_1).f1), .int .i64 ((rd_T34 l0_0 x6_1).f2), .int .i64 0]) ?_ 3 _ rfl; (with_reducible repeat (first | refine blk_drewN ?_ _ | refine blk_drew ?_ | refine blk_alloc ?_ _)); refine blk_put (cs := #[.int .i64 ((rd_T34 l0_0 x6_1).f0), .int .i64 ((rd_T34 l0_0 x6_1).f1), .int .i64 0, .int .i64 0]) ?_ 2 _ rfl; (with_reducible repeat (first | refine blk_drewN ?_ _ | refine blk_drew ?_ | refine blk_alloc ?_ _)); refine blk_put (cs := #[.int .i64 ((rd_T34 l0_0 x6_1).f0), .int .i64 0, .int .i64 0, .int .i64 0]) ?_ 1 _ rfl; (with_reducible repeat (first | refine blk_drewN ?_ _ | refine blk_drew ?_ | refine blk_alloc ?_ _)); refine blk_put (cs := #[.int .i64 0, .int .i64 0, .int .i64 0, .int .i64 0]) ?_ 0 _ rfl; (with_reducible repeat (first | refine blk_drewN ?_ _ | refine blk_drew ?_ | refine blk_alloc ?_ _)); exact BK126.out) hb); have n3_ := Aside0.mk (below_step (bw HB.out) hb); clear HO_5 BK121 BK126 HB; have HO_5 := n0_; have BK121 := n1_; have BK126 := n2_; have HB := n3_; clear n0_ n1_ n2_ n3_; (try clear hb); (try clear hb2); (try clear hk); (try clear hi)))
          go_meet
          case rel => exact ⟨_, (true), (by first | rfl | (simp; done) | (simp [*]; done)), H', ⟨by have := HK1.out; have := HJ5.out; first | omega | exact Nat.le_refl _⟩, ⟨rl HO_5.out⟩, ⟨bl BK121.out⟩, ⟨bl BK126.out⟩, ⟨bw HB.out⟩⟩
        case rest =>
         clear HC12
         try clear c1
         try clear p1
         try clear q1
         try clear hx1
         try clear c2
         try clear p2
         try clear c3
         try clear p6
         try clear c7
         try clear c7b0
         try clear c8
         try clear c9
         try clear c10
         try clear c10b0
         try clear c11
         try clear c11b0
         try clear p12
         try clear q12
         try clear hx12
         try clear c15
         try clear c18
         try clear c19
         try clear c19b0
         try clear c21
         try clear c21b0
         try clear c22
         try clear c22b0
         try clear c23
         try clear c27
         try clear c30
         try clear hcz13_0
         try clear hcz16_0
         try clear hcz16_1
         try clear hcz16_2
         try clear hcz16_3
         try clear hcz24_0
         try clear hcz24_1
         try clear hcz24_2
         try clear hcz24_3
         try clear hcz28_0
         try clear hcz28_1
         try clear hcz28_2
         try clear hcz28_3
         try clear hcz31_0
         try clear hcz31_1
         try clear hcz31_2
         try clear hcz31_3
         try clear hcz8_0
         try clear hfz13_0
         try clear hfz16_0
         try clear hfz16_1
         try clear hfz16_2
         try clear hfz16_3
         try clear hfz24_0
         try clear hfz24_1
         try clear hfz24_2
         try clear hfz24_3
         try clear hfz28_0
         try clear hfz28_1
         try clear hfz28_2
         try clear hfz28_3
         try clear hfz31_0
         try clear hfz31_1
         try clear hfz31_2
         try clear hfz31_3
         try clear hfz8_0
         try clear hx125_0
         try clear hx125_1
         try clear hx125_2
         try clear hx125_3
         try clear hx128_0
         try clear p125
         try clear p128
         try clear p2
         try clear q125
         try clear q128
         obtain ⟨kq, x42_11, rfl, HA, HJ11, HO_5, BK121, BK126, HB⟩ := hcut
         cases kq with
         | zero => exact absurd HA.out (by simp [spec_l03Sizes.j2])
         | succ kj11 =>
          have H := HA.out
          clear HA
          simp only [spec_l03Sizes.j2] at H
          by_cases c33 : x42_11 = true
          ·subst c33
           have H1 : (if x5_1.length < 17592186044416 then (spec_l03Sizes.l0 kj11 a1 (x5_1 ++ [0]) (wrap64 (x6_1 + 1)) l0_0) else (none)) = some r := by rw [if_pos rfl] at H; exact H
           clear H
           have H := H1
           clear H1
           by_cases c34 : x5_1.length < 17592186044416
           ·rw [if_pos c34] at H
            have LMc34 := Aside0.mk c34
            clear c34
            obtain ⟨y129, hy129⟩ : ∃ y_ : List Int, y_ = (x5_1 ++ [0]) := ⟨_, rfl⟩
            replace H : (spec_l03Sizes.l0 kj11 a1 y129 (wrap64 (x6_1 + 1)) l0_0) = some r := by first | (rw [hy129]; with_reducible exact H) | (have H2_ := (Option.bind_some _ _).symm.trans H; rw [hy129]; with_reducible exact H2_) | (have H2_ := (Option.bind_some _ _).symm.trans H; with_reducible exact H2_) | with_reducible exact H | (rw [hy129]; exact H) | exact H
            have Ny129 := Aside0.mk hy129
            clear hy129
            have H' := Aside0.mk H
            clear H
            go_wp2_with (first | ((with_reducible refine gate_builtin (b := .append) (xs := #[.tmp 43, .tmp 44]) rfl ?_); (try (refine gate_guard (by rfl) ?_; dsimp only)); at_builtin; refine Kd.R_append (Kd.int .i64) (w0 := w) w.heap.size rfl (.tmp 43) (.tmp 44) 27 3 (.int .i64 0) 8 rfl Try.underlying27 info3 rfl (by decide) (by omega) u5 x5_1 0 [.int .i64 0] (fun _ => True) (fun _ => False) rfl rfl ?aP (fun _ hk => hk.elim) ?aF ?aO ?aB ?aS ?aL ?_; (case aP => exact rfl); (case aB => exact (bw HB.out)); (case aF => exact (fun _ _ => trivial)); (case aO => exact (rl HO_5.out)); (case aS => exact (below_size (bw HB.out))); (case aL => have := LMc34.out; omega); intro v130 w35 ho hb hg hat; rw [← Ny129.out] at ho; have n0_ := Aside0.mk (blk_grown (g := gb121) (o := .cells #[.slice (some ad125) l0_0.length c0_0] 26 (0, 0)) (bl BK121.out) hg (Kd.R_ne HO_5.out BK121.out (by decide))); have n1_ := Aside0.mk (blk_grown (g := gb126) (o := .cells #[.int .i64 ((rd_T34 l0_0 x6_1).f0), .int .i64 ((rd_T34 l0_0 x6_1).f1), .int .i64 ((rd_T34 l0_0 x6_1).f2), .int .i64 ((rd_T34 l0_0 x6_1).f3)] 34 (0, 0)) (bl BK126.out) hg (Kd.R_ne HO_5.out BK126.out (by decide))); have n2_ := Aside0.mk (hb); have n3_ := Aside0.mk (ho); clear BK121 BK126 HB HO_5; have BK121 := n0_; have BK126 := n1_; have HB := n2_; have HO131 := n3_; clear n0_ n1_ n2_ n3_ ho hb hg hat))
            go_roundg kj11
            case measure => have := HK1.out; have := HJ5.out; have := HJ11.out; omega
            case rel => exact ⟨(y129), (wrap64 (x6_1 + 1)), (by first | rfl | (simp; done) | (simp [*]; done)), H', ⟨by have := HK1.out; have := HJ5.out; have := HJ11.out; omega⟩, ⟨rl HO131.out⟩, ⟨bl BK121.out⟩, ⟨bw HB.out⟩⟩
           ·rw [if_neg c34] at H
            exact absurd H (by simp)
          ·replace c33 := Bool.eq_false_iff.mpr c33
           subst c33
           have H1 : (if ((rd_T34 l0_0 x6_1).f0) = 1 then (if 1 > 100000 then (if x5_1.length < 17592186044416 then (spec_l03Sizes.l0 kj11 a1 (x5_1 ++ [100000]) (wrap64 (x6_1 + 1)) l0_0) else (none)) else (if x5_1.length < 17592186044416 then (spec_l03Sizes.l0 kj11 a1 (x5_1 ++ [1]) (wrap64 (x6_1 + 1)) l0_0) else (none))) else (if 0 ≤ ((rd_T34 l0_0 x6_1).f2) then (if ((rd_T34 l0_0 x6_1).f2) < (x5_1.length : Int) then ((spec_l03One.f ((rd_T34 l0_0 x6_1).f0)).bind fun t139 => (if t139 = true then (if (wrap64 (1 + (rd x5_1 ((rd_T34 l0_0 x6_1).f2)))) > 100000 then (if x5_1.length < 17592186044416 then (spec_l03Sizes.l0 kj11 a1 (x5_1 ++ [100000]) (wrap64 (x6_1 + 1)) l0_0) else (none)) else (if x5_1.length < 17592186044416 then (spec_l03Sizes.l0 kj11 a1 (x5_1 ++ [wrap64 (1 + (rd x5_1 ((rd_T34 l0_0 x6_1).f2)))]) (wrap64 (x6_1 + 1)) l0_0) else (none))) else (if 0 ≤ ((rd_T34 l0_0 x6_1).f3) then (if ((rd_T34 l0_0 x6_1).f3) < (x5_1.length : Int) then (if (wrap64 ((wrap64 (1 + (rd x5_1 ((rd_T34 l0_0 x6_1).f2)))) + (rd x5_1 ((rd_T34 l0_0 x6_1).f3)))) > 100000 then (if x5_1.length < 17592186044416 then (spec_l03Sizes.l0 kj11 a1 (x5_1 ++ [100000]) (wrap64 (x6_1 + 1)) l0_0) else (none)) else (if x5_1.length < 17592186044416 then (spec_l03Sizes.l0 kj11 a1 (x5_1 ++ [wrap64 ((wrap64 (1 + (rd x5_1 ((rd_T34 l0_0 x6_1).f2)))) + (rd x5_1 ((rd_T34 l0_0 x6_1).f3)))]) (wrap64 (x6_1 + 1)) l0_0) else (none))) else (none)) else (none)))) else (none)) else (none))) = some r := by rw [if_neg (show ¬ (false = true) by decide)] at H; exact H
           clear H
           have H := H1
           clear H1
           by_cases c36 : ((rd_T34 l0_0 x6_1).f0) = 1
           ·rw [if_pos c36] at H
            have c36b0 : (((rd_T34 l0_0 x6_1).f0) == 1) = true := beq_iff_eq.mpr c36
            have c36b1 : (((rd_T34 l0_0 x6_1).f0) != 1) = false := bne_eq_false_iff_eq.mpr c36
            clear c36
            by_cases c37 : 1 > 100000
            ·exact absurd c37 (by omega)
            ·rw [if_neg c37] at H
             have c37b0 : decide (100000 < 1) = false := decide_eq_false c37
             clear c37
             by_cases c42 : x5_1.length < 17592186044416
             ·rw [if_pos c42] at H
              have LMc42 := Aside0.mk c42
              clear c42
              obtain ⟨y135, hy135⟩ : ∃ y_ : List Int, y_ = (x5_1 ++ [1]) := ⟨_, rfl⟩
              replace H : (spec_l03Sizes.l0 kj11 a1 y135 (wrap64 (x6_1 + 1)) l0_0) = some r := by first | (rw [hy135]; with_reducible exact H) | (have H2_ := (Option.bind_some _ _).symm.trans H; rw [hy135]; with_reducible exact H2_) | (have H2_ := (Option.bind_some _ _).symm.trans H; with_reducible exact H2_) | with_reducible exact H | (rw [hy135]; exact H) | exact H
              have Ny135 := Aside0.mk hy135
              clear hy135
              have H' := Aside0.mk H
              clear H
              have hnb43 := NB126_121.out
              have hnc43 := NB121_126.out
              have hcz44_0 : wc.cell? ⟨gb126, 0, none⟩ = some (.int .i64 ((rd_T34 l0_0 x6_1).f0)) := (blk_cell BK126.out 0).trans rfl
              have hcz44_1 : wc.cell? ⟨gb126, 1, none⟩ = some (.int .i64 ((rd_T34 l0_0 x6_1).f1)) := (blk_cell BK126.out 1).trans rfl
              have hcz44_2 : wc.cell? ⟨gb126, 2, none⟩ = some (.int .i64 ((rd_T34 l0_0 x6_1).f2)) := (blk_cell BK126.out 2).trans rfl
              have hcz44_3 : wc.cell? ⟨gb126, 3, none⟩ = some (.int .i64 ((rd_T34 l0_0 x6_1).f3)) := (blk_cell BK126.out 3).trans rfl
              have hfz44_0 := blk_frozen BK126.out 0
              have hfz44_1 := blk_frozen BK126.out 1
              have hfz44_2 := blk_frozen BK126.out 2
              have hfz44_3 := blk_frozen BK126.out 3
              go_wp2_with (first | ((with_reducible refine gate_builtin (b := .append) (xs := #[.tmp 69, .tmp 71]) rfl ?_); (try (refine gate_guard (by rfl) ?_; dsimp only)); at_builtin; refine Kd.R_append (Kd.int .i64) (w0 := w) w.heap.size rfl (.tmp 69) (.tmp 71) 27 3 (.int .i64 0) 8 rfl Try.underlying27 info3 rfl (by decide) (by omega) u5 x5_1 1 [.int .i64 1] (fun _ => True) (fun _ => False) rfl rfl ?aP (fun _ hk => hk.elim) ?aF ?aO ?aB ?aS ?aL ?_; (case aP => exact rfl); (case aB => exact (bw HB.out)); (case aF => exact (fun _ _ => trivial)); (case aO => exact (rl HO_5.out)); (case aS => exact (below_size (bw HB.out))); (case aL => have := LMc42.out; omega); intro v136 w45 ho hb hg hat; rw [← Ny135.out] at ho; have n0_ := Aside0.mk (blk_grown (g := gb121) (o := .cells #[.slice (some ad125) l0_0.length c0_0] 26 (0, 0)) (bl BK121.out) hg (Kd.R_ne HO_5.out BK121.out (by decide))); have n1_ := Aside0.mk (blk_grown (g := gb126) (o := .cells #[.int .i64 ((rd_T34 l0_0 x6_1).f0), .int .i64 ((rd_T34 l0_0 x6_1).f1), .int .i64 ((rd_T34 l0_0 x6_1).f2), .int .i64 ((rd_T34 l0_0 x6_1).f3)] 34 (0, 0)) (bl BK126.out) hg (Kd.R_ne HO_5.out BK126.out (by decide))); have n2_ := Aside0.mk (hb); have n3_ := Aside0.mk (ho); clear BK121 BK126 HB HO_5; have BK121 := n0_; have BK126 := n1_; have HB := n2_; have HO137 := n3_; clear n0_ n1_ n2_ n3_ ho hb hg hat))
              go_roundg kj11
              case measure => have := HK1.out; have := HJ5.out; have := HJ11.out; omega
              case rel => exact ⟨(y135), (wrap64 (x6_1 + 1)), (by first | rfl | (simp; done) | (simp [*]; done)), H', ⟨by have := HK1.out; have := HJ5.out; have := HJ11.out; omega⟩, ⟨rl HO137.out⟩, ⟨bl BK121.out⟩, ⟨bw HB.out⟩⟩
             ·rw [if_neg c42] at H
              exact absurd H (by simp)
           ·rw [if_neg c36] at H
            have c36b0 : (((rd_T34 l0_0 x6_1).f0) == 1) = false := beq_eq_false_iff_ne.mpr c36
            have c36b1 : (((rd_T34 l0_0 x6_1).f0) != 1) = true := bne_iff_ne.mpr c36
            by_cases c46 : 0 ≤ ((rd_T34 l0_0 x6_1).f2)
            ·rw [if_pos c46] at H
             have c46b0 : decide (0 ≤ ((rd_T34 l0_0 x6_1).f2)) = true := decide_eq_true c46
             clear c46
             by_cases c47 : ((rd_T34 l0_0 x6_1).f2) < (x5_1.length : Int)
             ·rw [if_pos c47] at H
              have c47b0 : decide (((rd_T34 l0_0 x6_1).f2) < (x5_1.length : Int)) = true := decide_eq_true c47
              clear c47
              replace H := Option.bind_eq_some_iff.mp H
              obtain ⟨t139, A480, H⟩ := H
              replace H : (if t139 = true then (if (wrap64 (1 + (rd x5_1 ((rd_T34 l0_0 x6_1).f2)))) > 100000 then (if x5_1.length < 17592186044416 then (spec_l03Sizes.l0 kj11 a1 (x5_1 ++ [100000]) (wrap64 (x6_1 + 1)) l0_0) else (none)) else (if x5_1.length < 17592186044416 then (spec_l03Sizes.l0 kj11 a1 (x5_1 ++ [wrap64 (1 + (rd x5_1 ((rd_T34 l0_0 x6_1).f2)))]) (wrap64 (x6_1 + 1)) l0_0) else (none))) else (if 0 ≤ ((rd_T34 l0_0 x6_1).f3) then (if ((rd_T34 l0_0 x6_1).f3) < (x5_1.length : Int) then (if (wrap64 ((wrap64 (1 + (rd x5_1 ((rd_T34 l0_0 x6_1).f2)))) + (rd x5_1 ((rd_T34 l0_0 x6_1).f3)))) > 100000 then (if x5_1.length < 17592186044416 then (spec_l03Sizes.l0 kj11 a1 (x5_1 ++ [100000]) (wrap64 (x6_1 + 1)) l0_0) else (none)) else (if x5_1.length < 17592186044416 then (spec_l03Sizes.l0 kj11 a1 (x5_1 ++ [wrap64 ((wrap64 (1 + (rd x5_1 ((rd_T34 l0_0 x6_1).f2)))) + (rd x5_1 ((rd_T34 l0_0 x6_1).f3)))]) (wrap64 (x6_1 + 1)) l0_0) else (none))) else (none)) else (none))) = some r := H
              have A48 := Aside0.mk A480
              clear A480
              by_cases c49 : t139 = true
              ·subst c49
               have H1 : (if (wrap64 (1 + (rd x5_1 ((rd_T34 l0_0 x6_1).f2)))) > 100000 then (if x5_1.length < 17592186044416 then (spec_l03Sizes.l0 kj11 a1 (x5_1 ++ [100000]) (wrap64 (x6_1 + 1)) l0_0) else (none)) else (if x5_1.length < 17592186044416 then (spec_l03Sizes.l0 kj11 a1 (x5_1 ++ [wrap64 (1 + (rd x5_1 ((rd_T34 l0_0 x6_1).f2)))]) (wrap64 (x6_1 + 1)) l0_0) else (none))) = some r := by rw [if_pos rfl] at H; exact H
               clear H
               have H := H1
               clear H1
               by_cases c50 : (wrap64 (1 + (rd x5_1 ((rd_T34 l0_0 x6_1).f2)))) > 100000
               ·rw [if_pos c50] at H
                have c50b0 : decide (100000 < (wrap64 (1 + (rd x5_1 ((rd_T34 l0_0 x6_1).f2))))) = true := decide_eq_true c50
                clear c50
                by_cases c51 : x5_1.length < 17592186044416
                ·rw [if_pos c51] at H
                 have LMc51 := Aside0.mk c51
                 clear c51
                 obtain ⟨y140, hy140⟩ : ∃ y_ : List Int, y_ = (x5_1 ++ [100000]) := ⟨_, rfl⟩
                 replace H : (spec_l03Sizes.l0 kj11 a1 y140 (wrap64 (x6_1 + 1)) l0_0) = some r := by first | (rw [hy140]; with_reducible exact H) | (have H2_ := (Option.bind_some _ _).symm.trans H; rw [hy140]; with_reducible exact H2_) | (have H2_ := (Option.bind_some _ _).symm.trans H; with_reducible exact H2_) | with_reducible exact H | (rw [hy140]; exact H) | exact H
                 have Ny140 := Aside0.mk hy140
                 clear hy140
                 have H' := Aside0.mk H
                 clear H
                 have hnb52 := NB126_121.out
                 have hnc52 := NB121_126.out
                 have hcz53_0 : wc.cell? ⟨gb126, 0, none⟩ = some (.int .i64 ((rd_T34 l0_0 x6_1).f0)) := (blk_cell BK126.out 0).trans rfl
                 have hcz53_1 : wc.cell? ⟨gb126, 1, none⟩ = some (.int .i64 ((rd_T34 l0_0 x6_1).f1)) := (blk_cell BK126.out 1).trans rfl
                 have hcz53_2 : wc.cell? ⟨gb126, 2, none⟩ = some (.int .i64 ((rd_T34 l0_0 x6_1).f2)) := (blk_cell BK126.out 2).trans rfl
                 have hcz53_3 : wc.cell? ⟨gb126, 3, none⟩ = some (.int .i64 ((rd_T34 l0_0 x6_1).f3)) := (blk_cell BK126.out 3).trans rfl
                 have hfz53_0 := blk_frozen BK126.out 0
                 have hfz53_1 := blk_frozen BK126.out 1
                 have hfz53_2 := blk_frozen BK126.out 2
                 have hfz53_3 := blk_frozen BK126.out 3
                 obtain ⟨Ao54, co54, eo54⟩ := Kd.R_slice HO_5.out
                 subst eo54
                 have p138 : 0 ≤ (((rd_T34 l0_0 x6_1).f2) : Int) := oda
                 have q138 : ((rd_T34 l0_0 x6_1).f2) < (x5_1.length : Int) := oda
                 obtain ⟨ad138, e138, hx138_0⟩ := Kd.at_int (Kd.R_reads' HO_5.out).2.2 ((rd_T34 l0_0 x6_1).f2) p138 q138
                 cases e138
                 replace p138 := eq_true p138
                 replace q138 := eq_true q138
                 go_wp2_with (first | ((with_reducible refine gate_callee (f := 111) rfl ?_); refine goesL_ (some 58) rfl rfl Try.func111 (by kernel_rfl) rfl #[.int .i64 ((rd_T34 l0_0 x6_1).f0)] rfl ar ?_; (with_reducible refine (spec_l03One.calls ((rd_T34 l0_0 x6_1).f0) true _ A48.out).mono ?_); rintro e w' ⟨rfl, ⟨nd, rfl⟩⟩; refine ⟨_, rfl, ?_⟩) | ((with_reducible refine gate_builtin (b := .append) (xs := #[.tmp 69, .tmp 71]) rfl ?_); (try (refine gate_guard (by rfl) ?_; dsimp only)); at_builtin; refine Kd.R_append (Kd.int .i64) (w0 := w) w.heap.size rfl (.tmp 69) (.tmp 71) 27 3 (.int .i64 0) 8 rfl Try.underlying27 info3 rfl (by decide) (by omega) (.slice (some ad138) x5_1.length co54) x5_1 100000 [.int .i64 100000] (fun _ => True) (fun _ => False) rfl rfl ?aP (fun _ hk => hk.elim) ?aF ?aO ?aB ?aS ?aL ?_; (case aP => exact rfl); (case aB => exact (bw HB.out)); (case aF => exact (fun _ _ => trivial)); (case aO => exact (rl HO_5.out)); (case aS => exact (below_size (bw HB.out))); (case aL => have := LMc51.out; omega); intro v141 w55 ho hb hg hat; rw [← Ny140.out] at ho; have n0_ := Aside0.mk (blk_grown (g := gb121) (o := .cells #[.slice (some ad125) l0_0.length c0_0] 26 (0, 0)) (bl BK121.out) hg (Kd.R_ne HO_5.out BK121.out (by decide))); have n1_ := Aside0.mk (blk_grown (g := gb126) (o := .cells #[.int .i64 ((rd_T34 l0_0 x6_1).f0), .int .i64 ((rd_T34 l0_0 x6_1).f1), .int .i64 ((rd_T34 l0_0 x6_1).f2), .int .i64 ((rd_T34 l0_0 x6_1).f3)] 34 (0, 0)) (bl BK126.out) hg (Kd.R_ne HO_5.out BK126.out (by decide))); have n2_ := Aside0.mk (hb); have n3_ := Aside0.mk (ho); clear BK121 BK126 HB HO_5; have BK121 := n0_; have BK126 := n1_; have HB := n2_; have HO142 := n3_; clear n0_ n1_ n2_ n3_ ho hb hg hat))
                 go_roundg kj11
                 case measure => have := HK1.out; have := HJ5.out; have := HJ11.out; omega
                 case rel => exact ⟨(y140), (wrap64 (x6_1 + 1)), (by first | rfl | (simp; done) | (simp [*]; done)), H', ⟨by have := HK1.out; have := HJ5.out; have := HJ11.out; omega⟩, ⟨rl HO142.out⟩, ⟨bl BK121.out⟩, ⟨bw HB.out⟩⟩
                ·rw [if_neg c51] at H
                 exact absurd H (by simp)
               ·rw [if_neg c50] at H
                have c50b0 : decide (100000 < (wrap64 (1 + (rd x5_1 ((rd_T34 l0_0 x6_1).f2))))) = false := decide_eq_false c50
                clear c50
                by_cases c56 : x5_1.length < 17592186044416
                ·rw [if_pos c56] at H
                 have LMc56 := Aside0.mk c56
                 clear c56
                 obtain ⟨y143, hy143⟩ : ∃ y_ : List Int, y_ = (x5_1 ++ [wrap64 (1 + (rd x5_1 ((rd_T34 l0_0 x6_1).f2)))]) := ⟨_, rfl⟩
                 replace H : (spec_l03Sizes.l0 kj11 a1 y143 (wrap64 (x6_1 + 1)) l0_0) = some r := by first | (rw [hy143]; with_reducible exact H) | (have H2_ := (Option.bind_some _ _).symm.trans H; rw [hy143]; with_reducible exact H2_) | (have H2_ := (Option.bind_some _ _).symm.trans H; with_reducible exact H2_) | with_reducible exact H | (rw [hy143]; exact H) | exact H
                 have Ny143 := Aside0.mk hy143
                 clear hy143
                 have H' := Aside0.mk H
                 clear H
                 have hnb57 := NB126_121.out
                 have hnc57 := NB121_126.out
                 have hcz58_0 : wc.cell? ⟨gb126, 0, none⟩ = some (.int .i64 ((rd_T34 l0_0 x6_1).f0)) := (blk_cell BK126.out 0).trans rfl
                 have hcz58_1 : wc.cell? ⟨gb126, 1, none⟩ = some (.int .i64 ((rd_T34 l0_0 x6_1).f1)) := (blk_cell BK126.out 1).trans rfl
                 have hcz58_2 : wc.cell? ⟨gb126, 2, none⟩ = some (.int .i64 ((rd_T34 l0_0 x6_1).f2)) := (blk_cell BK126.out 2).trans rfl
                 have hcz58_3 : wc.cell? ⟨gb126, 3, none⟩ = some (.int .i64 ((rd_T34 l0_0 x6_1).f3)) := (blk_cell BK126.out 3).trans rfl
                 have hfz58_0 := blk_frozen BK126.out 0
                 have hfz58_1 := blk_frozen BK126.out 1
                 have hfz58_2 := blk_frozen BK126.out 2
                 have hfz58_3 := blk_frozen BK126.out 3
                 obtain ⟨Ao59, co59, eo59⟩ := Kd.R_slice HO_5.out
                 subst eo59
                 have p138 : 0 ≤ (((rd_T34 l0_0 x6_1).f2) : Int) := oda
                 have q138 : ((rd_T34 l0_0 x6_1).f2) < (x5_1.length : Int) := oda
                 obtain ⟨ad138, e138, hx138_0⟩ := Kd.at_int (Kd.R_reads' HO_5.out).2.2 ((rd_T34 l0_0 x6_1).f2) p138 q138
                 cases e138
                 replace p138 := eq_true p138
                 replace q138 := eq_true q138
                 go_wp2_with (first | ((with_reducible refine gate_callee (f := 111) rfl ?_); refine goesL_ (some 58) rfl rfl Try.func111 (by kernel_rfl) rfl #[.int .i64 ((rd_T34 l0_0 x6_1).f0)] rfl ar ?_; (with_reducible refine (spec_l03One.calls ((rd_T34 l0_0 x6_1).f0) true _ A48.out).mono ?_); rintro e w' ⟨rfl, ⟨nd, rfl⟩⟩; refine ⟨_, rfl, ?_⟩) | ((with_reducible refine gate_builtin (b := .append) (xs := #[.tmp 69, .tmp 71]) rfl ?_); (try (refine gate_guard (by rfl) ?_; dsimp only)); at_builtin; refine Kd.R_append (Kd.int .i64) (w0 := w) w.heap.size rfl (.tmp 69) (.tmp 71) 27 3 (.int .i64 0) 8 rfl Try.underlying27 info3 rfl (by decide) (by omega) (.slice (some ad138) x5_1.length co59) x5_1 (wrap64 (1 + (rd x5_1 ((rd_T34 l0_0 x6_1).f2)))) [.int .i64 (wrap64 (1 + (rd x5_1 ((rd_T34 l0_0 x6_1).f2))))] (fun _ => True) (fun _ => False) rfl rfl ?aP (fun _ hk => hk.elim) ?aF ?aO ?aB ?aS ?aL ?_; (case aP => exact rfl); (case aB => exact (bw HB.out)); (case aF => exact (fun _ _ => trivial)); (case aO => exact (rl HO_5.out)); (case aS => exact (below_size (bw HB.out))); (case aL => have := LMc56.out; omega); intro v144 w60 ho hb hg hat; rw [← Ny143.out] at ho; have n0_ := Aside0.mk (blk_grown (g := gb121) (o := .cells #[.slice (some ad125) l0_0.length c0_0] 26 (0, 0)) (bl BK121.out) hg (Kd.R_ne HO_5.out BK121.out (by decide))); have n1_ := Aside0.mk (blk_grown (g := gb126) (o := .cells #[.int .i64 ((rd_T34 l0_0 x6_1).f0), .int .i64 ((rd_T34 l0_0 x6_1).f1), .int .i64 ((rd_T34 l0_0 x6_1).f2), .int .i64 ((rd_T34 l0_0 x6_1).f3)] 34 (0, 0)) (bl BK126.out) hg (Kd.R_ne HO_5.out BK126.out (by decide))); have n2_ := Aside0.mk (hb); have n3_ := Aside0.mk (ho); clear BK121 BK126 HB HO_5; have BK121 := n0_; have BK126 := n1_; have HB := n2_; have HO145 := n3_; clear n0_ n1_ n2_ n3_ ho hb hg hat))
                 go_roundg kj11
                 case measure => have := HK1.out; have := HJ5.out; have := HJ11.out; omega
                 case rel => exact ⟨(y143), (wrap64 (x6_1 + 1)), (by first | rfl | (simp; done) | (simp [*]; done)), H', ⟨by have := HK1.out; have := HJ5.out; have := HJ11.out; omega⟩, ⟨rl HO145.out⟩, ⟨bl BK121.out⟩, ⟨bw HB.out⟩⟩
                ·rw [if_neg c56] at H
                 exact absurd H (by simp)
              ·replace c49 := Bool.eq_false_iff.mpr c49
               subst c49
               have H1 : (if 0 ≤ ((rd_T34 l0_0 x6_1).f3) then (if ((rd_T34 l0_0 x6_1).f3) < (x5_1.length : Int) then (if (wrap64 ((wrap64 (1 + (rd x5_1 ((rd_T34 l0_0 x6_1).f2)))) + (rd x5_1 ((rd_T34 l0_0 x6_1).f3)))) > 100000 then (if x5_1.length < 17592186044416 then (spec_l03Sizes.l0 kj11 a1 (x5_1 ++ [100000]) (wrap64 (x6_1 + 1)) l0_0) else (none)) else (if x5_1.length < 17592186044416 then (spec_l03Sizes.l0 kj11 a1 (x5_1 ++ [wrap64 ((wrap64 (1 + (rd x5_1 ((rd_T34 l0_0 x6_1).f2)))) + (rd x5_1 ((rd_T34 l0_0 x6_1).f3)))]) (wrap64 (x6_1 + 1)) l0_0) else (none))) else (none)) else (none)) = some r := by rw [if_neg (show ¬ (false = true) by decide)] at H; exact H
               clear H
               have H := H1
               clear H1
               by_cases c61 : 0 ≤ ((rd_T34 l0_0 x6_1).f3)
               ·rw [if_pos c61] at H
                have c61b0 : decide (0 ≤ ((rd_T34 l0_0 x6_1).f3)) = true := decide_eq_true c61
                clear c61
                by_cases c62 : ((rd_T34 l0_0 x6_1).f3) < (x5_1.length : Int)
                ·rw [if_pos c62] at H
                 have c62b0 : decide (((rd_T34 l0_0 x6_1).f3) < (x5_1.length : Int)) = true := decide_eq_true c62
                 clear c62
                 by_cases c63 : (wrap64 ((wrap64 (1 + (rd x5_1 ((rd_T34 l0_0 x6_1).f2)))) + (rd x5_1 ((rd_T34 l0_0 x6_1).f3)))) > 100000
                 ·rw [if_pos c63] at H
                  have c63b0 : decide (100000 < (wrap64 ((wrap64 (1 + (rd x5_1 ((rd_T34 l0_0 x6_1).f2)))) + (rd x5_1 ((rd_T34 l0_0 x6_1).f3))))) = true := decide_eq_true c63
                  clear c63
                  by_cases c64 : x5_1.length < 17592186044416
                  ·rw [if_pos c64] at H
                   have LMc64 := Aside0.mk c64
                   clear c64
                   obtain ⟨y147, hy147⟩ : ∃ y_ : List Int, y_ = (x5_1 ++ [100000]) := ⟨_, rfl⟩
                   replace H : (spec_l03Sizes.l0 kj11 a1 y147 (wrap64 (x6_1 + 1)) l0_0) = some r := by first | (rw [hy147]; with_reducible exact H) | (have H2_ := (Option.bind_some _ _).symm.trans H; rw [hy147]; with_reducible exact H2_) | (have H2_ := (Option.bind_some _ _).symm.trans H; with_reducible exact H2_) | with_reducible exact H | (rw [hy147]; exact H) | exact H
                   have Ny147 := Aside0.mk hy147
                   clear hy147
                   have H' := Aside0.mk H
                   clear H
                   have hnb65 := NB126_121.out
                   have hnc65 := NB121_126.out
                   have hcz66_0 : wc.cell? ⟨gb126, 0, none⟩ = some (.int .i64 ((rd_T34 l0_0 x6_1).f0)) := (blk_cell BK126.out 0).trans rfl
                   have hcz66_1 : wc.cell? ⟨gb126, 1, none⟩ = some (.int .i64 ((rd_T34 l0_0 x6_1).f1)) := (blk_cell BK126.out 1).trans rfl
                   have hcz66_2 : wc.cell? ⟨gb126, 2, none⟩ = some (.int .i64 ((rd_T34 l0_0 x6_1).f2)) := (blk_cell BK126.out 2).trans rfl
                   have hcz66_3 : wc.cell? ⟨gb126, 3, none⟩ = some (.int .i64 ((rd_T34 l0_0 x6_1).f3)) := (blk_cell BK126.out 3).trans rfl
                   have hfz66_0 := blk_frozen BK126.out 0
                   have hfz66_1 := blk_frozen BK126.out 1
                   have hfz66_2 := blk_frozen BK126.out 2
                   have hfz66_3 := blk_frozen BK126.out 3
                   obtain ⟨Ao67, co67, eo67⟩ := Kd.R_slice HO_5.out
                   subst eo67
                   have p138 : 0 ≤ (((rd_T34 l0_0 x6_1).f2) : Int) := oda
                   have q138 : ((rd_T34 l0_0 x6_1).f2) < (x5_1.length : Int) := oda
                   obtain ⟨ad138, e138, hx138_0⟩ := Kd.at_int (Kd.R_reads' HO_5.out).2.2 ((rd_T34 l0_0 x6_1).f2) p138 q138
                   cases e138
                   replace p138 := eq_true p138
                   replace q138 := eq_true q138
                   go_wp2_with (first | ((with_reducible refine gate_callee (f := 111) rfl ?_); refine goesL_ (some 58) rfl rfl Try.func111 (by kernel_rfl) rfl #[.int .i64 ((rd_T34 l0_0 x6_1).f0)] rfl ar ?_; (with_reducible refine (spec_l03One.calls ((rd_T34 l0_0 x6_1).f0) false _ A48.out).mono ?_); rintro e w' ⟨rfl, ⟨nd, rfl⟩⟩; refine ⟨_, rfl, ?_⟩; have p146 : 0 ≤ (((rd_T34 l0_0 x6_1).f3) : Int) := oda; have q146 : ((rd_T34 l0_0 x6_1).f3) < (x5_1.length : Int) := oda; obtain ⟨ad146, e146, hx146_0⟩ := Kd.at_int (Kd.R_reads' HO_5.out).2.2 ((rd_T34 l0_0 x6_1).f3) p146 q146; obtain rfl : ad138 = ad146 := (by injection e146); replace p146 := eq_true p146; replace q146 := eq_true q146) | ((with_reducible refine gate_builtin (b := .append) (xs := #[.tmp 69, .tmp 71]) rfl ?_); (try (refine gate_guard (by rfl) ?_; dsimp only)); at_builtin; refine Kd.R_append (Kd.int .i64) (w0 := w) w.heap.size rfl (.tmp 69) (.tmp 71) 27 3 (.int .i64 0) 8 rfl Try.underlying27 info3 rfl (by decide) (by omega) (.slice (some ad138) x5_1.length co67) x5_1 100000 [.int .i64 100000] (fun _ => True) (fun _ => False) rfl rfl ?aP (fun _ hk => hk.elim) ?aF ?aO ?aB ?aS ?aL ?_; (case aP => exact rfl); (case aB => exact (bw HB.out)); (case aF => exact (fun _ _ => trivial)); (case aO => exact (rl HO_5.out)); (case aS => exact (below_size (bw HB.out))); (case aL => have := LMc64.out; omega); intro v148 w68 ho hb hg hat; rw [← Ny147.out] at ho; have n0_ := Aside0.mk (blk_grown (g := gb121) (o := .cells #[.slice (some ad125) l0_0.length c0_0] 26 (0, 0)) (bl BK121.out) hg (Kd.R_ne HO_5.out BK121.out (by decide))); have n1_ := Aside0.mk (blk_grown (g := gb126) (o := .cells #[.int .i64 ((rd_T34 l0_0 x6_1).f0), .int .i64 ((rd_T34 l0_0 x6_1).f1), .int .i64 ((rd_T34 l0_0 x6_1).f2), .int .i64 ((rd_T34 l0_0 x6_1).f3)] 34 (0, 0)) (bl BK126.out) hg (Kd.R_ne HO_5.out BK126.out (by decide))); have n2_ := Aside0.mk (hb); have n3_ := Aside0.mk (ho); clear BK121 BK126 HB HO_5; have BK121 := n0_; have BK126 := n1_; have HB := n2_; have HO149 := n3_; clear n0_ n1_ n2_ n3_ ho hb hg hat))
                   go_roundg kj11
                   case measure => have := HK1.out; have := HJ5.out; have := HJ11.out; omega
                   case rel => exact ⟨(y147), (wrap64 (x6_1 + 1)), (by first | rfl | (simp; done) | (simp [*]; done)), H', ⟨by have := HK1.out; have := HJ5.out; have := HJ11.out; omega⟩, ⟨rl HO149.out⟩, ⟨bl BK121.out⟩, ⟨bw HB.out⟩⟩
                  ·rw [if_neg c64] at H
                   exact absurd H (by simp)
                 ·rw [if_neg c63] at H
                  have c63b0 : decide (100000 < (wrap64 ((wrap64 (1 + (rd x5_1 ((rd_T34 l0_0 x6_1).f2)))) + (rd x5_1 ((rd_T34 l0_0 x6_1).f3))))) = false := decide_eq_false c63
                  clear c63
                  by_cases c69 : x5_1.length < 17592186044416
                  ·rw [if_pos c69] at H
                   have LMc69 := Aside0.mk c69
                   clear c69
                   obtain ⟨y150, hy150⟩ : ∃ y_ : List Int, y_ = (x5_1 ++ [wrap64 ((wrap64 (1 + (rd x5_1 ((rd_T34 l0_0 x6_1).f2)))) + (rd x5_1 ((rd_T34 l0_0 x6_1).f3)))]) := ⟨_, rfl⟩
                   replace H : (spec_l03Sizes.l0 kj11 a1 y150 (wrap64 (x6_1 + 1)) l0_0) = some r := by first | (rw [hy150]; with_reducible exact H) | (have H2_ := (Option.bind_some _ _).symm.trans H; rw [hy150]; with_reducible exact H2_) | (have H2_ := (Option.bind_some _ _).symm.trans H; with_reducible exact H2_) | with_reducible exact H | (rw [hy150]; exact H) | exact H
                   have Ny150 := Aside0.mk hy150
                   clear hy150
                   have H' := Aside0.mk H
                   clear H
                   have hnb70 := NB126_121.out
                   have hnc70 := NB121_126.out
                   have hcz71_0 : wc.cell? ⟨gb126, 0, none⟩ = some (.int .i64 ((rd_T34 l0_0 x6_1).f0)) := (blk_cell BK126.out 0).trans rfl
                   have hcz71_1 : wc.cell? ⟨gb126, 1, none⟩ = some (.int .i64 ((rd_T34 l0_0 x6_1).f1)) := (blk_cell BK126.out 1).trans rfl
                   have hcz71_2 : wc.cell? ⟨gb126, 2, none⟩ = some (.int .i64 ((rd_T34 l0_0 x6_1).f2)) := (blk_cell BK126.out 2).trans rfl
                   have hcz71_3 : wc.cell? ⟨gb126, 3, none⟩ = some (.int .i64 ((rd_T34 l0_0 x6_1).f3)) := (blk_cell BK126.out 3).trans rfl
                   have hfz71_0 := blk_frozen BK126.out 0
                   have hfz71_1 := blk_frozen BK126.out 1
                   have hfz71_2 := blk_frozen BK126.out 2
                   have hfz71_3 := blk_frozen BK126.out 3
                   obtain ⟨Ao72, co72, eo72⟩ := Kd.R_slice HO_5.out
                   subst eo72
                   have p138 : 0 ≤ (((rd_T34 l0_0 x6_1).f2) : Int) := oda
                   have q138 : ((rd_T34 l0_0 x6_1).f2) < (x5_1.length : Int) := oda
                   obtain ⟨ad138, e138, hx138_0⟩ := Kd.at_int (Kd.R_reads' HO_5.out).2.2 ((rd_T34 l0_0 x6_1).f2) p138 q138
                   cases e138
                   replace p138 := eq_true p138
                   replace q138 := eq_true q138
                   go_wp2_with (first | ((with_reducible refine gate_callee (f := 111) rfl ?_); refine goesL_ (some 58) rfl rfl Try.func111 (by kernel_rfl) rfl #[.int .i64 ((rd_T34 l0_0 x6_1).f0)] rfl ar ?_; (with_reducible refine (spec_l03One.calls ((rd_T34 l0_0 x6_1).f0) false _ A48.out).mono ?_); rintro e w' ⟨rfl, ⟨nd, rfl⟩⟩; refine ⟨_, rfl, ?_⟩; have p146 : 0 ≤ (((rd_T34 l0_0 x6_1).f3) : Int) := oda; have q146 : ((rd_T34 l0_0 x6_1).f3) < (x5_1.length : Int) := oda; obtain ⟨ad146, e146, hx146_0⟩ := Kd.at_int (Kd.R_reads' HO_5.out).2.2 ((rd_T34 l0_0 x6_1).f3) p146 q146; obtain rfl : ad138 = ad146 := (by injection e146); replace p146 := eq_true p146; replace q146 := eq_true q146) | ((with_reducible refine gate_builtin (b := .append) (xs := #[.tmp 69, .tmp 71]) rfl ?_); (try (refine gate_guard (by rfl) ?_; dsimp only)); at_builtin; refine Kd.R_append (Kd.int .i64) (w0 := w) w.heap.size rfl (.tmp 69) (.tmp 71) 27 3 (.int .i64 0) 8 rfl Try.underlying27 info3 rfl (by decide) (by omega) (.slice (some ad138) x5_1.length co72) x5_1 (wrap64 ((wrap64 (1 + (rd x5_1 ((rd_T34 l0_0 x6_1).f2)))) + (rd x5_1 ((rd_T34 l0_0 x6_1).f3)))) [.int .i64 (wrap64 ((wrap64 (1 + (rd x5_1 ((rd_T34 l0_0 x6_1).f2)))) + (rd x5_1 ((rd_T34 l0_0 x6_1).f3))))] (fun _ => True) (fun _ => False) rfl rfl ?aP (fun _ hk => hk.elim) ?aF ?aO ?aB ?aS ?aL ?_; (case aP => exact rfl); (case aB => exact (bw HB.out)); (case aF => exact (fun _ _ => trivial)); (case aO => exact (rl HO_5.out)); (case aS => exact (below_size (bw HB.out))); (case aL => have := LMc69.out; omega); intro v151 w73 ho hb hg hat; rw [← Ny150.out] at ho; have n0_ := Aside0.mk (blk_grown (g := gb121) (o := .cells #[.slice (some ad125) l0_0.length c0_0] 26 (0, 0)) (bl BK121.out) hg (Kd.R_ne HO_5.out BK121.out (by decide))); have n1_ := Aside0.mk (blk_grown (g := gb126) (o := .cells #[.int .i64 ((rd_T34 l0_0 x6_1).f0), .int .i64 ((rd_T34 l0_0 x6_1).f1), .int .i64 ((rd_T34 l0_0 x6_1).f2), .int .i64 ((rd_T34 l0_0 x6_1).f3)] 34 (0, 0)) (bl BK126.out) hg (Kd.R_ne HO_5.out BK126.out (by decide))); have n2_ := Aside0.mk (hb); have n3_ := Aside0.mk (ho); clear BK121 BK126 HB HO_5; have BK121 := n0_; have BK126 := n1_; have HB := n2_; have HO152 := n3_; clear n0_ n1_ n2_ n3_ ho hb hg hat))
                   go_roundg kj11
                   case measure => have := HK1.out; have := HJ5.out; have := HJ11.out; omega
                   case rel => exact ⟨(y150), (wrap64 (x6_1 + 1)), (by first | rfl | (simp; done) | (simp [*]; done)), H', ⟨by have := HK1.out; have := HJ5.out; have := HJ11.out; omega⟩, ⟨rl HO152.out⟩, ⟨bl BK121.out⟩, ⟨bw HB.out⟩⟩
                  ·rw [if_neg c69] at H
                   exact absurd H (by simp)
                ·rw [if_neg c62] at H
                 exact absurd H (by simp)
               ·rw [if_neg c61] at H
                exact absurd H (by simp)
             ·rw [if_neg c47] at H
              exact absurd H (by simp)
            ·rw [if_neg c46] at H
             exact absurd H (by simp)
       ·rw [if_neg c11] at H
        exact absurd H (by simp)
      ·rw [if_neg c10] at H
       exact absurd H (by simp)
     ·replace c9 := Bool.eq_false_iff.mpr c9
      subst c9
      have H1 : (some x5_1) = some r := by rw [if_neg (show ¬ (false = true) by decide)] at H; exact H
      clear H
      have H := H1
      clear H1
      obtain rfl := Option.some.inj H
      go_wp2
      go_ret
      exact ⟨_, by first | rfl | (simp [errW_none, errW_some] <;> rfl) | (simp [*, errW_none, errW_some] <;> rfl), by (with_reducible repeat (first | apply Kd.R_alloc | apply Kd.R_drewN | apply Kd.R_drew)); exact HO_5.out, bw HB.out⟩

/-! ### spec_SizeOf: function 29 -/
def spec_SizeOf.f (k : Nat) (l0_0 : List (S34)) (a1 : Int) : Option (Int) := (spec_l01In.f a1 0 (wrap64 ((l0_0.length : Int) - 1))).bind fun t154 => (if t154 = true then ((spec_l03Sizes.f k l0_0 a1).bind fun t155 => (if 0 ≤ a1 then (if a1 < (t155.length : Int) then (some (rd t155 a1)) else (none)) else (none))) else (some 0))
set_option maxHeartbeats 8000000 in
set_option maxRecDepth 100000 in
theorem spec_SizeOf.calls (k : Nat) (A0_0 : Option Addr) (c0_0 : Nat) (l0_0 : List (S34)) (a1 : Int) (r : Int) (w : World) (hr0_0 : Kd.C k34 w A0_0 l0_0.length l0_0) (hc0_0 : l0_0.length ≤ c0_0) (h : spec_SizeOf.f k l0_0 a1 = some r) :
  Calls Try.prog 29 #[.agg #[.slice A0_0 l0_0.length c0_0], .int .i64 a1] w fun e w' => e = .returned (.int .i64 r) ∧ Below w.heap.size w w' := by
 have hu26 := Try.underlying26
 have HR0_0 := Aside0.mk hr0_0
 have HC0_0 := Aside0.mk hc0_0
 clear hr0_0 hc0_0
 have HB := Aside0.mk (Below.refl w.heap.size w)
 have H : ((spec_l01In.f a1 0 (wrap64 ((l0_0.length : Int) - 1))).bind fun t154 => (if t154 = true then ((spec_l03Sizes.f k l0_0 a1).bind fun t155 => (if 0 ≤ a1 then (if a1 < (t155.length : Int) then (some (rd t155 a1)) else (none)) else (none))) else (some 0))) = some r := h
 clear h
 replace H := Option.bind_eq_some_iff.mp H
 obtain ⟨t154, A30, H⟩ := H
 replace H : (if t154 = true then ((spec_l03Sizes.f k l0_0 a1).bind fun t155 => (if 0 ≤ a1 then (if a1 < (t155.length : Int) then (some (rd t155 a1)) else (none)) else (none))) else (some 0)) = some r := H
 have A3 := Aside0.mk A30
 clear A30
 by_cases c4 : t154 = true
 ·subst c4
  have H1 : ((spec_l03Sizes.f k l0_0 a1).bind fun t155 => (if 0 ≤ a1 then (if a1 < (t155.length : Int) then (some (rd t155 a1)) else (none)) else (none))) = some r := by rw [if_pos rfl] at H; exact H
  clear H
  have H := H1
  clear H1
  replace H := Option.bind_eq_some_iff.mp H
  obtain ⟨t155, A50, H⟩ := H
  replace H : (if 0 ≤ a1 then (if a1 < (t155.length : Int) then (some (rd t155 a1)) else (none)) else (none)) = some r := H
  have A5 := Aside0.mk A50
  clear A50
  by_cases c6 : 0 ≤ a1
  ·rw [if_pos c6] at H
   have c6b0 : decide (0 ≤ a1) = true := decide_eq_true c6
   clear c6
   by_cases c7 : a1 < (t155.length : Int)
   ·rw [if_pos c7] at H
    have c7b0 : decide (a1 < (t155.length : Int)) = true := decide_eq_true c7
    clear c7
    obtain rfl := Option.some.inj H
    go_enter Try.func29, Try.ntmps29
    go_wp2_with (first | ((with_reducible refine gate_dst (N := 2) rfl ?_); refine box_event ?hg (N := 2) ?hd (cs := #[.slice A0_0 l0_0.length c0_0]) (t := 26) ?hr ?_; (case hd => rfl); (case hg => rfl); (case hr => first | (go_simp; done) | (go_simp; rfl)); intro gb153 hg w8 hbox hb; have n0_ := Aside0.mk (below_step (bw HB.out) hb); have n1_ := Aside0.mk (hbox); have n2_ := Aside0.mk ((by rw [hg]; exact (below_size (bw HB.out)) : w.heap.size ≤ gb153)); have n3_ := Aside0.mk ((by rw [hg]; exact (below_size (bw HB.out)) : w.heap.size ≤ gb153)); clear HB; have HB := n0_; have BK153 := n1_; have GW153 := n2_; have GE153 := n3_; clear n0_ n1_ n2_ n3_ hb hbox hg; have hcz9_0 : w8.cell? ⟨gb153, 0, none⟩ = some (.slice A0_0 l0_0.length c0_0) := (blk_cell BK153.out 0).trans rfl; have hfz9_0 := blk_frozen BK153.out 0) | ((with_reducible refine gate_callee (f := 79) rfl ?_); refine goesL_ (some 10) rfl rfl Try.func79 (by kernel_rfl) rfl #[.int .i64 a1, .int .i64 0, .int .i64 (wrap64 ((l0_0.length : Int) - 1))] rfl ar ?_; (with_reducible refine (spec_l01In.calls a1 0 (wrap64 ((l0_0.length : Int) - 1)) true _ A3.out).mono ?_); rintro e w' ⟨rfl, ⟨nd, rfl⟩⟩; refine ⟨_, rfl, ?_⟩) | ((with_reducible refine gate_callee (f := 86) rfl ?_); refine goesL_ (some 14) rfl rfl Try.func86 (by kernel_rfl) rfl #[.agg #[.slice A0_0 l0_0.length c0_0], .int .i64 a1] rfl ar ?_; (with_reducible refine (spec_l03Sizes.calls k _ _ l0_0 a1 t155 _ ?side1 ?side2 A5.out).mono ?_); (case side1 => exact cl (Kd.C_below HR0_0.out (bw HB.out))); (case side2 => exact HC0_0.out); rintro e w10 ⟨v156, rfl, ho0, hb⟩; refine ⟨_, rfl, ?_⟩; have n0_ := Aside0.mk (Kd.R_lower ho0 (below_size (bw HB.out))); have n1_ := Aside0.mk (blk_below (g := gb153) (o := .cells #[.slice A0_0 l0_0.length c0_0] 26 (0, 0)) (bl BK153.out) hb); have n2_ := Aside0.mk (below_step (bw HB.out) hb); clear BK153 HB; have HO157 := n0_; have BK153 := n1_; have HB := n2_; clear n0_ n1_ n2_; (try clear hb); (try clear hb2); (try clear hk); (try clear hi); (try clear ho0); obtain ⟨Ao11, co11, eo11⟩ := Kd.R_slice HO157.out; subst eo11; have p158 : 0 ≤ (a1 : Int) := oda; have q158 : a1 < (t155.length : Int) := oda; obtain ⟨ad158, e158, hx158_0⟩ := Kd.at_int (Kd.R_reads' HO157.out).2.2 a1 p158 q158; cases e158; replace p158 := eq_true p158; replace q158 := eq_true q158))
    go_ret
    exact ⟨by first | rfl | (simp [errW_none, errW_some] <;> rfl) | (simp [*, errW_none, errW_some] <;> rfl), bw HB.out⟩
   ·rw [if_neg c7] at H
    exact absurd H (by simp)
  ·rw [if_neg c6] at H
   exact absurd H (by simp)
 ·replace c4 := Bool.eq_false_iff.mpr c4
  subst c4
  have H1 : (some 0) = some r := by rw [if_neg (show ¬ (false = true) by decide)] at H; exact H
  clear H
  have H := H1
  clear H1
  obtain rfl := Option.some.inj H
  go_enter Try.func29, Try.ntmps29
  go_wp2_with (first | ((with_reducible refine gate_dst (N := 2) rfl ?_); refine box_event ?hg (N := 2) ?hd (cs := #[.slice A0_0 l0_0.length c0_0]) (t := 26) ?hr ?_; (case hd => rfl); (case hg => rfl); (case hr => first | (go_simp; done) | (go_simp; rfl)); intro gb153 hg w12 hbox hb; have n0_ := Aside0.mk (below_step (bw HB.out) hb); have n1_ := Aside0.mk (hbox); have n2_ := Aside0.mk ((by rw [hg]; exact (below_size (bw HB.out)) : w.heap.size ≤ gb153)); have n3_ := Aside0.mk ((by rw [hg]; exact (below_size (bw HB.out)) : w.heap.size ≤ gb153)); clear HB; have HB := n0_; have BK153 := n1_; have GW153 := n2_; have GE153 := n3_; clear n0_ n1_ n2_ n3_ hb hbox hg; have hcz13_0 : w12.cell? ⟨gb153, 0, none⟩ = some (.slice A0_0 l0_0.length c0_0) := (blk_cell BK153.out 0).trans rfl; have hfz13_0 := blk_frozen BK153.out 0) | ((with_reducible refine gate_callee (f := 79) rfl ?_); refine goesL_ (some 10) rfl rfl Try.func79 (by kernel_rfl) rfl #[.int .i64 a1, .int .i64 0, .int .i64 (wrap64 ((l0_0.length : Int) - 1))] rfl ar ?_; (with_reducible refine (spec_l01In.calls a1 0 (wrap64 ((l0_0.length : Int) - 1)) false _ A3.out).mono ?_); rintro e w' ⟨rfl, ⟨nd, rfl⟩⟩; refine ⟨_, rfl, ?_⟩))
  go_ret
  exact ⟨by first | rfl | (simp [errW_none, errW_some] <;> rfl) | (simp [*, errW_none, errW_some] <;> rfl), bw HB.out⟩

/-! ### impl_hasNode: function 71 -/
def impl_hasNode.f (l0_0 : List (S34)) (a1 : Int) : Option (Bool) := (impl_within.f a1 0 (wrap64 ((l0_0.length : Int) - 1))).bind fun t160 => (some t160)
set_option maxHeartbeats 8000000 in
set_option maxRecDepth 100000 in
theorem impl_hasNode.calls (A0_0 : Option Addr) (c0_0 : Nat) (l0_0 : List (S34)) (a1 : Int) (r : Bool) (w : World) (hr0_0 : Kd.C k34 w A0_0 l0_0.length l0_0) (hc0_0 : l0_0.length ≤ c0_0) (h : impl_hasNode.f l0_0 a1 = some r) :
  Calls Try.prog 71 #[.agg #[.slice A0_0 l0_0.length c0_0], .int .i64 a1] w fun e w' => e = .returned (.bool r) ∧ Below w.heap.size w w' := by
 have hu26 := Try.underlying26
 have HR0_0 := Aside0.mk hr0_0
 have HC0_0 := Aside0.mk hc0_0
 clear hr0_0 hc0_0
 have HB := Aside0.mk (Below.refl w.heap.size w)
 have H : ((impl_within.f a1 0 (wrap64 ((l0_0.length : Int) - 1))).bind fun t160 => (some t160)) = some r := h
 clear h
 replace H := Option.bind_eq_some_iff.mp H
 obtain ⟨t160, A30, H⟩ := H
 replace H : (some t160) = some r := H
 have A3 := Aside0.mk A30
 clear A30
 obtain rfl := Option.some.inj H
 go_enter Try.func71, Try.ntmps71
 go_wp2_with (first | ((with_reducible refine gate_dst (N := 2) rfl ?_); refine box_event ?hg (N := 2) ?hd (cs := #[.slice A0_0 l0_0.length c0_0]) (t := 26) ?hr ?_; (case hd => rfl); (case hg => rfl); (case hr => first | (go_simp; done) | (go_simp; rfl)); intro gb159 hg w4 hbox hb; have n0_ := Aside0.mk (below_step (bw HB.out) hb); have n1_ := Aside0.mk (hbox); have n2_ := Aside0.mk ((by rw [hg]; exact (below_size (bw HB.out)) : w.heap.size ≤ gb159)); have n3_ := Aside0.mk ((by rw [hg]; exact (below_size (bw HB.out)) : w.heap.size ≤ gb159)); clear HB; have HB := n0_; have BK159 := n1_; have GW159 := n2_; have GE159 := n3_; clear n0_ n1_ n2_ n3_ hb hbox hg; have hcz5_0 : w4.cell? ⟨gb159, 0, none⟩ = some (.slice A0_0 l0_0.length c0_0) := (blk_cell BK159.out 0).trans rfl; have hfz5_0 := blk_frozen BK159.out 0) | ((with_reducible refine gate_callee (f := 75) rfl ?_); refine goesL_ (some 10) rfl rfl Try.func75 (by kernel_rfl) rfl #[.int .i64 a1, .int .i64 0, .int .i64 (wrap64 ((l0_0.length : Int) - 1))] rfl ar ?_; (with_reducible refine (impl_within.calls a1 0 (wrap64 ((l0_0.length : Int) - 1)) t160 _ A3.out).mono ?_); rintro e w' ⟨rfl, ⟨nd, rfl⟩⟩; refine ⟨_, rfl, ?_⟩))
 go_ret
 exact ⟨by first | rfl | (simp [errW_none, errW_some] <;> rfl) | (simp [*, errW_none, errW_some] <;> rfl), bw HB.out⟩

/-! ### impl_hasB: function 87 -/
def impl_hasB.f (a0 : Int) : Option (Bool) := if a0 = 1 then (some false) else (if a0 = 3 then (some false) else (some (a0 != 6)))
set_option maxHeartbeats 8000000 in
set_option maxRecDepth 100000 in
theorem impl_hasB.calls (a0 : Int) (r : Bool) (w : World) (h : impl_hasB.f a0 = some r) :
  Calls Try.prog 87 #[.int .i64 a0] w fun e w' => e = .returned (.bool r) ∧ Drawn0 w w' := by
 have H : (if a0 = 1 then (some false) else (if a0 = 3 then (some false) else (some (a0 != 6)))) = some r := h
 clear h
 by_cases c2 : a0 = 1
 ·rw [if_pos c2] at H
  have c2b0 : (a0 == 1) = true := beq_iff_eq.mpr c2
  have c2b1 : (a0 != 1) = false := bne_eq_false_iff_eq.mpr c2
  clear c2
  obtain rfl := Option.some.inj H
  go_enter Try.func87, Try.ntmps87
  go_wp2
  go_ret
  exact ⟨by first | rfl | (simp; done) | (simp [*]; done), by repeat (first | exact Drawn0.refl _ | apply Drawn0.step)⟩
 ·rw [if_neg c2] at H
  have c2b0 : (a0 == 1) = false := beq_eq_false_iff_ne.mpr c2
  have c2b1 : (a0 != 1) = true := bne_iff_ne.mpr c2
  by_cases c3 : a0 = 3
  ·rw [if_pos c3] at H
   have c3b0 : (a0 == 3) = true := beq_iff_eq.mpr c3
   have c3b1 : (a0 != 3) = false := bne_eq_false_iff_eq.mpr c3
   clear c3
   obtain rfl := Option.some.inj H
   go_enter Try.func87, Try.ntmps87
   go_wp2
   go_ret
   exact ⟨by first | rfl | (simp; done) | (simp [*]; done), by repeat (first | exact Drawn0.refl _ | apply Drawn0.step)⟩
  ·rw [if_neg c3] at H
   have c3b0 : (a0 == 3) = false := beq_eq_false_iff_ne.mpr c3
   have c3b1 : (a0 != 3) = true := bne_iff_ne.mpr c3
   obtain rfl := Option.some.inj H
   go_enter Try.func87, Try.ntmps87
   go_wp2
   go_ret
   exact ⟨by first | rfl | (simp; done) | (simp [*]; done), by repeat (first | exact Drawn0.refl _ | apply Drawn0.step)⟩

end Go.Proofs.Ytkckdibalopagaa.SFnTermsTold
