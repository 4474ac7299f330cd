-- Began as a print of the kit over stubs (wip/stub.py); the sections that are named OWN are this session's.
import Derived.Test.YtkckdibalopagaaSFnMakesx0
import Derived.Test.YtkckdibalopagaaSFnMakesx4
import Derived.Test.YtkckdibalopagaaSFnMakesx5
import Derived.Test.YtkckdibalopagaaQShort
namespace Go.Proofs.Ytkckdibalopagaa.SFnMakes
open Go.RowKit Go.Proofs.YtkckdibalopagaaW.PrintWords Go.Proofs.YtkckdibalopagaaW.PrintLast Go.Proofs.YtkckdibalopagaaW.PrintMore Go.Proofs.Ytkckdibalopagaa.Short
attribute [local go_sem] max2_int min2_int max_two min_two max_three min_three max_four min_four   -- for this text's walks alone
set_option linter.unusedVariables false
set_option linter.unusedSimpArgs false

/-! ### impl_hasB: function 87 -/
def impl_hasB.f (a0 : Int) : Option (Bool) := if a0 = 1 then (some false) else (if a0 = 3 then (some false) else (some (a0 != 6)))
set_option maxHeartbeats 8000000 in
set_option maxRecDepth 100000 in
theorem impl_hasB.calls (a0 : Int) (r : Bool) (w : World) (h : impl_hasB.f a0 = some r) :
  Calls Try.prog 87 #[.int .i64 a0] w fun e w' => e = .returned (.bool r) ∧ Drawn0 w w' := by
 have H : (if a0 = 1 then (some false) else (if a0 = 3 then (some false) else (some (a0 != 6)))) = some r := h
 clear h
 by_cases c2 : a0 = 1
 ·rw [if_pos c2] at H
  have c2b0 : (a0 == 1) = true := beq_iff_eq.mpr c2
  have c2b1 : (a0 != 1) = false := bne_eq_false_iff_eq.mpr c2
  clear c2
  obtain rfl := Option.some.inj H
  go_enter Try.func87, Try.ntmps87
  go_wp2
  go_ret
  exact ⟨by first | rfl | (simp; done) | (simp [*]; done), by repeat (first | exact Drawn0.refl _ | apply Drawn0.step)⟩
 ·rw [if_neg c2] at H
  have c2b0 : (a0 == 1) = false := beq_eq_false_iff_ne.mpr c2
  have c2b1 : (a0 != 1) = true := bne_iff_ne.mpr c2
  by_cases c3 : a0 = 3
  ·rw [if_pos c3] at H
   have c3b0 : (a0 == 3) = true := beq_iff_eq.mpr c3
   have c3b1 : (a0 != 3) = false := bne_eq_false_iff_eq.mpr c3
   clear c3
   obtain rfl := Option.some.inj H
   go_enter Try.func87, Try.ntmps87
   go_wp2
   go_ret
   exact ⟨by first | rfl | (simp; done) | (simp [*]; done), by repeat (first | exact Drawn0.refl _ | apply Drawn0.step)⟩
  ·rw [if_neg c3] at H
   have c3b0 : (a0 == 3) = false := beq_eq_false_iff_ne.mpr c3
   have c3b1 : (a0 != 3) = true := bne_iff_ne.mpr c3
   obtain rfl := Option.some.inj H
   go_enter Try.func87, Try.ntmps87
   go_wp2
   go_ret
   exact ⟨by first | rfl | (simp; done) | (simp [*]; done), by repeat (first | exact Drawn0.refl _ | apply Drawn0.step)⟩

/-! ### impl_SizeOf: OWN: function 30 -/
def impl_SizeOf.l0 : Nat → Int → List Int → List (S34) → Int → Int → Option (Int)
  | 0, _, _, _, _, _ => none
  | k + 1, x1, x5, x18, x19, x20 => if x20 < x19 then (if 0 ≤ x20 then (if x20 < (x18.length : Int) then ((impl_nodeRight.f k ((rd_T34 x18 x20).f0) ((rd_T34 x18 x20).f1) ((rd_T34 x18 x20).f2) ((rd_T34 x18 x20).f3) x20).bind fun t247 => (if t247 = true then (if ((rd_T34 x18 x20).f0) = 1 then ((impl_hasB.f ((rd_T34 x18 x20).f0)).bind fun t248 => (if t248 = true then (if 0 ≤ ((rd_T34 x18 x20).f3) then (if ((rd_T34 x18 x20).f3) < (x5.length : Int) then (if x5.length < 17592186044416 then (impl_SizeOf.l0 k x1 (x5 ++ [mn (wrap64 (1 + (rd x5 ((rd_T34 x18 x20).f3)))) 100000]) x18 x19 (wrap64 (x20 + 1))) else (none)) else (none)) else (none)) else (if x5.length < 17592186044416 then (impl_SizeOf.l0 k x1 (x5 ++ [mn 1 100000]) x18 x19 (wrap64 (x20 + 1))) else (none)))) else (if 0 ≤ ((rd_T34 x18 x20).f2) then (if ((rd_T34 x18 x20).f2) < (x5.length : Int) then ((impl_hasB.f ((rd_T34 x18 x20).f0)).bind fun t257 => (if t257 = true then (if 0 ≤ ((rd_T34 x18 x20).f3) then (if ((rd_T34 x18 x20).f3) < (x5.length : Int) then (if x5.length < 17592186044416 then (impl_SizeOf.l0 k x1 (x5 ++ [mn (wrap64 ((wrap64 (1 + (rd x5 ((rd_T34 x18 x20).f2)))) + (rd x5 ((rd_T34 x18 x20).f3)))) 100000]) x18 x19 (wrap64 (x20 + 1))) else (none)) else (none)) else (none)) else (if x5.length < 17592186044416 then (impl_SizeOf.l0 k x1 (x5 ++ [mn (wrap64 (1 + (rd x5 ((rd_T34 x18 x20).f2)))) 100000]) x18 x19 (wrap64 (x20 + 1))) else (none)))) else (none)) else (none))) else (some 0))) else (none)) else (none)) else (if 0 ≤ x1 then (if x1 < (x5.length : Int) then (some (rd x5 x1)) else (none)) else (none))
def impl_SizeOf.f (k : Nat) (l0_0 : List (S34)) (a1 : Int) : Option (Int) := (impl_hasNode.f l0_0 a1).bind fun t236 => (if t236 = true then (if 0 ≤ (wrap64 (a1 + 1)) then (if (wrap64 (a1 + 1)) ≤ (l0_0.length : Int) then ((some (l0_0.take ((wrap64 (a1 + 1)) : Int).toNat : List (S34))).bind fun y240 => (impl_SizeOf.l0 k a1 (([] : List Int)) y240 (y240.length : Int) 0)) else (none)) else (none)) else (some 0))
set_option maxHeartbeats 8000000 in
set_option maxRecDepth 100000 in
theorem impl_SizeOf.calls (k : Nat) (A0_0 : Option Addr) (c0_0 : Nat) (l0_0 : List (S34)) (a1 : Int) (r : Int) (w : World) (hr0_0 : Kd.C k34 w A0_0 l0_0.length l0_0) (hc0_0 : l0_0.length ≤ c0_0) (h : impl_SizeOf.f k l0_0 a1 = some r) :
  Calls Try.prog 30 #[.agg #[.slice A0_0 l0_0.length c0_0], .int .i64 a1] w fun e w' => e = .returned (.int .i64 r) ∧ Below w.heap.size w w' := by
 have hu26 := Try.underlying26
 have hu34 := Try.underlying34
 have HR0_0 := Aside0.mk hr0_0
 have HC0_0 := Aside0.mk hc0_0
 clear hr0_0 hc0_0
 have HB := Aside0.mk (Below.refl w.heap.size w)
 have H : ((impl_hasNode.f l0_0 a1).bind fun t236 => (if t236 = true then (if 0 ≤ (wrap64 (a1 + 1)) then (if (wrap64 (a1 + 1)) ≤ (l0_0.length : Int) then ((some (l0_0.take ((wrap64 (a1 + 1)) : Int).toNat : List (S34))).bind fun y240 => (impl_SizeOf.l0 k a1 (([] : List Int)) y240 (y240.length : Int) 0)) else (none)) else (none)) else (some 0))) = some r := h
 clear h
 replace H := Option.bind_eq_some_iff.mp H
 obtain ⟨t236, A30, H⟩ := H
 replace H : (if t236 = true then (if 0 ≤ (wrap64 (a1 + 1)) then (if (wrap64 (a1 + 1)) ≤ (l0_0.length : Int) then ((some (l0_0.take ((wrap64 (a1 + 1)) : Int).toNat : List (S34))).bind fun y240 => (impl_SizeOf.l0 k a1 (([] : List Int)) y240 (y240.length : Int) 0)) else (none)) else (none)) else (some 0)) = some r := H
 have A3 := Aside0.mk A30
 clear A30
 by_cases c4 : t236 = true
 ·subst c4
  have H1 : (if 0 ≤ (wrap64 (a1 + 1)) then (if (wrap64 (a1 + 1)) ≤ (l0_0.length : Int) then ((some (l0_0.take ((wrap64 (a1 + 1)) : Int).toNat : List (S34))).bind fun y240 => (impl_SizeOf.l0 k a1 (([] : List Int)) y240 (y240.length : Int) 0)) else (none)) else (none)) = some r := by rw [if_pos rfl] at H; exact H
  clear H
  have H := H1
  clear H1
  obtain ⟨y237, hy237⟩ : ∃ y_ : List Int, y_ = (([] : List Int)) := ⟨_, rfl⟩
  replace H : (if 0 ≤ (wrap64 (a1 + 1)) then (if (wrap64 (a1 + 1)) ≤ (l0_0.length : Int) then ((some (l0_0.take ((wrap64 (a1 + 1)) : Int).toNat : List (S34))).bind fun y240 => (impl_SizeOf.l0 k a1 y237 y240 (y240.length : Int) 0)) else (none)) else (none)) = some r := by first | (rw [hy237]; with_reducible exact H) | (have H2_ := (Option.bind_some _ _).symm.trans H; rw [hy237]; with_reducible exact H2_) | (have H2_ := (Option.bind_some _ _).symm.trans H; with_reducible exact H2_) | with_reducible exact H | (rw [hy237]; exact H) | exact H
  have Ny237 := Aside0.mk hy237
  clear hy237
  obtain ⟨ji5, hji5⟩ : ∃ j_ : Int, (wrap64 (a1 + 1)) = j_ := ⟨_, rfl⟩
  replace H : (if 0 ≤ (ji5) then (if (ji5) ≤ (l0_0.length : Int) then ((some (l0_0.take ((ji5) : Int).toNat : List (S34))).bind fun y240 => (impl_SizeOf.l0 k a1 y237 y240 (y240.length : Int) 0)) else (none)) else (none)) = some r := by first | (rw [hji5] at H; exact H) | (simp only [hji5] at H ⊢; exact H)
  (try rw [hji5] at A3)
  have hji5w : (IntKind.i64.wrap (a1 + 1)) = ji5 := (i64_w _).trans hji5
  by_cases c6 : 0 ≤ (ji5)
  ·rw [if_pos c6] at H
   have c6b0 := eq_true c6
   have c6b1 : decide (0 ≤ (ji5)) = true := decide_eq_true c6
   clear c6
   by_cases c7 : (ji5) ≤ (l0_0.length : Int)
   ·rw [if_pos c7] at H
    have c7b0 := eq_true c7
    have c7b1 : decide ((ji5) ≤ (l0_0.length : Int)) = true := decide_eq_true c7
    clear c7
    obtain ⟨y240, hy240⟩ : ∃ y_ : List (S34), y_ = (l0_0.take ((ji5) : Int).toNat) := ⟨_, rfl⟩
    replace H : (impl_SizeOf.l0 k a1 y237 y240 (y240.length : Int) 0) = some r := by first | (rw [hy240]; with_reducible exact H) | (have H2_ := (Option.bind_some _ _).symm.trans H; rw [hy240]; with_reducible exact H2_) | (have H2_ := (Option.bind_some _ _).symm.trans H; with_reducible exact H2_) | with_reducible exact H | (rw [hy240]; exact H) | exact H
    have Ny240 := Aside0.mk hy240
    clear hy240
    have H' := Aside0.mk H
    clear H
    go_enter Try.func30, Try.ntmps30
    go_wp2_with (first | ((with_reducible refine gate_dst (N := 2) rfl ?_); refine box_event ?hg (N := 2) ?hd (cs := #[.slice A0_0 l0_0.length c0_0]) (t := 26) ?hr ?_; (case hd => rfl); (case hg => rfl); (case hr => first | (go_simp; done) | (go_simp; rfl)); intro gb235 hg w8 hbox hb; have n0_ := Aside0.mk (below_step (bw HB.out) hb); have n1_ := Aside0.mk (hbox); have n2_ := Aside0.mk ((by rw [hg]; exact (below_size (bw HB.out)) : w.heap.size ≤ gb235)); have n3_ := Aside0.mk ((by rw [hg]; exact (below_size (bw HB.out)) : w.heap.size ≤ gb235)); clear HB; have HB := n0_; have BK235 := n1_; have GW235 := n2_; have GE235 := n3_; clear n0_ n1_ n2_ n3_ hb hbox hg; have hcz9_0 : w8.cell? ⟨gb235, 0, none⟩ = some (.slice A0_0 l0_0.length c0_0) := (blk_cell BK235.out 0).trans rfl; have hfz9_0 := blk_frozen BK235.out 0) | ((with_reducible refine gate_callee (f := 71) rfl ?_); refine goesL_ (some 11) rfl rfl Try.func71 (by kernel_rfl) rfl #[.agg #[.slice A0_0 l0_0.length c0_0], .int .i64 a1] rfl ar ?_; (with_reducible refine (impl_hasNode.calls _ _ l0_0 a1 true _ ?side1 ?side2 A3.out).mono ?_); (case side1 => exact cl (Kd.C_below HR0_0.out HB.out)); (case side2 => exact HC0_0.out); rintro e w10 ⟨rfl, hb⟩; refine ⟨_, rfl, ?_⟩; have n0_ := Aside0.mk (blk_below (g := gb235) (o := .cells #[.slice A0_0 l0_0.length c0_0] 26 (0, 0)) (bl BK235.out) hb); have n1_ := Aside0.mk (below_step (bw HB.out) hb); clear BK235 HB; have BK235 := n0_; have HB := n1_; clear n0_ n1_; (try clear hb); (try clear hb2); (try clear hk); (try clear hi)) | ((with_reducible refine gate_dst (N := 13) rfl ?_); refine Kd.R_lit (Kd.int .i64) _ 3 ?hg (N := 13) ?hd (xs := ([] : List Int)) (inner := []) (ok := fun _ => True) (okp := fun _ => True) ?hr ?hp (fun _ hk => hk) trivial (Below.refl _ _) (Nat.le_refl _) (by simp) ?_; (case hd => rfl); (case hg => rfl); (case hr => first | (go_simp; done) | (go_simp; rfl)); (case hp => exact (Reps.none _ _)); intro v238 w11 ho12 hb hg_ hnew_; clear hg_ hnew_; (first | rw [← Ny237.out] at ho12 | (simp only [Int.reduceToNat] at ho12; rw [← Ny237.out] at ho12)); have n0_ := Aside0.mk (Kd.R_lower ho12 (below_size (bw HB.out))); have n1_ := Aside0.mk (blk_below (g := gb235) (o := .cells #[.slice A0_0 l0_0.length c0_0] 26 (0, 0)) (bl BK235.out) hb); have n2_ := Aside0.mk (below_step (bw HB.out) hb); clear BK235 HB; have HO239 := n0_; have BK235 := n1_; have HB := n2_; clear n0_ n1_ n2_ hb ho12; have hcz13_0 : w11.cell? ⟨gb235, 0, none⟩ = some (.slice A0_0 l0_0.length c0_0) := (blk_cell BK235.out 0).trans rfl; have hfz13_0 := blk_frozen BK235.out 0; have q14 : ((ji5) : Int) ≤ ((l0_0.length : Int) : Int) := oda; obtain ⟨i014, hi014, _, hsz14, _⟩ := info_parts info34; have hroom14 : l0_0.length ≤ c0_0 := HC0_0.out; have hC14 : Kd.C k34 _ A0_0 l0_0.length l0_0 := HR0_0.out; have hcut14 := cut_to (P := Try.prog) 24 34 .i64 Try.underlying24 hi014 A0_0 l0_0.length c0_0 (ji5) (oda) q14 hroom14; have hr14 := Kd.C_take (m := ((ji5) : Int).toNat) hC14 (by omega); have hy14 : y240.length = ((ji5) : Int).toNat := (by rw [Ny240.out, List.length_take]; omega); rw [← Ny240.out] at hr14; rw [← hy14] at hcut14; have HR243 := Aside0.mk hr14; have HC243 := Aside0.mk (show y240.length ≤ c0_0 from by omega); clear hr14 hC14 hroom14 hi014 hsz14; have KY14 := Aside0.mk hy14; clear hy14; replace q14 := eq_true q14))
    go_loopg [5, 20] k (fun kq v5 v20 w' => ∃ (x5_1 : List Int) (x20_1 : Int), v20 = .int .i64 x20_1 ∧ Aside0 (impl_SizeOf.l0 kq a1 x5_1 y240 (y240.length : Int) x20_1 = some r) ∧ Aside0 (kq ≤ k) ∧ Aside0 (Kd.R (Kd.int .i64) 3 w' w.heap.size (fun _ => True) v5 x5_1) ∧ Aside0 (w'.heap[gb235]? = some (.cells #[(.slice A0_0 l0_0.length c0_0)] 26 (0, 0))) ∧ Aside0 (Below w.heap.size w w'))
    case atStart => exact ⟨(y237), (0), (by first | rfl | (simp; done) | (simp [*]; done)), H', ⟨Nat.le_refl _⟩, ⟨rl HO239.out⟩, ⟨bl BK235.out⟩, ⟨bw HB.out⟩⟩
    case round =>
     clear H'
     try clear q1
     try clear p2
     try clear c3
     try clear c4
     try clear c6
     try clear c6b0
     try clear c6b1
     try clear p6
     try clear c7
     try clear c7b0
     try clear c7b1
     try clear q14
     try clear hcz13_0
     try clear hcz9_0
     try clear hfz13_0
     try clear hfz9_0
     try clear q14
     obtain ⟨x5_1, x20_1, rfl, HA, HK1, HO_5, BK235, HB⟩ := hrel
     cases gk with
     | zero => exact absurd HA.out (by simp [impl_SizeOf.l0])
     | succ k1 =>
      have H := HA.out
      clear HA
      simp only [impl_SizeOf.l0] at H
      by_cases c15 : x20_1 < (y240.length : Int)
      ·rw [if_pos c15] at H
       have c15b0 : decide (x20_1 < (y240.length : Int)) = true := decide_eq_true c15
       clear c15
       by_cases c16 : 0 ≤ x20_1
       ·rw [if_pos c16] at H
        have c16b0 : decide (0 ≤ x20_1) = true := decide_eq_true c16
        clear c16
        by_cases c17 : x20_1 < (y240.length : Int)
        ·rw [if_pos c17] at H
         have c17b0 : decide (x20_1 < (y240.length : Int)) = true := decide_eq_true c17
         clear c17
         replace H := Option.bind_eq_some_iff.mp H
         obtain ⟨t247, A180, H⟩ := H
         replace H : (if t247 = true then (if ((rd_T34 y240 x20_1).f0) = 1 then ((impl_hasB.f ((rd_T34 y240 x20_1).f0)).bind fun t248 => (if t248 = true then (if 0 ≤ ((rd_T34 y240 x20_1).f3) then (if ((rd_T34 y240 x20_1).f3) < (x5_1.length : Int) then (if x5_1.length < 17592186044416 then (impl_SizeOf.l0 k1 a1 (x5_1 ++ [mn (wrap64 (1 + (rd x5_1 ((rd_T34 y240 x20_1).f3)))) 100000]) y240 (y240.length : Int) (wrap64 (x20_1 + 1))) else (none)) else (none)) else (none)) else (if x5_1.length < 17592186044416 then (impl_SizeOf.l0 k1 a1 (x5_1 ++ [mn 1 100000]) y240 (y240.length : Int) (wrap64 (x20_1 + 1))) else (none)))) else (if 0 ≤ ((rd_T34 y240 x20_1).f2) then (if ((rd_T34 y240 x20_1).f2) < (x5_1.length : Int) then ((impl_hasB.f ((rd_T34 y240 x20_1).f0)).bind fun t257 => (if t257 = true then (if 0 ≤ ((rd_T34 y240 x20_1).f3) then (if ((rd_T34 y240 x20_1).f3) < (x5_1.length : Int) then (if x5_1.length < 17592186044416 then (impl_SizeOf.l0 k1 a1 (x5_1 ++ [mn (wrap64 ((wrap64 (1 + (rd x5_1 ((rd_T34 y240 x20_1).f2)))) + (rd x5_1 ((rd_T34 y240 x20_1).f3)))) 100000]) y240 (y240.length : Int) (wrap64 (x20_1 + 1))) else (none)) else (none)) else (none)) else (if x5_1.length < 17592186044416 then (impl_SizeOf.l0 k1 a1 (x5_1 ++ [mn (wrap64 (1 + (rd x5_1 ((rd_T34 y240 x20_1).f2)))) 100000]) y240 (y240.length : Int) (wrap64 (x20_1 + 1))) else (none)))) else (none)) else (none))) else (some 0)) = some r := H
         have A18 := Aside0.mk A180
         clear A180
         by_cases c19 : t247 = true
         ·subst c19
          have H1 : (if ((rd_T34 y240 x20_1).f0) = 1 then ((impl_hasB.f ((rd_T34 y240 x20_1).f0)).bind fun t248 => (if t248 = true then (if 0 ≤ ((rd_T34 y240 x20_1).f3) then (if ((rd_T34 y240 x20_1).f3) < (x5_1.length : Int) then (if x5_1.length < 17592186044416 then (impl_SizeOf.l0 k1 a1 (x5_1 ++ [mn (wrap64 (1 + (rd x5_1 ((rd_T34 y240 x20_1).f3)))) 100000]) y240 (y240.length : Int) (wrap64 (x20_1 + 1))) else (none)) else (none)) else (none)) else (if x5_1.length < 17592186044416 then (impl_SizeOf.l0 k1 a1 (x5_1 ++ [mn 1 100000]) y240 (y240.length : Int) (wrap64 (x20_1 + 1))) else (none)))) else (if 0 ≤ ((rd_T34 y240 x20_1).f2) then (if ((rd_T34 y240 x20_1).f2) < (x5_1.length : Int) then ((impl_hasB.f ((rd_T34 y240 x20_1).f0)).bind fun t257 => (if t257 = true then (if 0 ≤ ((rd_T34 y240 x20_1).f3) then (if ((rd_T34 y240 x20_1).f3) < (x5_1.length : Int) then (if x5_1.length < 17592186044416 then (impl_SizeOf.l0 k1 a1 (x5_1 ++ [mn (wrap64 ((wrap64 (1 + (rd x5_1 ((rd_T34 y240 x20_1).f2)))) + (rd x5_1 ((rd_T34 y240 x20_1).f3)))) 100000]) y240 (y240.length : Int) (wrap64 (x20_1 + 1))) else (none)) else (none)) else (none)) else (if x5_1.length < 17592186044416 then (impl_SizeOf.l0 k1 a1 (x5_1 ++ [mn (wrap64 (1 + (rd x5_1 ((rd_T34 y240 x20_1).f2)))) 100000]) y240 (y240.length : Int) (wrap64 (x20_1 + 1))) else (none)))) else (none)) else (none))) = some r := by rw [if_pos rfl] at H; exact H
          clear H
          have H := H1
          clear H1
          by_cases c20 : ((rd_T34 y240 x20_1).f0) = 1
          ·rw [if_pos c20] at H
           have c20b0 : (((rd_T34 y240 x20_1).f0) == 1) = true := beq_iff_eq.mpr c20
           have c20b1 : (((rd_T34 y240 x20_1).f0) != 1) = false := bne_eq_false_iff_eq.mpr c20
           clear c20
           replace H := Option.bind_eq_some_iff.mp H
           obtain ⟨t248, A210, H⟩ := H
           replace H : (if t248 = true then (if 0 ≤ ((rd_T34 y240 x20_1).f3) then (if ((rd_T34 y240 x20_1).f3) < (x5_1.length : Int) then (if x5_1.length < 17592186044416 then (impl_SizeOf.l0 k1 a1 (x5_1 ++ [mn (wrap64 (1 + (rd x5_1 ((rd_T34 y240 x20_1).f3)))) 100000]) y240 (y240.length : Int) (wrap64 (x20_1 + 1))) else (none)) else (none)) else (none)) else (if x5_1.length < 17592186044416 then (impl_SizeOf.l0 k1 a1 (x5_1 ++ [mn 1 100000]) y240 (y240.length : Int) (wrap64 (x20_1 + 1))) else (none))) = some r := H
           have A21 := Aside0.mk A210
           clear A210
           by_cases c22 : t248 = true
           ·subst c22
            have H1 : (if 0 ≤ ((rd_T34 y240 x20_1).f3) then (if ((rd_T34 y240 x20_1).f3) < (x5_1.length : Int) then (if x5_1.length < 17592186044416 then (impl_SizeOf.l0 k1 a1 (x5_1 ++ [mn (wrap64 (1 + (rd x5_1 ((rd_T34 y240 x20_1).f3)))) 100000]) y240 (y240.length : Int) (wrap64 (x20_1 + 1))) else (none)) else (none)) else (none)) = some r := by rw [if_pos rfl] at H; exact H
            clear H
            have H := H1
            clear H1
            by_cases c23 : 0 ≤ ((rd_T34 y240 x20_1).f3)
            ·rw [if_pos c23] at H
             have c23b0 : decide (0 ≤ ((rd_T34 y240 x20_1).f3)) = true := decide_eq_true c23
             clear c23
             by_cases c24 : ((rd_T34 y240 x20_1).f3) < (x5_1.length : Int)
             ·rw [if_pos c24] at H
              have c24b0 : decide (((rd_T34 y240 x20_1).f3) < (x5_1.length : Int)) = true := decide_eq_true c24
              clear c24
              obtain ⟨ji25, hji25⟩ : ∃ j_ : Int, (mn (wrap64 (1 + (rd x5_1 ((rd_T34 y240 x20_1).f3)))) 100000) = j_ := ⟨_, rfl⟩
              replace H : (if x5_1.length < 17592186044416 then (impl_SizeOf.l0 k1 a1 (x5_1 ++ [ji25]) y240 (y240.length : Int) (wrap64 (x20_1 + 1))) else (none)) = some r := by first | (rw [hji25] at H; exact H) | (simp only [hji25] at H ⊢; exact H)
              (try rw [hji25] at A18)
              (try rw [hji25] at A21)
              have hji25_ : (if 100000 < (wrap64 (1 + (rd x5_1 ((rd_T34 y240 x20_1).f3)))) then 100000 else (wrap64 (1 + (rd x5_1 ((rd_T34 y240 x20_1).f3))))) = ji25 := hji25
              by_cases c26 : x5_1.length < 17592186044416
              ·rw [if_pos c26] at H
               have LMc26 := Aside0.mk c26
               clear c26
               obtain ⟨y250, hy250⟩ : ∃ y_ : List Int, y_ = (x5_1 ++ [ji25]) := ⟨_, rfl⟩
               replace H : (impl_SizeOf.l0 k1 a1 y250 y240 (y240.length : Int) (wrap64 (x20_1 + 1))) = some r := by first | (rw [hy250]; with_reducible exact H) | (have H2_ := (Option.bind_some _ _).symm.trans H; rw [hy250]; with_reducible exact H2_) | (have H2_ := (Option.bind_some _ _).symm.trans H; with_reducible exact H2_) | with_reducible exact H | (rw [hy250]; exact H) | exact H
               have Ny250 := Aside0.mk hy250
               clear hy250
               have H' := Aside0.mk H
               clear H
               have p245 : 0 ≤ (x20_1 : Int) := oda
               have q245 : x20_1 < (y240.length : Int) := oda
               obtain ⟨ad245, e245, hx245_0, hx245_1, hx245_2, hx245_3⟩ := at_T34 HR243.out x20_1 p245 q245
               cases e245
               replace hx245_0 := (HB.out.cell (World.block_lt_of_cell? w _ hx245_0)).trans hx245_0
               replace hx245_1 := (HB.out.cell (World.block_lt_of_cell? w _ hx245_1)).trans hx245_1
               replace hx245_2 := (HB.out.cell (World.block_lt_of_cell? w _ hx245_2)).trans hx245_2
               replace hx245_3 := (HB.out.cell (World.block_lt_of_cell? w _ hx245_3)).trans hx245_3
               replace p245 := eq_true p245
               replace q245 := eq_true q245
               go_wp2_with (first | ((with_reducible refine gate_dst (N := 7) rfl ?_); refine box_event ?hg (N := 7) ?hd (cs := #[.int .i64 0, .int .i64 0, .int .i64 0, .int .i64 0]) (t := 34) ?hr ?_; (case hd => rfl); (case hg => rfl); (case hr => first | (go_simp; done) | (go_simp; rfl)); intro gb246 hg w27 hbox hb; have n0_ := Aside0.mk (Kd.R_below (rl HO_5.out) hb); have n1_ := Aside0.mk (blk_below (g := gb235) (o := .cells #[.slice (some ad245) l0_0.length c0_0] 26 (0, 0)) (bl BK235.out) hb); have n2_ := Aside0.mk (below_step (bw HB.out) hb); have n3_ := Aside0.mk (hbox); have n4_ := Aside0.mk ((by rw [hg]; exact (below_size (bw HB.out)) : w.heap.size ≤ gb246)); have n5_ := Aside0.mk ((by rw [hg]; exact (below_size (bw HB.out)) : w.heap.size ≤ gb246)); have n6_ := Aside0.mk ((by rw [hg]; exact Nat.ne_of_lt (blk_lt (g := gb235) (o := .cells #[.slice (some ad245) l0_0.length c0_0] 26 (0, 0)) (bl BK235.out)) : gb235 ≠ gb246)); have n7_ := Aside0.mk ((by rw [hg]; exact Nat.ne_of_gt (blk_lt (g := gb235) (o := .cells #[.slice (some ad245) l0_0.length c0_0] 26 (0, 0)) (bl BK235.out)) : gb246 ≠ gb235)); clear HO_5 BK235 HB; have HO_5 := n0_; have BK235 := n1_; have HB := n2_; have BK246 := n3_; have GW246 := n4_; have GE246 := n5_; have NB235_246 := n6_; have NB246_235 := n7_; clear n0_ n1_ n2_ n3_ n4_ n5_ n6_ n7_ hb hbox hg; have hnb28 := NB246_235.out; have hnc28 := NB235_246.out; have hcz29_0 : w27.cell? ⟨gb246, 0, none⟩ = some (.int .i64 0) := (blk_cell BK246.out 0).trans rfl; have hcz29_1 : w27.cell? ⟨gb246, 1, none⟩ = some (.int .i64 0) := (blk_cell BK246.out 1).trans rfl; have hcz29_2 : w27.cell? ⟨gb246, 2, none⟩ = some (.int .i64 0) := (blk_cell BK246.out 2).trans rfl; have hcz29_3 : w27.cell? ⟨gb246, 3, none⟩ = some (.int .i64 0) := (blk_cell BK246.out 3).trans rfl; have hfz29_0 := blk_frozen BK246.out 0; have hfz29_1 := blk_frozen BK246.out 1; have hfz29_2 := blk_frozen BK246.out 2; have hfz29_3 := blk_frozen BK246.out 3) | ((with_reducible refine gate_callee (f := 84) rfl ?_); refine goesL_ (some 27) rfl rfl Try.func84 (by kernel_rfl) rfl #[.agg #[.int .i64 ((rd_T34 y240 x20_1).f0), .int .i64 ((rd_T34 y240 x20_1).f1), .int .i64 ((rd_T34 y240 x20_1).f2), .int .i64 ((rd_T34 y240 x20_1).f3)], .int .i64 x20_1] rfl ar ?_; (with_reducible refine (impl_nodeRight.calls k1 ((rd_T34 y240 x20_1).f0) ((rd_T34 y240 x20_1).f1) ((rd_T34 y240 x20_1).f2) ((rd_T34 y240 x20_1).f3) x20_1 true _ A18.out).mono ?_); rintro e w30 ⟨rfl, hb⟩; refine ⟨_, rfl, ?_⟩; have n0_ := Aside0.mk (Kd.R_below (by (with_reducible repeat (first | apply Kd.R_alloc | apply Kd.R_drewN | apply Kd.R_drew)); exact (Kd.R_mono (Kd.R_far (p := ⟨gb246, 3, none⟩) (Kd.R_far (p := ⟨gb246, 2, none⟩) (Kd.R_far (p := ⟨gb246, 1, none⟩) (Kd.R_far (p := ⟨gb246, 0, none⟩) (Kd.R_types HO_5.out BK246.out (by decide)) (fun _ hk => hk.2) (.int .i64 ((rd_T34 y240 x20_1).f0))) (fun _ hk => hk.2) (.int .i64 ((rd_T34 y240 x20_1).f1))) (fun _ hk => hk.2) (.int .i64 ((rd_T34 y240 x20_1).f2))) (fun _ hk => hk.2) (.int .i64 ((rd_T34 y240 x20_1).f3))) (fun _ h_ => h_.1))) hb); have n1_ := Aside0.mk (blk_below (g := gb235) (o := .cells #[.slice (some ad245) l0_0.length c0_0] 26 (0, 0)) (by (with_reducible repeat (first | refine blk_drewN ?_ _ | refine blk_drew ?_ | refine blk_alloc ?_ _)); refine blk_far ?_ NB235_246.out _; (with_reducible repeat (first | refine blk_drewN ?_ _ | refine blk_drew ?_ | refine blk_alloc ?_ _)); refine blk_far ?_ NB235_246.out _; (with_reducible repeat (first | refine blk_drewN ?_ _ | refine blk_drew ?_ | refine blk_alloc ?_ _)); refine blk_far ?_ NB235_246.out _; (with_reducible repeat (first | refine blk_drewN ?_ _ | refine blk_drew ?_ | refine blk_alloc ?_ _)); refine blk_far ?_ NB235_246.out _; (with_reducible repeat (first | refine blk_drewN ?_ _ | refine blk_drew ?_ | refine blk_alloc ?_ _)); exact BK235.out) hb); have n2_ := Aside0.mk (blk_below (g := gb246) (o := .cells #[.int .i64 ((rd_T34 y240 x20_1).f0), .int .i64 ((rd_T34 y240 x20_1).f1), .int .i64 ((rd_T34 y240 x20_1).f2), .int .i64 ((rd_T34 y240 x20_1).f3)] 34 (0, 0)) (by (with_reducible repeat (first | refine blk_drewN ?_ _ | refine blk_drew ?_ | refine blk_alloc ?_ _)); refine blk_put (cs := #[.int .i64 ((rd_T34 y240 x20_1).f0), .int .i64 ((rd_T34 y240 x20_1).f1), .int .i64 ((rd_T34 y240 x20_1).f2), .int .i64 0]) ?_ 3 _ rfl; (with_reducible repeat (first | refine blk_drewN ?_ _ | refine blk_drew ?_ | refine blk_alloc ?_ _)); refine blk_put (cs := #[.int .i64 ((rd_T34 y240 x20_1).f0), .int .i64 ((rd_T34 y240 x20_1).f1), .int .i64 0, .int .i64 0]) ?_ 2 _ rfl; (with_reducible repeat (first | refine blk_drewN ?_ _ | refine blk_drew ?_ | refine blk_alloc ?_ _)); refine blk_put (cs := #[.int .i64 ((rd_T34 y240 x20_1).f0), .int .i64 0, .int .i64 0, .int .i64 0]) ?_ 1 _ rfl; (with_reducible repeat (first | refine blk_drewN ?_ _ | refine blk_drew ?_ | refine blk_alloc ?_ _)); refine blk_put (cs := #[.int .i64 0, .int .i64 0, .int .i64 0, .int .i64 0]) ?_ 0 _ rfl; (with_reducible repeat (first | refine blk_drewN ?_ _ | refine blk_drew ?_ | refine blk_alloc ?_ _)); exact BK246.out) hb); have n3_ := Aside0.mk (below_step (bw HB.out) hb); clear HO_5 BK235 BK246 HB; have HO_5 := n0_; have BK235 := n1_; have BK246 := n2_; have HB := n3_; clear n0_ n1_ n2_ n3_; (try clear hb); (try clear hb2); (try clear hk); (try clear hi); have hcz31_0 : w30.cell? ⟨gb246, 0, none⟩ = some (.int .i64 ((rd_T34 y240 x20_1).f0)) := (blk_cell BK246.out 0).trans rfl; have hcz31_1 : w30.cell? ⟨gb246, 1, none⟩ = some (.int .i64 ((rd_T34 y240 x20_1).f1)) := (blk_cell BK246.out 1).trans rfl; have hcz31_2 : w30.cell? ⟨gb246, 2, none⟩ = some (.int .i64 ((rd_T34 y240 x20_1).f2)) := (blk_cell BK246.out 2).trans rfl; have hcz31_3 : w30.cell? ⟨gb246, 3, none⟩ = some (.int .i64 ((rd_T34 y240 x20_1).f3)) := (blk_cell BK246.out 3).trans rfl; have hfz31_0 := blk_frozen BK246.out 0; have hfz31_1 := blk_frozen BK246.out 1; have hfz31_2 := blk_frozen BK246.out 2; have hfz31_3 := blk_frozen BK246.out 3) | ((with_reducible refine gate_callee (f := 87) rfl ?_); refine goesL_ (some 41) rfl rfl Try.func87 (by kernel_rfl) rfl #[.int .i64 ((rd_T34 y240 x20_1).f0)] rfl ar ?_; (with_reducible refine (impl_hasB.calls ((rd_T34 y240 x20_1).f0) true _ A21.out).mono ?_); rintro e w' ⟨rfl, ⟨nd, rfl⟩⟩; refine ⟨_, rfl, ?_⟩; obtain ⟨Ao32, co32, eo32⟩ := Kd.R_slice HO_5.out; subst eo32; have p249 : 0 ≤ (((rd_T34 y240 x20_1).f3) : Int) := oda; have q249 : ((rd_T34 y240 x20_1).f3) < (x5_1.length : Int) := oda; obtain ⟨ad249, e249, hx249_0⟩ := Kd.at_int (Kd.R_reads' HO_5.out).2.2 ((rd_T34 y240 x20_1).f3) p249 q249; cases e249; replace p249 := eq_true p249; replace q249 := eq_true q249) | ((with_reducible refine gate_builtin (b := .append) (xs := #[.tmp 49, .tmp 52]) rfl ?_); at_builtin; refine Kd.R_append (Kd.int .i64) (w0 := w) w.heap.size rfl (.tmp 49) (.tmp 52) 27 3 (.int .i64 0) 8 rfl Try.underlying27 info3 rfl (by decide) (by omega) (.slice (some ad249) x5_1.length co32) x5_1 ji25 [.int .i64 ji25] (fun _ => True) (fun _ => False) rfl rfl ?aP (fun _ hk => hk.elim) ?aF ?aO ?aB ?aS ?aL ?_; (case aP => exact rfl); (case aB => exact (bw HB.out)); (case aF => exact (fun _ _ => trivial)); (case aO => exact (rl HO_5.out)); (case aS => exact (below_size (bw HB.out))); (case aL => have := LMc26.out; omega); intro v251 w33 ho hb hg hat; rw [← Ny250.out] at ho; have n0_ := Aside0.mk (blk_grown (g := gb235) (o := .cells #[.slice (some ad245) l0_0.length c0_0] 26 (0, 0)) (bl BK235.out) hg (Kd.R_ne HO_5.out BK235.out (by decide))); have n1_ := Aside0.mk (blk_grown (g := gb246) (o := .cells #[.int .i64 ((rd_T34 y240 x20_1).f0), .int .i64 ((rd_T34 y240 x20_1).f1), .int .i64 ((rd_T34 y240 x20_1).f2), .int .i64 ((rd_T34 y240 x20_1).f3)] 34 (0, 0)) (bl BK246.out) hg (Kd.R_ne HO_5.out BK246.out (by decide))); have n2_ := Aside0.mk (hb); have n3_ := Aside0.mk (ho); clear BK235 BK246 HB HO_5; have BK235 := n0_; have BK246 := n1_; have HB := n2_; have HO252 := n3_; clear n0_ n1_ n2_ n3_ ho hb hg hat))
               go_roundg k1
               case measure => have := HK1.out; omega
               case rel => exact ⟨(y250), (wrap64 (x20_1 + 1)), (by first | rfl | (simp; done) | (simp [*]; done)), H', ⟨by have := HK1.out; omega⟩, ⟨rl HO252.out⟩, ⟨bl BK235.out⟩, ⟨bw HB.out⟩⟩
              ·rw [if_neg c26] at H
               exact absurd H (by simp)
             ·rw [if_neg c24] at H
              exact absurd H (by simp)
            ·rw [if_neg c23] at H
             exact absurd H (by simp)
           ·replace c22 := Bool.eq_false_iff.mpr c22
            subst c22
            have H1 : (if x5_1.length < 17592186044416 then (impl_SizeOf.l0 k1 a1 (x5_1 ++ [mn 1 100000]) y240 (y240.length : Int) (wrap64 (x20_1 + 1))) else (none)) = some r := by rw [if_neg (show ¬ (false = true) by decide)] at H; exact H
            clear H
            have H := H1
            clear H1
            obtain ⟨ji34, hji34⟩ : ∃ j_ : Int, (mn 1 100000) = j_ := ⟨_, rfl⟩
            replace H : (if x5_1.length < 17592186044416 then (impl_SizeOf.l0 k1 a1 (x5_1 ++ [ji34]) y240 (y240.length : Int) (wrap64 (x20_1 + 1))) else (none)) = some r := by first | (rw [hji34] at H; exact H) | (simp only [hji34] at H ⊢; exact H)
            (try rw [hji34] at A18)
            (try rw [hji34] at A21)
            (try (have hji34h : ji34 ≤ 1 := by (rw [← hji34]; unfold mn; (repeat' split) <;> omega)))
            (try (have hji34g : ji34 ≤ 64 := by omega))
            (try (have hji34l : 1 ≤ ji34 := by (rw [← hji34]; unfold mn; (repeat' split) <;> omega)))
            (try (have hji34m : 0 ≤ ji34 := by omega))
            have hji34_ : (if 100000 < 1 then 100000 else 1) = ji34 := hji34
            have hji34o : ji34 = 1 := by rw [← hji34]; rfl
            subst hji34o
            by_cases c35 : x5_1.length < 17592186044416
            ·rw [if_pos c35] at H
             have LMc35 := Aside0.mk c35
             clear c35
             obtain ⟨y253, hy253⟩ : ∃ y_ : List Int, y_ = (x5_1 ++ [1]) := ⟨_, rfl⟩
             replace H : (impl_SizeOf.l0 k1 a1 y253 y240 (y240.length : Int) (wrap64 (x20_1 + 1))) = some r := by first | (rw [hy253]; with_reducible exact H) | (have H2_ := (Option.bind_some _ _).symm.trans H; rw [hy253]; with_reducible exact H2_) | (have H2_ := (Option.bind_some _ _).symm.trans H; with_reducible exact H2_) | with_reducible exact H | (rw [hy253]; exact H) | exact H
             have Ny253 := Aside0.mk hy253
             clear hy253
             have H' := Aside0.mk H
             clear H
             have p245 : 0 ≤ (x20_1 : Int) := oda
             have q245 : x20_1 < (y240.length : Int) := oda
             obtain ⟨ad245, e245, hx245_0, hx245_1, hx245_2, hx245_3⟩ := at_T34 HR243.out x20_1 p245 q245
             cases e245
             replace hx245_0 := (HB.out.cell (World.block_lt_of_cell? w _ hx245_0)).trans hx245_0
             replace hx245_1 := (HB.out.cell (World.block_lt_of_cell? w _ hx245_1)).trans hx245_1
             replace hx245_2 := (HB.out.cell (World.block_lt_of_cell? w _ hx245_2)).trans hx245_2
             replace hx245_3 := (HB.out.cell (World.block_lt_of_cell? w _ hx245_3)).trans hx245_3
             replace p245 := eq_true p245
             replace q245 := eq_true q245
             go_wp2_with (first | ((with_reducible refine gate_dst (N := 7) rfl ?_); refine box_event ?hg (N := 7) ?hd (cs := #[.int .i64 0, .int .i64 0, .int .i64 0, .int .i64 0]) (t := 34) ?hr ?_; (case hd => rfl); (case hg => rfl); (case hr => first | (go_simp; done) | (go_simp; rfl)); intro gb246 hg w36 hbox hb; have n0_ := Aside0.mk (Kd.R_below (rl HO_5.out) hb); have n1_ := Aside0.mk (blk_below (g := gb235) (o := .cells #[.slice (some ad245) l0_0.length c0_0] 26 (0, 0)) (bl BK235.out) hb); have n2_ := Aside0.mk (below_step (bw HB.out) hb); have n3_ := Aside0.mk (hbox); have n4_ := Aside0.mk ((by rw [hg]; exact (below_size (bw HB.out)) : w.heap.size ≤ gb246)); have n5_ := Aside0.mk ((by rw [hg]; exact (below_size (bw HB.out)) : w.heap.size ≤ gb246)); have n6_ := Aside0.mk ((by rw [hg]; exact Nat.ne_of_lt (blk_lt (g := gb235) (o := .cells #[.slice (some ad245) l0_0.length c0_0] 26 (0, 0)) (bl BK235.out)) : gb235 ≠ gb246)); have n7_ := Aside0.mk ((by rw [hg]; exact Nat.ne_of_gt (blk_lt (g := gb235) (o := .cells #[.slice (some ad245) l0_0.length c0_0] 26 (0, 0)) (bl BK235.out)) : gb246 ≠ gb235)); clear HO_5 BK235 HB; have HO_5 := n0_; have BK235 := n1_; have HB := n2_; have BK246 := n3_; have GW246 := n4_; have GE246 := n5_; have NB235_246 := n6_; have NB246_235 := n7_; clear n0_ n1_ n2_ n3_ n4_ n5_ n6_ n7_ hb hbox hg; have hnb37 := NB246_235.out; have hnc37 := NB235_246.out; have hcz38_0 : w36.cell? ⟨gb246, 0, none⟩ = some (.int .i64 0) := (blk_cell BK246.out 0).trans rfl; have hcz38_1 : w36.cell? ⟨gb246, 1, none⟩ = some (.int .i64 0) := (blk_cell BK246.out 1).trans rfl; have hcz38_2 : w36.cell? ⟨gb246, 2, none⟩ = some (.int .i64 0) := (blk_cell BK246.out 2).trans rfl; have hcz38_3 : w36.cell? ⟨gb246, 3, none⟩ = some (.int .i64 0) := (blk_cell BK246.out 3).trans rfl; have hfz38_0 := blk_frozen BK246.out 0; have hfz38_1 := blk_frozen BK246.out 1; have hfz38_2 := blk_frozen BK246.out 2; have hfz38_3 := blk_frozen BK246.out 3) | ((with_reducible refine gate_callee (f := 84) rfl ?_); refine goesL_ (some 27) rfl rfl Try.func84 (by kernel_rfl) rfl #[.agg #[.int .i64 ((rd_T34 y240 x20_1).f0), .int .i64 ((rd_T34 y240 x20_1).f1), .int .i64 ((rd_T34 y240 x20_1).f2), .int .i64 ((rd_T34 y240 x20_1).f3)], .int .i64 x20_1] rfl ar ?_; (with_reducible refine (impl_nodeRight.calls k1 ((rd_T34 y240 x20_1).f0) ((rd_T34 y240 x20_1).f1) ((rd_T34 y240 x20_1).f2) ((rd_T34 y240 x20_1).f3) x20_1 true _ A18.out).mono ?_); rintro e w39 ⟨rfl, hb⟩; refine ⟨_, rfl, ?_⟩; have n0_ := Aside0.mk (Kd.R_below (by (with_reducible repeat (first | apply Kd.R_alloc | apply Kd.R_drewN | apply Kd.R_drew)); exact (Kd.R_mono (Kd.R_far (p := ⟨gb246, 3, none⟩) (Kd.R_far (p := ⟨gb246, 2, none⟩) (Kd.R_far (p := ⟨gb246, 1, none⟩) (Kd.R_far (p := ⟨gb246, 0, none⟩) (Kd.R_types HO_5.out BK246.out (by decide)) (fun _ hk => hk.2) (.int .i64 ((rd_T34 y240 x20_1).f0))) (fun _ hk => hk.2) (.int .i64 ((rd_T34 y240 x20_1).f1))) (fun _ hk => hk.2) (.int .i64 ((rd_T34 y240 x20_1).f2))) (fun _ hk => hk.2) (.int .i64 ((rd_T34 y240 x20_1).f3))) (fun _ h_ => h_.1))) hb); have n1_ := Aside0.mk (blk_below (g := gb235) (o := .cells #[.slice (some ad245) l0_0.length c0_0] 26 (0, 0)) (by (with_reducible repeat (first | refine blk_drewN ?_ _ | refine blk_drew ?_ | refine blk_alloc ?_ _)); refine blk_far ?_ NB235_246.out _; (with_reducible repeat (first | refine blk_drewN ?_ _ | refine blk_drew ?_ | refine blk_alloc ?_ _)); refine blk_far ?_ NB235_246.out _; (with_reducible repeat (first | refine blk_drewN ?_ _ | refine blk_drew ?_ | refine blk_alloc ?_ _)); refine blk_far ?_ NB235_246.out _; (with_reducible repeat (first | refine blk_drewN ?_ _ | refine blk_drew ?_ | refine blk_alloc ?_ _)); refine blk_far ?_ NB235_246.out _; (with_reducible repeat (first | refine blk_drewN ?_ _ | refine blk_drew ?_ | refine blk_alloc ?_ _)); exact BK235.out) hb); have n2_ := Aside0.mk (blk_below (g := gb246) (o := .cells #[.int .i64 ((rd_T34 y240 x20_1).f0), .int .i64 ((rd_T34 y240 x20_1).f1), .int .i64 ((rd_T34 y240 x20_1).f2), .int .i64 ((rd_T34 y240 x20_1).f3)] 34 (0, 0)) (by (with_reducible repeat (first | refine blk_drewN ?_ _ | refine blk_drew ?_ | refine blk_alloc ?_ _)); refine blk_put (cs := #[.int .i64 ((rd_T34 y240 x20_1).f0), .int .i64 ((rd_T34 y240 x20_1).f1), .int .i64 ((rd_T34 y240 x20_1).f2), .int .i64 0]) ?_ 3 _ rfl; (with_reducible repeat (first | refine blk_drewN ?_ _ | refine blk_drew ?_ | refine blk_alloc ?_ _)); refine blk_put (cs := #[.int .i64 ((rd_T34 y240 x20_1).f0), .int .i64 ((rd_T34 y240 x20_1).f1), .int .i64 0, .int .i64 0]) ?_ 2 _ rfl; (with_reducible repeat (first | refine blk_drewN ?_ _ | refine blk_drew ?_ | refine blk_alloc ?_ _)); refine blk_put (cs := #[.int .i64 ((rd_T34 y240 x20_1).f0), .int .i64 0, .int .i64 0, .int .i64 0]) ?_ 1 _ rfl; (with_reducible repeat (first | refine blk_drewN ?_ _ | refine blk_drew ?_ | refine blk_alloc ?_ _)); refine blk_put (cs := #[.int .i64 0, .int .i64 0, .int .i64 0, .int .i64 0]) ?_ 0 _ rfl; (with_reducible repeat (first | refine blk_drewN ?_ _ | refine blk_drew ?_ | refine blk_alloc ?_ _)); exact BK246.out) hb); have n3_ := Aside0.mk (below_step (bw HB.out) hb); clear HO_5 BK235 BK246 HB; have HO_5 := n0_; have BK235 := n1_; have BK246 := n2_; have HB := n3_; clear n0_ n1_ n2_ n3_; (try clear hb); (try clear hb2); (try clear hk); (try clear hi); have hcz40_0 : w39.cell? ⟨gb246, 0, none⟩ = some (.int .i64 ((rd_T34 y240 x20_1).f0)) := (blk_cell BK246.out 0).trans rfl; have hcz40_1 : w39.cell? ⟨gb246, 1, none⟩ = some (.int .i64 ((rd_T34 y240 x20_1).f1)) := (blk_cell BK246.out 1).trans rfl; have hcz40_2 : w39.cell? ⟨gb246, 2, none⟩ = some (.int .i64 ((rd_T34 y240 x20_1).f2)) := (blk_cell BK246.out 2).trans rfl; have hcz40_3 : w39.cell? ⟨gb246, 3, none⟩ = some (.int .i64 ((rd_T34 y240 x20_1).f3)) := (blk_cell BK246.out 3).trans rfl; have hfz40_0 := blk_frozen BK246.out 0; have hfz40_1 := blk_frozen BK246.out 1; have hfz40_2 := blk_frozen BK246.out 2; have hfz40_3 := blk_frozen BK246.out 3) | ((with_reducible refine gate_callee (f := 87) rfl ?_); refine goesL_ (some 41) rfl rfl Try.func87 (by kernel_rfl) rfl #[.int .i64 ((rd_T34 y240 x20_1).f0)] rfl ar ?_; (with_reducible refine (impl_hasB.calls ((rd_T34 y240 x20_1).f0) false _ A21.out).mono ?_); rintro e w' ⟨rfl, ⟨nd, rfl⟩⟩; refine ⟨_, rfl, ?_⟩) | ((with_reducible refine gate_builtin (b := .append) (xs := #[.tmp 49, .tmp 52]) rfl ?_); at_builtin; refine Kd.R_append (Kd.int .i64) (w0 := w) w.heap.size rfl (.tmp 49) (.tmp 52) 27 3 (.int .i64 0) 8 rfl Try.underlying27 info3 rfl (by decide) (by omega) u5 x5_1 1 [.int .i64 1] (fun _ => True) (fun _ => False) rfl rfl ?aP (fun _ hk => hk.elim) ?aF ?aO ?aB ?aS ?aL ?_; (case aP => exact rfl); (case aB => exact (bw HB.out)); (case aF => exact (fun _ _ => trivial)); (case aO => exact (rl HO_5.out)); (case aS => exact (below_size (bw HB.out))); (case aL => have := LMc35.out; omega); intro v254 w41 ho hb hg hat; rw [← Ny253.out] at ho; have n0_ := Aside0.mk (blk_grown (g := gb235) (o := .cells #[.slice (some ad245) l0_0.length c0_0] 26 (0, 0)) (bl BK235.out) hg (Kd.R_ne HO_5.out BK235.out (by decide))); have n1_ := Aside0.mk (blk_grown (g := gb246) (o := .cells #[.int .i64 ((rd_T34 y240 x20_1).f0), .int .i64 ((rd_T34 y240 x20_1).f1), .int .i64 ((rd_T34 y240 x20_1).f2), .int .i64 ((rd_T34 y240 x20_1).f3)] 34 (0, 0)) (bl BK246.out) hg (Kd.R_ne HO_5.out BK246.out (by decide))); have n2_ := Aside0.mk (hb); have n3_ := Aside0.mk (ho); clear BK235 BK246 HB HO_5; have BK235 := n0_; have BK246 := n1_; have HB := n2_; have HO255 := n3_; clear n0_ n1_ n2_ n3_ ho hb hg hat))
             go_roundg k1
             case measure => have := HK1.out; omega
             case rel => exact ⟨(y253), (wrap64 (x20_1 + 1)), (by first | rfl | (simp; done) | (simp [*]; done)), H', ⟨by have := HK1.out; omega⟩, ⟨rl HO255.out⟩, ⟨bl BK235.out⟩, ⟨bw HB.out⟩⟩
            ·rw [if_neg c35] at H
             exact absurd H (by simp)
          ·rw [if_neg c20] at H
           have c20b0 : (((rd_T34 y240 x20_1).f0) == 1) = false := beq_eq_false_iff_ne.mpr c20
           have c20b1 : (((rd_T34 y240 x20_1).f0) != 1) = true := bne_iff_ne.mpr c20
           by_cases c42 : 0 ≤ ((rd_T34 y240 x20_1).f2)
           ·rw [if_pos c42] at H
            have c42b0 : decide (0 ≤ ((rd_T34 y240 x20_1).f2)) = true := decide_eq_true c42
            clear c42
            by_cases c43 : ((rd_T34 y240 x20_1).f2) < (x5_1.length : Int)
            ·rw [if_pos c43] at H
             have c43b0 : decide (((rd_T34 y240 x20_1).f2) < (x5_1.length : Int)) = true := decide_eq_true c43
             clear c43
             replace H := Option.bind_eq_some_iff.mp H
             obtain ⟨t257, A440, H⟩ := H
             replace H : (if t257 = true then (if 0 ≤ ((rd_T34 y240 x20_1).f3) then (if ((rd_T34 y240 x20_1).f3) < (x5_1.length : Int) then (if x5_1.length < 17592186044416 then (impl_SizeOf.l0 k1 a1 (x5_1 ++ [mn (wrap64 ((wrap64 (1 + (rd x5_1 ((rd_T34 y240 x20_1).f2)))) + (rd x5_1 ((rd_T34 y240 x20_1).f3)))) 100000]) y240 (y240.length : Int) (wrap64 (x20_1 + 1))) else (none)) else (none)) else (none)) else (if x5_1.length < 17592186044416 then (impl_SizeOf.l0 k1 a1 (x5_1 ++ [mn (wrap64 (1 + (rd x5_1 ((rd_T34 y240 x20_1).f2)))) 100000]) y240 (y240.length : Int) (wrap64 (x20_1 + 1))) else (none))) = some r := H
             have A44 := Aside0.mk A440
             clear A440
             by_cases c45 : t257 = true
             ·subst c45
              have H1 : (if 0 ≤ ((rd_T34 y240 x20_1).f3) then (if ((rd_T34 y240 x20_1).f3) < (x5_1.length : Int) then (if x5_1.length < 17592186044416 then (impl_SizeOf.l0 k1 a1 (x5_1 ++ [mn (wrap64 ((wrap64 (1 + (rd x5_1 ((rd_T34 y240 x20_1).f2)))) + (rd x5_1 ((rd_T34 y240 x20_1).f3)))) 100000]) y240 (y240.length : Int) (wrap64 (x20_1 + 1))) else (none)) else (none)) else (none)) = some r := by rw [if_pos rfl] at H; exact H
              clear H
              have H := H1
              clear H1
              by_cases c46 : 0 ≤ ((rd_T34 y240 x20_1).f3)
              ·rw [if_pos c46] at H
               have c46b0 : decide (0 ≤ ((rd_T34 y240 x20_1).f3)) = true := decide_eq_true c46
               clear c46
               by_cases c47 : ((rd_T34 y240 x20_1).f3) < (x5_1.length : Int)
               ·rw [if_pos c47] at H
                have c47b0 : decide (((rd_T34 y240 x20_1).f3) < (x5_1.length : Int)) = true := decide_eq_true c47
                clear c47
                obtain ⟨ji48, hji48⟩ : ∃ j_ : Int, (mn (wrap64 ((wrap64 (1 + (rd x5_1 ((rd_T34 y240 x20_1).f2)))) + (rd x5_1 ((rd_T34 y240 x20_1).f3)))) 100000) = j_ := ⟨_, rfl⟩
                replace H : (if x5_1.length < 17592186044416 then (impl_SizeOf.l0 k1 a1 (x5_1 ++ [ji48]) y240 (y240.length : Int) (wrap64 (x20_1 + 1))) else (none)) = some r := by first | (rw [hji48] at H; exact H) | (simp only [hji48] at H ⊢; exact H)
                (try rw [hji48] at A18)
                (try rw [hji48] at A44)
                have hji48_ : (if 100000 < (wrap64 ((wrap64 (1 + (rd x5_1 ((rd_T34 y240 x20_1).f2)))) + (rd x5_1 ((rd_T34 y240 x20_1).f3)))) then 100000 else (wrap64 ((wrap64 (1 + (rd x5_1 ((rd_T34 y240 x20_1).f2)))) + (rd x5_1 ((rd_T34 y240 x20_1).f3))))) = ji48 := hji48
                by_cases c49 : x5_1.length < 17592186044416
                ·rw [if_pos c49] at H
                 have LMc49 := Aside0.mk c49
                 clear c49
                 obtain ⟨y259, hy259⟩ : ∃ y_ : List Int, y_ = (x5_1 ++ [ji48]) := ⟨_, rfl⟩
                 replace H : (impl_SizeOf.l0 k1 a1 y259 y240 (y240.length : Int) (wrap64 (x20_1 + 1))) = some r := by first | (rw [hy259]; with_reducible exact H) | (have H2_ := (Option.bind_some _ _).symm.trans H; rw [hy259]; with_reducible exact H2_) | (have H2_ := (Option.bind_some _ _).symm.trans H; with_reducible exact H2_) | with_reducible exact H | (rw [hy259]; exact H) | exact H
                 have Ny259 := Aside0.mk hy259
                 clear hy259
                 have H' := Aside0.mk H
                 clear H
                 have p245 : 0 ≤ (x20_1 : Int) := oda
                 have q245 : x20_1 < (y240.length : Int) := oda
                 obtain ⟨ad245, e245, hx245_0, hx245_1, hx245_2, hx245_3⟩ := at_T34 HR243.out x20_1 p245 q245
                 cases e245
                 replace hx245_0 := (HB.out.cell (World.block_lt_of_cell? w _ hx245_0)).trans hx245_0
                 replace hx245_1 := (HB.out.cell (World.block_lt_of_cell? w _ hx245_1)).trans hx245_1
                 replace hx245_2 := (HB.out.cell (World.block_lt_of_cell? w _ hx245_2)).trans hx245_2
                 replace hx245_3 := (HB.out.cell (World.block_lt_of_cell? w _ hx245_3)).trans hx245_3
                 replace p245 := eq_true p245
                 replace q245 := eq_true q245
                 go_wp2_with (first | ((with_reducible refine gate_dst (N := 7) rfl ?_); refine box_event ?hg (N := 7) ?hd (cs := #[.int .i64 0, .int .i64 0, .int .i64 0, .int .i64 0]) (t := 34) ?hr ?_; (case hd => rfl); (case hg => rfl); (case hr => first | (go_simp; done) | (go_simp; rfl)); intro gb246 hg w50 hbox hb; have n0_ := Aside0.mk (Kd.R_below (rl HO_5.out) hb); have n1_ := Aside0.mk (blk_below (g := gb235) (o := .cells #[.slice (some ad245) l0_0.length c0_0] 26 (0, 0)) (bl BK235.out) hb); have n2_ := Aside0.mk (below_step (bw HB.out) hb); have n3_ := Aside0.mk (hbox); have n4_ := Aside0.mk ((by rw [hg]; exact (below_size (bw HB.out)) : w.heap.size ≤ gb246)); have n5_ := Aside0.mk ((by rw [hg]; exact (below_size (bw HB.out)) : w.heap.size ≤ gb246)); have n6_ := Aside0.mk ((by rw [hg]; exact Nat.ne_of_lt (blk_lt (g := gb235) (o := .cells #[.slice (some ad245) l0_0.length c0_0] 26 (0, 0)) (bl BK235.out)) : gb235 ≠ gb246)); have n7_ := Aside0.mk ((by rw [hg]; exact Nat.ne_of_gt (blk_lt (g := gb235) (o := .cells #[.slice (some ad245) l0_0.length c0_0] 26 (0, 0)) (bl BK235.out)) : gb246 ≠ gb235)); clear HO_5 BK235 HB; have HO_5 := n0_; have BK235 := n1_; have HB := n2_; have BK246 := n3_; have GW246 := n4_; have GE246 := n5_; have NB235_246 := n6_; have NB246_235 := n7_; clear n0_ n1_ n2_ n3_ n4_ n5_ n6_ n7_ hb hbox hg; have hnb51 := NB246_235.out; have hnc51 := NB235_246.out; have hcz52_0 : w50.cell? ⟨gb246, 0, none⟩ = some (.int .i64 0) := (blk_cell BK246.out 0).trans rfl; have hcz52_1 : w50.cell? ⟨gb246, 1, none⟩ = some (.int .i64 0) := (blk_cell BK246.out 1).trans rfl; have hcz52_2 : w50.cell? ⟨gb246, 2, none⟩ = some (.int .i64 0) := (blk_cell BK246.out 2).trans rfl; have hcz52_3 : w50.cell? ⟨gb246, 3, none⟩ = some (.int .i64 0) := (blk_cell BK246.out 3).trans rfl; have hfz52_0 := blk_frozen BK246.out 0; have hfz52_1 := blk_frozen BK246.out 1; have hfz52_2 := blk_frozen BK246.out 2; have hfz52_3 := blk_frozen BK246.out 3) | ((with_reducible refine gate_callee (f := 84) rfl ?_); refine goesL_ (some 27) rfl rfl Try.func84 (by kernel_rfl) rfl #[.agg #[.int .i64 ((rd_T34 y240 x20_1).f0), .int .i64 ((rd_T34 y240 x20_1).f1), .int .i64 ((rd_T34 y240 x20_1).f2), .int .i64 ((rd_T34 y240 x20_1).f3)], .int .i64 x20_1] rfl ar ?_; (with_reducible refine (impl_nodeRight.calls k1 ((rd_T34 y240 x20_1).f0) ((rd_T34 y240 x20_1).f1) ((rd_T34 y240 x20_1).f2) ((rd_T34 y240 x20_1).f3) x20_1 true _ A18.out).mono ?_); rintro e w53 ⟨rfl, hb⟩; refine ⟨_, rfl, ?_⟩; have n0_ := Aside0.mk (Kd.R_below (by (with_reducible repeat (first | apply Kd.R_alloc | apply Kd.R_drewN | apply Kd.R_drew)); exact (Kd.R_mono (Kd.R_far (p := ⟨gb246, 3, none⟩) (Kd.R_far (p := ⟨gb246, 2, none⟩) (Kd.R_far (p := ⟨gb246, 1, none⟩) (Kd.R_far (p := ⟨gb246, 0, none⟩) (Kd.R_types HO_5.out BK246.out (by decide)) (fun _ hk => hk.2) (.int .i64 ((rd_T34 y240 x20_1).f0))) (fun _ hk => hk.2) (.int .i64 ((rd_T34 y240 x20_1).f1))) (fun _ hk => hk.2) (.int .i64 ((rd_T34 y240 x20_1).f2))) (fun _ hk => hk.2) (.int .i64 ((rd_T34 y240 x20_1).f3))) (fun _ h_ => h_.1))) hb); have n1_ := Aside0.mk (blk_below (g := gb235) (o := .cells #[.slice (some ad245) l0_0.length c0_0] 26 (0, 0)) (by (with_reducible repeat (first | refine blk_drewN ?_ _ | refine blk_drew ?_ | refine blk_alloc ?_ _)); refine blk_far ?_ NB235_246.out _; (with_reducible repeat (first | refine blk_drewN ?_ _ | refine blk_drew ?_ | refine blk_alloc ?_ _)); refine blk_far ?_ NB235_246.out _; (with_reducible repeat (first | refine blk_drewN ?_ _ | refine blk_drew ?_ | refine blk_alloc ?_ _)); refine blk_far ?_ NB235_246.out _; (with_reducible repeat (first | refine blk_drewN ?_ _ | refine blk_drew ?_ | refine blk_alloc ?_ _)); refine blk_far ?_ NB235_246.out _; (with_reducible repeat (first | refine blk_drewN ?_ _ | refine blk_drew ?_ | refine blk_alloc ?_ _)); exact BK235.out) hb); have n2_ := Aside0.mk (blk_below (g := gb246) (o := .cells #[.int .i64 ((rd_T34 y240 x20_1).f0), .int .i64 ((rd_T34 y240 x20_1).f1), .int .i64 ((rd_T34 y240 x20_1).f2), .int .i64 ((rd_T34 y240 x20_1).f3)] 34 (0, 0)) (by (with_reducible repeat (first | refine blk_drewN ?_ _ | refine blk_drew ?_ | refine blk_alloc ?_ _)); refine blk_put (cs := #[.int .i64 ((rd_T34 y240 x20_1).f0), .int .i64 ((rd_T34 y240 x20_1).f1), .int .i64 ((rd_T34 y240 x20_1).f2), .int .i64 0]) ?_ 3 _ rfl; (with_reducible repeat (first | refine blk_drewN ?_ _ | refine blk_drew ?_ | refine blk_alloc ?_ _)); refine blk_put (cs := #[.int .i64 ((rd_T34 y240 x20_1).f0), .int .i64 ((rd_T34 y240 x20_1).f1), .int .i64 0, .int .i64 0]) ?_ 2 _ rfl; (with_reducible repeat (first | refine blk_drewN ?_ _ | refine blk_drew ?_ | refine blk_alloc ?_ _)); refine blk_put (cs := #[.int .i64 ((rd_T34 y240 x20_1).f0), .int .i64 0, .int .i64 0, .int .i64 0]) ?_ 1 _ rfl; (with_reducible repeat (first | refine blk_drewN ?_ _ | refine blk_drew ?_ | refine blk_alloc ?_ _)); refine blk_put (cs := #[.int .i64 0, .int .i64 0, .int .i64 0, .int .i64 0]) ?_ 0 _ rfl; (with_reducible repeat (first | refine blk_drewN ?_ _ | refine blk_drew ?_ | refine blk_alloc ?_ _)); exact BK246.out) hb); have n3_ := Aside0.mk (below_step (bw HB.out) hb); clear HO_5 BK235 BK246 HB; have HO_5 := n0_; have BK235 := n1_; have BK246 := n2_; have HB := n3_; clear n0_ n1_ n2_ n3_; (try clear hb); (try clear hb2); (try clear hk); (try clear hi); have hcz54_0 : w53.cell? ⟨gb246, 0, none⟩ = some (.int .i64 ((rd_T34 y240 x20_1).f0)) := (blk_cell BK246.out 0).trans rfl; have hcz54_1 : w53.cell? ⟨gb246, 1, none⟩ = some (.int .i64 ((rd_T34 y240 x20_1).f1)) := (blk_cell BK246.out 1).trans rfl; have hcz54_2 : w53.cell? ⟨gb246, 2, none⟩ = some (.int .i64 ((rd_T34 y240 x20_1).f2)) := (blk_cell BK246.out 2).trans rfl; have hcz54_3 : w53.cell? ⟨gb246, 3, none⟩ = some (.int .i64 ((rd_T34 y240 x20_1).f3)) := (blk_cell BK246.out 3).trans rfl; have hfz54_0 := blk_frozen BK246.out 0; have hfz54_1 := blk_frozen BK246.out 1; have hfz54_2 := blk_frozen BK246.out 2; have hfz54_3 := blk_frozen BK246.out 3; obtain ⟨Ao55, co55, eo55⟩ := Kd.R_slice HO_5.out; subst eo55; have p256 : 0 ≤ (((rd_T34 y240 x20_1).f2) : Int) := oda; have q256 : ((rd_T34 y240 x20_1).f2) < (x5_1.length : Int) := oda; obtain ⟨ad256, e256, hx256_0⟩ := Kd.at_int (Kd.R_reads' HO_5.out).2.2 ((rd_T34 y240 x20_1).f2) p256 q256; cases e256; replace p256 := eq_true p256; replace q256 := eq_true q256) | ((with_reducible refine gate_callee (f := 87) rfl ?_); refine goesL_ (some 41) rfl rfl Try.func87 (by kernel_rfl) rfl #[.int .i64 ((rd_T34 y240 x20_1).f0)] rfl ar ?_; (with_reducible refine (impl_hasB.calls ((rd_T34 y240 x20_1).f0) true _ A44.out).mono ?_); rintro e w' ⟨rfl, ⟨nd, rfl⟩⟩; refine ⟨_, rfl, ?_⟩; have p258 : 0 ≤ (((rd_T34 y240 x20_1).f3) : Int) := oda; have q258 : ((rd_T34 y240 x20_1).f3) < (x5_1.length : Int) := oda; obtain ⟨ad258, e258, hx258_0⟩ := Kd.at_int (Kd.R_reads' HO_5.out).2.2 ((rd_T34 y240 x20_1).f3) p258 q258; obtain rfl : ad256 = ad258 := (by injection e258); replace p258 := eq_true p258; replace q258 := eq_true q258) | ((with_reducible refine gate_builtin (b := .append) (xs := #[.tmp 49, .tmp 52]) rfl ?_); at_builtin; refine Kd.R_append (Kd.int .i64) (w0 := w) w.heap.size rfl (.tmp 49) (.tmp 52) 27 3 (.int .i64 0) 8 rfl Try.underlying27 info3 rfl (by decide) (by omega) (.slice (some ad256) x5_1.length co55) x5_1 ji48 [.int .i64 ji48] (fun _ => True) (fun _ => False) rfl rfl ?aP (fun _ hk => hk.elim) ?aF ?aO ?aB ?aS ?aL ?_; (case aP => exact rfl); (case aB => exact (bw HB.out)); (case aF => exact (fun _ _ => trivial)); (case aO => exact (rl HO_5.out)); (case aS => exact (below_size (bw HB.out))); (case aL => have := LMc49.out; omega); intro v260 w56 ho hb hg hat; rw [← Ny259.out] at ho; have n0_ := Aside0.mk (blk_grown (g := gb235) (o := .cells #[.slice (some ad245) l0_0.length c0_0] 26 (0, 0)) (bl BK235.out) hg (Kd.R_ne HO_5.out BK235.out (by decide))); have n1_ := Aside0.mk (blk_grown (g := gb246) (o := .cells #[.int .i64 ((rd_T34 y240 x20_1).f0), .int .i64 ((rd_T34 y240 x20_1).f1), .int .i64 ((rd_T34 y240 x20_1).f2), .int .i64 ((rd_T34 y240 x20_1).f3)] 34 (0, 0)) (bl BK246.out) hg (Kd.R_ne HO_5.out BK246.out (by decide))); have n2_ := Aside0.mk (hb); have n3_ := Aside0.mk (ho); clear BK235 BK246 HB HO_5; have BK235 := n0_; have BK246 := n1_; have HB := n2_; have HO261 := n3_; clear n0_ n1_ n2_ n3_ ho hb hg hat))
                 go_roundg k1
                 case measure => have := HK1.out; omega
                 case rel => exact ⟨(y259), (wrap64 (x20_1 + 1)), (by first | rfl | (simp; done) | (simp [*]; done)), H', ⟨by have := HK1.out; omega⟩, ⟨rl HO261.out⟩, ⟨bl BK235.out⟩, ⟨bw HB.out⟩⟩
                ·rw [if_neg c49] at H
                 exact absurd H (by simp)
               ·rw [if_neg c47] at H
                exact absurd H (by simp)
              ·rw [if_neg c46] at H
               exact absurd H (by simp)
             ·replace c45 := Bool.eq_false_iff.mpr c45
              subst c45
              have H1 : (if x5_1.length < 17592186044416 then (impl_SizeOf.l0 k1 a1 (x5_1 ++ [mn (wrap64 (1 + (rd x5_1 ((rd_T34 y240 x20_1).f2)))) 100000]) y240 (y240.length : Int) (wrap64 (x20_1 + 1))) else (none)) = some r := by rw [if_neg (show ¬ (false = true) by decide)] at H; exact H
              clear H
              have H := H1
              clear H1
              obtain ⟨ji57, hji57⟩ : ∃ j_ : Int, (mn (wrap64 (1 + (rd x5_1 ((rd_T34 y240 x20_1).f2)))) 100000) = j_ := ⟨_, rfl⟩
              replace H : (if x5_1.length < 17592186044416 then (impl_SizeOf.l0 k1 a1 (x5_1 ++ [ji57]) y240 (y240.length : Int) (wrap64 (x20_1 + 1))) else (none)) = some r := by first | (rw [hji57] at H; exact H) | (simp only [hji57] at H ⊢; exact H)
              (try rw [hji57] at A18)
              (try rw [hji57] at A44)
              have hji57_ : (if 100000 < (wrap64 (1 + (rd x5_1 ((rd_T34 y240 x20_1).f2)))) then 100000 else (wrap64 (1 + (rd x5_1 ((rd_T34 y240 x20_1).f2))))) = ji57 := hji57
              by_cases c58 : x5_1.length < 17592186044416
              ·rw [if_pos c58] at H
               have LMc58 := Aside0.mk c58
               clear c58
               obtain ⟨y262, hy262⟩ : ∃ y_ : List Int, y_ = (x5_1 ++ [ji57]) := ⟨_, rfl⟩
               replace H : (impl_SizeOf.l0 k1 a1 y262 y240 (y240.length : Int) (wrap64 (x20_1 + 1))) = some r := by first | (rw [hy262]; with_reducible exact H) | (have H2_ := (Option.bind_some _ _).symm.trans H; rw [hy262]; with_reducible exact H2_) | (have H2_ := (Option.bind_some _ _).symm.trans H; with_reducible exact H2_) | with_reducible exact H | (rw [hy262]; exact H) | exact H
               have Ny262 := Aside0.mk hy262
               clear hy262
               have H' := Aside0.mk H
               clear H
               have p245 : 0 ≤ (x20_1 : Int) := oda
               have q245 : x20_1 < (y240.length : Int) := oda
               obtain ⟨ad245, e245, hx245_0, hx245_1, hx245_2, hx245_3⟩ := at_T34 HR243.out x20_1 p245 q245
               cases e245
               replace hx245_0 := (HB.out.cell (World.block_lt_of_cell? w _ hx245_0)).trans hx245_0
               replace hx245_1 := (HB.out.cell (World.block_lt_of_cell? w _ hx245_1)).trans hx245_1
               replace hx245_2 := (HB.out.cell (World.block_lt_of_cell? w _ hx245_2)).trans hx245_2
               replace hx245_3 := (HB.out.cell (World.block_lt_of_cell? w _ hx245_3)).trans hx245_3
               replace p245 := eq_true p245
               replace q245 := eq_true q245
               go_wp2_with (first | ((with_reducible refine gate_dst (N := 7) rfl ?_); refine box_event ?hg (N := 7) ?hd (cs := #[.int .i64 0, .int .i64 0, .int .i64 0, .int .i64 0]) (t := 34) ?hr ?_; (case hd => rfl); (case hg => rfl); (case hr => first | (go_simp; done) | (go_simp; rfl)); intro gb246 hg w59 hbox hb; have n0_ := Aside0.mk (Kd.R_below (rl HO_5.out) hb); have n1_ := Aside0.mk (blk_below (g := gb235) (o := .cells #[.slice (some ad245) l0_0.length c0_0] 26 (0, 0)) (bl BK235.out) hb); have n2_ := Aside0.mk (below_step (bw HB.out) hb); have n3_ := Aside0.mk (hbox); have n4_ := Aside0.mk ((by rw [hg]; exact (below_size (bw HB.out)) : w.heap.size ≤ gb246)); have n5_ := Aside0.mk ((by rw [hg]; exact (below_size (bw HB.out)) : w.heap.size ≤ gb246)); have n6_ := Aside0.mk ((by rw [hg]; exact Nat.ne_of_lt (blk_lt (g := gb235) (o := .cells #[.slice (some ad245) l0_0.length c0_0] 26 (0, 0)) (bl BK235.out)) : gb235 ≠ gb246)); have n7_ := Aside0.mk ((by rw [hg]; exact Nat.ne_of_gt (blk_lt (g := gb235) (o := .cells #[.slice (some ad245) l0_0.length c0_0] 26 (0, 0)) (bl BK235.out)) : gb246 ≠ gb235)); clear HO_5 BK235 HB; have HO_5 := n0_; have BK235 := n1_; have HB := n2_; have BK246 := n3_; have GW246 := n4_; have GE246 := n5_; have NB235_246 := n6_; have NB246_235 := n7_; clear n0_ n1_ n2_ n3_ n4_ n5_ n6_ n7_ hb hbox hg; have hnb60 := NB246_235.out; have hnc60 := NB235_246.out; have hcz61_0 : w59.cell? ⟨gb246, 0, none⟩ = some (.int .i64 0) := (blk_cell BK246.out 0).trans rfl; have hcz61_1 : w59.cell? ⟨gb246, 1, none⟩ = some (.int .i64 0) := (blk_cell BK246.out 1).trans rfl; have hcz61_2 : w59.cell? ⟨gb246, 2, none⟩ = some (.int .i64 0) := (blk_cell BK246.out 2).trans rfl; have hcz61_3 : w59.cell? ⟨gb246, 3, none⟩ = some (.int .i64 0) := (blk_cell BK246.out 3).trans rfl; have hfz61_0 := blk_frozen BK246.out 0; have hfz61_1 := blk_frozen BK246.out 1; have hfz61_2 := blk_frozen BK246.out 2; have hfz61_3 := blk_frozen BK246.out 3) | ((with_reducible refine gate_callee (f := 84) rfl ?_); refine goesL_ (some 27) rfl rfl Try.func84 (by kernel_rfl) rfl #[.agg #[.int .i64 ((rd_T34 y240 x20_1).f0), .int .i64 ((rd_T34 y240 x20_1).f1), .int .i64 ((rd_T34 y240 x20_1).f2), .int .i64 ((rd_T34 y240 x20_1).f3)], .int .i64 x20_1] rfl ar ?_; (with_reducible refine (impl_nodeRight.calls k1 ((rd_T34 y240 x20_1).f0) ((rd_T34 y240 x20_1).f1) ((rd_T34 y240 x20_1).f2) ((rd_T34 y240 x20_1).f3) x20_1 true _ A18.out).mono ?_); rintro e w62 ⟨rfl, hb⟩; refine ⟨_, rfl, ?_⟩; have n0_ := Aside0.mk (Kd.R_below (by (with_reducible repeat (first | apply Kd.R_alloc | apply Kd.R_drewN | apply Kd.R_drew)); exact (Kd.R_mono (Kd.R_far (p := ⟨gb246, 3, none⟩) (Kd.R_far (p := ⟨gb246, 2, none⟩) (Kd.R_far (p := ⟨gb246, 1, none⟩) (Kd.R_far (p := ⟨gb246, 0, none⟩) (Kd.R_types HO_5.out BK246.out (by decide)) (fun _ hk => hk.2) (.int .i64 ((rd_T34 y240 x20_1).f0))) (fun _ hk => hk.2) (.int .i64 ((rd_T34 y240 x20_1).f1))) (fun _ hk => hk.2) (.int .i64 ((rd_T34 y240 x20_1).f2))) (fun _ hk => hk.2) (.int .i64 ((rd_T34 y240 x20_1).f3))) (fun _ h_ => h_.1))) hb); have n1_ := Aside0.mk (blk_below (g := gb235) (o := .cells #[.slice (some ad245) l0_0.length c0_0] 26 (0, 0)) (by (with_reducible repeat (first | refine blk_drewN ?_ _ | refine blk_drew ?_ | refine blk_alloc ?_ _)); refine blk_far ?_ NB235_246.out _; (with_reducible repeat (first | refine blk_drewN ?_ _ | refine blk_drew ?_ | refine blk_alloc ?_ _)); refine blk_far ?_ NB235_246.out _; (with_reducible repeat (first | refine blk_drewN ?_ _ | refine blk_drew ?_ | refine blk_alloc ?_ _)); refine blk_far ?_ NB235_246.out _; (with_reducible repeat (first | refine blk_drewN ?_ _ | refine blk_drew ?_ | refine blk_alloc ?_ _)); refine blk_far ?_ NB235_246.out _; (with_reducible repeat (first | refine blk_drewN ?_ _ | refine blk_drew ?_ | refine blk_alloc ?_ _)); exact BK235.out) hb); have n2_ := Aside0.mk (blk_below (g := gb246) (o := .cells #[.int .i64 ((rd_T34 y240 x20_1).f0), .int .i64 ((rd_T34 y240 x20_1).f1), .int .i64 ((rd_T34 y240 x20_1).f2), .int .i64 ((rd_T34 y240 x20_1).f3)] 34 (0, 0)) (by (with_reducible repeat (first | refine blk_drewN ?_ _ | refine blk_drew ?_ | refine blk_alloc ?_ _)); refine blk_put (cs := #[.int .i64 ((rd_T34 y240 x20_1).f0), .int .i64 ((rd_T34 y240 x20_1).f1), .int .i64 ((rd_T34 y240 x20_1).f2), .int .i64 0]) ?_ 3 _ rfl; (with_reducible repeat (first | refine blk_drewN ?_ _ | refine blk_drew ?_ | refine blk_alloc ?_ _)); refine blk_put (cs := #[.int .i64 ((rd_T34 y240 x20_1).f0), .int .i64 ((rd_T34 y240 x20_1).f1), .int .i64 0, .int .i64 0]) ?_ 2 _ rfl; (with_reducible repeat (first | refine blk_drewN ?_ _ | refine blk_drew ?_ | refine blk_alloc ?_ _)); refine blk_put (cs := #[.int .i64 ((rd_T34 y240 x20_1).f0), .int .i64 0, .int .i64 0, .int .i64 0]) ?_ 1 _ rfl; (with_reducible repeat (first | refine blk_drewN ?_ _ | refine blk_drew ?_ | refine blk_alloc ?_ _)); refine blk_put (cs := #[.int .i64 0, .int .i64 0, .int .i64 0, .int .i64 0]) ?_ 0 _ rfl; (with_reducible repeat (first | refine blk_drewN ?_ _ | refine blk_drew ?_ | refine blk_alloc ?_ _)); exact BK246.out) hb); have n3_ := Aside0.mk (below_step (bw HB.out) hb); clear HO_5 BK235 BK246 HB; have HO_5 := n0_; have BK235 := n1_; have BK246 := n2_; have HB := n3_; clear n0_ n1_ n2_ n3_; (try clear hb); (try clear hb2); (try clear hk); (try clear hi); have hcz63_0 : w62.cell? ⟨gb246, 0, none⟩ = some (.int .i64 ((rd_T34 y240 x20_1).f0)) := (blk_cell BK246.out 0).trans rfl; have hcz63_1 : w62.cell? ⟨gb246, 1, none⟩ = some (.int .i64 ((rd_T34 y240 x20_1).f1)) := (blk_cell BK246.out 1).trans rfl; have hcz63_2 : w62.cell? ⟨gb246, 2, none⟩ = some (.int .i64 ((rd_T34 y240 x20_1).f2)) := (blk_cell BK246.out 2).trans rfl; have hcz63_3 : w62.cell? ⟨gb246, 3, none⟩ = some (.int .i64 ((rd_T34 y240 x20_1).f3)) := (blk_cell BK246.out 3).trans rfl; have hfz63_0 := blk_frozen BK246.out 0; have hfz63_1 := blk_frozen BK246.out 1; have hfz63_2 := blk_frozen BK246.out 2; have hfz63_3 := blk_frozen BK246.out 3; obtain ⟨Ao64, co64, eo64⟩ := Kd.R_slice HO_5.out; subst eo64; have p256 : 0 ≤ (((rd_T34 y240 x20_1).f2) : Int) := oda; have q256 : ((rd_T34 y240 x20_1).f2) < (x5_1.length : Int) := oda; obtain ⟨ad256, e256, hx256_0⟩ := Kd.at_int (Kd.R_reads' HO_5.out).2.2 ((rd_T34 y240 x20_1).f2) p256 q256; cases e256; replace p256 := eq_true p256; replace q256 := eq_true q256) | ((with_reducible refine gate_callee (f := 87) rfl ?_); refine goesL_ (some 41) rfl rfl Try.func87 (by kernel_rfl) rfl #[.int .i64 ((rd_T34 y240 x20_1).f0)] rfl ar ?_; (with_reducible refine (impl_hasB.calls ((rd_T34 y240 x20_1).f0) false _ A44.out).mono ?_); rintro e w' ⟨rfl, ⟨nd, rfl⟩⟩; refine ⟨_, rfl, ?_⟩) | ((with_reducible refine gate_builtin (b := .append) (xs := #[.tmp 49, .tmp 52]) rfl ?_); at_builtin; refine Kd.R_append (Kd.int .i64) (w0 := w) w.heap.size rfl (.tmp 49) (.tmp 52) 27 3 (.int .i64 0) 8 rfl Try.underlying27 info3 rfl (by decide) (by omega) (.slice (some ad256) x5_1.length co64) x5_1 ji57 [.int .i64 ji57] (fun _ => True) (fun _ => False) rfl rfl ?aP (fun _ hk => hk.elim) ?aF ?aO ?aB ?aS ?aL ?_; (case aP => exact rfl); (case aB => exact (bw HB.out)); (case aF => exact (fun _ _ => trivial)); (case aO => exact (rl HO_5.out)); (case aS => exact (below_size (bw HB.out))); (case aL => have := LMc58.out; omega); intro v263 w65 ho hb hg hat; rw [← Ny262.out] at ho; have n0_ := Aside0.mk (blk_grown (g := gb235) (o := .cells #[.slice (some ad245) l0_0.length c0_0] 26 (0, 0)) (bl BK235.out) hg (Kd.R_ne HO_5.out BK235.out (by decide))); have n1_ := Aside0.mk (blk_grown (g := gb246) (o := .cells #[.int .i64 ((rd_T34 y240 x20_1).f0), .int .i64 ((rd_T34 y240 x20_1).f1), .int .i64 ((rd_T34 y240 x20_1).f2), .int .i64 ((rd_T34 y240 x20_1).f3)] 34 (0, 0)) (bl BK246.out) hg (Kd.R_ne HO_5.out BK246.out (by decide))); have n2_ := Aside0.mk (hb); have n3_ := Aside0.mk (ho); clear BK235 BK246 HB HO_5; have BK235 := n0_; have BK246 := n1_; have HB := n2_; have HO264 := n3_; clear n0_ n1_ n2_ n3_ ho hb hg hat))
               go_roundg k1
               case measure => have := HK1.out; omega
               case rel => exact ⟨(y262), (wrap64 (x20_1 + 1)), (by first | rfl | (simp; done) | (simp [*]; done)), H', ⟨by have := HK1.out; omega⟩, ⟨rl HO264.out⟩, ⟨bl BK235.out⟩, ⟨bw HB.out⟩⟩
              ·rw [if_neg c58] at H
               exact absurd H (by simp)
            ·rw [if_neg c43] at H
             exact absurd H (by simp)
           ·rw [if_neg c42] at H
            exact absurd H (by simp)
         ·replace c19 := Bool.eq_false_iff.mpr c19
          subst c19
          have H1 : (some 0) = some r := by rw [if_neg (show ¬ (false = true) by decide)] at H; exact H
          clear H
          have H := H1
          clear H1
          obtain rfl := Option.some.inj H
          have p245 : 0 ≤ (x20_1 : Int) := oda
          have q245 : x20_1 < (y240.length : Int) := oda
          obtain ⟨ad245, e245, hx245_0, hx245_1, hx245_2, hx245_3⟩ := at_T34 HR243.out x20_1 p245 q245
          cases e245
          replace hx245_0 := (HB.out.cell (World.block_lt_of_cell? w _ hx245_0)).trans hx245_0
          replace hx245_1 := (HB.out.cell (World.block_lt_of_cell? w _ hx245_1)).trans hx245_1
          replace hx245_2 := (HB.out.cell (World.block_lt_of_cell? w _ hx245_2)).trans hx245_2
          replace hx245_3 := (HB.out.cell (World.block_lt_of_cell? w _ hx245_3)).trans hx245_3
          replace p245 := eq_true p245
          replace q245 := eq_true q245
          go_wp2_with (first | ((with_reducible refine gate_dst (N := 7) rfl ?_); refine box_event ?hg (N := 7) ?hd (cs := #[.int .i64 0, .int .i64 0, .int .i64 0, .int .i64 0]) (t := 34) ?hr ?_; (case hd => rfl); (case hg => rfl); (case hr => first | (go_simp; done) | (go_simp; rfl)); intro gb246 hg w66 hbox hb; have n0_ := Aside0.mk (Kd.R_below (rl HO_5.out) hb); have n1_ := Aside0.mk (blk_below (g := gb235) (o := .cells #[.slice (some ad245) l0_0.length c0_0] 26 (0, 0)) (bl BK235.out) hb); have n2_ := Aside0.mk (below_step (bw HB.out) hb); have n3_ := Aside0.mk (hbox); have n4_ := Aside0.mk ((by rw [hg]; exact (below_size (bw HB.out)) : w.heap.size ≤ gb246)); have n5_ := Aside0.mk ((by rw [hg]; exact (below_size (bw HB.out)) : w.heap.size ≤ gb246)); have n6_ := Aside0.mk ((by rw [hg]; exact Nat.ne_of_lt (blk_lt (g := gb235) (o := .cells #[.slice (some ad245) l0_0.length c0_0] 26 (0, 0)) (bl BK235.out)) : gb235 ≠ gb246)); have n7_ := Aside0.mk ((by rw [hg]; exact Nat.ne_of_gt (blk_lt (g := gb235) (o := .cells #[.slice (some ad245) l0_0.length c0_0] 26 (0, 0)) (bl BK235.out)) : gb246 ≠ gb235)); clear HO_5 BK235 HB; have HO_5 := n0_; have BK235 := n1_; have HB := n2_; have BK246 := n3_; have GW246 := n4_; have GE246 := n5_; have NB235_246 := n6_; have NB246_235 := n7_; clear n0_ n1_ n2_ n3_ n4_ n5_ n6_ n7_ hb hbox hg; have hnb67 := NB246_235.out; have hnc67 := NB235_246.out; have hcz68_0 : w66.cell? ⟨gb246, 0, none⟩ = some (.int .i64 0) := (blk_cell BK246.out 0).trans rfl; have hcz68_1 : w66.cell? ⟨gb246, 1, none⟩ = some (.int .i64 0) := (blk_cell BK246.out 1).trans rfl; have hcz68_2 : w66.cell? ⟨gb246, 2, none⟩ = some (.int .i64 0) := (blk_cell BK246.out 2).trans rfl; have hcz68_3 : w66.cell? ⟨gb246, 3, none⟩ = some (.int .i64 0) := (blk_cell BK246.out 3).trans rfl; have hfz68_0 := blk_frozen BK246.out 0; have hfz68_1 := blk_frozen BK246.out 1; have hfz68_2 := blk_frozen BK246.out 2; have hfz68_3 := blk_frozen BK246.out 3) | ((with_reducible refine gate_callee (f := 84) rfl ?_); refine goesL_ (some 27) rfl rfl Try.func84 (by kernel_rfl) rfl #[.agg #[.int .i64 ((rd_T34 y240 x20_1).f0), .int .i64 ((rd_T34 y240 x20_1).f1), .int .i64 ((rd_T34 y240 x20_1).f2), .int .i64 ((rd_T34 y240 x20_1).f3)], .int .i64 x20_1] rfl ar ?_; (with_reducible refine (impl_nodeRight.calls k1 ((rd_T34 y240 x20_1).f0) ((rd_T34 y240 x20_1).f1) ((rd_T34 y240 x20_1).f2) ((rd_T34 y240 x20_1).f3) x20_1 false _ A18.out).mono ?_); rintro e w69 ⟨rfl, hb⟩; refine ⟨_, rfl, ?_⟩; have n0_ := Aside0.mk (Kd.R_below (by (with_reducible repeat (first | apply Kd.R_alloc | apply Kd.R_drewN | apply Kd.R_drew)); exact (Kd.R_mono (Kd.R_far (p := ⟨gb246, 3, none⟩) (Kd.R_far (p := ⟨gb246, 2, none⟩) (Kd.R_far (p := ⟨gb246, 1, none⟩) (Kd.R_far (p := ⟨gb246, 0, none⟩) (Kd.R_types HO_5.out BK246.out (by decide)) (fun _ hk => hk.2) (.int .i64 ((rd_T34 y240 x20_1).f0))) (fun _ hk => hk.2) (.int .i64 ((rd_T34 y240 x20_1).f1))) (fun _ hk => hk.2) (.int .i64 ((rd_T34 y240 x20_1).f2))) (fun _ hk => hk.2) (.int .i64 ((rd_T34 y240 x20_1).f3))) (fun _ h_ => h_.1))) hb); have n1_ := Aside0.mk (blk_below (g := gb235) (o := .cells #[.slice (some ad245) l0_0.length c0_0] 26 (0, 0)) (by (with_reducible repeat (first | refine blk_drewN ?_ _ | refine blk_drew ?_ | refine blk_alloc ?_ _)); refine blk_far ?_ NB235_246.out _; (with_reducible repeat (first | refine blk_drewN ?_ _ | refine blk_drew ?_ | refine blk_alloc ?_ _)); refine blk_far ?_ NB235_246.out _; (with_reducible repeat (first | refine blk_drewN ?_ _ | refine blk_drew ?_ | refine blk_alloc ?_ _)); refine blk_far ?_ NB235_246.out _; (with_reducible repeat (first | refine blk_drewN ?_ _ | refine blk_drew ?_ | refine blk_alloc ?_ _)); refine blk_far ?_ NB235_246.out _; (with_reducible repeat (first | refine blk_drewN ?_ _ | refine blk_drew ?_ | refine blk_alloc ?_ _)); exact BK235.out) hb); have n2_ := Aside0.mk (blk_below (g := gb246) (o := .cells #[.int .i64 ((rd_T34 y240 x20_1).f0), .int .i64 ((rd_T34 y240 x20_1).f1), .int .i64 ((rd_T34 y240 x20_1).f2), .int .i64 ((rd_T34 y240 x20_1).f3)] 34 (0, 0)) (by (with_reducible repeat (first | refine blk_drewN ?_ _ | refine blk_drew ?_ | refine blk_alloc ?_ _)); refine blk_put (cs := #[.int .i64 ((rd_T34 y240 x20_1).f0), .int .i64 ((rd_T34 y240 x20_1).f1), .int .i64 ((rd_T34 y240 x20_1).f2), .int .i64 0]) ?_ 3 _ rfl; (with_reducible repeat (first | refine blk_drewN ?_ _ | refine blk_drew ?_ | refine blk_alloc ?_ _)); refine blk_put (cs := #[.int .i64 ((rd_T34 y240 x20_1).f0), .int .i64 ((rd_T34 y240 x20_1).f1), .int .i64 0, .int .i64 0]) ?_ 2 _ rfl; (with_reducible repeat (first | refine blk_drewN ?_ _ | refine blk_drew ?_ | refine blk_alloc ?_ _)); refine blk_put (cs := #[.int .i64 ((rd_T34 y240 x20_1).f0), .int .i64 0, .int .i64 0, .int .i64 0]) ?_ 1 _ rfl; (with_reducible repeat (first | refine blk_drewN ?_ _ | refine blk_drew ?_ | refine blk_alloc ?_ _)); refine blk_put (cs := #[.int .i64 0, .int .i64 0, .int .i64 0, .int .i64 0]) ?_ 0 _ rfl; (with_reducible repeat (first | refine blk_drewN ?_ _ | refine blk_drew ?_ | refine blk_alloc ?_ _)); exact BK246.out) hb); have n3_ := Aside0.mk (below_step (bw HB.out) hb); clear HO_5 BK235 BK246 HB; have HO_5 := n0_; have BK235 := n1_; have BK246 := n2_; have HB := n3_; clear n0_ n1_ n2_ n3_; (try clear hb); (try clear hb2); (try clear hk); (try clear hi)))
          go_ret
          exact ⟨by first | rfl | (simp [errW_none, errW_some] <;> rfl) | (simp only [← hji5]; first | rfl | (simp [errW_none, errW_some] <;> rfl)) | (simp [*, errW_none, errW_some] <;> rfl), bw HB.out⟩
        ·rw [if_neg c17] at H
         exact absurd H (by simp)
       ·rw [if_neg c16] at H
        exact absurd H (by simp)
      ·rw [if_neg c15] at H
       have c15b0 : decide (x20_1 < (y240.length : Int)) = false := decide_eq_false c15
       clear c15
       by_cases c70 : 0 ≤ a1
       ·rw [if_pos c70] at H
        have c70b0 : decide (0 ≤ a1) = true := decide_eq_true c70
        clear c70
        by_cases c71 : a1 < (x5_1.length : Int)
        ·rw [if_pos c71] at H
         have c71b0 : decide (a1 < (x5_1.length : Int)) = true := decide_eq_true c71
         clear c71
         obtain rfl := Option.some.inj H
         obtain ⟨Ao72, co72, eo72⟩ := Kd.R_slice HO_5.out
         subst eo72
         have p244 : 0 ≤ (a1 : Int) := oda
         have q244 : a1 < (x5_1.length : Int) := oda
         obtain ⟨ad244, e244, hx244_0⟩ := Kd.at_int (Kd.R_reads' HO_5.out).2.2 a1 p244 q244
         cases e244
         replace p244 := eq_true p244
         replace q244 := eq_true q244
         go_wp2
         go_ret
         exact ⟨by first | rfl | (simp [errW_none, errW_some] <;> rfl) | (simp only [← hji5]; first | rfl | (simp [errW_none, errW_some] <;> rfl)) | (simp [*, errW_none, errW_some] <;> rfl), bw HB.out⟩
        ·rw [if_neg c71] at H
         exact absurd H (by simp)
       ·rw [if_neg c70] at H
        exact absurd H (by simp)
   ·rw [if_neg c7] at H
    exact absurd H (by simp)
  ·rw [if_neg c6] at H
   exact absurd H (by simp)
 ·replace c4 := Bool.eq_false_iff.mpr c4
  subst c4
  have H1 : (some 0) = some r := by rw [if_neg (show ¬ (false = true) by decide)] at H; exact H
  clear H
  have H := H1
  clear H1
  obtain rfl := Option.some.inj H
  go_enter Try.func30, Try.ntmps30
  go_wp2_with (first | ((with_reducible refine gate_dst (N := 2) rfl ?_); refine box_event ?hg (N := 2) ?hd (cs := #[.slice A0_0 l0_0.length c0_0]) (t := 26) ?hr ?_; (case hd => rfl); (case hg => rfl); (case hr => first | (go_simp; done) | (go_simp; rfl)); intro gb235 hg w73 hbox hb; have n0_ := Aside0.mk (below_step (bw HB.out) hb); have n1_ := Aside0.mk (hbox); have n2_ := Aside0.mk ((by rw [hg]; exact (below_size (bw HB.out)) : w.heap.size ≤ gb235)); have n3_ := Aside0.mk ((by rw [hg]; exact (below_size (bw HB.out)) : w.heap.size ≤ gb235)); clear HB; have HB := n0_; have BK235 := n1_; have GW235 := n2_; have GE235 := n3_; clear n0_ n1_ n2_ n3_ hb hbox hg; have hcz74_0 : w73.cell? ⟨gb235, 0, none⟩ = some (.slice A0_0 l0_0.length c0_0) := (blk_cell BK235.out 0).trans rfl; have hfz74_0 := blk_frozen BK235.out 0) | ((with_reducible refine gate_callee (f := 71) rfl ?_); refine goesL_ (some 11) rfl rfl Try.func71 (by kernel_rfl) rfl #[.agg #[.slice A0_0 l0_0.length c0_0], .int .i64 a1] rfl ar ?_; (with_reducible refine (impl_hasNode.calls _ _ l0_0 a1 false _ ?side1 ?side2 A3.out).mono ?_); (case side1 => exact cl (Kd.C_below HR0_0.out HB.out)); (case side2 => exact HC0_0.out); rintro e w75 ⟨rfl, hb⟩; refine ⟨_, rfl, ?_⟩; have n0_ := Aside0.mk (blk_below (g := gb235) (o := .cells #[.slice A0_0 l0_0.length c0_0] 26 (0, 0)) (bl BK235.out) hb); have n1_ := Aside0.mk (below_step (bw HB.out) hb); clear BK235 HB; have BK235 := n0_; have HB := n1_; clear n0_ n1_; (try clear hb); (try clear hb2); (try clear hk); (try clear hi)))
  go_ret
  exact ⟨by first | rfl | (simp [errW_none, errW_some] <;> rfl) | (simp [*, errW_none, errW_some] <;> rfl), bw HB.out⟩

/-! ### impl_VarText: function 124 -/
def impl_VarText.l0 : Nat → Int → List Int → Option (ByteArray × Bool)
  | 0, _, _ => none
  | k + 1, x0, x4 => if x0 > 127 then (if x4.length < 140737488355328 then (impl_VarText.l0 k (wrap64 (Int.tdiv x0 128)) (x4 ++ [(wrap64 ((Int.tmod x0 128) + 128)) % 256])) else (none)) else (if x4.length < 140737488355328 then (some (strOfNums (x4 ++ [(x0) % 256]), true)) else (none))
def impl_VarText.f (k : Nat) (a0 : Int) : Option (ByteArray × Bool) := (impl_within.f a0 0 1000000000).bind fun t265 => (if t265 = true then (impl_VarText.l0 k a0 (([] : List Int))) else (some ((⟨#[]⟩ : ByteArray), false)))
set_option maxHeartbeats 8000000 in
set_option maxRecDepth 100000 in
theorem impl_VarText.calls (k : Nat) (a0 : Int) (r1 : ByteArray) (r2 : Bool) (w : World) (h : impl_VarText.f k a0 = some (r1, r2)) :
  Calls Try.prog 124 #[.int .i64 a0] w fun e w' => e = .returned (.tuple #[.string r1, .bool r2]) ∧ Below w.heap.size w w' := by
 have HB := Aside0.mk (Below.refl w.heap.size w)
 have H : ((impl_within.f a0 0 1000000000).bind fun t265 => (if t265 = true then (impl_VarText.l0 k a0 (([] : List Int))) else (some ((⟨#[]⟩ : ByteArray), false)))) = some (r1, r2) := h
 clear h
 replace H := Option.bind_eq_some_iff.mp H
 obtain ⟨t265, A20, H⟩ := H
 replace H : (if t265 = true then (impl_VarText.l0 k a0 (([] : List Int))) else (some ((⟨#[]⟩ : ByteArray), false))) = some (r1, r2) := H
 have A2 := Aside0.mk A20
 clear A20
 by_cases c3 : t265 = true
 ·subst c3
  have H1 : (impl_VarText.l0 k a0 (([] : List Int))) = some (r1, r2) := by rw [if_pos rfl] at H; exact H
  clear H
  have H := H1
  clear H1
  obtain ⟨y266, hy266⟩ : ∃ y_ : List Int, y_ = (([] : List Int)) := ⟨_, rfl⟩
  replace H : (impl_VarText.l0 k a0 y266) = some (r1, r2) := by first | (rw [hy266]; with_reducible exact H) | (have H2_ := (Option.bind_some _ _).symm.trans H; rw [hy266]; with_reducible exact H2_) | (have H2_ := (Option.bind_some _ _).symm.trans H; with_reducible exact H2_) | with_reducible exact H | (rw [hy266]; exact H) | exact H
  have Ny266 := Aside0.mk hy266
  clear hy266
  have H' := Aside0.mk H
  clear H
  go_enter Try.func124, Try.ntmps124
  go_wp2_with (first | ((with_reducible refine gate_callee (f := 75) rfl ?_); refine goesL_ (some 6) rfl rfl Try.func75 (by kernel_rfl) rfl #[.int .i64 a0, .int .i64 0, .int .i64 1000000000] rfl ar ?_; (with_reducible refine (impl_within.calls a0 0 1000000000 true _ A2.out).mono ?_); rintro e w' ⟨rfl, ⟨nd, rfl⟩⟩; refine ⟨_, rfl, ?_⟩) | ((with_reducible refine gate_dst (N := 8) rfl ?_); refine Kd.R_lit (Kd.int .u8) _ 5 ?hg (N := 8) ?hd (xs := ([] : List Int)) (inner := []) (ok := fun _ => True) (okp := fun _ => True) ?hr ?hp (fun _ hk => hk) trivial (Below.refl _ _) (Nat.le_refl _) (by simp) ?_; (case hd => rfl); (case hg => rfl); (case hr => first | (go_simp; done) | (go_simp; rfl)); (case hp => exact (Reps.none _ _)); intro v267 w4 ho5 hb hg_ hnew_; clear hg_ hnew_; (first | rw [← Ny266.out] at ho5 | (simp only [Int.reduceToNat] at ho5; rw [← Ny266.out] at ho5)); have n0_ := Aside0.mk (Kd.R_lower ho5 (below_size (bw HB.out))); have n1_ := Aside0.mk (below_step (bw HB.out) hb); clear HB; have HO268 := n0_; have HB := n1_; clear n0_ n1_ hb ho5))
  go_loopg [0, 4] k (fun kq v0 v4 w' => ∃ (x0_1 : Int) (x4_1 : List Int), v0 = .int .i64 x0_1 ∧ Aside0 (impl_VarText.l0 kq x0_1 x4_1 = some (r1, r2)) ∧ Aside0 (kq ≤ k) ∧ Aside0 (Kd.R (Kd.int .u8) 5 w' w.heap.size (fun _ => True) v4 x4_1) ∧ Aside0 (Below w.heap.size w w'))
  case atStart => exact ⟨(a0), (y266), (by first | rfl | (simp; done) | (simp [*]; done)), H', ⟨Nat.le_refl _⟩, ⟨rl HO268.out⟩, ⟨bw HB.out⟩⟩
  case round =>
   clear H'
   try clear c1
   try clear p2
   try clear c3
   obtain ⟨x0_1, x4_1, rfl, HA, HK1, HO_4, HB⟩ := hrel
   cases gk with
   | zero => exact absurd HA.out (by simp [impl_VarText.l0])
   | succ k1 =>
    have H := HA.out
    clear HA
    simp only [impl_VarText.l0] at H
    by_cases c6 : x0_1 > 127
    ·rw [if_pos c6] at H
     have c6b0 : decide (127 < x0_1) = true := decide_eq_true c6
     clear c6
     by_cases c7 : x4_1.length < 140737488355328
     ·rw [if_pos c7] at H
      have LMc7 := Aside0.mk c7
      clear c7
      obtain ⟨y269, hy269⟩ : ∃ y_ : List Int, y_ = (x4_1 ++ [(wrap64 ((Int.tmod x0_1 128) + 128)) % 256]) := ⟨_, rfl⟩
      replace H : (impl_VarText.l0 k1 (wrap64 (Int.tdiv x0_1 128)) y269) = some (r1, r2) := by first | (rw [hy269]; with_reducible exact H) | (have H2_ := (Option.bind_some _ _).symm.trans H; rw [hy269]; with_reducible exact H2_) | (have H2_ := (Option.bind_some _ _).symm.trans H; with_reducible exact H2_) | with_reducible exact H | (rw [hy269]; exact H) | exact H
      have Ny269 := Aside0.mk hy269
      clear hy269
      have H' := Aside0.mk H
      clear H
      go_wp2_with (first | ((with_reducible refine gate_builtin (b := .append) (xs := #[.tmp 11, .tmp 16]) rfl ?_); at_builtin; refine Kd.R_append (Kd.int .u8) (w0 := w) w.heap.size rfl (.tmp 11) (.tmp 16) 22 5 (.int .u8 0) 1 rfl Try.underlying22 info5 rfl (by decide) (by omega) u4 x4_1 ((wrap64 ((Int.tmod x0_1 128) + 128)) % 256) [.int .u8 ((wrap64 ((Int.tmod x0_1 128) + 128)) % 256)] (fun _ => True) (fun _ => False) rfl rfl ?aP (fun _ hk => hk.elim) ?aF ?aO ?aB ?aS ?aL ?_; (case aP => exact rfl); (case aB => exact (bw HB.out)); (case aF => exact (fun _ _ => trivial)); (case aO => exact (rl HO_4.out)); (case aS => exact (below_size (bw HB.out))); (case aL => have := LMc7.out; omega); intro v270 w8 ho hb hg hat; rw [← Ny269.out] at ho; have n0_ := Aside0.mk (hb); have n1_ := Aside0.mk (ho); clear HB HO_4; have HB := n0_; have HO271 := n1_; clear n0_ n1_ ho hb hg hat))
      go_roundg k1
      case measure => have := HK1.out; omega
      case rel => exact ⟨(wrap64 (Int.tdiv x0_1 128)), (y269), (by first | rfl | (simp; done) | (simp [*]; done)), H', ⟨by have := HK1.out; omega⟩, ⟨rl HO271.out⟩, ⟨bw HB.out⟩⟩
     ·rw [if_neg c7] at H
      exact absurd H (by simp)
    ·rw [if_neg c6] at H
     have c6b0 : decide (127 < x0_1) = false := decide_eq_false c6
     clear c6
     by_cases c9 : x4_1.length < 140737488355328
     ·rw [if_pos c9] at H
      have LMc9 := Aside0.mk c9
      clear c9
      obtain ⟨y272, hy272⟩ : ∃ y_ : List Int, y_ = (x4_1 ++ [(x0_1) % 256]) := ⟨_, rfl⟩
      replace H : (some (strOfNums y272, true)) = some (r1, r2) := by first | (rw [hy272]; with_reducible exact H) | (have H2_ := (Option.bind_some _ _).symm.trans H; rw [hy272]; with_reducible exact H2_) | (have H2_ := (Option.bind_some _ _).symm.trans H; with_reducible exact H2_) | with_reducible exact H | (rw [hy272]; exact H) | exact H
      have Ny272 := Aside0.mk hy272
      clear hy272
      simp only [Option.some.injEq, Prod.mk.injEq] at H
      obtain ⟨rfl, rfl⟩ := H
      go_wp2_with (first | ((with_reducible refine gate_builtin (b := .append) (xs := #[.tmp 20, .tmp 23]) rfl ?_); at_builtin; refine Kd.R_append (Kd.int .u8) (w0 := w) w.heap.size rfl (.tmp 20) (.tmp 23) 22 5 (.int .u8 0) 1 rfl Try.underlying22 info5 rfl (by decide) (by omega) u4 x4_1 ((x0_1) % 256) [.int .u8 ((x0_1) % 256)] (fun _ => True) (fun _ => False) rfl rfl ?aP (fun _ hk => hk.elim) ?aF ?aO ?aB ?aS ?aL ?_; (case aP => exact rfl); (case aB => exact (bw HB.out)); (case aF => exact (fun _ _ => trivial)); (case aO => exact (rl HO_4.out)); (case aS => exact (below_size (bw HB.out))); (case aL => have := LMc9.out; omega); intro v273 w10 ho hb hg hat; rw [← Ny272.out] at ho; have n0_ := Aside0.mk (hb); have n1_ := Aside0.mk (ho); clear HB HO_4; have HB := n0_; have HO274 := n1_; clear n0_ n1_ ho hb hg hat; have hcv11 := own_string (P := Try.prog) Try.underlying22 Try.underlying5 Try.underlying9 (Kd.own_of_R HO274.out)))
      go_ret2
      exact ⟨by first | rfl | (simp [errW_none, errW_some] <;> rfl) | (simp [*, errW_none, errW_some] <;> rfl), bw HB.out⟩
     ·rw [if_neg c9] at H
      exact absurd H (by simp)
 ·replace c3 := Bool.eq_false_iff.mpr c3
  subst c3
  have H1 : (some ((⟨#[]⟩ : ByteArray), false)) = some (r1, r2) := by rw [if_neg (show ¬ (false = true) by decide)] at H; exact H
  clear H
  have H := H1
  clear H1
  simp only [Option.some.injEq, Prod.mk.injEq] at H
  obtain ⟨rfl, rfl⟩ := H
  go_enter Try.func124, Try.ntmps124
  go_wp2_with (first | ((with_reducible refine gate_callee (f := 75) rfl ?_); refine goesL_ (some 6) rfl rfl Try.func75 (by kernel_rfl) rfl #[.int .i64 a0, .int .i64 0, .int .i64 1000000000] rfl ar ?_; (with_reducible refine (impl_within.calls a0 0 1000000000 false _ A2.out).mono ?_); rintro e w' ⟨rfl, ⟨nd, rfl⟩⟩; refine ⟨_, rfl, ?_⟩))
  go_ret2
  exact ⟨by first | rfl | (simp [errW_none, errW_some] <;> rfl) | (simp [*, errW_none, errW_some] <;> rfl), bw HB.out⟩

end Go.Proofs.Ytkckdibalopagaa.SFnMakes
