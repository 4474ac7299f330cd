-- Began as a print of the kit over stubs (wip/stub.py); the sections that are named OWN are this session's.
import Derived.Test.YtkckdibalopagaaSFnReachesx0
import Derived.Test.YtkckdibalopagaaSFnReachesx3
import Derived.Test.YtkckdibalopagaaSFnReachesx4
import Derived.Test.YtkckdibalopagaaSFnReachesx5
import Derived.Test.YtkckdibalopagaaVShort
namespace Go.Proofs.Ytkckdibalopagaa.SFnReaches
open Go.RowKit Go.Proofs.YtkckdibalopagaaW.PrintWords Go.Proofs.YtkckdibalopagaaW.PrintLast Go.Proofs.YtkckdibalopagaaW.PrintMore Go.Proofs.Ytkckdibalopagaa.Short
attribute [local go_sem] max2_int min2_int max_two min_two max_three min_three max_four min_four   -- for this text's walks alone
set_option linter.unusedVariables false
set_option linter.unusedSimpArgs false

/-! ### impl_Reach: function 16 -/
mutual
def impl_Reach.l0 : Nat → List Bool → List Int → Int → Int → List (S34) → Option (List Bool)
  | 0, _, _, _, _, _ => none
  | k + 1, x5, x23, x24, x25, x213000 => if x25 < x24 then (if 0 ≤ x25 then (if x25 < (x23.length : Int) then ((impl_hasNode.f x213000 (rd x23 x25)).bind fun t218 => (if t218 = true then (if 0 ≤ (rd x23 x25) then (if (rd x23 x25) < (x5.length : Int) then (impl_Reach.l0 k (x5.set ((rd x23 x25) : Int).toNat true) x23 x24 (wrap64 (x25 + 1)) x213000) else (none)) else (none)) else (impl_Reach.l0 k x5 x23 x24 (wrap64 (x25 + 1)) x213000))) else (none)) else (none)) else (if 0 ≤ (x213000.length : Int) then (if ((x213000.length : Int) : Int).toNat ≤ 35184372088832 then (impl_Reach.l1 k x5 (List.replicate ((x213000.length : Int) : Int).toNat 0) x213000 (x213000.length : Int) 0 x213000) else (none)) else (none))
def impl_Reach.l1 : Nat → List Bool → List Int → List (S34) → Int → Int → List (S34) → Option (List Bool)
  | 0, _, _, _, _, _, _ => none
  | k + 1, x5, x8, x41, x42, x43, x213000 => if x43 < x42 then (if 0 ≤ x43 then (if x43 < (x41.length : Int) then (if ((rd_T34 x41 x43).f0) = 6 then (if 0 ≤ ((rd_T34 x41 x43).f2) then (if ((rd_T34 x41 x43).f2) < (x8.length : Int) then ((some (x8.set (((rd_T34 x41 x43).f2) : Int).toNat x43 : List Int)).bind fun y225 => (if ((rd_T34 x41 x43).f0) = 1 then (if ((rd_T34 x41 x43).f1) < 1000 then (if x43 < (x5.length : Int) then (impl_Reach.l1 k (x5.set (x43 : Int).toNat true) y225 x41 x42 (wrap64 (x43 + 1)) x213000) else (none)) else (impl_Reach.l1 k x5 y225 x41 x42 (wrap64 (x43 + 1)) x213000)) else (impl_Reach.l1 k x5 y225 x41 x42 (wrap64 (x43 + 1)) x213000))) else (none)) else (none)) else (if ((rd_T34 x41 x43).f0) = 1 then (if ((rd_T34 x41 x43).f1) < 1000 then (if x43 < (x5.length : Int) then (impl_Reach.l1 k (x5.set (x43 : Int).toNat true) x8 x41 x42 (wrap64 (x43 + 1)) x213000) else (none)) else (impl_Reach.l1 k x5 x8 x41 x42 (wrap64 (x43 + 1)) x213000)) else (impl_Reach.l1 k x5 x8 x41 x42 (wrap64 (x43 + 1)) x213000))) else (none)) else (none)) else (impl_Reach.l2 k x5 x8 true x213000)
def impl_Reach.l2 : Nat → List Bool → List Int → Bool → List (S34) → Option (List Bool)
  | 0, _, _, _, _ => none
  | k + 1, x5, x8, x11, x213000 => if x11 = true then (impl_Reach.l3 k x5 x8 false x213000 (x213000.length : Int) 0 x213000) else (some x5)
def impl_Reach.l3 : Nat → List Bool → List Int → Bool → List (S34) → Int → Int → List (S34) → Option (List Bool)
  | 0, _, _, _, _, _, _, _ => none
  | k + 1, x5, x8, x11, x70, x71, x72, x213000 => if x72 < x71 then (if 0 ≤ x72 then (if x72 < (x70.length : Int) then (if x72 < (x5.length : Int) then (if rdOf false x5 x72 = true then (impl_Reach.j4 k x5 x8 x11 x72 x70 x71 x72 false x213000 ((rd_T34 x70 x72).f0) ((rd_T34 x70 x72).f1) ((rd_T34 x70 x72).f2) ((rd_T34 x70 x72).f3)) else ((impl_canMake.f k ((rd_T34 x70 x72).f0) ((rd_T34 x70 x72).f1) ((rd_T34 x70 x72).f2) ((rd_T34 x70 x72).f3) x5 x8).bind fun t231 => (impl_Reach.j4 k x5 x8 x11 x72 x70 x71 x72 t231 x213000 ((rd_T34 x70 x72).f0) ((rd_T34 x70 x72).f1) ((rd_T34 x70 x72).f2) ((rd_T34 x70 x72).f3)))) else (none)) else (none)) else (none)) else (impl_Reach.l2 k x5 x8 x11 x213000)
def impl_Reach.j4 : Nat → List Bool → List Int → Bool → Int → List (S34) → Int → Int → Bool → List (S34) → Int → Int → Int → Int → Option (List Bool)
  | 0, _, _, _, _, _, _, _, _, _, _, _, _, _ => none
  | k + 1, x5, x8, x11, x12, x70, x71, x72, x87, x213000, x230000, x230001, x230002, x230003 => if x87 = true then (if 0 ≤ x12 then (if x12 < (x5.length : Int) then (impl_Reach.j5 k (x5.set (x12 : Int).toNat true) x8 true x12 x70 x71 x72 x213000 x230000 x230001 x230002 x230003) else (none)) else (none)) else (impl_Reach.j5 k x5 x8 x11 x12 x70 x71 x72 x213000 x230000 x230001 x230002 x230003)
def impl_Reach.j5 : Nat → List Bool → List Int → Bool → Int → List (S34) → Int → Int → List (S34) → Int → Int → Int → Int → Option (List Bool)
  | 0, _, _, _, _, _, _, _, _, _, _, _, _ => none
  | k + 1, x5, x8, x11, x12, x70, x71, x72, x213000, x230000, x230001, x230002, x230003 => (impl_partsOut.f x230000 x230001 x230002 x230003 x12 x5).bind fun t233 => (impl_Reach.l4 k x5 x8 x11 x70 x71 x72 t233 (t233.length : Int) 0 x213000)
def impl_Reach.l4 : Nat → List Bool → List Int → Bool → List (S34) → Int → Int → List Int → Int → Int → List (S34) → Option (List Bool)
  | 0, _, _, _, _, _, _, _, _, _, _ => none
  | k + 1, x5, x8, x11, x70, x71, x72, x94, x95, x96, x213000 => if x96 < x95 then (if 0 ≤ x96 then (if x96 < (x94.length : Int) then (if 0 ≤ (rd x94 x96) then (if (rd x94 x96) < (x5.length : Int) then (if (rdOf false x5 (rd x94 x96) = true) then (impl_Reach.l4 k x5 x8 x11 x70 x71 x72 x94 x95 (wrap64 (x96 + 1)) x213000) else (impl_Reach.l4 k (x5.set ((rd x94 x96) : Int).toNat true) x8 true x70 x71 x72 x94 x95 (wrap64 (x96 + 1)) x213000)) else (none)) else (none)) else (none)) else (none)) else (impl_Reach.l3 k x5 x8 x11 x70 x71 (wrap64 (x72 + 1)) x213000)
end
def impl_Reach.f (k : Nat) (l0_0 : List (S34)) (l1 : List Int) : Option (List Bool) := (impl_ArenaOk.f l0_0).bind fun t213 => (if t213 = true then (if 0 ≤ (l0_0.length : Int) then (if ((l0_0.length : Int) : Int).toNat ≤ 281474976710656 then (impl_Reach.l0 k (List.replicate ((l0_0.length : Int) : Int).toNat false) l1 (l1.length : Int) 0 l0_0) else (none)) else (none)) else (some ([] : List Bool)))
set_option maxHeartbeats 8000000 in
set_option maxRecDepth 100000 in
theorem impl_Reach.calls (k : Nat) (A0_0 : Option Addr) (c0_0 : Nat) (l0_0 : List (S34)) (A1 : Option Addr) (c1 : Nat) (l1 : List Int) (r : List Bool) (w : World) (hr0_0 : Kd.C k34 w A0_0 l0_0.length l0_0) (hc0_0 : l0_0.length ≤ c0_0) (hr1 : Kd.C (Kd.int .i64) w A1 l1.length l1) (hc1 : l1.length ≤ c1) (h : impl_Reach.f k l0_0 l1 = some r) :
  Calls Try.prog 16 #[.agg #[.slice A0_0 l0_0.length c0_0], .slice A1 l1.length c1] w fun e w' => ∃ v0_ : Value, e = .returned (v0_) ∧ Kd.R Kd.bool 4 w' w.heap.size (fun _ => True) v0_ r ∧ Below w.heap.size w w' := by
 have hu26 := Try.underlying26
 have hu34 := Try.underlying34
 have HR0_0 := Aside0.mk hr0_0
 have HC0_0 := Aside0.mk hc0_0
 clear hr0_0 hc0_0
 have HR1 := Aside0.mk hr1
 have HC1 := Aside0.mk hc1
 clear hr1 hc1
 have HB := Aside0.mk (Below.refl w.heap.size w)
 have H : ((impl_ArenaOk.f l0_0).bind fun t213 => (if t213 = true then (if 0 ≤ (l0_0.length : Int) then (if ((l0_0.length : Int) : Int).toNat ≤ 281474976710656 then (impl_Reach.l0 k (List.replicate ((l0_0.length : Int) : Int).toNat false) l1 (l1.length : Int) 0 l0_0) else (none)) else (none)) else (some ([] : List Bool)))) = some r := h
 clear h
 replace H := Option.bind_eq_some_iff.mp H
 obtain ⟨t213, A30, H⟩ := H
 replace H : (if t213 = true then (if 0 ≤ (l0_0.length : Int) then (if ((l0_0.length : Int) : Int).toNat ≤ 281474976710656 then (impl_Reach.l0 k (List.replicate ((l0_0.length : Int) : Int).toNat false) l1 (l1.length : Int) 0 l0_0) else (none)) else (none)) else (some ([] : List Bool))) = some r := H
 have A3 := Aside0.mk A30
 clear A30
 by_cases c4 : t213 = true
 ·subst c4
  have H1 : (if 0 ≤ (l0_0.length : Int) then (if ((l0_0.length : Int) : Int).toNat ≤ 281474976710656 then (impl_Reach.l0 k (List.replicate ((l0_0.length : Int) : Int).toNat false) l1 (l1.length : Int) 0 l0_0) else (none)) else (none)) = some r := by rw [if_pos rfl] at H; exact H
  clear H
  have H := H1
  clear H1
  by_cases c5 : 0 ≤ (l0_0.length : Int)
  ·rw [if_pos c5] at H
   have c5b0 := eq_true c5
   have c5b1 : decide (0 ≤ (l0_0.length : Int)) = true := decide_eq_true c5
   clear c5
   by_cases c6 : ((l0_0.length : Int) : Int).toNat ≤ 281474976710656
   ·rw [if_pos c6] at H
    have c6b0 := eq_true c6
    have c6b1 : decide (((l0_0.length : Int) : Int).toNat ≤ 281474976710656) = true := decide_eq_true c6
    clear c6
    obtain ⟨y214, hy214⟩ : ∃ y_ : List Bool, y_ = (List.replicate ((l0_0.length : Int) : Int).toNat false) := ⟨_, rfl⟩
    replace H : (impl_Reach.l0 k y214 l1 (l1.length : Int) 0 l0_0) = some r := by first | (rw [hy214]; with_reducible exact H) | (have H2_ := (Option.bind_some _ _).symm.trans H; rw [hy214]; with_reducible exact H2_) | (have H2_ := (Option.bind_some _ _).symm.trans H; with_reducible exact H2_) | with_reducible exact H | (rw [hy214]; exact H) | exact H
    have Ny214 := Aside0.mk hy214
    clear hy214
    have H' := Aside0.mk H
    clear H
    go_enter Try.func16, Try.ntmps16
    go_wp2_with (first | ((with_reducible refine gate_dst (N := 2) rfl ?_); refine box_event ?hg (N := 2) ?hd (cs := #[.slice A0_0 l0_0.length c0_0]) (t := 26) ?hr ?_; (case hd => rfl); (case hg => rfl); (case hr => first | (go_simp; done) | (go_simp; rfl)); intro gb212 hg w7 hbox hb; have n0_ := Aside0.mk (below_step (bw HB.out) hb); have n1_ := Aside0.mk (hbox); have n2_ := Aside0.mk ((by rw [hg]; exact (below_size (bw HB.out)) : w.heap.size ≤ gb212)); have n3_ := Aside0.mk ((by rw [hg]; exact (below_size (bw HB.out)) : w.heap.size ≤ gb212)); clear HB; have HB := n0_; have BK212 := n1_; have GW212 := n2_; have GE212 := n3_; clear n0_ n1_ n2_ n3_ hb hbox hg; have hcz8_0 : w7.cell? ⟨gb212, 0, none⟩ = some (.slice A0_0 l0_0.length c0_0) := (blk_cell BK212.out 0).trans rfl; have hfz8_0 := blk_frozen BK212.out 0) | ((with_reducible refine gate_callee (f := 27) rfl ?_); refine goesL_ (some 17) rfl rfl Try.func27 (by kernel_rfl) rfl #[.agg #[.slice A0_0 l0_0.length c0_0]] rfl ar ?_; (with_reducible refine (impl_ArenaOk.calls _ _ l0_0 true _ ?side1 ?side2 A3.out).mono ?_); (case side1 => exact cl (Kd.C_below HR0_0.out HB.out)); (case side2 => exact HC0_0.out); rintro e w9 ⟨rfl, hb⟩; refine ⟨_, rfl, ?_⟩; have n0_ := Aside0.mk (blk_below (g := gb212) (o := .cells #[.slice A0_0 l0_0.length c0_0] 26 (0, 0)) (bl BK212.out) hb); have n1_ := Aside0.mk (below_step (bw HB.out) hb); clear BK212 HB; have BK212 := n0_; have HB := n1_; clear n0_ n1_; (try clear hb); (try clear hb2); (try clear hk); (try clear hi); have hcz10_0 : w9.cell? ⟨gb212, 0, none⟩ = some (.slice A0_0 l0_0.length c0_0) := (blk_cell BK212.out 0).trans rfl; have hfz10_0 := blk_frozen BK212.out 0) | ((with_reducible refine gate_dst (N := 22) rfl ?_); refine Kd.R_make Kd.bool _ 4 rfl (N := 22) rfl 30 _ _ rfl (l0_0.length : Int) rfl rfl Try.underlying30 (.bool false) 1 info4 rfl (by decide) (by omega) false (ok := fun _ => True) (okp := fun _ => True) rfl (fun _ hk => hk) trivial (oda) (Nat.le_trans (Nat.mul_le_mul_right _ (oda : (l0_0.length : Int).toNat ≤ 281474976710656)) (by omega)) (Below.refl _ _) (Nat.le_refl _) ?_; intro v215 w11 ho12 hb hg_ hnew_; clear hg_ hnew_; (first | rw [← Ny214.out] at ho12 | (simp only [Int.reduceToNat] at ho12; rw [← Ny214.out] at ho12)); have n0_ := Aside0.mk (Kd.R_lower ho12 (below_size (bw HB.out))); have n1_ := Aside0.mk (blk_below (g := gb212) (o := .cells #[.slice A0_0 l0_0.length c0_0] 26 (0, 0)) (bl BK212.out) hb); have n2_ := Aside0.mk (below_step (bw HB.out) hb); clear BK212 HB; have HO216 := n0_; have BK212 := n1_; have HB := n2_; clear n0_ n1_ n2_ hb ho12))
    go_loopg [25] k (fun kq v25 w' => ∃ (x5_1 : List Bool) (x25_1 : Int), v25 = .int .i64 x25_1 ∧ Aside0 (impl_Reach.l0 kq x5_1 l1 (l1.length : Int) x25_1 l0_0 = some r) ∧ Aside0 (kq ≤ k) ∧ Aside0 (Kd.R Kd.bool 4 w' w.heap.size (fun _ => True) v215 x5_1) ∧ Aside0 (w'.heap[gb212]? = some (.cells #[(.slice A0_0 l0_0.length c0_0)] 26 (0, 0))) ∧ Aside0 (Below w.heap.size w w'))
    case atStart => exact ⟨(y214), (0), (by first | rfl | (simp; done) | (simp [*]; done)), H', ⟨Nat.le_refl _⟩, ⟨rl HO216.out⟩, ⟨bl BK212.out⟩, ⟨bw HB.out⟩⟩
    case round =>
     clear H'
     try clear c1
     try clear c2
     try clear p2
     try clear c4
     try clear c5
     try clear c5b0
     try clear c5b1
     try clear c6
     try clear c6b0
     try clear c6b1
     try clear hcz10_0
     try clear hcz8_0
     try clear hfz10_0
     try clear hfz8_0
     obtain ⟨x5_1, x25_1, rfl, HA, HK1, HO_5, BK212, HB⟩ := hrel
     cases gk with
     | zero => exact absurd HA.out (by simp [impl_Reach.l0])
     | succ k1 =>
      have H := HA.out
      clear HA
      simp only [impl_Reach.l0] at H
      by_cases c13 : x25_1 < (l1.length : Int)
      ·rw [if_pos c13] at H
       have c13b0 : decide (x25_1 < (l1.length : Int)) = true := decide_eq_true c13
       clear c13
       by_cases c14 : 0 ≤ x25_1
       ·rw [if_pos c14] at H
        have c14b0 : decide (0 ≤ x25_1) = true := decide_eq_true c14
        clear c14
        by_cases c15 : x25_1 < (l1.length : Int)
        ·rw [if_pos c15] at H
         have c15b0 : decide (x25_1 < (l1.length : Int)) = true := decide_eq_true c15
         clear c15
         replace H := Option.bind_eq_some_iff.mp H
         obtain ⟨t218, A160, H⟩ := H
         replace H : (if t218 = true then (if 0 ≤ (rd l1 x25_1) then (if (rd l1 x25_1) < (x5_1.length : Int) then (impl_Reach.l0 k1 (x5_1.set ((rd l1 x25_1) : Int).toNat true) l1 (l1.length : Int) (wrap64 (x25_1 + 1)) l0_0) else (none)) else (none)) else (impl_Reach.l0 k1 x5_1 l1 (l1.length : Int) (wrap64 (x25_1 + 1)) l0_0)) = some r := H
         have A16 := Aside0.mk A160
         clear A160
         by_cases c17 : t218 = true
         ·subst c17
          have H1 : (if 0 ≤ (rd l1 x25_1) then (if (rd l1 x25_1) < (x5_1.length : Int) then (impl_Reach.l0 k1 (x5_1.set ((rd l1 x25_1) : Int).toNat true) l1 (l1.length : Int) (wrap64 (x25_1 + 1)) l0_0) else (none)) else (none)) = some r := by rw [if_pos rfl] at H; exact H
          clear H
          have H := H1
          clear H1
          by_cases c18 : 0 ≤ (rd l1 x25_1)
          ·rw [if_pos c18] at H
           have c18b0 : decide (0 ≤ (rd l1 x25_1)) = true := decide_eq_true c18
           clear c18
           by_cases c19 : (rd l1 x25_1) < (x5_1.length : Int)
           ·rw [if_pos c19] at H
            have c19b0 : decide ((rd l1 x25_1) < (x5_1.length : Int)) = true := decide_eq_true c19
            clear c19
            obtain ⟨y219, hy219⟩ : ∃ y_ : List Bool, y_ = (x5_1.set ((rd l1 x25_1) : Int).toNat true) := ⟨_, rfl⟩
            replace H : (impl_Reach.l0 k1 y219 l1 (l1.length : Int) (wrap64 (x25_1 + 1)) l0_0) = some r := by first | (rw [hy219]; with_reducible exact H) | (have H2_ := (Option.bind_some _ _).symm.trans H; rw [hy219]; with_reducible exact H2_) | (have H2_ := (Option.bind_some _ _).symm.trans H; with_reducible exact H2_) | with_reducible exact H | (rw [hy219]; exact H) | exact H
            have Ny219 := Aside0.mk hy219
            clear hy219
            have H' := Aside0.mk H
            clear H
            have p217 : 0 ≤ (x25_1 : Int) := oda
            have q217 : x25_1 < (l1.length : Int) := oda
            obtain ⟨ad217, e217, hx217_0⟩ := Kd.at_int HR1.out x25_1 p217 q217
            cases e217
            replace hx217_0 := (HB.out.cell (World.block_lt_of_cell? w _ hx217_0)).trans hx217_0
            replace p217 := eq_true p217
            replace q217 := eq_true q217
            have hcz21_0 : wr.cell? ⟨gb212, 0, none⟩ = some (.slice A0_0 l0_0.length c0_0) := (blk_cell BK212.out 0).trans rfl
            have hfz21_0 := blk_frozen BK212.out 0
            go_wp2_with (first | ((with_reducible refine gate_callee (f := 71) rfl ?_); refine goesL_ (some 31) rfl rfl Try.func71 (by kernel_rfl) rfl #[.agg #[.slice A0_0 l0_0.length c0_0], .int .i64 (rd l1 x25_1)] rfl ar ?_; (with_reducible refine (impl_hasNode.calls _ _ l0_0 (rd l1 x25_1) true _ ?side1 ?side2 A16.out).mono ?_); (case side1 => exact cl (Kd.C_below HR0_0.out HB.out)); (case side2 => exact HC0_0.out); rintro e w22 ⟨rfl, hb⟩; refine ⟨_, rfl, ?_⟩; have n0_ := Aside0.mk (Kd.R_below (rl HO_5.out) hb); have n1_ := Aside0.mk (blk_below (g := gb212) (o := .cells #[.slice A0_0 l0_0.length c0_0] 26 (0, 0)) (bl BK212.out) hb); have n2_ := Aside0.mk (below_step (bw HB.out) hb); clear HO_5 BK212 HB; have HO_5 := n0_; have BK212 := n1_; have HB := n2_; clear n0_ n1_ n2_; (try clear hb); (try clear hb2); (try clear hk); (try clear hi); have p20 : 0 ≤ ((rd l1 x25_1) : Int) := oda; have q20 : ((rd l1 x25_1) : Int) < ((x5_1.length : Int) : Int) := oda; obtain ⟨go20, co20, eo20, gb20, gl20, cl20, HG20⟩ := Kd.R_form HO_5.out (by omega); (first | cases eo20 | (injection eo20 with ea_ en_ ec_; (first | subst ea_ | (injection ea_ with ea_; subst ea_)); subst ec_; clear en_)); have GB20 := Aside0.mk gb20; have GG20 := Aside0.mk HG20; clear gb20 gl20 HG20; obtain ⟨hx20_0, hf20_0⟩ := Kd.R_celln false HO_5.out ((rd l1 x25_1) : Int) p20 q20; replace p20 := eq_true p20; replace q20 := eq_true q20; obtain ⟨hy23_, hz23_⟩ := Kd.R_celln false HO_5.out ((rd l1 x25_1) : Int) (oda) (oda); have HP23 := Kd.R_putg HO_5.out ((rd l1 x25_1) : Int) true) | ((with_reducible refine gate_store (t := 4) (p := 34) rfl ?_); refine store_event (t := 4) (p := 34) (v := ?vo_w24) (w1 := (w22.setCell ⟨go20, ((rd l1 x25_1) : Int).toNat, none⟩ (.bool true))) ?hg ?ho ?hn ?hr ?_; (case ho => rfl); (case hg => rfl); (case hn => rfl); (case hr => first | (go_simp; done) | (go_simp; rfl)); intro w24 hw; have hg : w22.grownBy w24 (some go20) := (by rw [hw]; exact HP23.2); have hp_ : Kd.R Kd.bool 4 w24 w.heap.size (fun _ => True) (.slice (some ⟨go20, 0, none⟩) x5_1.length co20) y219 := (by rw [hw, Ny219.out]; exact HP23.1); clear HP23; have n0_ := Aside0.mk (hp_); have n1_ := Aside0.mk (blk_grown (g := gb212) (o := .cells #[.slice A0_0 l0_0.length c0_0] 26 (0, 0)) (bl BK212.out) hg (Kd.R_ne HO_5.out BK212.out (by decide))); have n2_ := Aside0.mk ((by rw [hw]; exact below_set (HB.out) GB20.out : Below w.heap.size w w24)); clear HO_5 BK212 HB; have HO_5 := n0_; have BK212 := n1_; have HB := n2_; clear n0_ n1_ n2_ hg hw hp_))
            go_roundg k1
            case measure => have := HK1.out; omega
            case rel => exact ⟨(y219), (wrap64 (x25_1 + 1)), (by first | rfl | (simp; done) | (simp [*]; done)), H', ⟨by have := HK1.out; omega⟩, ⟨rl HO_5.out⟩, ⟨bl BK212.out⟩, ⟨bw HB.out⟩⟩
           ·rw [if_neg c19] at H
            exact absurd H (by simp)
          ·rw [if_neg c18] at H
           exact absurd H (by simp)
         ·replace c17 := Bool.eq_false_iff.mpr c17
          subst c17
          have H1 : (impl_Reach.l0 k1 x5_1 l1 (l1.length : Int) (wrap64 (x25_1 + 1)) l0_0) = some r := by rw [if_neg (show ¬ (false = true) by decide)] at H; exact H
          clear H
          have H := H1
          clear H1
          have H' := Aside0.mk H
          clear H
          have p217 : 0 ≤ (x25_1 : Int) := oda
          have q217 : x25_1 < (l1.length : Int) := oda
          obtain ⟨ad217, e217, hx217_0⟩ := Kd.at_int HR1.out x25_1 p217 q217
          cases e217
          replace hx217_0 := (HB.out.cell (World.block_lt_of_cell? w _ hx217_0)).trans hx217_0
          replace p217 := eq_true p217
          replace q217 := eq_true q217
          have hcz25_0 : wr.cell? ⟨gb212, 0, none⟩ = some (.slice A0_0 l0_0.length c0_0) := (blk_cell BK212.out 0).trans rfl
          have hfz25_0 := blk_frozen BK212.out 0
          go_wp2_with (first | ((with_reducible refine gate_callee (f := 71) rfl ?_); refine goesL_ (some 31) rfl rfl Try.func71 (by kernel_rfl) rfl #[.agg #[.slice A0_0 l0_0.length c0_0], .int .i64 (rd l1 x25_1)] rfl ar ?_; (with_reducible refine (impl_hasNode.calls _ _ l0_0 (rd l1 x25_1) false _ ?side1 ?side2 A16.out).mono ?_); (case side1 => exact cl (Kd.C_below HR0_0.out HB.out)); (case side2 => exact HC0_0.out); rintro e w26 ⟨rfl, hb⟩; refine ⟨_, rfl, ?_⟩; have n0_ := Aside0.mk (Kd.R_below (rl HO_5.out) hb); have n1_ := Aside0.mk (blk_below (g := gb212) (o := .cells #[.slice A0_0 l0_0.length c0_0] 26 (0, 0)) (bl BK212.out) hb); have n2_ := Aside0.mk (below_step (bw HB.out) hb); clear HO_5 BK212 HB; have HO_5 := n0_; have BK212 := n1_; have HB := n2_; clear n0_ n1_ n2_; (try clear hb); (try clear hb2); (try clear hk); (try clear hi)))
          go_roundg k1
          case measure => have := HK1.out; omega
          case rel => exact ⟨(x5_1), (wrap64 (x25_1 + 1)), (by first | rfl | (simp; done) | (simp [*]; done)), H', ⟨by have := HK1.out; omega⟩, ⟨rl HO_5.out⟩, ⟨bl BK212.out⟩, ⟨bw HB.out⟩⟩
        ·rw [if_neg c15] at H
         exact absurd H (by simp)
       ·rw [if_neg c14] at H
        exact absurd H (by simp)
      ·rw [if_neg c13] at H
       have c13b0 : decide (x25_1 < (l1.length : Int)) = false := decide_eq_false c13
       clear c13
       by_cases c27 : 0 ≤ (l0_0.length : Int)
       ·rw [if_pos c27] at H
        have c27b0 := eq_true c27
        have c27b1 : decide (0 ≤ (l0_0.length : Int)) = true := decide_eq_true c27
        clear c27
        by_cases c28 : ((l0_0.length : Int) : Int).toNat ≤ 35184372088832
        ·rw [if_pos c28] at H
         have c28b0 := eq_true c28
         have c28b1 : decide (((l0_0.length : Int) : Int).toNat ≤ 35184372088832) = true := decide_eq_true c28
         clear c28
         obtain ⟨y220, hy220⟩ : ∃ y_ : List Int, y_ = (List.replicate ((l0_0.length : Int) : Int).toNat 0) := ⟨_, rfl⟩
         replace H : (impl_Reach.l1 k1 x5_1 y220 l0_0 (l0_0.length : Int) 0 l0_0) = some r := by first | (rw [hy220]; with_reducible exact H) | (have H2_ := (Option.bind_some _ _).symm.trans H; rw [hy220]; with_reducible exact H2_) | (have H2_ := (Option.bind_some _ _).symm.trans H; with_reducible exact H2_) | with_reducible exact H | (rw [hy220]; exact H) | exact H
         have Ny220 := Aside0.mk hy220
         clear hy220
         have H' := Aside0.mk H
         clear H
         have hcz29_0 : wr.cell? ⟨gb212, 0, none⟩ = some (.slice A0_0 l0_0.length c0_0) := (blk_cell BK212.out 0).trans rfl
         have hfz29_0 := blk_frozen BK212.out 0
         go_wp2_with (first | ((with_reducible refine gate_dst (N := 39) rfl ?_); refine Kd.R_make (Kd.int .i64) _ 3 rfl (N := 39) rfl 27 _ _ rfl (l0_0.length : Int) rfl rfl Try.underlying27 (.int .i64 0) 8 info3 rfl (by decide) (by omega) 0 (ok := fun _ => True) (okp := fun _ => True) rfl (fun _ hk => hk) trivial (oda) (Nat.le_trans (Nat.mul_le_mul_right _ (oda : (l0_0.length : Int).toNat ≤ 35184372088832)) (by omega)) (Below.refl _ _) (Nat.le_refl _) ?_; intro v221 w30 ho31 hb hg_ hnew_; clear hg_ hnew_; (first | rw [← Ny220.out] at ho31 | (simp only [Int.reduceToNat] at ho31; rw [← Ny220.out] at ho31)); have n0_ := Aside0.mk (Kd.R_below (rl HO_5.out) hb); have n1_ := Aside0.mk (Kd.R_lower ho31 (below_size (bw HB.out))); have n2_ := Aside0.mk (blk_below (g := gb212) (o := .cells #[.slice A0_0 l0_0.length c0_0] 26 (0, 0)) (bl BK212.out) hb); have n3_ := Aside0.mk (below_step (bw HB.out) hb); clear HO_5 BK212 HB; have HO_5 := n0_; have HO222 := n1_; have BK212 := n2_; have HB := n3_; clear n0_ n1_ n2_ n3_ hb ho31; have hcz32_0 : w30.cell? ⟨gb212, 0, none⟩ = some (.slice A0_0 l0_0.length c0_0) := (blk_cell BK212.out 0).trans rfl; have hfz32_0 := blk_frozen BK212.out 0))
         go_loopg [43] k1 (fun kq v43 w' => ∃ (x5_2 : List Bool) (x8_2 : List Int) (x43_2 : Int), v43 = .int .i64 x43_2 ∧ Aside0 (impl_Reach.l1 kq x5_2 x8_2 l0_0 (l0_0.length : Int) x43_2 l0_0 = some r) ∧ Aside0 (kq ≤ k1) ∧ Aside0 (Kd.R Kd.bool 4 w' w.heap.size (fun _ => True) v215 x5_2) ∧ Aside0 (Kd.R (Kd.int .i64) 3 w' w.heap.size (fun _ => True) v221 x8_2) ∧ Aside0 (w'.heap[gb212]? = some (.cells #[(.slice A0_0 l0_0.length c0_0)] 26 (0, 0))) ∧ Aside0 (Below w.heap.size w w'))
         case atStart => exact ⟨(x5_1), (y220), (0), (by first | rfl | (simp; done) | (simp [*]; done)), H', ⟨Nat.le_refl _⟩, ⟨rl HO_5.out⟩, ⟨rl HO222.out⟩, ⟨bl BK212.out⟩, ⟨bw HB.out⟩⟩
         case round =>
          clear H'
          try clear c1
          try clear c2
          try clear p2
          try clear q2
          try clear hx2
          try clear hf2
          try clear c4
          try clear c5
          try clear c5b0
          try clear c5b1
          try clear c6
          try clear c6b0
          try clear c6b1
          try clear p6
          try clear c7
          try clear c13
          try clear c13b0
          try clear c14
          try clear c14b0
          try clear c15
          try clear c15b0
          try clear c16
          try clear c17
          try clear c18
          try clear c18b0
          try clear c19
          try clear c19b0
          try clear p20
          try clear q20
          try clear hx20
          try clear hf20
          try clear p21
          try clear q21
          try clear hx21
          try clear c27
          try clear c27b0
          try clear c27b1
          try clear c28
          try clear c28b0
          try clear c28b1
          try clear hcz10_0
          try clear hcz21_0
          try clear hcz25_0
          try clear hcz29_0
          try clear hcz32_0
          try clear hcz8_0
          try clear hfz10_0
          try clear hfz21_0
          try clear hfz25_0
          try clear hfz29_0
          try clear hfz32_0
          try clear hfz8_0
          try clear hx20_0
          try clear hx217_0
          try clear p2
          try clear p20
          try clear p217
          try clear q20
          try clear q217
          obtain ⟨x5_2, x8_2, x43_2, rfl, HA, HK2, HO_5, HO_8, BK212, HB⟩ := hrel
          cases gk with
          | zero => exact absurd HA.out (by simp [impl_Reach.l1])
          | succ k2 =>
           have H := HA.out
           clear HA
           simp only [impl_Reach.l1] at H
           by_cases c33 : x43_2 < (l0_0.length : Int)
           ·rw [if_pos c33] at H
            have c33b0 : decide (x43_2 < (l0_0.length : Int)) = true := decide_eq_true c33
            clear c33
            by_cases c34 : 0 ≤ x43_2
            ·rw [if_pos c34] at H
             have c34b0 : decide (0 ≤ x43_2) = true := decide_eq_true c34
             clear c34
             by_cases c35 : x43_2 < (l0_0.length : Int)
             ·rw [if_pos c35] at H
              have c35b0 : decide (x43_2 < (l0_0.length : Int)) = true := decide_eq_true c35
              clear c35
              by_cases c36 : ((rd_T34 l0_0 x43_2).f0) = 6
              ·rw [if_pos c36] at H
               have c36b0 : (((rd_T34 l0_0 x43_2).f0) == 6) = true := beq_iff_eq.mpr c36
               have c36b1 : (((rd_T34 l0_0 x43_2).f0) != 6) = false := bne_eq_false_iff_eq.mpr c36
               clear c36
               by_cases c37 : 0 ≤ ((rd_T34 l0_0 x43_2).f2)
               ·rw [if_pos c37] at H
                have c37b0 : decide (0 ≤ ((rd_T34 l0_0 x43_2).f2)) = true := decide_eq_true c37
                clear c37
                by_cases c38 : ((rd_T34 l0_0 x43_2).f2) < (x8_2.length : Int)
                ·rw [if_pos c38] at H
                 have c38b0 : decide (((rd_T34 l0_0 x43_2).f2) < (x8_2.length : Int)) = true := decide_eq_true c38
                 clear c38
                 obtain ⟨y225, hy225⟩ : ∃ y_ : List Int, y_ = (x8_2.set (((rd_T34 l0_0 x43_2).f2) : Int).toNat x43_2) := ⟨_, rfl⟩
                 replace H : (if ((rd_T34 l0_0 x43_2).f0) = 1 then (if ((rd_T34 l0_0 x43_2).f1) < 1000 then (if x43_2 < (x5_2.length : Int) then (impl_Reach.l1 k2 (x5_2.set (x43_2 : Int).toNat true) y225 l0_0 (l0_0.length : Int) (wrap64 (x43_2 + 1)) l0_0) else (none)) else (impl_Reach.l1 k2 x5_2 y225 l0_0 (l0_0.length : Int) (wrap64 (x43_2 + 1)) l0_0)) else (impl_Reach.l1 k2 x5_2 y225 l0_0 (l0_0.length : Int) (wrap64 (x43_2 + 1)) l0_0)) = some r := by first | (rw [hy225]; with_reducible exact H) | (have H2_ := (Option.bind_some _ _).symm.trans H; rw [hy225]; with_reducible exact H2_) | (have H2_ := (Option.bind_some _ _).symm.trans H; with_reducible exact H2_) | with_reducible exact H | (rw [hy225]; exact H) | exact H
                 have Ny225 := Aside0.mk hy225
                 clear hy225
                 by_cases c40 : ((rd_T34 l0_0 x43_2).f0) = 1
                 ·rw [if_pos c40] at H
                  have c40b0 : (((rd_T34 l0_0 x43_2).f0) == 1) = true := beq_iff_eq.mpr c40
                  have c40b1 : (((rd_T34 l0_0 x43_2).f0) != 1) = false := bne_eq_false_iff_eq.mpr c40
                  clear c40
                  by_cases c41 : ((rd_T34 l0_0 x43_2).f1) < 1000
                  ·rw [if_pos c41] at H
                   have c41b0 : decide (((rd_T34 l0_0 x43_2).f1) < 1000) = true := decide_eq_true c41
                   clear c41
                   by_cases c42 : x43_2 < (x5_2.length : Int)
                   ·rw [if_pos c42] at H
                    have c42b0 : decide (x43_2 < (x5_2.length : Int)) = true := decide_eq_true c42
                    clear c42
                    obtain ⟨y226, hy226⟩ : ∃ y_ : List Bool, y_ = (x5_2.set (x43_2 : Int).toNat true) := ⟨_, rfl⟩
                    replace H : (impl_Reach.l1 k2 y226 y225 l0_0 (l0_0.length : Int) (wrap64 (x43_2 + 1)) l0_0) = some r := by first | (rw [hy226]; with_reducible exact H) | (have H2_ := (Option.bind_some _ _).symm.trans H; rw [hy226]; with_reducible exact H2_) | (have H2_ := (Option.bind_some _ _).symm.trans H; with_reducible exact H2_) | with_reducible exact H | (rw [hy226]; exact H) | exact H
                    have Ny226 := Aside0.mk hy226
                    clear hy226
                    have H' := Aside0.mk H
                    clear H
                    have p223 : 0 ≤ (x43_2 : Int) := oda
                    have q223 : x43_2 < (l0_0.length : Int) := oda
                    obtain ⟨ad223, e223, hx223_0, hx223_1, hx223_2, hx223_3⟩ := at_T34 HR0_0.out x43_2 p223 q223
                    cases e223
                    replace hx223_0 := (HB.out.cell (World.block_lt_of_cell? w _ hx223_0)).trans hx223_0
                    replace hx223_1 := (HB.out.cell (World.block_lt_of_cell? w _ hx223_1)).trans hx223_1
                    replace hx223_2 := (HB.out.cell (World.block_lt_of_cell? w _ hx223_2)).trans hx223_2
                    replace hx223_3 := (HB.out.cell (World.block_lt_of_cell? w _ hx223_3)).trans hx223_3
                    replace p223 := eq_true p223
                    replace q223 := eq_true q223
                    go_wp2_with (first | ((with_reducible refine gate_dst (N := 10) rfl ?_); refine box_event ?hg (N := 10) ?hd (cs := #[.int .i64 0, .int .i64 0, .int .i64 0, .int .i64 0]) (t := 34) ?hr ?_; (case hd => rfl); (case hg => rfl); (case hr => first | (go_simp; done) | (go_simp; rfl)); intro gb224 hg w44 hbox hb; have n0_ := Aside0.mk (Kd.R_below (rl HO_5.out) hb); have n1_ := Aside0.mk (Kd.R_below (rl HO_8.out) hb); have n2_ := Aside0.mk (blk_below (g := gb212) (o := .cells #[.slice (some ad223) l0_0.length c0_0] 26 (0, 0)) (bl BK212.out) hb); have n3_ := Aside0.mk (below_step (bw HB.out) hb); have n4_ := Aside0.mk (hbox); have n5_ := Aside0.mk ((by rw [hg]; exact (below_size (bw HB.out)) : w.heap.size ≤ gb224)); have n6_ := Aside0.mk ((by rw [hg]; exact (below_size (bw HB.out)) : w.heap.size ≤ gb224)); have n7_ := Aside0.mk ((by rw [hg]; exact Nat.ne_of_lt (blk_lt (g := gb212) (o := .cells #[.slice (some ad223) l0_0.length c0_0] 26 (0, 0)) (bl BK212.out)) : gb212 ≠ gb224)); have n8_ := Aside0.mk ((by rw [hg]; exact Nat.ne_of_gt (blk_lt (g := gb212) (o := .cells #[.slice (some ad223) l0_0.length c0_0] 26 (0, 0)) (bl BK212.out)) : gb224 ≠ gb212)); clear HO_5 HO_8 BK212 HB; have HO_5 := n0_; have HO_8 := n1_; have BK212 := n2_; have HB := n3_; have BK224 := n4_; have GW224 := n5_; have GE224 := n6_; have NB212_224 := n7_; have NB224_212 := n8_; clear n0_ n1_ n2_ n3_ n4_ n5_ n6_ n7_ n8_ hb hbox hg; have hnb45 := NB224_212.out; have hnc45 := NB212_224.out; have hcz46_0 : w44.cell? ⟨gb224, 0, none⟩ = some (.int .i64 0) := (blk_cell BK224.out 0).trans rfl; have hcz46_1 : w44.cell? ⟨gb224, 1, none⟩ = some (.int .i64 0) := (blk_cell BK224.out 1).trans rfl; have hcz46_2 : w44.cell? ⟨gb224, 2, none⟩ = some (.int .i64 0) := (blk_cell BK224.out 2).trans rfl; have hcz46_3 : w44.cell? ⟨gb224, 3, none⟩ = some (.int .i64 0) := (blk_cell BK224.out 3).trans rfl; have hfz46_0 := blk_frozen BK224.out 0; have hfz46_1 := blk_frozen BK224.out 1; have hfz46_2 := blk_frozen BK224.out 2; have hfz46_3 := blk_frozen BK224.out 3) | ((with_reducible refine gate_store (t := 34) (p := 10) rfl ?_); refine store_event (t := 34) (p := 10) (v := ?vo_w47) (w1 := ((((w44.setCell ⟨gb224, 0, none⟩ (.int .i64 ((rd_T34 l0_0 x43_2).f0))).setCell ⟨gb224, 1, none⟩ (.int .i64 ((rd_T34 l0_0 x43_2).f1))).setCell ⟨gb224, 2, none⟩ (.int .i64 ((rd_T34 l0_0 x43_2).f2))).setCell ⟨gb224, 3, none⟩ (.int .i64 ((rd_T34 l0_0 x43_2).f3)))) ?hg ?ho ?hn ?hr ?_; (case ho => rfl); (case hg => rfl); (case hn => rfl); (case hr => first | (go_simp; done) | (go_simp; rfl)); intro w47 hw; have n0_ : Aside0 (Kd.R Kd.bool 4 w47 w.heap.size (fun _ => True) v215 x5_2) := ⟨(by rw [hw]; exact (by (with_reducible repeat (first | apply Kd.R_alloc | apply Kd.R_drewN | apply Kd.R_drew)); exact Kd.R_mono (Kd.R_far (p := ⟨gb224, 3, none⟩) (Kd.R_far (p := ⟨gb224, 2, none⟩) (Kd.R_far (p := ⟨gb224, 1, none⟩) (Kd.R_far (p := ⟨gb224, 0, none⟩) (Kd.R_types HO_5.out BK224.out (by decide)) (fun _ hk => hk.2) (.int .i64 ((rd_T34 l0_0 x43_2).f0))) (fun _ hk => hk.2) (.int .i64 ((rd_T34 l0_0 x43_2).f1))) (fun _ hk => hk.2) (.int .i64 ((rd_T34 l0_0 x43_2).f2))) (fun _ hk => hk.2) (.int .i64 ((rd_T34 l0_0 x43_2).f3))) (fun _ hk => trivial)))⟩; have n1_ : Aside0 (Kd.R (Kd.int .i64) 3 w47 w.heap.size (fun _ => True) v221 x8_2) := ⟨(by rw [hw]; exact (by (with_reducible repeat (first | apply Kd.R_alloc | apply Kd.R_drewN | apply Kd.R_drew)); exact Kd.R_mono (Kd.R_far (p := ⟨gb224, 3, none⟩) (Kd.R_far (p := ⟨gb224, 2, none⟩) (Kd.R_far (p := ⟨gb224, 1, none⟩) (Kd.R_far (p := ⟨gb224, 0, none⟩) (Kd.R_types HO_8.out BK224.out (by decide)) (fun _ hk => hk.2) (.int .i64 ((rd_T34 l0_0 x43_2).f0))) (fun _ hk => hk.2) (.int .i64 ((rd_T34 l0_0 x43_2).f1))) (fun _ hk => hk.2) (.int .i64 ((rd_T34 l0_0 x43_2).f2))) (fun _ hk => hk.2) (.int .i64 ((rd_T34 l0_0 x43_2).f3))) (fun _ hk => trivial)))⟩; have n2_ : Aside0 (w47.heap[gb212]? = some (.cells #[.slice (some ad223) l0_0.length c0_0] 26 (0, 0))) := ⟨(by rw [hw]; exact (by (with_reducible repeat (first | refine blk_drewN ?_ _ | refine blk_drew ?_ | refine blk_alloc ?_ _)); refine blk_far ?_ NB212_224.out _; (with_reducible repeat (first | refine blk_drewN ?_ _ | refine blk_drew ?_ | refine blk_alloc ?_ _)); refine blk_far ?_ NB212_224.out _; (with_reducible repeat (first | refine blk_drewN ?_ _ | refine blk_drew ?_ | refine blk_alloc ?_ _)); refine blk_far ?_ NB212_224.out _; (with_reducible repeat (first | refine blk_drewN ?_ _ | refine blk_drew ?_ | refine blk_alloc ?_ _)); refine blk_far ?_ NB212_224.out _; exact bl BK212.out))⟩; have n3_ : Aside0 (w47.heap[gb224]? = some (.cells #[.int .i64 ((rd_T34 l0_0 x43_2).f0), .int .i64 ((rd_T34 l0_0 x43_2).f1), .int .i64 ((rd_T34 l0_0 x43_2).f2), .int .i64 ((rd_T34 l0_0 x43_2).f3)] 34 (0, 0))) := ⟨(by rw [hw]; exact (by (with_reducible repeat (first | refine blk_drewN ?_ _ | refine blk_drew ?_ | refine blk_alloc ?_ _)); refine blk_put (cs := #[.int .i64 ((rd_T34 l0_0 x43_2).f0), .int .i64 ((rd_T34 l0_0 x43_2).f1), .int .i64 ((rd_T34 l0_0 x43_2).f2), .int .i64 0]) ?_ 3 _ rfl; (with_reducible repeat (first | refine blk_drewN ?_ _ | refine blk_drew ?_ | refine blk_alloc ?_ _)); refine blk_put (cs := #[.int .i64 ((rd_T34 l0_0 x43_2).f0), .int .i64 ((rd_T34 l0_0 x43_2).f1), .int .i64 0, .int .i64 0]) ?_ 2 _ rfl; (with_reducible repeat (first | refine blk_drewN ?_ _ | refine blk_drew ?_ | refine blk_alloc ?_ _)); refine blk_put (cs := #[.int .i64 ((rd_T34 l0_0 x43_2).f0), .int .i64 0, .int .i64 0, .int .i64 0]) ?_ 1 _ rfl; (with_reducible repeat (first | refine blk_drewN ?_ _ | refine blk_drew ?_ | refine blk_alloc ?_ _)); refine blk_put (cs := #[.int .i64 0, .int .i64 0, .int .i64 0, .int .i64 0]) ?_ 0 _ rfl; exact bl BK224.out))⟩; have n4_ : Aside0 (Below w.heap.size w w47) := ⟨(by rw [hw]; exact (bw HB.out))⟩; clear hw HO_5 HO_8 BK212 BK224 HB; have HO_5 := n0_; have HO_8 := n1_; have BK212 := n2_; have BK224 := n3_; have HB := n4_; clear n0_ n1_ n2_ n3_ n4_; have hcz48_0 : w47.cell? ⟨gb224, 0, none⟩ = some (.int .i64 ((rd_T34 l0_0 x43_2).f0)) := (blk_cell BK224.out 0).trans rfl; have hcz48_1 : w47.cell? ⟨gb224, 1, none⟩ = some (.int .i64 ((rd_T34 l0_0 x43_2).f1)) := (blk_cell BK224.out 1).trans rfl; have hcz48_2 : w47.cell? ⟨gb224, 2, none⟩ = some (.int .i64 ((rd_T34 l0_0 x43_2).f2)) := (blk_cell BK224.out 2).trans rfl; have hcz48_3 : w47.cell? ⟨gb224, 3, none⟩ = some (.int .i64 ((rd_T34 l0_0 x43_2).f3)) := (blk_cell BK224.out 3).trans rfl; have hfz48_0 := blk_frozen BK224.out 0; have hfz48_1 := blk_frozen BK224.out 1; have hfz48_2 := blk_frozen BK224.out 2; have hfz48_3 := blk_frozen BK224.out 3; have p39 : 0 ≤ (((rd_T34 l0_0 x43_2).f2) : Int) := oda; have q39 : (((rd_T34 l0_0 x43_2).f2) : Int) < ((x8_2.length : Int) : Int) := oda; obtain ⟨go39, co39, eo39, gb39, gl39, cl39, HG39⟩ := Kd.R_form HO_8.out (by omega); (first | cases eo39 | (injection eo39 with ea_ en_ ec_; (first | subst ea_ | (injection ea_ with ea_; subst ea_)); subst ec_; clear en_)); have GB39 := Aside0.mk gb39; have GG39 := Aside0.mk HG39; clear gb39 gl39 HG39; obtain ⟨hx39_0, hf39_0⟩ := Kd.R_celln 0 HO_8.out (((rd_T34 l0_0 x43_2).f2) : Int) p39 q39; replace p39 := eq_true p39; replace q39 := eq_true q39; obtain ⟨hy49_, hz49_⟩ := Kd.R_celln 0 HO_8.out (((rd_T34 l0_0 x43_2).f2) : Int) (oda) (oda); have HP49 := Kd.R_putg HO_8.out (((rd_T34 l0_0 x43_2).f2) : Int) x43_2) | ((with_reducible refine gate_store (t := 3) (p := 55) rfl ?_); refine store_event (t := 3) (p := 55) (v := ?vo_w50) (w1 := (w47.setCell ⟨go39, (((rd_T34 l0_0 x43_2).f2) : Int).toNat, none⟩ (.int .i64 x43_2))) ?hg ?ho ?hn ?hr ?_; (case ho => rfl); (case hg => rfl); (case hn => rfl); (case hr => first | (go_simp; done) | (go_simp; rfl)); intro w50 hw; have hg : w47.grownBy w50 (some go39) := (by rw [hw]; exact HP49.2); have hp_ : Kd.R (Kd.int .i64) 3 w50 w.heap.size (fun _ => True) (.slice (some ⟨go39, 0, none⟩) x8_2.length co39) y225 := (by rw [hw, Ny225.out]; exact HP49.1); clear HP49; have n0_ := Aside0.mk (Kd.R_over' (v := (.slice (some ⟨go39, 0, none⟩) x8_2.length co39)) (rl HO_5.out) (Kd.R_typed HO_8.out) (by decide) hg); have n1_ := Aside0.mk (hp_); have n2_ := Aside0.mk (blk_grown (g := gb212) (o := .cells #[.slice (some ad223) l0_0.length c0_0] 26 (0, 0)) (bl BK212.out) hg (Kd.R_ne HO_8.out BK212.out (by decide))); have n3_ := Aside0.mk (blk_grown (g := gb224) (o := .cells #[.int .i64 ((rd_T34 l0_0 x43_2).f0), .int .i64 ((rd_T34 l0_0 x43_2).f1), .int .i64 ((rd_T34 l0_0 x43_2).f2), .int .i64 ((rd_T34 l0_0 x43_2).f3)] 34 (0, 0)) (bl BK224.out) hg (Kd.R_ne HO_8.out BK224.out (by decide))); have n4_ := Aside0.mk ((by rw [hw]; exact below_set (HB.out) GB39.out : Below w.heap.size w w50)); clear HO_5 HO_8 BK212 BK224 HB; have HO_5 := n0_; have HO_8 := n1_; have BK212 := n2_; have BK224 := n3_; have HB := n4_; clear n0_ n1_ n2_ n3_ n4_ hg hw hp_; have hcz51_0 : w50.cell? ⟨gb224, 0, none⟩ = some (.int .i64 ((rd_T34 l0_0 x43_2).f0)) := (blk_cell BK224.out 0).trans rfl; have hcz51_1 : w50.cell? ⟨gb224, 1, none⟩ = some (.int .i64 ((rd_T34 l0_0 x43_2).f1)) := (blk_cell BK224.out 1).trans rfl; have hcz51_2 : w50.cell? ⟨gb224, 2, none⟩ = some (.int .i64 ((rd_T34 l0_0 x43_2).f2)) := (blk_cell BK224.out 2).trans rfl; have hcz51_3 : w50.cell? ⟨gb224, 3, none⟩ = some (.int .i64 ((rd_T34 l0_0 x43_2).f3)) := (blk_cell BK224.out 3).trans rfl; have hfz51_0 := blk_frozen BK224.out 0; have hfz51_1 := blk_frozen BK224.out 1; have hfz51_2 := blk_frozen BK224.out 2; have hfz51_3 := blk_frozen BK224.out 3; have p43 : 0 ≤ (x43_2 : Int) := oda; have q43 : (x43_2 : Int) < ((x5_2.length : Int) : Int) := oda; obtain ⟨go43, co43, eo43, gb43, gl43, cl43, HG43⟩ := Kd.R_form HO_5.out (by omega); (first | cases eo43 | (injection eo43 with ea_ en_ ec_; (first | subst ea_ | (injection ea_ with ea_; subst ea_)); subst ec_; clear en_)); have GB43 := Aside0.mk gb43; have GG43 := Aside0.mk HG43; clear gb43 gl43 HG43; obtain ⟨hx43_0, hf43_0⟩ := Kd.R_celln false HO_5.out (x43_2 : Int) p43 q43; replace p43 := eq_true p43; replace q43 := eq_true q43; obtain ⟨hy52_, hz52_⟩ := Kd.R_celln false HO_5.out (x43_2 : Int) (oda) (oda); have HP52 := Kd.R_putg HO_5.out (x43_2 : Int) true) | ((with_reducible refine gate_store (t := 4) (p := 66) rfl ?_); refine store_event (t := 4) (p := 66) (v := ?vo_w53) (w1 := (w50.setCell ⟨go43, (x43_2 : Int).toNat, none⟩ (.bool true))) ?hg ?ho ?hn ?hr ?_; (case ho => rfl); (case hg => rfl); (case hn => rfl); (case hr => first | (go_simp; done) | (go_simp; rfl)); intro w53 hw; have hg : w50.grownBy w53 (some go43) := (by rw [hw]; exact HP52.2); have hp_ : Kd.R Kd.bool 4 w53 w.heap.size (fun _ => True) (.slice (some ⟨go43, 0, none⟩) x5_2.length co43) y226 := (by rw [hw, Ny226.out]; exact HP52.1); clear HP52; have n0_ := Aside0.mk (hp_); have n1_ := Aside0.mk (Kd.R_over' (v := (.slice (some ⟨go43, 0, none⟩) x5_2.length co43)) (rl HO_8.out) (Kd.R_typed HO_5.out) (by decide) hg); have n2_ := Aside0.mk (blk_grown (g := gb212) (o := .cells #[.slice (some ad223) l0_0.length c0_0] 26 (0, 0)) (bl BK212.out) hg (Kd.R_ne HO_5.out BK212.out (by decide))); have n3_ := Aside0.mk (blk_grown (g := gb224) (o := .cells #[.int .i64 ((rd_T34 l0_0 x43_2).f0), .int .i64 ((rd_T34 l0_0 x43_2).f1), .int .i64 ((rd_T34 l0_0 x43_2).f2), .int .i64 ((rd_T34 l0_0 x43_2).f3)] 34 (0, 0)) (bl BK224.out) hg (Kd.R_ne HO_5.out BK224.out (by decide))); have n4_ := Aside0.mk ((by rw [hw]; exact below_set (HB.out) GB43.out : Below w.heap.size w w53)); clear HO_5 HO_8 BK212 BK224 HB; have HO_5 := n0_; have HO_8 := n1_; have BK212 := n2_; have BK224 := n3_; have HB := n4_; clear n0_ n1_ n2_ n3_ n4_ hg hw hp_))
                    go_roundg k2
                    case measure => have := HK1.out; have := HK2.out; omega
                    case rel => exact ⟨(y226), (y225), (wrap64 (x43_2 + 1)), (by first | rfl | (simp; done) | (simp [*]; done)), H', ⟨by have := HK1.out; have := HK2.out; omega⟩, ⟨rl HO_5.out⟩, ⟨rl HO_8.out⟩, ⟨bl BK212.out⟩, ⟨bw HB.out⟩⟩
                   ·rw [if_neg c42] at H
                    exact absurd H (by simp)
                  ·rw [if_neg c41] at H
                   have c41b0 : decide (((rd_T34 l0_0 x43_2).f1) < 1000) = false := decide_eq_false c41
                   clear c41
                   have H' := Aside0.mk H
                   clear H
                   have p223 : 0 ≤ (x43_2 : Int) := oda
                   have q223 : x43_2 < (l0_0.length : Int) := oda
                   obtain ⟨ad223, e223, hx223_0, hx223_1, hx223_2, hx223_3⟩ := at_T34 HR0_0.out x43_2 p223 q223
                   cases e223
                   replace hx223_0 := (HB.out.cell (World.block_lt_of_cell? w _ hx223_0)).trans hx223_0
                   replace hx223_1 := (HB.out.cell (World.block_lt_of_cell? w _ hx223_1)).trans hx223_1
                   replace hx223_2 := (HB.out.cell (World.block_lt_of_cell? w _ hx223_2)).trans hx223_2
                   replace hx223_3 := (HB.out.cell (World.block_lt_of_cell? w _ hx223_3)).trans hx223_3
                   replace p223 := eq_true p223
                   replace q223 := eq_true q223
                   go_wp2_with (first | ((with_reducible refine gate_dst (N := 10) rfl ?_); refine box_event ?hg (N := 10) ?hd (cs := #[.int .i64 0, .int .i64 0, .int .i64 0, .int .i64 0]) (t := 34) ?hr ?_; (case hd => rfl); (case hg => rfl); (case hr => first | (go_simp; done) | (go_simp; rfl)); intro gb224 hg w54 hbox hb; have n0_ := Aside0.mk (Kd.R_below (rl HO_5.out) hb); have n1_ := Aside0.mk (Kd.R_below (rl HO_8.out) hb); have n2_ := Aside0.mk (blk_below (g := gb212) (o := .cells #[.slice (some ad223) l0_0.length c0_0] 26 (0, 0)) (bl BK212.out) hb); have n3_ := Aside0.mk (below_step (bw HB.out) hb); have n4_ := Aside0.mk (hbox); have n5_ := Aside0.mk ((by rw [hg]; exact (below_size (bw HB.out)) : w.heap.size ≤ gb224)); have n6_ := Aside0.mk ((by rw [hg]; exact (below_size (bw HB.out)) : w.heap.size ≤ gb224)); have n7_ := Aside0.mk ((by rw [hg]; exact Nat.ne_of_lt (blk_lt (g := gb212) (o := .cells #[.slice (some ad223) l0_0.length c0_0] 26 (0, 0)) (bl BK212.out)) : gb212 ≠ gb224)); have n8_ := Aside0.mk ((by rw [hg]; exact Nat.ne_of_gt (blk_lt (g := gb212) (o := .cells #[.slice (some ad223) l0_0.length c0_0] 26 (0, 0)) (bl BK212.out)) : gb224 ≠ gb212)); clear HO_5 HO_8 BK212 HB; have HO_5 := n0_; have HO_8 := n1_; have BK212 := n2_; have HB := n3_; have BK224 := n4_; have GW224 := n5_; have GE224 := n6_; have NB212_224 := n7_; have NB224_212 := n8_; clear n0_ n1_ n2_ n3_ n4_ n5_ n6_ n7_ n8_ hb hbox hg; have hnb55 := NB224_212.out; have hnc55 := NB212_224.out; have hcz56_0 : w54.cell? ⟨gb224, 0, none⟩ = some (.int .i64 0) := (blk_cell BK224.out 0).trans rfl; have hcz56_1 : w54.cell? ⟨gb224, 1, none⟩ = some (.int .i64 0) := (blk_cell BK224.out 1).trans rfl; have hcz56_2 : w54.cell? ⟨gb224, 2, none⟩ = some (.int .i64 0) := (blk_cell BK224.out 2).trans rfl; have hcz56_3 : w54.cell? ⟨gb224, 3, none⟩ = some (.int .i64 0) := (blk_cell BK224.out 3).trans rfl; have hfz56_0 := blk_frozen BK224.out 0; have hfz56_1 := blk_frozen BK224.out 1; have hfz56_2 := blk_frozen BK224.out 2; have hfz56_3 := blk_frozen BK224.out 3) | ((with_reducible refine gate_store (t := 34) (p := 10) rfl ?_); refine store_event (t := 34) (p := 10) (v := ?vo_w57) (w1 := ((((w54.setCell ⟨gb224, 0, none⟩ (.int .i64 ((rd_T34 l0_0 x43_2).f0))).setCell ⟨gb224, 1, none⟩ (.int .i64 ((rd_T34 l0_0 x43_2).f1))).setCell ⟨gb224, 2, none⟩ (.int .i64 ((rd_T34 l0_0 x43_2).f2))).setCell ⟨gb224, 3, none⟩ (.int .i64 ((rd_T34 l0_0 x43_2).f3)))) ?hg ?ho ?hn ?hr ?_; (case ho => rfl); (case hg => rfl); (case hn => rfl); (case hr => first | (go_simp; done) | (go_simp; rfl)); intro w57 hw; have n0_ : Aside0 (Kd.R Kd.bool 4 w57 w.heap.size (fun _ => True) v215 x5_2) := ⟨(by rw [hw]; exact (by (with_reducible repeat (first | apply Kd.R_alloc | apply Kd.R_drewN | apply Kd.R_drew)); exact Kd.R_mono (Kd.R_far (p := ⟨gb224, 3, none⟩) (Kd.R_far (p := ⟨gb224, 2, none⟩) (Kd.R_far (p := ⟨gb224, 1, none⟩) (Kd.R_far (p := ⟨gb224, 0, none⟩) (Kd.R_types HO_5.out BK224.out (by decide)) (fun _ hk => hk.2) (.int .i64 ((rd_T34 l0_0 x43_2).f0))) (fun _ hk => hk.2) (.int .i64 ((rd_T34 l0_0 x43_2).f1))) (fun _ hk => hk.2) (.int .i64 ((rd_T34 l0_0 x43_2).f2))) (fun _ hk => hk.2) (.int .i64 ((rd_T34 l0_0 x43_2).f3))) (fun _ hk => trivial)))⟩; have n1_ : Aside0 (Kd.R (Kd.int .i64) 3 w57 w.heap.size (fun _ => True) v221 x8_2) := ⟨(by rw [hw]; exact (by (with_reducible repeat (first | apply Kd.R_alloc | apply Kd.R_drewN | apply Kd.R_drew)); exact Kd.R_mono (Kd.R_far (p := ⟨gb224, 3, none⟩) (Kd.R_far (p := ⟨gb224, 2, none⟩) (Kd.R_far (p := ⟨gb224, 1, none⟩) (Kd.R_far (p := ⟨gb224, 0, none⟩) (Kd.R_types HO_8.out BK224.out (by decide)) (fun _ hk => hk.2) (.int .i64 ((rd_T34 l0_0 x43_2).f0))) (fun _ hk => hk.2) (.int .i64 ((rd_T34 l0_0 x43_2).f1))) (fun _ hk => hk.2) (.int .i64 ((rd_T34 l0_0 x43_2).f2))) (fun _ hk => hk.2) (.int .i64 ((rd_T34 l0_0 x43_2).f3))) (fun _ hk => trivial)))⟩; have n2_ : Aside0 (w57.heap[gb212]? = some (.cells #[.slice (some ad223) l0_0.length c0_0] 26 (0, 0))) := ⟨(by rw [hw]; exact (by (with_reducible repeat (first | refine blk_drewN ?_ _ | refine blk_drew ?_ | refine blk_alloc ?_ _)); refine blk_far ?_ NB212_224.out _; (with_reducible repeat (first | refine blk_drewN ?_ _ | refine blk_drew ?_ | refine blk_alloc ?_ _)); refine blk_far ?_ NB212_224.out _; (with_reducible repeat (first | refine blk_drewN ?_ _ | refine blk_drew ?_ | refine blk_alloc ?_ _)); refine blk_far ?_ NB212_224.out _; (with_reducible repeat (first | refine blk_drewN ?_ _ | refine blk_drew ?_ | refine blk_alloc ?_ _)); refine blk_far ?_ NB212_224.out _; exact bl BK212.out))⟩; have n3_ : Aside0 (w57.heap[gb224]? = some (.cells #[.int .i64 ((rd_T34 l0_0 x43_2).f0), .int .i64 ((rd_T34 l0_0 x43_2).f1), .int .i64 ((rd_T34 l0_0 x43_2).f2), .int .i64 ((rd_T34 l0_0 x43_2).f3)] 34 (0, 0))) := ⟨(by rw [hw]; exact (by (with_reducible repeat (first | refine blk_drewN ?_ _ | refine blk_drew ?_ | refine blk_alloc ?_ _)); refine blk_put (cs := #[.int .i64 ((rd_T34 l0_0 x43_2).f0), .int .i64 ((rd_T34 l0_0 x43_2).f1), .int .i64 ((rd_T34 l0_0 x43_2).f2), .int .i64 0]) ?_ 3 _ rfl; (with_reducible repeat (first | refine blk_drewN ?_ _ | refine blk_drew ?_ | refine blk_alloc ?_ _)); refine blk_put (cs := #[.int .i64 ((rd_T34 l0_0 x43_2).f0), .int .i64 ((rd_T34 l0_0 x43_2).f1), .int .i64 0, .int .i64 0]) ?_ 2 _ rfl; (with_reducible repeat (first | refine blk_drewN ?_ _ | refine blk_drew ?_ | refine blk_alloc ?_ _)); refine blk_put (cs := #[.int .i64 ((rd_T34 l0_0 x43_2).f0), .int .i64 0, .int .i64 0, .int .i64 0]) ?_ 1 _ rfl; (with_reducible repeat (first | refine blk_drewN ?_ _ | refine blk_drew ?_ | refine blk_alloc ?_ _)); refine blk_put (cs := #[.int .i64 0, .int .i64 0, .int .i64 0, .int .i64 0]) ?_ 0 _ rfl; exact bl BK224.out))⟩; have n4_ : Aside0 (Below w.heap.size w w57) := ⟨(by rw [hw]; exact (bw HB.out))⟩; clear hw HO_5 HO_8 BK212 BK224 HB; have HO_5 := n0_; have HO_8 := n1_; have BK212 := n2_; have BK224 := n3_; have HB := n4_; clear n0_ n1_ n2_ n3_ n4_; have hcz58_0 : w57.cell? ⟨gb224, 0, none⟩ = some (.int .i64 ((rd_T34 l0_0 x43_2).f0)) := (blk_cell BK224.out 0).trans rfl; have hcz58_1 : w57.cell? ⟨gb224, 1, none⟩ = some (.int .i64 ((rd_T34 l0_0 x43_2).f1)) := (blk_cell BK224.out 1).trans rfl; have hcz58_2 : w57.cell? ⟨gb224, 2, none⟩ = some (.int .i64 ((rd_T34 l0_0 x43_2).f2)) := (blk_cell BK224.out 2).trans rfl; have hcz58_3 : w57.cell? ⟨gb224, 3, none⟩ = some (.int .i64 ((rd_T34 l0_0 x43_2).f3)) := (blk_cell BK224.out 3).trans rfl; have hfz58_0 := blk_frozen BK224.out 0; have hfz58_1 := blk_frozen BK224.out 1; have hfz58_2 := blk_frozen BK224.out 2; have hfz58_3 := blk_frozen BK224.out 3; have p39 : 0 ≤ (((rd_T34 l0_0 x43_2).f2) : Int) := oda; have q39 : (((rd_T34 l0_0 x43_2).f2) : Int) < ((x8_2.length : Int) : Int) := oda; obtain ⟨go39, co39, eo39, gb39, gl39, cl39, HG39⟩ := Kd.R_form HO_8.out (by omega); (first | cases eo39 | (injection eo39 with ea_ en_ ec_; (first | subst ea_ | (injection ea_ with ea_; subst ea_)); subst ec_; clear en_)); have GB39 := Aside0.mk gb39; have GG39 := Aside0.mk HG39; clear gb39 gl39 HG39; obtain ⟨hx39_0, hf39_0⟩ := Kd.R_celln 0 HO_8.out (((rd_T34 l0_0 x43_2).f2) : Int) p39 q39; replace p39 := eq_true p39; replace q39 := eq_true q39; obtain ⟨hy59_, hz59_⟩ := Kd.R_celln 0 HO_8.out (((rd_T34 l0_0 x43_2).f2) : Int) (oda) (oda); have HP59 := Kd.R_putg HO_8.out (((rd_T34 l0_0 x43_2).f2) : Int) x43_2) | ((with_reducible refine gate_store (t := 3) (p := 55) rfl ?_); refine store_event (t := 3) (p := 55) (v := ?vo_w60) (w1 := (w57.setCell ⟨go39, (((rd_T34 l0_0 x43_2).f2) : Int).toNat, none⟩ (.int .i64 x43_2))) ?hg ?ho ?hn ?hr ?_; (case ho => rfl); (case hg => rfl); (case hn => rfl); (case hr => first | (go_simp; done) | (go_simp; rfl)); intro w60 hw; have hg : w57.grownBy w60 (some go39) := (by rw [hw]; exact HP59.2); have hp_ : Kd.R (Kd.int .i64) 3 w60 w.heap.size (fun _ => True) (.slice (some ⟨go39, 0, none⟩) x8_2.length co39) y225 := (by rw [hw, Ny225.out]; exact HP59.1); clear HP59; have n0_ := Aside0.mk (Kd.R_over' (v := (.slice (some ⟨go39, 0, none⟩) x8_2.length co39)) (rl HO_5.out) (Kd.R_typed HO_8.out) (by decide) hg); have n1_ := Aside0.mk (hp_); have n2_ := Aside0.mk (blk_grown (g := gb212) (o := .cells #[.slice (some ad223) l0_0.length c0_0] 26 (0, 0)) (bl BK212.out) hg (Kd.R_ne HO_8.out BK212.out (by decide))); have n3_ := Aside0.mk (blk_grown (g := gb224) (o := .cells #[.int .i64 ((rd_T34 l0_0 x43_2).f0), .int .i64 ((rd_T34 l0_0 x43_2).f1), .int .i64 ((rd_T34 l0_0 x43_2).f2), .int .i64 ((rd_T34 l0_0 x43_2).f3)] 34 (0, 0)) (bl BK224.out) hg (Kd.R_ne HO_8.out BK224.out (by decide))); have n4_ := Aside0.mk ((by rw [hw]; exact below_set (HB.out) GB39.out : Below w.heap.size w w60)); clear HO_5 HO_8 BK212 BK224 HB; have HO_5 := n0_; have HO_8 := n1_; have BK212 := n2_; have BK224 := n3_; have HB := n4_; clear n0_ n1_ n2_ n3_ n4_ hg hw hp_; have hcz61_0 : w60.cell? ⟨gb224, 0, none⟩ = some (.int .i64 ((rd_T34 l0_0 x43_2).f0)) := (blk_cell BK224.out 0).trans rfl; have hcz61_1 : w60.cell? ⟨gb224, 1, none⟩ = some (.int .i64 ((rd_T34 l0_0 x43_2).f1)) := (blk_cell BK224.out 1).trans rfl; have hcz61_2 : w60.cell? ⟨gb224, 2, none⟩ = some (.int .i64 ((rd_T34 l0_0 x43_2).f2)) := (blk_cell BK224.out 2).trans rfl; have hcz61_3 : w60.cell? ⟨gb224, 3, none⟩ = some (.int .i64 ((rd_T34 l0_0 x43_2).f3)) := (blk_cell BK224.out 3).trans rfl; have hfz61_0 := blk_frozen BK224.out 0; have hfz61_1 := blk_frozen BK224.out 1; have hfz61_2 := blk_frozen BK224.out 2; have hfz61_3 := blk_frozen BK224.out 3))
                   go_roundg k2
                   case measure => have := HK1.out; have := HK2.out; omega
                   case rel => exact ⟨(x5_2), (y225), (wrap64 (x43_2 + 1)), (by first | rfl | (simp; done) | (simp [*]; done)), H', ⟨by have := HK1.out; have := HK2.out; omega⟩, ⟨rl HO_5.out⟩, ⟨rl HO_8.out⟩, ⟨bl BK212.out⟩, ⟨bw HB.out⟩⟩
                 ·rw [if_neg c40] at H
                  have c40b0 : (((rd_T34 l0_0 x43_2).f0) == 1) = false := beq_eq_false_iff_ne.mpr c40
                  have c40b1 : (((rd_T34 l0_0 x43_2).f0) != 1) = true := bne_iff_ne.mpr c40
                  have H' := Aside0.mk H
                  clear H
                  have p223 : 0 ≤ (x43_2 : Int) := oda
                  have q223 : x43_2 < (l0_0.length : Int) := oda
                  obtain ⟨ad223, e223, hx223_0, hx223_1, hx223_2, hx223_3⟩ := at_T34 HR0_0.out x43_2 p223 q223
                  cases e223
                  replace hx223_0 := (HB.out.cell (World.block_lt_of_cell? w _ hx223_0)).trans hx223_0
                  replace hx223_1 := (HB.out.cell (World.block_lt_of_cell? w _ hx223_1)).trans hx223_1
                  replace hx223_2 := (HB.out.cell (World.block_lt_of_cell? w _ hx223_2)).trans hx223_2
                  replace hx223_3 := (HB.out.cell (World.block_lt_of_cell? w _ hx223_3)).trans hx223_3
                  replace p223 := eq_true p223
                  replace q223 := eq_true q223
                  go_wp2_with (first | ((with_reducible refine gate_dst (N := 10) rfl ?_); refine box_event ?hg (N := 10) ?hd (cs := #[.int .i64 0, .int .i64 0, .int .i64 0, .int .i64 0]) (t := 34) ?hr ?_; (case hd => rfl); (case hg => rfl); (case hr => first | (go_simp; done) | (go_simp; rfl)); intro gb224 hg w62 hbox hb; have n0_ := Aside0.mk (Kd.R_below (rl HO_5.out) hb); have n1_ := Aside0.mk (Kd.R_below (rl HO_8.out) hb); have n2_ := Aside0.mk (blk_below (g := gb212) (o := .cells #[.slice (some ad223) l0_0.length c0_0] 26 (0, 0)) (bl BK212.out) hb); have n3_ := Aside0.mk (below_step (bw HB.out) hb); have n4_ := Aside0.mk (hbox); have n5_ := Aside0.mk ((by rw [hg]; exact (below_size (bw HB.out)) : w.heap.size ≤ gb224)); have n6_ := Aside0.mk ((by rw [hg]; exact (below_size (bw HB.out)) : w.heap.size ≤ gb224)); have n7_ := Aside0.mk ((by rw [hg]; exact Nat.ne_of_lt (blk_lt (g := gb212) (o := .cells #[.slice (some ad223) l0_0.length c0_0] 26 (0, 0)) (bl BK212.out)) : gb212 ≠ gb224)); have n8_ := Aside0.mk ((by rw [hg]; exact Nat.ne_of_gt (blk_lt (g := gb212) (o := .cells #[.slice (some ad223) l0_0.length c0_0] 26 (0, 0)) (bl BK212.out)) : gb224 ≠ gb212)); clear HO_5 HO_8 BK212 HB; have HO_5 := n0_; have HO_8 := n1_; have BK212 := n2_; have HB := n3_; have BK224 := n4_; have GW224 := n5_; have GE224 := n6_; have NB212_224 := n7_; have NB224_212 := n8_; clear n0_ n1_ n2_ n3_ n4_ n5_ n6_ n7_ n8_ hb hbox hg; have hnb63 := NB224_212.out; have hnc63 := NB212_224.out; have hcz64_0 : w62.cell? ⟨gb224, 0, none⟩ = some (.int .i64 0) := (blk_cell BK224.out 0).trans rfl; have hcz64_1 : w62.cell? ⟨gb224, 1, none⟩ = some (.int .i64 0) := (blk_cell BK224.out 1).trans rfl; have hcz64_2 : w62.cell? ⟨gb224, 2, none⟩ = some (.int .i64 0) := (blk_cell BK224.out 2).trans rfl; have hcz64_3 : w62.cell? ⟨gb224, 3, none⟩ = some (.int .i64 0) := (blk_cell BK224.out 3).trans rfl; have hfz64_0 := blk_frozen BK224.out 0; have hfz64_1 := blk_frozen BK224.out 1; have hfz64_2 := blk_frozen BK224.out 2; have hfz64_3 := blk_frozen BK224.out 3) | ((with_reducible refine gate_store (t := 34) (p := 10) rfl ?_); refine store_event (t := 34) (p := 10) (v := ?vo_w65) (w1 := ((((w62.setCell ⟨gb224, 0, none⟩ (.int .i64 ((rd_T34 l0_0 x43_2).f0))).setCell ⟨gb224, 1, none⟩ (.int .i64 ((rd_T34 l0_0 x43_2).f1))).setCell ⟨gb224, 2, none⟩ (.int .i64 ((rd_T34 l0_0 x43_2).f2))).setCell ⟨gb224, 3, none⟩ (.int .i64 ((rd_T34 l0_0 x43_2).f3)))) ?hg ?ho ?hn ?hr ?_; (case ho => rfl); (case hg => rfl); (case hn => rfl); (case hr => first | (go_simp; done) | (go_simp; rfl)); intro w65 hw; have n0_ : Aside0 (Kd.R Kd.bool 4 w65 w.heap.size (fun _ => True) v215 x5_2) := ⟨(by rw [hw]; exact (by (with_reducible repeat (first | apply Kd.R_alloc | apply Kd.R_drewN | apply Kd.R_drew)); exact Kd.R_mono (Kd.R_far (p := ⟨gb224, 3, none⟩) (Kd.R_far (p := ⟨gb224, 2, none⟩) (Kd.R_far (p := ⟨gb224, 1, none⟩) (Kd.R_far (p := ⟨gb224, 0, none⟩) (Kd.R_types HO_5.out BK224.out (by decide)) (fun _ hk => hk.2) (.int .i64 ((rd_T34 l0_0 x43_2).f0))) (fun _ hk => hk.2) (.int .i64 ((rd_T34 l0_0 x43_2).f1))) (fun _ hk => hk.2) (.int .i64 ((rd_T34 l0_0 x43_2).f2))) (fun _ hk => hk.2) (.int .i64 ((rd_T34 l0_0 x43_2).f3))) (fun _ hk => trivial)))⟩; have n1_ : Aside0 (Kd.R (Kd.int .i64) 3 w65 w.heap.size (fun _ => True) v221 x8_2) := ⟨(by rw [hw]; exact (by (with_reducible repeat (first | apply Kd.R_alloc | apply Kd.R_drewN | apply Kd.R_drew)); exact Kd.R_mono (Kd.R_far (p := ⟨gb224, 3, none⟩) (Kd.R_far (p := ⟨gb224, 2, none⟩) (Kd.R_far (p := ⟨gb224, 1, none⟩) (Kd.R_far (p := ⟨gb224, 0, none⟩) (Kd.R_types HO_8.out BK224.out (by decide)) (fun _ hk => hk.2) (.int .i64 ((rd_T34 l0_0 x43_2).f0))) (fun _ hk => hk.2) (.int .i64 ((rd_T34 l0_0 x43_2).f1))) (fun _ hk => hk.2) (.int .i64 ((rd_T34 l0_0 x43_2).f2))) (fun _ hk => hk.2) (.int .i64 ((rd_T34 l0_0 x43_2).f3))) (fun _ hk => trivial)))⟩; have n2_ : Aside0 (w65.heap[gb212]? = some (.cells #[.slice (some ad223) l0_0.length c0_0] 26 (0, 0))) := ⟨(by rw [hw]; exact (by (with_reducible repeat (first | refine blk_drewN ?_ _ | refine blk_drew ?_ | refine blk_alloc ?_ _)); refine blk_far ?_ NB212_224.out _; (with_reducible repeat (first | refine blk_drewN ?_ _ | refine blk_drew ?_ | refine blk_alloc ?_ _)); refine blk_far ?_ NB212_224.out _; (with_reducible repeat (first | refine blk_drewN ?_ _ | refine blk_drew ?_ | refine blk_alloc ?_ _)); refine blk_far ?_ NB212_224.out _; (with_reducible repeat (first | refine blk_drewN ?_ _ | refine blk_drew ?_ | refine blk_alloc ?_ _)); refine blk_far ?_ NB212_224.out _; exact bl BK212.out))⟩; have n3_ : Aside0 (w65.heap[gb224]? = some (.cells #[.int .i64 ((rd_T34 l0_0 x43_2).f0), .int .i64 ((rd_T34 l0_0 x43_2).f1), .int .i64 ((rd_T34 l0_0 x43_2).f2), .int .i64 ((rd_T34 l0_0 x43_2).f3)] 34 (0, 0))) := ⟨(by rw [hw]; exact (by (with_reducible repeat (first | refine blk_drewN ?_ _ | refine blk_drew ?_ | refine blk_alloc ?_ _)); refine blk_put (cs := #[.int .i64 ((rd_T34 l0_0 x43_2).f0), .int .i64 ((rd_T34 l0_0 x43_2).f1), .int .i64 ((rd_T34 l0_0 x43_2).f2), .int .i64 0]) ?_ 3 _ rfl; (with_reducible repeat (first | refine blk_drewN ?_ _ | refine blk_drew ?_ | refine blk_alloc ?_ _)); refine blk_put (cs := #[.int .i64 ((rd_T34 l0_0 x43_2).f0), .int .i64 ((rd_T34 l0_0 x43_2).f1), .int .i64 0, .int .i64 0]) ?_ 2 _ rfl; (with_reducible repeat (first | refine blk_drewN ?_ _ | refine blk_drew ?_ | refine blk_alloc ?_ _)); refine blk_put (cs := #[.int .i64 ((rd_T34 l0_0 x43_2).f0), .int .i64 0, .int .i64 0, .int .i64 0]) ?_ 1 _ rfl; (with_reducible repeat (first | refine blk_drewN ?_ _ | refine blk_drew ?_ | refine blk_alloc ?_ _)); refine blk_put (cs := #[.int .i64 0, .int .i64 0, .int .i64 0, .int .i64 0]) ?_ 0 _ rfl; exact bl BK224.out))⟩; have n4_ : Aside0 (Below w.heap.size w w65) := ⟨(by rw [hw]; exact (bw HB.out))⟩; clear hw HO_5 HO_8 BK212 BK224 HB; have HO_5 := n0_; have HO_8 := n1_; have BK212 := n2_; have BK224 := n3_; have HB := n4_; clear n0_ n1_ n2_ n3_ n4_; have hcz66_0 : w65.cell? ⟨gb224, 0, none⟩ = some (.int .i64 ((rd_T34 l0_0 x43_2).f0)) := (blk_cell BK224.out 0).trans rfl; have hcz66_1 : w65.cell? ⟨gb224, 1, none⟩ = some (.int .i64 ((rd_T34 l0_0 x43_2).f1)) := (blk_cell BK224.out 1).trans rfl; have hcz66_2 : w65.cell? ⟨gb224, 2, none⟩ = some (.int .i64 ((rd_T34 l0_0 x43_2).f2)) := (blk_cell BK224.out 2).trans rfl; have hcz66_3 : w65.cell? ⟨gb224, 3, none⟩ = some (.int .i64 ((rd_T34 l0_0 x43_2).f3)) := (blk_cell BK224.out 3).trans rfl; have hfz66_0 := blk_frozen BK224.out 0; have hfz66_1 := blk_frozen BK224.out 1; have hfz66_2 := blk_frozen BK224.out 2; have hfz66_3 := blk_frozen BK224.out 3; have p39 : 0 ≤ (((rd_T34 l0_0 x43_2).f2) : Int) := oda; have q39 : (((rd_T34 l0_0 x43_2).f2) : Int) < ((x8_2.length : Int) : Int) := oda; obtain ⟨go39, co39, eo39, gb39, gl39, cl39, HG39⟩ := Kd.R_form HO_8.out (by omega); (first | cases eo39 | (injection eo39 with ea_ en_ ec_; (first | subst ea_ | (injection ea_ with ea_; subst ea_)); subst ec_; clear en_)); have GB39 := Aside0.mk gb39; have GG39 := Aside0.mk HG39; clear gb39 gl39 HG39; obtain ⟨hx39_0, hf39_0⟩ := Kd.R_celln 0 HO_8.out (((rd_T34 l0_0 x43_2).f2) : Int) p39 q39; replace p39 := eq_true p39; replace q39 := eq_true q39; obtain ⟨hy67_, hz67_⟩ := Kd.R_celln 0 HO_8.out (((rd_T34 l0_0 x43_2).f2) : Int) (oda) (oda); have HP67 := Kd.R_putg HO_8.out (((rd_T34 l0_0 x43_2).f2) : Int) x43_2) | ((with_reducible refine gate_store (t := 3) (p := 55) rfl ?_); refine store_event (t := 3) (p := 55) (v := ?vo_w68) (w1 := (w65.setCell ⟨go39, (((rd_T34 l0_0 x43_2).f2) : Int).toNat, none⟩ (.int .i64 x43_2))) ?hg ?ho ?hn ?hr ?_; (case ho => rfl); (case hg => rfl); (case hn => rfl); (case hr => first | (go_simp; done) | (go_simp; rfl)); intro w68 hw; have hg : w65.grownBy w68 (some go39) := (by rw [hw]; exact HP67.2); have hp_ : Kd.R (Kd.int .i64) 3 w68 w.heap.size (fun _ => True) (.slice (some ⟨go39, 0, none⟩) x8_2.length co39) y225 := (by rw [hw, Ny225.out]; exact HP67.1); clear HP67; have n0_ := Aside0.mk (Kd.R_over' (v := (.slice (some ⟨go39, 0, none⟩) x8_2.length co39)) (rl HO_5.out) (Kd.R_typed HO_8.out) (by decide) hg); have n1_ := Aside0.mk (hp_); have n2_ := Aside0.mk (blk_grown (g := gb212) (o := .cells #[.slice (some ad223) l0_0.length c0_0] 26 (0, 0)) (bl BK212.out) hg (Kd.R_ne HO_8.out BK212.out (by decide))); have n3_ := Aside0.mk (blk_grown (g := gb224) (o := .cells #[.int .i64 ((rd_T34 l0_0 x43_2).f0), .int .i64 ((rd_T34 l0_0 x43_2).f1), .int .i64 ((rd_T34 l0_0 x43_2).f2), .int .i64 ((rd_T34 l0_0 x43_2).f3)] 34 (0, 0)) (bl BK224.out) hg (Kd.R_ne HO_8.out BK224.out (by decide))); have n4_ := Aside0.mk ((by rw [hw]; exact below_set (HB.out) GB39.out : Below w.heap.size w w68)); clear HO_5 HO_8 BK212 BK224 HB; have HO_5 := n0_; have HO_8 := n1_; have BK212 := n2_; have BK224 := n3_; have HB := n4_; clear n0_ n1_ n2_ n3_ n4_ hg hw hp_; have hcz69_0 : w68.cell? ⟨gb224, 0, none⟩ = some (.int .i64 ((rd_T34 l0_0 x43_2).f0)) := (blk_cell BK224.out 0).trans rfl; have hcz69_1 : w68.cell? ⟨gb224, 1, none⟩ = some (.int .i64 ((rd_T34 l0_0 x43_2).f1)) := (blk_cell BK224.out 1).trans rfl; have hcz69_2 : w68.cell? ⟨gb224, 2, none⟩ = some (.int .i64 ((rd_T34 l0_0 x43_2).f2)) := (blk_cell BK224.out 2).trans rfl; have hcz69_3 : w68.cell? ⟨gb224, 3, none⟩ = some (.int .i64 ((rd_T34 l0_0 x43_2).f3)) := (blk_cell BK224.out 3).trans rfl; have hfz69_0 := blk_frozen BK224.out 0; have hfz69_1 := blk_frozen BK224.out 1; have hfz69_2 := blk_frozen BK224.out 2; have hfz69_3 := blk_frozen BK224.out 3))
                  go_roundg k2
                  case measure => have := HK1.out; have := HK2.out; omega
                  case rel => exact ⟨(x5_2), (y225), (wrap64 (x43_2 + 1)), (by first | rfl | (simp; done) | (simp [*]; done)), H', ⟨by have := HK1.out; have := HK2.out; omega⟩, ⟨rl HO_5.out⟩, ⟨rl HO_8.out⟩, ⟨bl BK212.out⟩, ⟨bw HB.out⟩⟩
                ·rw [if_neg c38] at H
                 exact absurd H (by simp)
               ·rw [if_neg c37] at H
                exact absurd H (by simp)
              ·rw [if_neg c36] at H
               have c36b0 : (((rd_T34 l0_0 x43_2).f0) == 6) = false := beq_eq_false_iff_ne.mpr c36
               have c36b1 : (((rd_T34 l0_0 x43_2).f0) != 6) = true := bne_iff_ne.mpr c36
               by_cases c70 : ((rd_T34 l0_0 x43_2).f0) = 1
               ·rw [if_pos c70] at H
                have c70b0 : (((rd_T34 l0_0 x43_2).f0) == 1) = true := beq_iff_eq.mpr c70
                have c70b1 : (((rd_T34 l0_0 x43_2).f0) != 1) = false := bne_eq_false_iff_eq.mpr c70
                clear c70
                by_cases c71 : ((rd_T34 l0_0 x43_2).f1) < 1000
                ·rw [if_pos c71] at H
                 have c71b0 : decide (((rd_T34 l0_0 x43_2).f1) < 1000) = true := decide_eq_true c71
                 clear c71
                 by_cases c72 : x43_2 < (x5_2.length : Int)
                 ·rw [if_pos c72] at H
                  have c72b0 : decide (x43_2 < (x5_2.length : Int)) = true := decide_eq_true c72
                  clear c72
                  obtain ⟨y227, hy227⟩ : ∃ y_ : List Bool, y_ = (x5_2.set (x43_2 : Int).toNat true) := ⟨_, rfl⟩
                  replace H : (impl_Reach.l1 k2 y227 x8_2 l0_0 (l0_0.length : Int) (wrap64 (x43_2 + 1)) l0_0) = some r := by first | (rw [hy227]; with_reducible exact H) | (have H2_ := (Option.bind_some _ _).symm.trans H; rw [hy227]; with_reducible exact H2_) | (have H2_ := (Option.bind_some _ _).symm.trans H; with_reducible exact H2_) | with_reducible exact H | (rw [hy227]; exact H) | exact H
                  have Ny227 := Aside0.mk hy227
                  clear hy227
                  have H' := Aside0.mk H
                  clear H
                  have p223 : 0 ≤ (x43_2 : Int) := oda
                  have q223 : x43_2 < (l0_0.length : Int) := oda
                  obtain ⟨ad223, e223, hx223_0, hx223_1, hx223_2, hx223_3⟩ := at_T34 HR0_0.out x43_2 p223 q223
                  cases e223
                  replace hx223_0 := (HB.out.cell (World.block_lt_of_cell? w _ hx223_0)).trans hx223_0
                  replace hx223_1 := (HB.out.cell (World.block_lt_of_cell? w _ hx223_1)).trans hx223_1
                  replace hx223_2 := (HB.out.cell (World.block_lt_of_cell? w _ hx223_2)).trans hx223_2
                  replace hx223_3 := (HB.out.cell (World.block_lt_of_cell? w _ hx223_3)).trans hx223_3
                  replace p223 := eq_true p223
                  replace q223 := eq_true q223
                  go_wp2_with (first | ((with_reducible refine gate_dst (N := 10) rfl ?_); refine box_event ?hg (N := 10) ?hd (cs := #[.int .i64 0, .int .i64 0, .int .i64 0, .int .i64 0]) (t := 34) ?hr ?_; (case hd => rfl); (case hg => rfl); (case hr => first | (go_simp; done) | (go_simp; rfl)); intro gb224 hg w74 hbox hb; have n0_ := Aside0.mk (Kd.R_below (rl HO_5.out) hb); have n1_ := Aside0.mk (Kd.R_below (rl HO_8.out) hb); have n2_ := Aside0.mk (blk_below (g := gb212) (o := .cells #[.slice (some ad223) l0_0.length c0_0] 26 (0, 0)) (bl BK212.out) hb); have n3_ := Aside0.mk (below_step (bw HB.out) hb); have n4_ := Aside0.mk (hbox); have n5_ := Aside0.mk ((by rw [hg]; exact (below_size (bw HB.out)) : w.heap.size ≤ gb224)); have n6_ := Aside0.mk ((by rw [hg]; exact (below_size (bw HB.out)) : w.heap.size ≤ gb224)); have n7_ := Aside0.mk ((by rw [hg]; exact Nat.ne_of_lt (blk_lt (g := gb212) (o := .cells #[.slice (some ad223) l0_0.length c0_0] 26 (0, 0)) (bl BK212.out)) : gb212 ≠ gb224)); have n8_ := Aside0.mk ((by rw [hg]; exact Nat.ne_of_gt (blk_lt (g := gb212) (o := .cells #[.slice (some ad223) l0_0.length c0_0] 26 (0, 0)) (bl BK212.out)) : gb224 ≠ gb212)); clear HO_5 HO_8 BK212 HB; have HO_5 := n0_; have HO_8 := n1_; have BK212 := n2_; have HB := n3_; have BK224 := n4_; have GW224 := n5_; have GE224 := n6_; have NB212_224 := n7_; have NB224_212 := n8_; clear n0_ n1_ n2_ n3_ n4_ n5_ n6_ n7_ n8_ hb hbox hg; have hnb75 := NB224_212.out; have hnc75 := NB212_224.out; have hcz76_0 : w74.cell? ⟨gb224, 0, none⟩ = some (.int .i64 0) := (blk_cell BK224.out 0).trans rfl; have hcz76_1 : w74.cell? ⟨gb224, 1, none⟩ = some (.int .i64 0) := (blk_cell BK224.out 1).trans rfl; have hcz76_2 : w74.cell? ⟨gb224, 2, none⟩ = some (.int .i64 0) := (blk_cell BK224.out 2).trans rfl; have hcz76_3 : w74.cell? ⟨gb224, 3, none⟩ = some (.int .i64 0) := (blk_cell BK224.out 3).trans rfl; have hfz76_0 := blk_frozen BK224.out 0; have hfz76_1 := blk_frozen BK224.out 1; have hfz76_2 := blk_frozen BK224.out 2; have hfz76_3 := blk_frozen BK224.out 3) | ((with_reducible refine gate_store (t := 34) (p := 10) rfl ?_); refine store_event (t := 34) (p := 10) (v := ?vo_w77) (w1 := ((((w74.setCell ⟨gb224, 0, none⟩ (.int .i64 ((rd_T34 l0_0 x43_2).f0))).setCell ⟨gb224, 1, none⟩ (.int .i64 ((rd_T34 l0_0 x43_2).f1))).setCell ⟨gb224, 2, none⟩ (.int .i64 ((rd_T34 l0_0 x43_2).f2))).setCell ⟨gb224, 3, none⟩ (.int .i64 ((rd_T34 l0_0 x43_2).f3)))) ?hg ?ho ?hn ?hr ?_; (case ho => rfl); (case hg => rfl); (case hn => rfl); (case hr => first | (go_simp; done) | (go_simp; rfl)); intro w77 hw; have n0_ : Aside0 (Kd.R Kd.bool 4 w77 w.heap.size (fun _ => True) v215 x5_2) := ⟨(by rw [hw]; exact (by (with_reducible repeat (first | apply Kd.R_alloc | apply Kd.R_drewN | apply Kd.R_drew)); exact Kd.R_mono (Kd.R_far (p := ⟨gb224, 3, none⟩) (Kd.R_far (p := ⟨gb224, 2, none⟩) (Kd.R_far (p := ⟨gb224, 1, none⟩) (Kd.R_far (p := ⟨gb224, 0, none⟩) (Kd.R_types HO_5.out BK224.out (by decide)) (fun _ hk => hk.2) (.int .i64 ((rd_T34 l0_0 x43_2).f0))) (fun _ hk => hk.2) (.int .i64 ((rd_T34 l0_0 x43_2).f1))) (fun _ hk => hk.2) (.int .i64 ((rd_T34 l0_0 x43_2).f2))) (fun _ hk => hk.2) (.int .i64 ((rd_T34 l0_0 x43_2).f3))) (fun _ hk => trivial)))⟩; have n1_ : Aside0 (Kd.R (Kd.int .i64) 3 w77 w.heap.size (fun _ => True) v221 x8_2) := ⟨(by rw [hw]; exact (by (with_reducible repeat (first | apply Kd.R_alloc | apply Kd.R_drewN | apply Kd.R_drew)); exact Kd.R_mono (Kd.R_far (p := ⟨gb224, 3, none⟩) (Kd.R_far (p := ⟨gb224, 2, none⟩) (Kd.R_far (p := ⟨gb224, 1, none⟩) (Kd.R_far (p := ⟨gb224, 0, none⟩) (Kd.R_types HO_8.out BK224.out (by decide)) (fun _ hk => hk.2) (.int .i64 ((rd_T34 l0_0 x43_2).f0))) (fun _ hk => hk.2) (.int .i64 ((rd_T34 l0_0 x43_2).f1))) (fun _ hk => hk.2) (.int .i64 ((rd_T34 l0_0 x43_2).f2))) (fun _ hk => hk.2) (.int .i64 ((rd_T34 l0_0 x43_2).f3))) (fun _ hk => trivial)))⟩; have n2_ : Aside0 (w77.heap[gb212]? = some (.cells #[.slice (some ad223) l0_0.length c0_0] 26 (0, 0))) := ⟨(by rw [hw]; exact (by (with_reducible repeat (first | refine blk_drewN ?_ _ | refine blk_drew ?_ | refine blk_alloc ?_ _)); refine blk_far ?_ NB212_224.out _; (with_reducible repeat (first | refine blk_drewN ?_ _ | refine blk_drew ?_ | refine blk_alloc ?_ _)); refine blk_far ?_ NB212_224.out _; (with_reducible repeat (first | refine blk_drewN ?_ _ | refine blk_drew ?_ | refine blk_alloc ?_ _)); refine blk_far ?_ NB212_224.out _; (with_reducible repeat (first | refine blk_drewN ?_ _ | refine blk_drew ?_ | refine blk_alloc ?_ _)); refine blk_far ?_ NB212_224.out _; exact bl BK212.out))⟩; have n3_ : Aside0 (w77.heap[gb224]? = some (.cells #[.int .i64 ((rd_T34 l0_0 x43_2).f0), .int .i64 ((rd_T34 l0_0 x43_2).f1), .int .i64 ((rd_T34 l0_0 x43_2).f2), .int .i64 ((rd_T34 l0_0 x43_2).f3)] 34 (0, 0))) := ⟨(by rw [hw]; exact (by (with_reducible repeat (first | refine blk_drewN ?_ _ | refine blk_drew ?_ | refine blk_alloc ?_ _)); refine blk_put (cs := #[.int .i64 ((rd_T34 l0_0 x43_2).f0), .int .i64 ((rd_T34 l0_0 x43_2).f1), .int .i64 ((rd_T34 l0_0 x43_2).f2), .int .i64 0]) ?_ 3 _ rfl; (with_reducible repeat (first | refine blk_drewN ?_ _ | refine blk_drew ?_ | refine blk_alloc ?_ _)); refine blk_put (cs := #[.int .i64 ((rd_T34 l0_0 x43_2).f0), .int .i64 ((rd_T34 l0_0 x43_2).f1), .int .i64 0, .int .i64 0]) ?_ 2 _ rfl; (with_reducible repeat (first | refine blk_drewN ?_ _ | refine blk_drew ?_ | refine blk_alloc ?_ _)); refine blk_put (cs := #[.int .i64 ((rd_T34 l0_0 x43_2).f0), .int .i64 0, .int .i64 0, .int .i64 0]) ?_ 1 _ rfl; (with_reducible repeat (first | refine blk_drewN ?_ _ | refine blk_drew ?_ | refine blk_alloc ?_ _)); refine blk_put (cs := #[.int .i64 0, .int .i64 0, .int .i64 0, .int .i64 0]) ?_ 0 _ rfl; exact bl BK224.out))⟩; have n4_ : Aside0 (Below w.heap.size w w77) := ⟨(by rw [hw]; exact (bw HB.out))⟩; clear hw HO_5 HO_8 BK212 BK224 HB; have HO_5 := n0_; have HO_8 := n1_; have BK212 := n2_; have BK224 := n3_; have HB := n4_; clear n0_ n1_ n2_ n3_ n4_; have hcz78_0 : w77.cell? ⟨gb224, 0, none⟩ = some (.int .i64 ((rd_T34 l0_0 x43_2).f0)) := (blk_cell BK224.out 0).trans rfl; have hcz78_1 : w77.cell? ⟨gb224, 1, none⟩ = some (.int .i64 ((rd_T34 l0_0 x43_2).f1)) := (blk_cell BK224.out 1).trans rfl; have hcz78_2 : w77.cell? ⟨gb224, 2, none⟩ = some (.int .i64 ((rd_T34 l0_0 x43_2).f2)) := (blk_cell BK224.out 2).trans rfl; have hcz78_3 : w77.cell? ⟨gb224, 3, none⟩ = some (.int .i64 ((rd_T34 l0_0 x43_2).f3)) := (blk_cell BK224.out 3).trans rfl; have hfz78_0 := blk_frozen BK224.out 0; have hfz78_1 := blk_frozen BK224.out 1; have hfz78_2 := blk_frozen BK224.out 2; have hfz78_3 := blk_frozen BK224.out 3; have p73 : 0 ≤ (x43_2 : Int) := oda; have q73 : (x43_2 : Int) < ((x5_2.length : Int) : Int) := oda; obtain ⟨go73, co73, eo73, gb73, gl73, cl73, HG73⟩ := Kd.R_form HO_5.out (by omega); (first | cases eo73 | (injection eo73 with ea_ en_ ec_; (first | subst ea_ | (injection ea_ with ea_; subst ea_)); subst ec_; clear en_)); have GB73 := Aside0.mk gb73; have GG73 := Aside0.mk HG73; clear gb73 gl73 HG73; obtain ⟨hx73_0, hf73_0⟩ := Kd.R_celln false HO_5.out (x43_2 : Int) p73 q73; replace p73 := eq_true p73; replace q73 := eq_true q73; obtain ⟨hy79_, hz79_⟩ := Kd.R_celln false HO_5.out (x43_2 : Int) (oda) (oda); have HP79 := Kd.R_putg HO_5.out (x43_2 : Int) true) | ((with_reducible refine gate_store (t := 4) (p := 66) rfl ?_); refine store_event (t := 4) (p := 66) (v := ?vo_w80) (w1 := (w77.setCell ⟨go73, (x43_2 : Int).toNat, none⟩ (.bool true))) ?hg ?ho ?hn ?hr ?_; (case ho => rfl); (case hg => rfl); (case hn => rfl); (case hr => first | (go_simp; done) | (go_simp; rfl)); intro w80 hw; have hg : w77.grownBy w80 (some go73) := (by rw [hw]; exact HP79.2); have hp_ : Kd.R Kd.bool 4 w80 w.heap.size (fun _ => True) (.slice (some ⟨go73, 0, none⟩) x5_2.length co73) y227 := (by rw [hw, Ny227.out]; exact HP79.1); clear HP79; have n0_ := Aside0.mk (hp_); have n1_ := Aside0.mk (Kd.R_over' (v := (.slice (some ⟨go73, 0, none⟩) x5_2.length co73)) (rl HO_8.out) (Kd.R_typed HO_5.out) (by decide) hg); have n2_ := Aside0.mk (blk_grown (g := gb212) (o := .cells #[.slice (some ad223) l0_0.length c0_0] 26 (0, 0)) (bl BK212.out) hg (Kd.R_ne HO_5.out BK212.out (by decide))); have n3_ := Aside0.mk (blk_grown (g := gb224) (o := .cells #[.int .i64 ((rd_T34 l0_0 x43_2).f0), .int .i64 ((rd_T34 l0_0 x43_2).f1), .int .i64 ((rd_T34 l0_0 x43_2).f2), .int .i64 ((rd_T34 l0_0 x43_2).f3)] 34 (0, 0)) (bl BK224.out) hg (Kd.R_ne HO_5.out BK224.out (by decide))); have n4_ := Aside0.mk ((by rw [hw]; exact below_set (HB.out) GB73.out : Below w.heap.size w w80)); clear HO_5 HO_8 BK212 BK224 HB; have HO_5 := n0_; have HO_8 := n1_; have BK212 := n2_; have BK224 := n3_; have HB := n4_; clear n0_ n1_ n2_ n3_ n4_ hg hw hp_))
                  go_roundg k2
                  case measure => have := HK1.out; have := HK2.out; omega
                  case rel => exact ⟨(y227), (x8_2), (wrap64 (x43_2 + 1)), (by first | rfl | (simp; done) | (simp [*]; done)), H', ⟨by have := HK1.out; have := HK2.out; omega⟩, ⟨rl HO_5.out⟩, ⟨rl HO_8.out⟩, ⟨bl BK212.out⟩, ⟨bw HB.out⟩⟩
                 ·rw [if_neg c72] at H
                  exact absurd H (by simp)
                ·rw [if_neg c71] at H
                 have c71b0 : decide (((rd_T34 l0_0 x43_2).f1) < 1000) = false := decide_eq_false c71
                 clear c71
                 have H' := Aside0.mk H
                 clear H
                 have p223 : 0 ≤ (x43_2 : Int) := oda
                 have q223 : x43_2 < (l0_0.length : Int) := oda
                 obtain ⟨ad223, e223, hx223_0, hx223_1, hx223_2, hx223_3⟩ := at_T34 HR0_0.out x43_2 p223 q223
                 cases e223
                 replace hx223_0 := (HB.out.cell (World.block_lt_of_cell? w _ hx223_0)).trans hx223_0
                 replace hx223_1 := (HB.out.cell (World.block_lt_of_cell? w _ hx223_1)).trans hx223_1
                 replace hx223_2 := (HB.out.cell (World.block_lt_of_cell? w _ hx223_2)).trans hx223_2
                 replace hx223_3 := (HB.out.cell (World.block_lt_of_cell? w _ hx223_3)).trans hx223_3
                 replace p223 := eq_true p223
                 replace q223 := eq_true q223
                 go_wp2_with (first | ((with_reducible refine gate_dst (N := 10) rfl ?_); refine box_event ?hg (N := 10) ?hd (cs := #[.int .i64 0, .int .i64 0, .int .i64 0, .int .i64 0]) (t := 34) ?hr ?_; (case hd => rfl); (case hg => rfl); (case hr => first | (go_simp; done) | (go_simp; rfl)); intro gb224 hg w81 hbox hb; have n0_ := Aside0.mk (Kd.R_below (rl HO_5.out) hb); have n1_ := Aside0.mk (Kd.R_below (rl HO_8.out) hb); have n2_ := Aside0.mk (blk_below (g := gb212) (o := .cells #[.slice (some ad223) l0_0.length c0_0] 26 (0, 0)) (bl BK212.out) hb); have n3_ := Aside0.mk (below_step (bw HB.out) hb); have n4_ := Aside0.mk (hbox); have n5_ := Aside0.mk ((by rw [hg]; exact (below_size (bw HB.out)) : w.heap.size ≤ gb224)); have n6_ := Aside0.mk ((by rw [hg]; exact (below_size (bw HB.out)) : w.heap.size ≤ gb224)); have n7_ := Aside0.mk ((by rw [hg]; exact Nat.ne_of_lt (blk_lt (g := gb212) (o := .cells #[.slice (some ad223) l0_0.length c0_0] 26 (0, 0)) (bl BK212.out)) : gb212 ≠ gb224)); have n8_ := Aside0.mk ((by rw [hg]; exact Nat.ne_of_gt (blk_lt (g := gb212) (o := .cells #[.slice (some ad223) l0_0.length c0_0] 26 (0, 0)) (bl BK212.out)) : gb224 ≠ gb212)); clear HO_5 HO_8 BK212 HB; have HO_5 := n0_; have HO_8 := n1_; have BK212 := n2_; have HB := n3_; have BK224 := n4_; have GW224 := n5_; have GE224 := n6_; have NB212_224 := n7_; have NB224_212 := n8_; clear n0_ n1_ n2_ n3_ n4_ n5_ n6_ n7_ n8_ hb hbox hg; have hnb82 := NB224_212.out; have hnc82 := NB212_224.out; have hcz83_0 : w81.cell? ⟨gb224, 0, none⟩ = some (.int .i64 0) := (blk_cell BK224.out 0).trans rfl; have hcz83_1 : w81.cell? ⟨gb224, 1, none⟩ = some (.int .i64 0) := (blk_cell BK224.out 1).trans rfl; have hcz83_2 : w81.cell? ⟨gb224, 2, none⟩ = some (.int .i64 0) := (blk_cell BK224.out 2).trans rfl; have hcz83_3 : w81.cell? ⟨gb224, 3, none⟩ = some (.int .i64 0) := (blk_cell BK224.out 3).trans rfl; have hfz83_0 := blk_frozen BK224.out 0; have hfz83_1 := blk_frozen BK224.out 1; have hfz83_2 := blk_frozen BK224.out 2; have hfz83_3 := blk_frozen BK224.out 3))
                 go_roundg k2
                 case measure => have := HK1.out; have := HK2.out; omega
                 case rel => exact ⟨(x5_2), (x8_2), (wrap64 (x43_2 + 1)), (by first | rfl | (simp; done) | (simp [*]; done)), H', ⟨by have := HK1.out; have := HK2.out; omega⟩, ⟨by (with_reducible repeat (first | apply Kd.R_alloc | apply Kd.R_drewN | apply Kd.R_drew)); exact Kd.R_mono (Kd.R_far (p := ⟨gb224, 3, none⟩) (Kd.R_far (p := ⟨gb224, 2, none⟩) (Kd.R_far (p := ⟨gb224, 1, none⟩) (Kd.R_far (p := ⟨gb224, 0, none⟩) (Kd.R_types HO_5.out BK224.out (by decide)) (fun _ hk => hk.2) (.int .i64 ((rd_T34 l0_0 x43_2).f0))) (fun _ hk => hk.2) (.int .i64 ((rd_T34 l0_0 x43_2).f1))) (fun _ hk => hk.2) (.int .i64 ((rd_T34 l0_0 x43_2).f2))) (fun _ hk => hk.2) (.int .i64 ((rd_T34 l0_0 x43_2).f3))) (fun _ hk => trivial)⟩, ⟨by (with_reducible repeat (first | apply Kd.R_alloc | apply Kd.R_drewN | apply Kd.R_drew)); exact Kd.R_mono (Kd.R_far (p := ⟨gb224, 3, none⟩) (Kd.R_far (p := ⟨gb224, 2, none⟩) (Kd.R_far (p := ⟨gb224, 1, none⟩) (Kd.R_far (p := ⟨gb224, 0, none⟩) (Kd.R_types HO_8.out BK224.out (by decide)) (fun _ hk => hk.2) (.int .i64 ((rd_T34 l0_0 x43_2).f0))) (fun _ hk => hk.2) (.int .i64 ((rd_T34 l0_0 x43_2).f1))) (fun _ hk => hk.2) (.int .i64 ((rd_T34 l0_0 x43_2).f2))) (fun _ hk => hk.2) (.int .i64 ((rd_T34 l0_0 x43_2).f3))) (fun _ hk => trivial)⟩, ⟨by (with_reducible repeat (first | refine blk_drewN ?_ _ | refine blk_drew ?_ | refine blk_alloc ?_ _)); refine blk_far ?_ NB212_224.out _; (with_reducible repeat (first | refine blk_drewN ?_ _ | refine blk_drew ?_ | refine blk_alloc ?_ _)); refine blk_far ?_ NB212_224.out _; (with_reducible repeat (first | refine blk_drewN ?_ _ | refine blk_drew ?_ | refine blk_alloc ?_ _)); refine blk_far ?_ NB212_224.out _; (with_reducible repeat (first | refine blk_drewN ?_ _ | refine blk_drew ?_ | refine blk_alloc ?_ _)); refine blk_far ?_ NB212_224.out _; exact bl BK212.out⟩, ⟨bw HB.out⟩⟩
               ·rw [if_neg c70] at H
                have c70b0 : (((rd_T34 l0_0 x43_2).f0) == 1) = false := beq_eq_false_iff_ne.mpr c70
                have c70b1 : (((rd_T34 l0_0 x43_2).f0) != 1) = true := bne_iff_ne.mpr c70
                have H' := Aside0.mk H
                clear H
                have p223 : 0 ≤ (x43_2 : Int) := oda
                have q223 : x43_2 < (l0_0.length : Int) := oda
                obtain ⟨ad223, e223, hx223_0, hx223_1, hx223_2, hx223_3⟩ := at_T34 HR0_0.out x43_2 p223 q223
                cases e223
                replace hx223_0 := (HB.out.cell (World.block_lt_of_cell? w _ hx223_0)).trans hx223_0
                replace hx223_1 := (HB.out.cell (World.block_lt_of_cell? w _ hx223_1)).trans hx223_1
                replace hx223_2 := (HB.out.cell (World.block_lt_of_cell? w _ hx223_2)).trans hx223_2
                replace hx223_3 := (HB.out.cell (World.block_lt_of_cell? w _ hx223_3)).trans hx223_3
                replace p223 := eq_true p223
                replace q223 := eq_true q223
                go_wp2_with (first | ((with_reducible refine gate_dst (N := 10) rfl ?_); refine box_event ?hg (N := 10) ?hd (cs := #[.int .i64 0, .int .i64 0, .int .i64 0, .int .i64 0]) (t := 34) ?hr ?_; (case hd => rfl); (case hg => rfl); (case hr => first | (go_simp; done) | (go_simp; rfl)); intro gb224 hg w84 hbox hb; have n0_ := Aside0.mk (Kd.R_below (rl HO_5.out) hb); have n1_ := Aside0.mk (Kd.R_below (rl HO_8.out) hb); have n2_ := Aside0.mk (blk_below (g := gb212) (o := .cells #[.slice (some ad223) l0_0.length c0_0] 26 (0, 0)) (bl BK212.out) hb); have n3_ := Aside0.mk (below_step (bw HB.out) hb); have n4_ := Aside0.mk (hbox); have n5_ := Aside0.mk ((by rw [hg]; exact (below_size (bw HB.out)) : w.heap.size ≤ gb224)); have n6_ := Aside0.mk ((by rw [hg]; exact (below_size (bw HB.out)) : w.heap.size ≤ gb224)); have n7_ := Aside0.mk ((by rw [hg]; exact Nat.ne_of_lt (blk_lt (g := gb212) (o := .cells #[.slice (some ad223) l0_0.length c0_0] 26 (0, 0)) (bl BK212.out)) : gb212 ≠ gb224)); have n8_ := Aside0.mk ((by rw [hg]; exact Nat.ne_of_gt (blk_lt (g := gb212) (o := .cells #[.slice (some ad223) l0_0.length c0_0] 26 (0, 0)) (bl BK212.out)) : gb224 ≠ gb212)); clear HO_5 HO_8 BK212 HB; have HO_5 := n0_; have HO_8 := n1_; have BK212 := n2_; have HB := n3_; have BK224 := n4_; have GW224 := n5_; have GE224 := n6_; have NB212_224 := n7_; have NB224_212 := n8_; clear n0_ n1_ n2_ n3_ n4_ n5_ n6_ n7_ n8_ hb hbox hg; have hnb85 := NB224_212.out; have hnc85 := NB212_224.out; have hcz86_0 : w84.cell? ⟨gb224, 0, none⟩ = some (.int .i64 0) := (blk_cell BK224.out 0).trans rfl; have hcz86_1 : w84.cell? ⟨gb224, 1, none⟩ = some (.int .i64 0) := (blk_cell BK224.out 1).trans rfl; have hcz86_2 : w84.cell? ⟨gb224, 2, none⟩ = some (.int .i64 0) := (blk_cell BK224.out 2).trans rfl; have hcz86_3 : w84.cell? ⟨gb224, 3, none⟩ = some (.int .i64 0) := (blk_cell BK224.out 3).trans rfl; have hfz86_0 := blk_frozen BK224.out 0; have hfz86_1 := blk_frozen BK224.out 1; have hfz86_2 := blk_frozen BK224.out 2; have hfz86_3 := blk_frozen BK224.out 3))
                go_roundg k2
                case measure => have := HK1.out; have := HK2.out; omega
                case rel => exact ⟨(x5_2), (x8_2), (wrap64 (x43_2 + 1)), (by first | rfl | (simp; done) | (simp [*]; done)), H', ⟨by have := HK1.out; have := HK2.out; omega⟩, ⟨by (with_reducible repeat (first | apply Kd.R_alloc | apply Kd.R_drewN | apply Kd.R_drew)); exact Kd.R_mono (Kd.R_far (p := ⟨gb224, 3, none⟩) (Kd.R_far (p := ⟨gb224, 2, none⟩) (Kd.R_far (p := ⟨gb224, 1, none⟩) (Kd.R_far (p := ⟨gb224, 0, none⟩) (Kd.R_types HO_5.out BK224.out (by decide)) (fun _ hk => hk.2) (.int .i64 ((rd_T34 l0_0 x43_2).f0))) (fun _ hk => hk.2) (.int .i64 ((rd_T34 l0_0 x43_2).f1))) (fun _ hk => hk.2) (.int .i64 ((rd_T34 l0_0 x43_2).f2))) (fun _ hk => hk.2) (.int .i64 ((rd_T34 l0_0 x43_2).f3))) (fun _ hk => trivial)⟩, ⟨by (with_reducible repeat (first | apply Kd.R_alloc | apply Kd.R_drewN | apply Kd.R_drew)); exact Kd.R_mono (Kd.R_far (p := ⟨gb224, 3, none⟩) (Kd.R_far (p := ⟨gb224, 2, none⟩) (Kd.R_far (p := ⟨gb224, 1, none⟩) (Kd.R_far (p := ⟨gb224, 0, none⟩) (Kd.R_types HO_8.out BK224.out (by decide)) (fun _ hk => hk.2) (.int .i64 ((rd_T34 l0_0 x43_2).f0))) (fun _ hk => hk.2) (.int .i64 ((rd_T34 l0_0 x43_2).f1))) (fun _ hk => hk.2) (.int .i64 ((rd_T34 l0_0 x43_2).f2))) (fun _ hk => hk.2) (.int .i64 ((rd_T34 l0_0 x43_2).f3))) (fun _ hk => trivial)⟩, ⟨by (with_reducible repeat (first | refine blk_drewN ?_ _ | refine blk_drew ?_ | refine blk_alloc ?_ _)); refine blk_far ?_ NB212_224.out _; (with_reducible repeat (first | refine blk_drewN ?_ _ | refine blk_drew ?_ | refine blk_alloc ?_ _)); refine blk_far ?_ NB212_224.out _; (with_reducible repeat (first | refine blk_drewN ?_ _ | refine blk_drew ?_ | refine blk_alloc ?_ _)); refine blk_far ?_ NB212_224.out _; (with_reducible repeat (first | refine blk_drewN ?_ _ | refine blk_drew ?_ | refine blk_alloc ?_ _)); refine blk_far ?_ NB212_224.out _; exact bl BK212.out⟩, ⟨bw HB.out⟩⟩
             ·rw [if_neg c35] at H
              exact absurd H (by simp)
            ·rw [if_neg c34] at H
             exact absurd H (by simp)
           ·rw [if_neg c33] at H
            have c33b0 : decide (x43_2 < (l0_0.length : Int)) = false := decide_eq_false c33
            clear c33
            have H' := Aside0.mk H
            clear H
            go_wp2
            go_loopg [11] k2 (fun kq v11 w' => ∃ (x5_3 : List Bool) (x11_3 : Bool), v11 = .bool x11_3 ∧ Aside0 (impl_Reach.l2 kq x5_3 x8_2 x11_3 l0_0 = some r) ∧ Aside0 (kq ≤ k2) ∧ Aside0 (Kd.R Kd.bool 4 w' w.heap.size (fun _ => True) v215 x5_3) ∧ Aside0 (Kd.R (Kd.int .i64) 3 w' w.heap.size (fun _ => True) v221 x8_2) ∧ Aside0 (w'.heap[gb212]? = some (.cells #[(.slice A0_0 l0_0.length c0_0)] 26 (0, 0))) ∧ Aside0 (Below w.heap.size w w'))
            case atStart => exact ⟨(x5_2), (true), (by first | rfl | (simp; done) | (simp [*]; done)), H', ⟨Nat.le_refl _⟩, ⟨rl HO_5.out⟩, ⟨rl HO_8.out⟩, ⟨bl BK212.out⟩, ⟨bw HB.out⟩⟩
            case round =>
             clear H'
             try clear c1
             try clear c2
             try clear p2
             try clear q2
             try clear hx2
             try clear hf2
             try clear c3
             try clear p3
             try clear q3
             try clear hx3
             try clear hf3
             try clear c4
             try clear p4
             try clear q4
             try clear hx4
             try clear hf4
             try clear c5
             try clear c5b0
             try clear c5b1
             try clear c6
             try clear c6b0
             try clear c6b1
             try clear p6
             try clear c7
             try clear p7
             try clear q7
             try clear hx7
             try clear hf7
             try clear c8
             try clear c13
             try clear c13b0
             try clear c14
             try clear c14b0
             try clear c15
             try clear c15b0
             try clear c16
             try clear c17
             try clear c18
             try clear c18b0
             try clear c19
             try clear c19b0
             try clear p20
             try clear q20
             try clear hx20
             try clear hf20
             try clear p21
             try clear q21
             try clear hx21
             try clear p22
             try clear q22
             try clear hx22
             try clear c27
             try clear c27b0
             try clear c27b1
             try clear c28
             try clear c28b0
             try clear c28b1
             try clear c33
             try clear c33b0
             try clear c34
             try clear c34b0
             try clear c35
             try clear c35b0
             try clear c36
             try clear c36b0
             try clear c36b1
             try clear c37
             try clear c37b0
             try clear c38
             try clear c38b0
             try clear p39
             try clear q39
             try clear hx39
             try clear hf39
             try clear c40
             try clear c40b0
             try clear c40b1
             try clear c41
             try clear c41b0
             try clear c42
             try clear c42b0
             try clear p43
             try clear q43
             try clear hx43
             try clear hf43
             try clear c45
             try clear c55
             try clear c63
             try clear p64
             try clear c70
             try clear c70b0
             try clear c70b1
             try clear c71
             try clear c71b0
             try clear c72
             try clear c72b0
             try clear p73
             try clear q73
             try clear hx73
             try clear hf73
             try clear c75
             try clear c82
             try clear c85
             try clear hcz10_0
             try clear hcz21_0
             try clear hcz25_0
             try clear hcz29_0
             try clear hcz32_0
             try clear hcz46_0
             try clear hcz46_1
             try clear hcz46_2
             try clear hcz46_3
             try clear hcz48_0
             try clear hcz48_1
             try clear hcz48_2
             try clear hcz48_3
             try clear hcz51_0
             try clear hcz51_1
             try clear hcz51_2
             try clear hcz51_3
             try clear hcz56_0
             try clear hcz56_1
             try clear hcz56_2
             try clear hcz56_3
             try clear hcz58_0
             try clear hcz58_1
             try clear hcz58_2
             try clear hcz58_3
             try clear hcz61_0
             try clear hcz61_1
             try clear hcz61_2
             try clear hcz61_3
             try clear hcz64_0
             try clear hcz64_1
             try clear hcz64_2
             try clear hcz64_3
             try clear hcz66_0
             try clear hcz66_1
             try clear hcz66_2
             try clear hcz66_3
             try clear hcz69_0
             try clear hcz69_1
             try clear hcz69_2
             try clear hcz69_3
             try clear hcz76_0
             try clear hcz76_1
             try clear hcz76_2
             try clear hcz76_3
             try clear hcz78_0
             try clear hcz78_1
             try clear hcz78_2
             try clear hcz78_3
             try clear hcz83_0
             try clear hcz83_1
             try clear hcz83_2
             try clear hcz83_3
             try clear hcz86_0
             try clear hcz86_1
             try clear hcz86_2
             try clear hcz86_3
             try clear hcz8_0
             try clear hfz10_0
             try clear hfz21_0
             try clear hfz25_0
             try clear hfz29_0
             try clear hfz32_0
             try clear hfz46_0
             try clear hfz46_1
             try clear hfz46_2
             try clear hfz46_3
             try clear hfz48_0
             try clear hfz48_1
             try clear hfz48_2
             try clear hfz48_3
             try clear hfz51_0
             try clear hfz51_1
             try clear hfz51_2
             try clear hfz51_3
             try clear hfz56_0
             try clear hfz56_1
             try clear hfz56_2
             try clear hfz56_3
             try clear hfz58_0
             try clear hfz58_1
             try clear hfz58_2
             try clear hfz58_3
             try clear hfz61_0
             try clear hfz61_1
             try clear hfz61_2
             try clear hfz61_3
             try clear hfz64_0
             try clear hfz64_1
             try clear hfz64_2
             try clear hfz64_3
             try clear hfz66_0
             try clear hfz66_1
             try clear hfz66_2
             try clear hfz66_3
             try clear hfz69_0
             try clear hfz69_1
             try clear hfz69_2
             try clear hfz69_3
             try clear hfz76_0
             try clear hfz76_1
             try clear hfz76_2
             try clear hfz76_3
             try clear hfz78_0
             try clear hfz78_1
             try clear hfz78_2
             try clear hfz78_3
             try clear hfz83_0
             try clear hfz83_1
             try clear hfz83_2
             try clear hfz83_3
             try clear hfz86_0
             try clear hfz86_1
             try clear hfz86_2
             try clear hfz86_3
             try clear hfz8_0
             try clear hx20_0
             try clear hx217_0
             try clear hx223_0
             try clear hx223_1
             try clear hx223_2
             try clear hx223_3
             try clear hx39_0
             try clear hx43_0
             try clear hx73_0
             try clear p2
             try clear p20
             try clear p21
             try clear p217
             try clear p223
             try clear p39
             try clear p43
             try clear p6
             try clear p73
             try clear q2
             try clear q20
             try clear q21
             try clear q217
             try clear q223
             try clear q39
             try clear q43
             try clear q73
             obtain ⟨x5_3, x11_3, rfl, HA, HK3, HO_5, HO_8, BK212, HB⟩ := hrel
             cases gk with
             | zero => exact absurd HA.out (by simp [impl_Reach.l2])
             | succ k3 =>
              have H := HA.out
              clear HA
              simp only [impl_Reach.l2] at H
              by_cases c87 : x11_3 = true
              ·subst c87
               have H1 : (impl_Reach.l3 k3 x5_3 x8_2 false l0_0 (l0_0.length : Int) 0 l0_0) = some r := by rw [if_pos rfl] at H; exact H
               clear H
               have H := H1
               clear H1
               have H' := Aside0.mk H
               clear H
               have hcz88_0 : wr.cell? ⟨gb212, 0, none⟩ = some (.slice A0_0 l0_0.length c0_0) := (blk_cell BK212.out 0).trans rfl
               have hfz88_0 := blk_frozen BK212.out 0
               go_wp2
               go_loopg [11, 72] k3 (fun kq v11 v72 w' => ∃ (x5_4 : List Bool) (x11_4 : Bool) (x72_4 : Int), v11 = .bool x11_4 ∧ v72 = .int .i64 x72_4 ∧ Aside0 (impl_Reach.l3 kq x5_4 x8_2 x11_4 l0_0 (l0_0.length : Int) x72_4 l0_0 = some r) ∧ Aside0 (kq ≤ k3) ∧ Aside0 (Kd.R Kd.bool 4 w' w.heap.size (fun _ => True) v215 x5_4) ∧ Aside0 (Kd.R (Kd.int .i64) 3 w' w.heap.size (fun _ => True) v221 x8_2) ∧ Aside0 (w'.heap[gb212]? = some (.cells #[(.slice A0_0 l0_0.length c0_0)] 26 (0, 0))) ∧ Aside0 (Below w.heap.size w w'))
               case atStart => exact ⟨(x5_3), (false), (0), (by first | rfl | (simp; done) | (simp [*]; done)), (by first | rfl | (simp; done) | (simp [*]; done)), H', ⟨Nat.le_refl _⟩, ⟨rl HO_5.out⟩, ⟨rl HO_8.out⟩, ⟨bl BK212.out⟩, ⟨bw HB.out⟩⟩
               case round =>
                clear H'
                try clear c1
                try clear c2
                try clear p2
                try clear q2
                try clear hx2
                try clear hf2
                try clear c3
                try clear p3
                try clear q3
                try clear hx3
                try clear hf3
                try clear c4
                try clear p4
                try clear q4
                try clear hx4
                try clear hf4
                try clear c5
                try clear c5b0
                try clear c5b1
                try clear c6
                try clear c6b0
                try clear c6b1
                try clear p6
                try clear c7
                try clear p7
                try clear q7
                try clear hx7
                try clear hf7
                try clear c8
                try clear c13
                try clear c13b0
                try clear c14
                try clear c14b0
                try clear c15
                try clear c15b0
                try clear c16
                try clear c17
                try clear c18
                try clear c18b0
                try clear c19
                try clear c19b0
                try clear p20
                try clear q20
                try clear hx20
                try clear hf20
                try clear p21
                try clear q21
                try clear hx21
                try clear p22
                try clear q22
                try clear hx22
                try clear c27
                try clear c27b0
                try clear c27b1
                try clear c28
                try clear c28b0
                try clear c28b1
                try clear c33
                try clear c33b0
                try clear c34
                try clear c34b0
                try clear c35
                try clear c35b0
                try clear c36
                try clear c36b0
                try clear c36b1
                try clear c37
                try clear c37b0
                try clear c38
                try clear c38b0
                try clear p39
                try clear q39
                try clear hx39
                try clear hf39
                try clear c40
                try clear c40b0
                try clear c40b1
                try clear c41
                try clear c41b0
                try clear c42
                try clear c42b0
                try clear p43
                try clear q43
                try clear hx43
                try clear hf43
                try clear c45
                try clear c55
                try clear c63
                try clear p64
                try clear c70
                try clear c70b0
                try clear c70b1
                try clear c71
                try clear c71b0
                try clear c72
                try clear c72b0
                try clear p73
                try clear q73
                try clear hx73
                try clear hf73
                try clear c75
                try clear c82
                try clear c85
                try clear c87
                try clear hcz10_0
                try clear hcz21_0
                try clear hcz25_0
                try clear hcz29_0
                try clear hcz32_0
                try clear hcz46_0
                try clear hcz46_1
                try clear hcz46_2
                try clear hcz46_3
                try clear hcz48_0
                try clear hcz48_1
                try clear hcz48_2
                try clear hcz48_3
                try clear hcz51_0
                try clear hcz51_1
                try clear hcz51_2
                try clear hcz51_3
                try clear hcz56_0
                try clear hcz56_1
                try clear hcz56_2
                try clear hcz56_3
                try clear hcz58_0
                try clear hcz58_1
                try clear hcz58_2
                try clear hcz58_3
                try clear hcz61_0
                try clear hcz61_1
                try clear hcz61_2
                try clear hcz61_3
                try clear hcz64_0
                try clear hcz64_1
                try clear hcz64_2
                try clear hcz64_3
                try clear hcz66_0
                try clear hcz66_1
                try clear hcz66_2
                try clear hcz66_3
                try clear hcz69_0
                try clear hcz69_1
                try clear hcz69_2
                try clear hcz69_3
                try clear hcz76_0
                try clear hcz76_1
                try clear hcz76_2
                try clear hcz76_3
                try clear hcz78_0
                try clear hcz78_1
                try clear hcz78_2
                try clear hcz78_3
                try clear hcz83_0
                try clear hcz83_1
                try clear hcz83_2
                try clear hcz83_3
                try clear hcz86_0
                try clear hcz86_1
                try clear hcz86_2
                try clear hcz86_3
                try clear hcz88_0
                try clear hcz8_0
                try clear hfz10_0
                try clear hfz21_0
                try clear hfz25_0
                try clear hfz29_0
                try clear hfz32_0
                try clear hfz46_0
                try clear hfz46_1
                try clear hfz46_2
                try clear hfz46_3
                try clear hfz48_0
                try clear hfz48_1
                try clear hfz48_2
                try clear hfz48_3
                try clear hfz51_0
                try clear hfz51_1
                try clear hfz51_2
                try clear hfz51_3
                try clear hfz56_0
                try clear hfz56_1
                try clear hfz56_2
                try clear hfz56_3
                try clear hfz58_0
                try clear hfz58_1
                try clear hfz58_2
                try clear hfz58_3
                try clear hfz61_0
                try clear hfz61_1
                try clear hfz61_2
                try clear hfz61_3
                try clear hfz64_0
                try clear hfz64_1
                try clear hfz64_2
                try clear hfz64_3
                try clear hfz66_0
                try clear hfz66_1
                try clear hfz66_2
                try clear hfz66_3
                try clear hfz69_0
                try clear hfz69_1
                try clear hfz69_2
                try clear hfz69_3
                try clear hfz76_0
                try clear hfz76_1
                try clear hfz76_2
                try clear hfz76_3
                try clear hfz78_0
                try clear hfz78_1
                try clear hfz78_2
                try clear hfz78_3
                try clear hfz83_0
                try clear hfz83_1
                try clear hfz83_2
                try clear hfz83_3
                try clear hfz86_0
                try clear hfz86_1
                try clear hfz86_2
                try clear hfz86_3
                try clear hfz88_0
                try clear hfz8_0
                try clear hx20_0
                try clear hx217_0
                try clear hx223_0
                try clear hx223_1
                try clear hx223_2
                try clear hx223_3
                try clear hx39_0
                try clear hx43_0
                try clear hx73_0
                try clear p2
                try clear p20
                try clear p21
                try clear p217
                try clear p22
                try clear p223
                try clear p3
                try clear p39
                try clear p4
                try clear p43
                try clear p6
                try clear p64
                try clear p7
                try clear p73
                try clear q2
                try clear q20
                try clear q21
                try clear q217
                try clear q22
                try clear q223
                try clear q3
                try clear q39
                try clear q4
                try clear q43
                try clear q7
                try clear q73
                obtain ⟨x5_4, x11_4, x72_4, rfl, rfl, HA, HK4, HO_5, HO_8, BK212, HB⟩ := hrel
                cases gk with
                | zero => exact absurd HA.out (by simp [impl_Reach.l3])
                | succ k4 =>
                 have H := HA.out
                 clear HA
                 simp only [impl_Reach.l3] at H
                 by_cases c89 : x72_4 < (l0_0.length : Int)
                 ·rw [if_pos c89] at H
                  have c89b0 : decide (x72_4 < (l0_0.length : Int)) = true := decide_eq_true c89
                  clear c89
                  by_cases c90 : 0 ≤ x72_4
                  ·rw [if_pos c90] at H
                   have c90b0 : decide (0 ≤ x72_4) = true := decide_eq_true c90
                   clear c90
                   by_cases c91 : x72_4 < (l0_0.length : Int)
                   ·rw [if_pos c91] at H
                    have c91b0 : decide (x72_4 < (l0_0.length : Int)) = true := decide_eq_true c91
                    clear c91
                    have HC92 := Aside0.mk H
                    clear H
                    have p228 : 0 ≤ (x72_4 : Int) := oda
                    have q228 : x72_4 < (l0_0.length : Int) := oda
                    obtain ⟨ad228, e228, hx228_0, hx228_1, hx228_2, hx228_3⟩ := at_T34 HR0_0.out x72_4 p228 q228
                    cases e228
                    replace hx228_0 := (HB.out.cell (World.block_lt_of_cell? w _ hx228_0)).trans hx228_0
                    replace hx228_1 := (HB.out.cell (World.block_lt_of_cell? w _ hx228_1)).trans hx228_1
                    replace hx228_2 := (HB.out.cell (World.block_lt_of_cell? w _ hx228_2)).trans hx228_2
                    replace hx228_3 := (HB.out.cell (World.block_lt_of_cell? w _ hx228_3)).trans hx228_3
                    replace p228 := eq_true p228
                    replace q228 := eq_true q228
                    go_upto_region 25 with (first | ((with_reducible refine gate_dst (N := 13) rfl ?_); refine box_event ?hg (N := 13) ?hd (cs := #[.int .i64 0, .int .i64 0, .int .i64 0, .int .i64 0]) (t := 34) ?hr ?_; (case hd => rfl); (case hg => rfl); (case hr => first | (go_simp; done) | (go_simp; rfl)); intro gb229 hg w93 hbox hb; have n0_ := Aside0.mk (Kd.R_below (rl HO_5.out) hb); have n1_ := Aside0.mk (Kd.R_below (rl HO_8.out) hb); have n2_ := Aside0.mk (blk_below (g := gb212) (o := .cells #[.slice (some ad228) l0_0.length c0_0] 26 (0, 0)) (bl BK212.out) hb); have n3_ := Aside0.mk (below_step (bw HB.out) hb); have n4_ := Aside0.mk (hbox); have n5_ := Aside0.mk ((by rw [hg]; exact (below_size (bw HB.out)) : w.heap.size ≤ gb229)); have n6_ := Aside0.mk ((by rw [hg]; exact (below_size (bw HB.out)) : w.heap.size ≤ gb229)); have n7_ := Aside0.mk ((by rw [hg]; exact Nat.ne_of_lt (blk_lt (g := gb212) (o := .cells #[.slice (some ad228) l0_0.length c0_0] 26 (0, 0)) (bl BK212.out)) : gb212 ≠ gb229)); have n8_ := Aside0.mk ((by rw [hg]; exact Nat.ne_of_gt (blk_lt (g := gb212) (o := .cells #[.slice (some ad228) l0_0.length c0_0] 26 (0, 0)) (bl BK212.out)) : gb229 ≠ gb212)); clear HO_5 HO_8 BK212 HB; have HO_5 := n0_; have HO_8 := n1_; have BK212 := n2_; have HB := n3_; have BK229 := n4_; have GW229 := n5_; have GE229 := n6_; have NB212_229 := n7_; have NB229_212 := n8_; clear n0_ n1_ n2_ n3_ n4_ n5_ n6_ n7_ n8_ hb hbox hg; have hnb94 := NB229_212.out; have hnc94 := NB212_229.out; have hcz95_0 : w93.cell? ⟨gb229, 0, none⟩ = some (.int .i64 0) := (blk_cell BK229.out 0).trans rfl; have hcz95_1 : w93.cell? ⟨gb229, 1, none⟩ = some (.int .i64 0) := (blk_cell BK229.out 1).trans rfl; have hcz95_2 : w93.cell? ⟨gb229, 2, none⟩ = some (.int .i64 0) := (blk_cell BK229.out 2).trans rfl; have hcz95_3 : w93.cell? ⟨gb229, 3, none⟩ = some (.int .i64 0) := (blk_cell BK229.out 3).trans rfl; have hfz95_0 := blk_frozen BK229.out 0; have hfz95_1 := blk_frozen BK229.out 1; have hfz95_2 := blk_frozen BK229.out 2; have hfz95_3 := blk_frozen BK229.out 3))
                    (try simp only [Act.put, List.setIfInBounds_toArray, List.set_cons_zero, List.set_cons_succ])
                    go_cut [87] (fun v87 wc => ∃ (kq : Nat) (x87_91 : Bool), v87 = .bool x87_91 ∧ Aside0 (impl_Reach.j4 kq x5_4 x8_2 x11_4 x72_4 l0_0 (l0_0.length : Int) x72_4 x87_91 l0_0 ((rd_T34 l0_0 x72_4).f0) ((rd_T34 l0_0 x72_4).f1) ((rd_T34 l0_0 x72_4).f2) ((rd_T34 l0_0 x72_4).f3) = some r) ∧ Aside0 (kq ≤ k4) ∧ Aside0 (Kd.R Kd.bool 4 wc w.heap.size (fun _ => True) v215 x5_4) ∧ Aside0 (Kd.R (Kd.int .i64) 3 wc w.heap.size (fun _ => True) v221 x8_2) ∧ Aside0 (wc.heap[gb212]? = some (.cells #[(.slice (some ad228) l0_0.length c0_0)] 26 (0, 0))) ∧ Aside0 (wc.heap[gb229]? = some (.cells #[.int .i64 ((rd_T34 l0_0 x72_4).f0), .int .i64 ((rd_T34 l0_0 x72_4).f1), .int .i64 ((rd_T34 l0_0 x72_4).f2), .int .i64 ((rd_T34 l0_0 x72_4).f3)] 34 (0, 0))) ∧ Aside0 (Below w.heap.size w wc))
                    case first =>
                     have H := HC92.out
                     clear HC92
                     by_cases c96 : x72_4 < (x5_4.length : Int)
                     ·rw [if_pos c96] at H
                      have c96b0 : decide (x72_4 < (x5_4.length : Int)) = true := decide_eq_true c96
                      clear c96
                      (first | rw [c96b0] | (simp only [i64_w, i32_w]; rw [c96b0]) | skip)
                      obtain ⟨bq97, hbq97⟩ : ∃ b_ : Bool, b_ = (rdOf false x5_4 x72_4) := ⟨_, rfl⟩
                      replace H : (if bq97 = true then (impl_Reach.j4 k4 x5_4 x8_2 x11_4 x72_4 l0_0 (l0_0.length : Int) x72_4 false l0_0 ((rd_T34 l0_0 x72_4).f0) ((rd_T34 l0_0 x72_4).f1) ((rd_T34 l0_0 x72_4).f2) ((rd_T34 l0_0 x72_4).f3)) else ((impl_canMake.f k4 ((rd_T34 l0_0 x72_4).f0) ((rd_T34 l0_0 x72_4).f1) ((rd_T34 l0_0 x72_4).f2) ((rd_T34 l0_0 x72_4).f3) x5_4 x8_2).bind fun t231 => (impl_Reach.j4 k4 x5_4 x8_2 x11_4 x72_4 l0_0 (l0_0.length : Int) x72_4 t231 l0_0 ((rd_T34 l0_0 x72_4).f0) ((rd_T34 l0_0 x72_4).f1) ((rd_T34 l0_0 x72_4).f2) ((rd_T34 l0_0 x72_4).f3)))) = some r := by rw [← hbq97] at H; exact H
                      have Nbq97 := Aside0.mk hbq97
                      clear hbq97
                      by_cases c98 : bq97 = true
                      ·subst c98
                       have H1 : (impl_Reach.j4 k4 x5_4 x8_2 x11_4 x72_4 l0_0 (l0_0.length : Int) x72_4 false l0_0 ((rd_T34 l0_0 x72_4).f0) ((rd_T34 l0_0 x72_4).f1) ((rd_T34 l0_0 x72_4).f2) ((rd_T34 l0_0 x72_4).f3)) = some r := by rw [if_pos rfl] at H; exact H
                       clear H
                       have H := H1
                       clear H1
                       have H' := Aside0.mk H
                       clear H
                       obtain ⟨Ao99, co99, eo99⟩ := Kd.R_slice HO_5.out
                       subst eo99
                       have p230 : 0 ≤ (x72_4 : Int) := oda
                       have q230 : x72_4 < (x5_4.length : Int) := oda
                       obtain ⟨ad230, e230, hx230_0⟩ := Kd.at_bool (Kd.R_reads' HO_5.out).2.2 x72_4 p230 q230
                       (try rw [← Nbq97.out] at hx230_0)
                       cases e230
                       have hn230_0 : ad230.block ≠ gb229 := Kd.own_blk (Kd.R_ne HO_5.out BK229.out (by decide))
                       have hn230_1 : ad230.block ≠ gb229 := Kd.own_blk (Kd.R_ne HO_5.out BK229.out (by decide))
                       have hn230_2 : ad230.block ≠ gb229 := Kd.own_blk (Kd.R_ne HO_5.out BK229.out (by decide))
                       have hn230_3 : ad230.block ≠ gb229 := Kd.own_blk (Kd.R_ne HO_5.out BK229.out (by decide))
                       replace hx230_0 := (cell_far (p := ⟨gb229, 0, none⟩) (by first | (rw [add_block]; exact hn230_0) | (show (Addr.add _ _).block ≠ _; rw [add_block]; exact hn230_0) | exact hn230_0) (.int .i64 ((rd_T34 l0_0 x72_4).f0))).trans hx230_0
                       replace hx230_0 := (cell_far (p := ⟨gb229, 1, none⟩) (by first | (rw [add_block]; exact hn230_1) | (show (Addr.add _ _).block ≠ _; rw [add_block]; exact hn230_1) | exact hn230_1) (.int .i64 ((rd_T34 l0_0 x72_4).f1))).trans hx230_0
                       replace hx230_0 := (cell_far (p := ⟨gb229, 2, none⟩) (by first | (rw [add_block]; exact hn230_2) | (show (Addr.add _ _).block ≠ _; rw [add_block]; exact hn230_2) | exact hn230_2) (.int .i64 ((rd_T34 l0_0 x72_4).f2))).trans hx230_0
                       replace hx230_0 := (cell_far (p := ⟨gb229, 3, none⟩) (by first | (rw [add_block]; exact hn230_3) | (show (Addr.add _ _).block ≠ _; rw [add_block]; exact hn230_3) | exact hn230_3) (.int .i64 ((rd_T34 l0_0 x72_4).f3))).trans hx230_0
                       clear hn230_0
                       clear hn230_1
                       clear hn230_2
                       clear hn230_3
                       replace p230 := eq_true p230
                       replace q230 := eq_true q230
                       go_wp2
                       go_meet
                       case rel => exact ⟨_, (false), (by first | rfl | (simp; done) | (simp [*]; done)), H', ⟨by have := HK1.out; have := HK2.out; have := HK3.out; have := HK4.out; first | omega | exact Nat.le_refl _⟩, ⟨by (with_reducible repeat (first | apply Kd.R_alloc | apply Kd.R_drewN | apply Kd.R_drew)); exact Kd.R_mono (Kd.R_far (p := ⟨gb229, 3, none⟩) (Kd.R_far (p := ⟨gb229, 2, none⟩) (Kd.R_far (p := ⟨gb229, 1, none⟩) (Kd.R_far (p := ⟨gb229, 0, none⟩) (Kd.R_types HO_5.out BK229.out (by decide)) (fun _ hk => hk.2) (.int .i64 ((rd_T34 l0_0 x72_4).f0))) (fun _ hk => hk.2) (.int .i64 ((rd_T34 l0_0 x72_4).f1))) (fun _ hk => hk.2) (.int .i64 ((rd_T34 l0_0 x72_4).f2))) (fun _ hk => hk.2) (.int .i64 ((rd_T34 l0_0 x72_4).f3))) (fun _ hk => trivial)⟩, ⟨by (with_reducible repeat (first | apply Kd.R_alloc | apply Kd.R_drewN | apply Kd.R_drew)); exact Kd.R_mono (Kd.R_far (p := ⟨gb229, 3, none⟩) (Kd.R_far (p := ⟨gb229, 2, none⟩) (Kd.R_far (p := ⟨gb229, 1, none⟩) (Kd.R_far (p := ⟨gb229, 0, none⟩) (Kd.R_types HO_8.out BK229.out (by decide)) (fun _ hk => hk.2) (.int .i64 ((rd_T34 l0_0 x72_4).f0))) (fun _ hk => hk.2) (.int .i64 ((rd_T34 l0_0 x72_4).f1))) (fun _ hk => hk.2) (.int .i64 ((rd_T34 l0_0 x72_4).f2))) (fun _ hk => hk.2) (.int .i64 ((rd_T34 l0_0 x72_4).f3))) (fun _ hk => trivial)⟩, ⟨by (with_reducible repeat (first | refine blk_drewN ?_ _ | refine blk_drew ?_ | refine blk_alloc ?_ _)); refine blk_far ?_ NB212_229.out _; (with_reducible repeat (first | refine blk_drewN ?_ _ | refine blk_drew ?_ | refine blk_alloc ?_ _)); refine blk_far ?_ NB212_229.out _; (with_reducible repeat (first | refine blk_drewN ?_ _ | refine blk_drew ?_ | refine blk_alloc ?_ _)); refine blk_far ?_ NB212_229.out _; (with_reducible repeat (first | refine blk_drewN ?_ _ | refine blk_drew ?_ | refine blk_alloc ?_ _)); refine blk_far ?_ NB212_229.out _; exact bl BK212.out⟩, ⟨by (with_reducible repeat (first | refine blk_drewN ?_ _ | refine blk_drew ?_ | refine blk_alloc ?_ _)); refine blk_put (cs := #[.int .i64 ((rd_T34 l0_0 x72_4).f0), .int .i64 ((rd_T34 l0_0 x72_4).f1), .int .i64 ((rd_T34 l0_0 x72_4).f2), .int .i64 0]) ?_ 3 _ rfl; (with_reducible repeat (first | refine blk_drewN ?_ _ | refine blk_drew ?_ | refine blk_alloc ?_ _)); refine blk_put (cs := #[.int .i64 ((rd_T34 l0_0 x72_4).f0), .int .i64 ((rd_T34 l0_0 x72_4).f1), .int .i64 0, .int .i64 0]) ?_ 2 _ rfl; (with_reducible repeat (first | refine blk_drewN ?_ _ | refine blk_drew ?_ | refine blk_alloc ?_ _)); refine blk_put (cs := #[.int .i64 ((rd_T34 l0_0 x72_4).f0), .int .i64 0, .int .i64 0, .int .i64 0]) ?_ 1 _ rfl; (with_reducible repeat (first | refine blk_drewN ?_ _ | refine blk_drew ?_ | refine blk_alloc ?_ _)); refine blk_put (cs := #[.int .i64 0, .int .i64 0, .int .i64 0, .int .i64 0]) ?_ 0 _ rfl; exact bl BK229.out⟩, ⟨bw HB.out⟩⟩
                      ·replace c98 := Bool.eq_false_iff.mpr c98
                       subst c98
                       have H1 : ((impl_canMake.f k4 ((rd_T34 l0_0 x72_4).f0) ((rd_T34 l0_0 x72_4).f1) ((rd_T34 l0_0 x72_4).f2) ((rd_T34 l0_0 x72_4).f3) x5_4 x8_2).bind fun t231 => (impl_Reach.j4 k4 x5_4 x8_2 x11_4 x72_4 l0_0 (l0_0.length : Int) x72_4 t231 l0_0 ((rd_T34 l0_0 x72_4).f0) ((rd_T34 l0_0 x72_4).f1) ((rd_T34 l0_0 x72_4).f2) ((rd_T34 l0_0 x72_4).f3))) = some r := by rw [if_neg (show ¬ (false = true) by decide)] at H; exact H
                       clear H
                       have H := H1
                       clear H1
                       replace H := Option.bind_eq_some_iff.mp H
                       obtain ⟨t231, A1000, H⟩ := H
                       replace H : (impl_Reach.j4 k4 x5_4 x8_2 x11_4 x72_4 l0_0 (l0_0.length : Int) x72_4 t231 l0_0 ((rd_T34 l0_0 x72_4).f0) ((rd_T34 l0_0 x72_4).f1) ((rd_T34 l0_0 x72_4).f2) ((rd_T34 l0_0 x72_4).f3)) = some r := H
                       have A100 := Aside0.mk A1000
                       clear A1000
                       have H' := Aside0.mk H
                       clear H
                       obtain ⟨Ao101, co101, eo101⟩ := Kd.R_slice HO_5.out
                       subst eo101
                       have p230 : 0 ≤ (x72_4 : Int) := oda
                       have q230 : x72_4 < (x5_4.length : Int) := oda
                       obtain ⟨ad230, e230, hx230_0⟩ := Kd.at_bool (Kd.R_reads' HO_5.out).2.2 x72_4 p230 q230
                       (try rw [← Nbq97.out] at hx230_0)
                       cases e230
                       have hn230_0 : ad230.block ≠ gb229 := Kd.own_blk (Kd.R_ne HO_5.out BK229.out (by decide))
                       have hn230_1 : ad230.block ≠ gb229 := Kd.own_blk (Kd.R_ne HO_5.out BK229.out (by decide))
                       have hn230_2 : ad230.block ≠ gb229 := Kd.own_blk (Kd.R_ne HO_5.out BK229.out (by decide))
                       have hn230_3 : ad230.block ≠ gb229 := Kd.own_blk (Kd.R_ne HO_5.out BK229.out (by decide))
                       replace hx230_0 := (cell_far (p := ⟨gb229, 0, none⟩) (by first | (rw [add_block]; exact hn230_0) | (show (Addr.add _ _).block ≠ _; rw [add_block]; exact hn230_0) | exact hn230_0) (.int .i64 ((rd_T34 l0_0 x72_4).f0))).trans hx230_0
                       replace hx230_0 := (cell_far (p := ⟨gb229, 1, none⟩) (by first | (rw [add_block]; exact hn230_1) | (show (Addr.add _ _).block ≠ _; rw [add_block]; exact hn230_1) | exact hn230_1) (.int .i64 ((rd_T34 l0_0 x72_4).f1))).trans hx230_0
                       replace hx230_0 := (cell_far (p := ⟨gb229, 2, none⟩) (by first | (rw [add_block]; exact hn230_2) | (show (Addr.add _ _).block ≠ _; rw [add_block]; exact hn230_2) | exact hn230_2) (.int .i64 ((rd_T34 l0_0 x72_4).f2))).trans hx230_0
                       replace hx230_0 := (cell_far (p := ⟨gb229, 3, none⟩) (by first | (rw [add_block]; exact hn230_3) | (show (Addr.add _ _).block ≠ _; rw [add_block]; exact hn230_3) | exact hn230_3) (.int .i64 ((rd_T34 l0_0 x72_4).f3))).trans hx230_0
                       clear hn230_0
                       clear hn230_1
                       clear hn230_2
                       clear hn230_3
                       replace p230 := eq_true p230
                       replace q230 := eq_true q230
                       have hnb102 := NB229_212.out
                       have hnc102 := NB212_229.out
                       have hcz103_0 : w93.cell? ⟨gb229, 0, none⟩ = some (.int .i64 0) := (blk_cell BK229.out 0).trans rfl
                       have hcz103_1 : w93.cell? ⟨gb229, 1, none⟩ = some (.int .i64 0) := (blk_cell BK229.out 1).trans rfl
                       have hcz103_2 : w93.cell? ⟨gb229, 2, none⟩ = some (.int .i64 0) := (blk_cell BK229.out 2).trans rfl
                       have hcz103_3 : w93.cell? ⟨gb229, 3, none⟩ = some (.int .i64 0) := (blk_cell BK229.out 3).trans rfl
                       have hfz103_0 := blk_frozen BK229.out 0
                       have hfz103_1 := blk_frozen BK229.out 1
                       have hfz103_2 := blk_frozen BK229.out 2
                       have hfz103_3 := blk_frozen BK229.out 3
                       obtain ⟨Ao104, co104, eo104⟩ := Kd.R_slice HO_8.out
                       subst eo104
                       go_wp2_with (first | (go_at_call 72; (with_reducible refine (impl_canMake.calls k4 ((rd_T34 l0_0 x72_4).f0) ((rd_T34 l0_0 x72_4).f1) ((rd_T34 l0_0 x72_4).f2) ((rd_T34 l0_0 x72_4).f3) _ _ x5_4 _ _ x8_2 t231 _ ?side1 ?side2 ?side3 ?side4 A100.out).mono ?_); (case side1 => refine (Kd.R_reads' (e := 4) (base := w.heap.size) (ok := fun k_ => True) (n := x5_4.length) (c := co101) ?_).2.2; exact (by (with_reducible repeat (first | apply Kd.R_alloc | apply Kd.R_drewN | apply Kd.R_drew)); exact (Kd.R_mono (Kd.R_far (p := ⟨gb229, 3, none⟩) (Kd.R_far (p := ⟨gb229, 2, none⟩) (Kd.R_far (p := ⟨gb229, 1, none⟩) (Kd.R_far (p := ⟨gb229, 0, none⟩) (Kd.R_types HO_5.out BK229.out (by decide)) (fun _ hk => hk.2) (.int .i64 ((rd_T34 l0_0 x72_4).f0))) (fun _ hk => hk.2) (.int .i64 ((rd_T34 l0_0 x72_4).f1))) (fun _ hk => hk.2) (.int .i64 ((rd_T34 l0_0 x72_4).f2))) (fun _ hk => hk.2) (.int .i64 ((rd_T34 l0_0 x72_4).f3))) (fun _ h_ => h_.1)))); (case side2 => exact (Kd.R_reads' HO_5.out).2.1); (case side3 => refine (Kd.R_reads' (e := 3) (base := w.heap.size) (ok := fun k_ => True) (n := x8_2.length) (c := co104) ?_).2.2; exact (by (with_reducible repeat (first | apply Kd.R_alloc | apply Kd.R_drewN | apply Kd.R_drew)); exact (Kd.R_mono (Kd.R_far (p := ⟨gb229, 3, none⟩) (Kd.R_far (p := ⟨gb229, 2, none⟩) (Kd.R_far (p := ⟨gb229, 1, none⟩) (Kd.R_far (p := ⟨gb229, 0, none⟩) (Kd.R_types HO_8.out BK229.out (by decide)) (fun _ hk => hk.2) (.int .i64 ((rd_T34 l0_0 x72_4).f0))) (fun _ hk => hk.2) (.int .i64 ((rd_T34 l0_0 x72_4).f1))) (fun _ hk => hk.2) (.int .i64 ((rd_T34 l0_0 x72_4).f2))) (fun _ hk => hk.2) (.int .i64 ((rd_T34 l0_0 x72_4).f3))) (fun _ h_ => h_.1)))); (case side4 => exact (Kd.R_reads' HO_8.out).2.1); rintro e w105 ⟨rfl, hb⟩; have n0_ := Aside0.mk (Kd.R_below (by (with_reducible repeat (first | apply Kd.R_alloc | apply Kd.R_drewN | apply Kd.R_drew)); exact (Kd.R_mono (Kd.R_far (p := ⟨gb229, 3, none⟩) (Kd.R_far (p := ⟨gb229, 2, none⟩) (Kd.R_far (p := ⟨gb229, 1, none⟩) (Kd.R_far (p := ⟨gb229, 0, none⟩) (Kd.R_types HO_5.out BK229.out (by decide)) (fun _ hk => hk.2) (.int .i64 ((rd_T34 l0_0 x72_4).f0))) (fun _ hk => hk.2) (.int .i64 ((rd_T34 l0_0 x72_4).f1))) (fun _ hk => hk.2) (.int .i64 ((rd_T34 l0_0 x72_4).f2))) (fun _ hk => hk.2) (.int .i64 ((rd_T34 l0_0 x72_4).f3))) (fun _ h_ => h_.1))) hb); have n1_ := Aside0.mk (Kd.R_below (by (with_reducible repeat (first | apply Kd.R_alloc | apply Kd.R_drewN | apply Kd.R_drew)); exact (Kd.R_mono (Kd.R_far (p := ⟨gb229, 3, none⟩) (Kd.R_far (p := ⟨gb229, 2, none⟩) (Kd.R_far (p := ⟨gb229, 1, none⟩) (Kd.R_far (p := ⟨gb229, 0, none⟩) (Kd.R_types HO_8.out BK229.out (by decide)) (fun _ hk => hk.2) (.int .i64 ((rd_T34 l0_0 x72_4).f0))) (fun _ hk => hk.2) (.int .i64 ((rd_T34 l0_0 x72_4).f1))) (fun _ hk => hk.2) (.int .i64 ((rd_T34 l0_0 x72_4).f2))) (fun _ hk => hk.2) (.int .i64 ((rd_T34 l0_0 x72_4).f3))) (fun _ h_ => h_.1))) hb); have n2_ := Aside0.mk (blk_below (g := gb212) (o := .cells #[.slice (some ad228) l0_0.length c0_0] 26 (0, 0)) (by (with_reducible repeat (first | refine blk_drewN ?_ _ | refine blk_drew ?_ | refine blk_alloc ?_ _)); refine blk_far ?_ NB212_229.out _; (with_reducible repeat (first | refine blk_drewN ?_ _ | refine blk_drew ?_ | refine blk_alloc ?_ _)); refine blk_far ?_ NB212_229.out _; (with_reducible repeat (first | refine blk_drewN ?_ _ | refine blk_drew ?_ | refine blk_alloc ?_ _)); refine blk_far ?_ NB212_229.out _; (with_reducible repeat (first | refine blk_drewN ?_ _ | refine blk_drew ?_ | refine blk_alloc ?_ _)); refine blk_far ?_ NB212_229.out _; exact bl BK212.out) hb); have n3_ := Aside0.mk (blk_below (g := gb229) (o := .cells #[.int .i64 ((rd_T34 l0_0 x72_4).f0), .int .i64 ((rd_T34 l0_0 x72_4).f1), .int .i64 ((rd_T34 l0_0 x72_4).f2), .int .i64 ((rd_T34 l0_0 x72_4).f3)] 34 (0, 0)) (by (with_reducible repeat (first | refine blk_drewN ?_ _ | refine blk_drew ?_ | refine blk_alloc ?_ _)); refine blk_put (cs := #[.int .i64 ((rd_T34 l0_0 x72_4).f0), .int .i64 ((rd_T34 l0_0 x72_4).f1), .int .i64 ((rd_T34 l0_0 x72_4).f2), .int .i64 0]) ?_ 3 _ rfl; (with_reducible repeat (first | refine blk_drewN ?_ _ | refine blk_drew ?_ | refine blk_alloc ?_ _)); refine blk_put (cs := #[.int .i64 ((rd_T34 l0_0 x72_4).f0), .int .i64 ((rd_T34 l0_0 x72_4).f1), .int .i64 0, .int .i64 0]) ?_ 2 _ rfl; (with_reducible repeat (first | refine blk_drewN ?_ _ | refine blk_drew ?_ | refine blk_alloc ?_ _)); refine blk_put (cs := #[.int .i64 ((rd_T34 l0_0 x72_4).f0), .int .i64 0, .int .i64 0, .int .i64 0]) ?_ 1 _ rfl; (with_reducible repeat (first | refine blk_drewN ?_ _ | refine blk_drew ?_ | refine blk_alloc ?_ _)); refine blk_put (cs := #[.int .i64 0, .int .i64 0, .int .i64 0, .int .i64 0]) ?_ 0 _ rfl; exact bl BK229.out) hb); have n4_ := Aside0.mk (below_step (bw HB.out) hb); clear HO_5 HO_8 BK212 BK229 HB; have HO_5 := n0_; have HO_8 := n1_; have BK212 := n2_; have BK229 := n3_; have HB := n4_; clear n0_ n1_ n2_ n3_ n4_; (try clear hb); (try clear hb2); (try clear hk); (try clear hi)))
                       go_meet
                       case rel => exact ⟨_, (t231), (by first | rfl | (simp; done) | (simp [*]; done)), H', ⟨by have := HK1.out; have := HK2.out; have := HK3.out; have := HK4.out; first | omega | exact Nat.le_refl _⟩, ⟨rl HO_5.out⟩, ⟨rl HO_8.out⟩, ⟨bl BK212.out⟩, ⟨bl BK229.out⟩, ⟨bw HB.out⟩⟩
                     ·rw [if_neg c96] at H
                      exact absurd H (by simp)
                    case rest =>
                     clear HC92
                     try clear c1
                     try clear c2
                     try clear p2
                     try clear q2
                     try clear hx2
                     try clear hf2
                     try clear c3
                     try clear p3
                     try clear q3
                     try clear hx3
                     try clear hf3
                     try clear c4
                     try clear p4
                     try clear q4
                     try clear hx4
                     try clear hf4
                     try clear c5
                     try clear c5b0
                     try clear c5b1
                     try clear c6
                     try clear c6b0
                     try clear c6b1
                     try clear p6
                     try clear c7
                     try clear p7
                     try clear q7
                     try clear hx7
                     try clear hf7
                     try clear c8
                     try clear c9
                     try clear q9
                     try clear c10
                     try clear c13
                     try clear c13b0
                     try clear c14
                     try clear c14b0
                     try clear c15
                     try clear c15b0
                     try clear c16
                     try clear c17
                     try clear c18
                     try clear c18b0
                     try clear c19
                     try clear c19b0
                     try clear p20
                     try clear q20
                     try clear hx20
                     try clear hf20
                     try clear p21
                     try clear q21
                     try clear hx21
                     try clear p22
                     try clear q22
                     try clear hx22
                     try clear p23
                     try clear q23
                     try clear hx23
                     try clear c27
                     try clear c27b0
                     try clear c27b1
                     try clear c28
                     try clear c28b0
                     try clear c28b1
                     try clear c33
                     try clear c33b0
                     try clear c34
                     try clear c34b0
                     try clear c35
                     try clear c35b0
                     try clear c36
                     try clear c36b0
                     try clear c36b1
                     try clear c37
                     try clear c37b0
                     try clear c38
                     try clear c38b0
                     try clear p39
                     try clear q39
                     try clear hx39
                     try clear hf39
                     try clear c40
                     try clear c40b0
                     try clear c40b1
                     try clear c41
                     try clear c41b0
                     try clear c42
                     try clear c42b0
                     try clear p43
                     try clear q43
                     try clear hx43
                     try clear hf43
                     try clear c45
                     try clear c55
                     try clear c63
                     try clear p64
                     try clear c70
                     try clear c70b0
                     try clear c70b1
                     try clear c71
                     try clear c71b0
                     try clear c72
                     try clear c72b0
                     try clear p73
                     try clear q73
                     try clear hx73
                     try clear hf73
                     try clear c75
                     try clear c82
                     try clear c85
                     try clear c87
                     try clear c89
                     try clear c89b0
                     try clear c90
                     try clear c90b0
                     try clear c91
                     try clear c91b0
                     try clear c94
                     try clear c96
                     try clear c96b0
                     try clear q97
                     try clear c98
                     try clear c102
                     try clear hcz103_0
                     try clear hcz103_1
                     try clear hcz103_2
                     try clear hcz103_3
                     try clear hcz10_0
                     try clear hcz21_0
                     try clear hcz25_0
                     try clear hcz29_0
                     try clear hcz32_0
                     try clear hcz46_0
                     try clear hcz46_1
                     try clear hcz46_2
                     try clear hcz46_3
                     try clear hcz48_0
                     try clear hcz48_1
                     try clear hcz48_2
                     try clear hcz48_3
                     try clear hcz51_0
                     try clear hcz51_1
                     try clear hcz51_2
                     try clear hcz51_3
                     try clear hcz56_0
                     try clear hcz56_1
                     try clear hcz56_2
                     try clear hcz56_3
                     try clear hcz58_0
                     try clear hcz58_1
                     try clear hcz58_2
                     try clear hcz58_3
                     try clear hcz61_0
                     try clear hcz61_1
                     try clear hcz61_2
                     try clear hcz61_3
                     try clear hcz64_0
                     try clear hcz64_1
                     try clear hcz64_2
                     try clear hcz64_3
                     try clear hcz66_0
                     try clear hcz66_1
                     try clear hcz66_2
                     try clear hcz66_3
                     try clear hcz69_0
                     try clear hcz69_1
                     try clear hcz69_2
                     try clear hcz69_3
                     try clear hcz76_0
                     try clear hcz76_1
                     try clear hcz76_2
                     try clear hcz76_3
                     try clear hcz78_0
                     try clear hcz78_1
                     try clear hcz78_2
                     try clear hcz78_3
                     try clear hcz83_0
                     try clear hcz83_1
                     try clear hcz83_2
                     try clear hcz83_3
                     try clear hcz86_0
                     try clear hcz86_1
                     try clear hcz86_2
                     try clear hcz86_3
                     try clear hcz88_0
                     try clear hcz8_0
                     try clear hcz95_0
                     try clear hcz95_1
                     try clear hcz95_2
                     try clear hcz95_3
                     try clear hfz103_0
                     try clear hfz103_1
                     try clear hfz103_2
                     try clear hfz103_3
                     try clear hfz10_0
                     try clear hfz21_0
                     try clear hfz25_0
                     try clear hfz29_0
                     try clear hfz32_0
                     try clear hfz46_0
                     try clear hfz46_1
                     try clear hfz46_2
                     try clear hfz46_3
                     try clear hfz48_0
                     try clear hfz48_1
                     try clear hfz48_2
                     try clear hfz48_3
                     try clear hfz51_0
                     try clear hfz51_1
                     try clear hfz51_2
                     try clear hfz51_3
                     try clear hfz56_0
                     try clear hfz56_1
                     try clear hfz56_2
                     try clear hfz56_3
                     try clear hfz58_0
                     try clear hfz58_1
                     try clear hfz58_2
                     try clear hfz58_3
                     try clear hfz61_0
                     try clear hfz61_1
                     try clear hfz61_2
                     try clear hfz61_3
                     try clear hfz64_0
                     try clear hfz64_1
                     try clear hfz64_2
                     try clear hfz64_3
                     try clear hfz66_0
                     try clear hfz66_1
                     try clear hfz66_2
                     try clear hfz66_3
                     try clear hfz69_0
                     try clear hfz69_1
                     try clear hfz69_2
                     try clear hfz69_3
                     try clear hfz76_0
                     try clear hfz76_1
                     try clear hfz76_2
                     try clear hfz76_3
                     try clear hfz78_0
                     try clear hfz78_1
                     try clear hfz78_2
                     try clear hfz78_3
                     try clear hfz83_0
                     try clear hfz83_1
                     try clear hfz83_2
                     try clear hfz83_3
                     try clear hfz86_0
                     try clear hfz86_1
                     try clear hfz86_2
                     try clear hfz86_3
                     try clear hfz88_0
                     try clear hfz8_0
                     try clear hfz95_0
                     try clear hfz95_1
                     try clear hfz95_2
                     try clear hfz95_3
                     try clear hx20_0
                     try clear hx217_0
                     try clear hx223_0
                     try clear hx223_1
                     try clear hx223_2
                     try clear hx223_3
                     try clear hx228_0
                     try clear hx228_1
                     try clear hx228_2
                     try clear hx228_3
                     try clear hx230_0
                     try clear hx39_0
                     try clear hx43_0
                     try clear hx73_0
                     try clear p2
                     try clear p20
                     try clear p21
                     try clear p217
                     try clear p22
                     try clear p223
                     try clear p228
                     try clear p230
                     try clear p3
                     try clear p39
                     try clear p4
                     try clear p43
                     try clear p6
                     try clear p64
                     try clear p7
                     try clear p73
                     try clear q2
                     try clear q20
                     try clear q21
                     try clear q217
                     try clear q22
                     try clear q223
                     try clear q228
                     try clear q230
                     try clear q3
                     try clear q39
                     try clear q4
                     try clear q43
                     try clear q7
                     try clear q73
                     obtain ⟨kq, x87_91, rfl, HA, HJ91, HO_5, HO_8, BK212, BK229, HB⟩ := hcut
                     cases kq with
                     | zero => exact absurd HA.out (by simp [impl_Reach.j4])
                     | succ kj91 =>
                      have H := HA.out
                      clear HA
                      simp only [impl_Reach.j4] at H
                      have HC106 := Aside0.mk H
                      clear H
                      go_upto_if 87 with (fail)
                      go_cut [11] (fun v11 wc => ∃ (kq : Nat) (x5_105 : List Bool) (x11_105 : Bool), v11 = .bool x11_105 ∧ Aside0 (impl_Reach.j5 kq x5_105 x8_2 x11_105 x72_4 l0_0 (l0_0.length : Int) x72_4 l0_0 ((rd_T34 l0_0 x72_4).f0) ((rd_T34 l0_0 x72_4).f1) ((rd_T34 l0_0 x72_4).f2) ((rd_T34 l0_0 x72_4).f3) = some r) ∧ Aside0 (kq ≤ kj91) ∧ Aside0 (Kd.R Kd.bool 4 wc w.heap.size (fun _ => True) v215 x5_105) ∧ Aside0 (Kd.R (Kd.int .i64) 3 wc w.heap.size (fun _ => True) v221 x8_2) ∧ Aside0 (wc.heap[gb212]? = some (.cells #[(.slice (some ad228) l0_0.length c0_0)] 26 (0, 0))) ∧ Aside0 (wc.heap[gb229]? = some (.cells #[.int .i64 ((rd_T34 l0_0 x72_4).f0), .int .i64 ((rd_T34 l0_0 x72_4).f1), .int .i64 ((rd_T34 l0_0 x72_4).f2), .int .i64 ((rd_T34 l0_0 x72_4).f3)] 34 (0, 0))) ∧ Aside0 (Below w.heap.size w wc))
                      case first =>
                       have H := HC106.out
                       clear HC106
                       by_cases c107 : x87_91 = true
                       ·subst c107
                        have H1 : (if 0 ≤ x72_4 then (if x72_4 < (x5_4.length : Int) then (impl_Reach.j5 kj91 (x5_4.set (x72_4 : Int).toNat true) x8_2 true x72_4 l0_0 (l0_0.length : Int) x72_4 l0_0 ((rd_T34 l0_0 x72_4).f0) ((rd_T34 l0_0 x72_4).f1) ((rd_T34 l0_0 x72_4).f2) ((rd_T34 l0_0 x72_4).f3)) else (none)) else (none)) = some r := by rw [if_pos rfl] at H; exact H
                        clear H
                        have H := H1
                        clear H1
                        by_cases c108 : 0 ≤ x72_4
                        ·rw [if_pos c108] at H
                         have c108b0 : decide (0 ≤ x72_4) = true := decide_eq_true c108
                         clear c108
                         (first | rw [c108b0] | (simp only [i64_w, i32_w]; rw [c108b0]) | skip)
                         by_cases c109 : x72_4 < (x5_4.length : Int)
                         ·rw [if_pos c109] at H
                          have c109b0 : decide (x72_4 < (x5_4.length : Int)) = true := decide_eq_true c109
                          clear c109
                          obtain ⟨y232, hy232⟩ : ∃ y_ : List Bool, y_ = (x5_4.set (x72_4 : Int).toNat true) := ⟨_, rfl⟩
                          replace H : (impl_Reach.j5 kj91 y232 x8_2 true x72_4 l0_0 (l0_0.length : Int) x72_4 l0_0 ((rd_T34 l0_0 x72_4).f0) ((rd_T34 l0_0 x72_4).f1) ((rd_T34 l0_0 x72_4).f2) ((rd_T34 l0_0 x72_4).f3)) = some r := by first | (rw [hy232]; with_reducible exact H) | (have H2_ := (Option.bind_some _ _).symm.trans H; rw [hy232]; with_reducible exact H2_) | (have H2_ := (Option.bind_some _ _).symm.trans H; with_reducible exact H2_) | with_reducible exact H | (rw [hy232]; exact H) | exact H
                          have Ny232 := Aside0.mk hy232
                          clear hy232
                          have H' := Aside0.mk H
                          clear H
                          have p110 : 0 ≤ (x72_4 : Int) := oda
                          have q110 : (x72_4 : Int) < ((x5_4.length : Int) : Int) := oda
                          obtain ⟨go110, co110, eo110, gb110, gl110, cl110, HG110⟩ := Kd.R_form HO_5.out (by omega)
                          (first | cases eo110 | (injection eo110 with ea_ en_ ec_; (first | subst ea_ | (injection ea_ with ea_; subst ea_)); subst ec_; clear en_))
                          have GB110 := Aside0.mk gb110
                          have GG110 := Aside0.mk HG110
                          clear gb110 gl110 HG110
                          obtain ⟨hx110_0, hf110_0⟩ := Kd.R_celln false HO_5.out (x72_4 : Int) p110 q110
                          replace p110 := eq_true p110
                          replace q110 := eq_true q110
                          have HP111 := Kd.R_putg HO_5.out (x72_4 : Int) true
                          go_wp2_with (first | ((with_reducible refine gate_store (t := 4) (p := 90) rfl ?_); refine store_event (t := 4) (p := 90) (v := ?vo_w112) (w1 := (wc.setCell ⟨go110, (x72_4 : Int).toNat, none⟩ (.bool true))) ?hg ?ho ?hn ?hr ?_; (case ho => rfl); (case hg => rfl); (case hn => rfl); (case hr => first | (go_simp; done) | (go_simp; rfl)); intro w112 hw; have hg : wc.grownBy w112 (some go110) := (by rw [hw]; exact HP111.2); have hp_ : Kd.R Kd.bool 4 w112 w.heap.size (fun _ => True) (.slice (some ⟨go110, 0, none⟩) x5_4.length co110) y232 := (by rw [hw, Ny232.out]; exact HP111.1); clear HP111; have n0_ := Aside0.mk (hp_); have n1_ := Aside0.mk (Kd.R_over' (v := (.slice (some ⟨go110, 0, none⟩) x5_4.length co110)) (rl HO_8.out) (Kd.R_typed HO_5.out) (by decide) hg); have n2_ := Aside0.mk (blk_grown (g := gb212) (o := .cells #[.slice (some ad228) l0_0.length c0_0] 26 (0, 0)) (bl BK212.out) hg (Kd.R_ne HO_5.out BK212.out (by decide))); have n3_ := Aside0.mk (blk_grown (g := gb229) (o := .cells #[.int .i64 ((rd_T34 l0_0 x72_4).f0), .int .i64 ((rd_T34 l0_0 x72_4).f1), .int .i64 ((rd_T34 l0_0 x72_4).f2), .int .i64 ((rd_T34 l0_0 x72_4).f3)] 34 (0, 0)) (bl BK229.out) hg (Kd.R_ne HO_5.out BK229.out (by decide))); have n4_ := Aside0.mk ((by rw [hw]; exact below_set (HB.out) GB110.out : Below w.heap.size w w112)); clear HO_5 HO_8 BK212 BK229 HB; have HO_5 := n0_; have HO_8 := n1_; have BK212 := n2_; have BK229 := n3_; have HB := n4_; clear n0_ n1_ n2_ n3_ n4_ hg hw hp_))
                          go_meet
                          case rel => exact ⟨_, (y232), (true), (by first | rfl | (simp; done) | (simp [*]; done)), H', ⟨by have := HK1.out; have := HK2.out; have := HK3.out; have := HK4.out; have := HJ91.out; first | omega | exact Nat.le_refl _⟩, ⟨rl HO_5.out⟩, ⟨rl HO_8.out⟩, ⟨bl BK212.out⟩, ⟨bl BK229.out⟩, ⟨bw HB.out⟩⟩
                         ·rw [if_neg c109] at H
                          exact absurd H (by simp)
                        ·rw [if_neg c108] at H
                         exact absurd H (by simp)
                       ·replace c107 := Bool.eq_false_iff.mpr c107
                        subst c107
                        have H1 : (impl_Reach.j5 kj91 x5_4 x8_2 x11_4 x72_4 l0_0 (l0_0.length : Int) x72_4 l0_0 ((rd_T34 l0_0 x72_4).f0) ((rd_T34 l0_0 x72_4).f1) ((rd_T34 l0_0 x72_4).f2) ((rd_T34 l0_0 x72_4).f3)) = some r := by rw [if_neg (show ¬ (false = true) by decide)] at H; exact H
                        clear H
                        have H := H1
                        clear H1
                        have H' := Aside0.mk H
                        clear H
                        go_wp2
                        go_meet
                        case rel => exact ⟨_, (x5_4), (x11_4), (by first | rfl | (simp; done) | (simp [*]; done)), H', ⟨by have := HK1.out; have := HK2.out; have := HK3.out; have := HK4.out; have := HJ91.out; first | omega | exact Nat.le_refl _⟩, ⟨rl HO_5.out⟩, ⟨rl HO_8.out⟩, ⟨bl BK212.out⟩, ⟨bl BK229.out⟩, ⟨bw HB.out⟩⟩
                      case rest =>
                       clear HC106
                       try clear c1
                       try clear p1
                       try clear q1
                       try clear hx1
                       try clear c2
                       try clear p2
                       try clear q2
                       try clear hx2
                       try clear hf2
                       try clear c3
                       try clear p3
                       try clear q3
                       try clear hx3
                       try clear hf3
                       try clear c4
                       try clear p4
                       try clear q4
                       try clear hx4
                       try clear hf4
                       try clear c5
                       try clear c5b0
                       try clear c5b1
                       try clear c6
                       try clear c6b0
                       try clear c6b1
                       try clear p6
                       try clear c7
                       try clear p7
                       try clear q7
                       try clear hx7
                       try clear hf7
                       try clear c8
                       try clear c9
                       try clear q9
                       try clear c10
                       try clear p11
                       try clear q11
                       try clear hx11
                       try clear hf11
                       try clear c13
                       try clear c13b0
                       try clear c14
                       try clear c14b0
                       try clear c15
                       try clear c15b0
                       try clear c16
                       try clear c17
                       try clear c18
                       try clear c18b0
                       try clear c19
                       try clear c19b0
                       try clear p20
                       try clear q20
                       try clear hx20
                       try clear hf20
                       try clear p21
                       try clear q21
                       try clear hx21
                       try clear p22
                       try clear q22
                       try clear hx22
                       try clear p23
                       try clear q23
                       try clear hx23
                       try clear c27
                       try clear c27b0
                       try clear c27b1
                       try clear c28
                       try clear c28b0
                       try clear c28b1
                       try clear c33
                       try clear c33b0
                       try clear c34
                       try clear c34b0
                       try clear c35
                       try clear c35b0
                       try clear c36
                       try clear c36b0
                       try clear c36b1
                       try clear c37
                       try clear c37b0
                       try clear c38
                       try clear c38b0
                       try clear p39
                       try clear q39
                       try clear hx39
                       try clear hf39
                       try clear c40
                       try clear c40b0
                       try clear c40b1
                       try clear c41
                       try clear c41b0
                       try clear c42
                       try clear c42b0
                       try clear p43
                       try clear q43
                       try clear hx43
                       try clear hf43
                       try clear c45
                       try clear c55
                       try clear c63
                       try clear p64
                       try clear c70
                       try clear c70b0
                       try clear c70b1
                       try clear c71
                       try clear c71b0
                       try clear c72
                       try clear c72b0
                       try clear p73
                       try clear q73
                       try clear hx73
                       try clear hf73
                       try clear c75
                       try clear c82
                       try clear c85
                       try clear c87
                       try clear c89
                       try clear c89b0
                       try clear c90
                       try clear c90b0
                       try clear c91
                       try clear c91b0
                       try clear c94
                       try clear c96
                       try clear c96b0
                       try clear q97
                       try clear c98
                       try clear c102
                       try clear c107
                       try clear c108
                       try clear c108b0
                       try clear c109
                       try clear c109b0
                       try clear p110
                       try clear q110
                       try clear hx110
                       try clear hf110
                       try clear hcz103_0
                       try clear hcz103_1
                       try clear hcz103_2
                       try clear hcz103_3
                       try clear hcz10_0
                       try clear hcz21_0
                       try clear hcz25_0
                       try clear hcz29_0
                       try clear hcz32_0
                       try clear hcz46_0
                       try clear hcz46_1
                       try clear hcz46_2
                       try clear hcz46_3
                       try clear hcz48_0
                       try clear hcz48_1
                       try clear hcz48_2
                       try clear hcz48_3
                       try clear hcz51_0
                       try clear hcz51_1
                       try clear hcz51_2
                       try clear hcz51_3
                       try clear hcz56_0
                       try clear hcz56_1
                       try clear hcz56_2
                       try clear hcz56_3
                       try clear hcz58_0
                       try clear hcz58_1
                       try clear hcz58_2
                       try clear hcz58_3
                       try clear hcz61_0
                       try clear hcz61_1
                       try clear hcz61_2
                       try clear hcz61_3
                       try clear hcz64_0
                       try clear hcz64_1
                       try clear hcz64_2
                       try clear hcz64_3
                       try clear hcz66_0
                       try clear hcz66_1
                       try clear hcz66_2
                       try clear hcz66_3
                       try clear hcz69_0
                       try clear hcz69_1
                       try clear hcz69_2
                       try clear hcz69_3
                       try clear hcz76_0
                       try clear hcz76_1
                       try clear hcz76_2
                       try clear hcz76_3
                       try clear hcz78_0
                       try clear hcz78_1
                       try clear hcz78_2
                       try clear hcz78_3
                       try clear hcz83_0
                       try clear hcz83_1
                       try clear hcz83_2
                       try clear hcz83_3
                       try clear hcz86_0
                       try clear hcz86_1
                       try clear hcz86_2
                       try clear hcz86_3
                       try clear hcz88_0
                       try clear hcz8_0
                       try clear hcz95_0
                       try clear hcz95_1
                       try clear hcz95_2
                       try clear hcz95_3
                       try clear hfz103_0
                       try clear hfz103_1
                       try clear hfz103_2
                       try clear hfz103_3
                       try clear hfz10_0
                       try clear hfz21_0
                       try clear hfz25_0
                       try clear hfz29_0
                       try clear hfz32_0
                       try clear hfz46_0
                       try clear hfz46_1
                       try clear hfz46_2
                       try clear hfz46_3
                       try clear hfz48_0
                       try clear hfz48_1
                       try clear hfz48_2
                       try clear hfz48_3
                       try clear hfz51_0
                       try clear hfz51_1
                       try clear hfz51_2
                       try clear hfz51_3
                       try clear hfz56_0
                       try clear hfz56_1
                       try clear hfz56_2
                       try clear hfz56_3
                       try clear hfz58_0
                       try clear hfz58_1
                       try clear hfz58_2
                       try clear hfz58_3
                       try clear hfz61_0
                       try clear hfz61_1
                       try clear hfz61_2
                       try clear hfz61_3
                       try clear hfz64_0
                       try clear hfz64_1
                       try clear hfz64_2
                       try clear hfz64_3
                       try clear hfz66_0
                       try clear hfz66_1
                       try clear hfz66_2
                       try clear hfz66_3
                       try clear hfz69_0
                       try clear hfz69_1
                       try clear hfz69_2
                       try clear hfz69_3
                       try clear hfz76_0
                       try clear hfz76_1
                       try clear hfz76_2
                       try clear hfz76_3
                       try clear hfz78_0
                       try clear hfz78_1
                       try clear hfz78_2
                       try clear hfz78_3
                       try clear hfz83_0
                       try clear hfz83_1
                       try clear hfz83_2
                       try clear hfz83_3
                       try clear hfz86_0
                       try clear hfz86_1
                       try clear hfz86_2
                       try clear hfz86_3
                       try clear hfz88_0
                       try clear hfz8_0
                       try clear hfz95_0
                       try clear hfz95_1
                       try clear hfz95_2
                       try clear hfz95_3
                       try clear hx110_0
                       try clear hx20_0
                       try clear hx217_0
                       try clear hx223_0
                       try clear hx223_1
                       try clear hx223_2
                       try clear hx223_3
                       try clear hx228_0
                       try clear hx228_1
                       try clear hx228_2
                       try clear hx228_3
                       try clear hx230_0
                       try clear hx39_0
                       try clear hx43_0
                       try clear hx73_0
                       try clear p110
                       try clear p2
                       try clear p20
                       try clear p21
                       try clear p217
                       try clear p22
                       try clear p223
                       try clear p228
                       try clear p23
                       try clear p230
                       try clear p3
                       try clear p39
                       try clear p4
                       try clear p43
                       try clear p6
                       try clear p64
                       try clear p7
                       try clear p73
                       try clear q110
                       try clear q2
                       try clear q20
                       try clear q21
                       try clear q217
                       try clear q22
                       try clear q223
                       try clear q228
                       try clear q23
                       try clear q230
                       try clear q3
                       try clear q39
                       try clear q4
                       try clear q43
                       try clear q7
                       try clear q73
                       try clear q9
                       try clear q97
                       obtain ⟨kq, x5_105, x11_105, rfl, HA, HJ105, HO_5, HO_8, BK212, BK229, HB⟩ := hcut
                       cases kq with
                       | zero => exact absurd HA.out (by simp [impl_Reach.j5])
                       | succ kj105 =>
                        have H := HA.out
                        clear HA
                        simp only [impl_Reach.j5] at H
                        replace H := Option.bind_eq_some_iff.mp H
                        obtain ⟨t233, A1130, H⟩ := H
                        replace H : (impl_Reach.l4 kj105 x5_105 x8_2 x11_105 l0_0 (l0_0.length : Int) x72_4 t233 (t233.length : Int) 0 l0_0) = some r := H
                        have A113 := Aside0.mk A1130
                        clear A1130
                        have H' := Aside0.mk H
                        clear H
                        have hnb114 := NB229_212.out
                        have hnc114 := NB212_229.out
                        have hcz115_0 : wc.cell? ⟨gb229, 0, none⟩ = some (.int .i64 ((rd_T34 l0_0 x72_4).f0)) := (blk_cell BK229.out 0).trans rfl
                        have hcz115_1 : wc.cell? ⟨gb229, 1, none⟩ = some (.int .i64 ((rd_T34 l0_0 x72_4).f1)) := (blk_cell BK229.out 1).trans rfl
                        have hcz115_2 : wc.cell? ⟨gb229, 2, none⟩ = some (.int .i64 ((rd_T34 l0_0 x72_4).f2)) := (blk_cell BK229.out 2).trans rfl
                        have hcz115_3 : wc.cell? ⟨gb229, 3, none⟩ = some (.int .i64 ((rd_T34 l0_0 x72_4).f3)) := (blk_cell BK229.out 3).trans rfl
                        have hfz115_0 := blk_frozen BK229.out 0
                        have hfz115_1 := blk_frozen BK229.out 1
                        have hfz115_2 := blk_frozen BK229.out 2
                        have hfz115_3 := blk_frozen BK229.out 3
                        obtain ⟨Ao116, co116, eo116⟩ := Kd.R_slice HO_5.out
                        subst eo116
                        go_wp2_with (first | ((with_reducible refine gate_callee (f := 73) rfl ?_); refine goesL_ (some 94) rfl rfl Try.func73 (by kernel_rfl) rfl #[.agg #[.int .i64 ((rd_T34 l0_0 x72_4).f0), .int .i64 ((rd_T34 l0_0 x72_4).f1), .int .i64 ((rd_T34 l0_0 x72_4).f2), .int .i64 ((rd_T34 l0_0 x72_4).f3)], .int .i64 x72_4, .slice Ao116 x5_105.length co116] rfl ar ?_; (with_reducible refine (impl_partsOut.calls ((rd_T34 l0_0 x72_4).f0) ((rd_T34 l0_0 x72_4).f1) ((rd_T34 l0_0 x72_4).f2) ((rd_T34 l0_0 x72_4).f3) x72_4 _ _ x5_105 t233 _ ?side1 ?side2 A113.out).mono ?_); (case side1 => exact cl (Kd.R_reads' HO_5.out).2.2); (case side2 => exact (Kd.R_reads' HO_5.out).2.1); rintro e w117 ⟨v234, rfl, ho0, hb⟩; refine ⟨_, rfl, ?_⟩; have n0_ := Aside0.mk (Kd.R_below (rl HO_5.out) hb); have n1_ := Aside0.mk (Kd.R_elder' (rl HO_8.out) (Kd.R_base ho0) hb); have n2_ := Aside0.mk (Kd.R_lower (Kd.R_new' ho0 (Kd.R_lt (rl HO_8.out))) (below_size (bw HB.out))); have n3_ := Aside0.mk (blk_below (g := gb212) (o := .cells #[.slice (some ad228) l0_0.length c0_0] 26 (0, 0)) (bl BK212.out) hb); have n4_ := Aside0.mk (blk_below (g := gb229) (o := .cells #[.int .i64 ((rd_T34 l0_0 x72_4).f0), .int .i64 ((rd_T34 l0_0 x72_4).f1), .int .i64 ((rd_T34 l0_0 x72_4).f2), .int .i64 ((rd_T34 l0_0 x72_4).f3)] 34 (0, 0)) (bl BK229.out) hb); have n5_ := Aside0.mk (below_step (bw HB.out) hb); clear HO_5 HO_8 BK212 BK229 HB; have HO_5 := n0_; have HO_8 := n1_; have HO235 := n2_; have BK212 := n3_; have BK229 := n4_; have HB := n5_; clear n0_ n1_ n2_ n3_ n4_ n5_; (try clear hb); (try clear hb2); (try clear hk); (try clear hi); (try clear ho0); obtain ⟨Ao118, co118, eo118⟩ := Kd.R_slice HO235.out; subst eo118))
                        go_loopg [11, 96] kj105 (fun kq v11 v96 w' => ∃ (x5_7 : List Bool) (x11_7 : Bool) (x96_7 : Int), v11 = .bool x11_7 ∧ v96 = .int .i64 x96_7 ∧ Aside0 (impl_Reach.l4 kq x5_7 x8_2 x11_7 l0_0 (l0_0.length : Int) x72_4 t233 (t233.length : Int) x96_7 l0_0 = some r) ∧ Aside0 (kq ≤ kj105) ∧ Aside0 (Kd.R Kd.bool 4 w' w.heap.size (fun _ => True) (.slice Ao116 x5_105.length co116) x5_7) ∧ Aside0 (Kd.R (Kd.int .i64) 3 w' w.heap.size (fun k_ => some k_ ≠ ((.slice Ao118 t233.length co118) : Value).ownBlock) v221 x8_2) ∧ Aside0 (Kd.R (Kd.int .i64) 3 w' w.heap.size (fun k_ => some k_ ≠ (v221 : Value).ownBlock) (.slice Ao118 t233.length co118) t233) ∧ Aside0 (w'.heap[gb212]? = some (.cells #[(.slice (some ad228) l0_0.length c0_0)] 26 (0, 0))) ∧ Aside0 (w'.heap[gb229]? = some (.cells #[.int .i64 ((rd_T34 l0_0 x72_4).f0), .int .i64 ((rd_T34 l0_0 x72_4).f1), .int .i64 ((rd_T34 l0_0 x72_4).f2), .int .i64 ((rd_T34 l0_0 x72_4).f3)] 34 (0, 0))) ∧ Aside0 (Below w.heap.size w w'))
                        case atStart => exact ⟨(x5_105), (x11_105), (0), (by first | rfl | (simp; done) | (simp [*]; done)), (by first | rfl | (simp; done) | (simp [*]; done)), H', ⟨Nat.le_refl _⟩, ⟨rl HO_5.out⟩, ⟨by (with_reducible repeat (first | apply Kd.R_alloc | apply Kd.R_drewN | apply Kd.R_drew)); exact Kd.R_mono HO_8.out (fun _ hk => hk.2)⟩, ⟨by (with_reducible repeat (first | apply Kd.R_alloc | apply Kd.R_drewN | apply Kd.R_drew)); exact Kd.R_mono HO235.out (fun _ hk => hk.2)⟩, ⟨bl BK212.out⟩, ⟨bl BK229.out⟩, ⟨bw HB.out⟩⟩
                        case round =>
                         clear H'
                         try clear c1
                         try clear p1
                         try clear q1
                         try clear hx1
                         try clear c2
                         try clear p2
                         try clear q2
                         try clear hx2
                         try clear hf2
                         try clear c3
                         try clear p3
                         try clear q3
                         try clear hx3
                         try clear hf3
                         try clear c4
                         try clear p4
                         try clear q4
                         try clear hx4
                         try clear hf4
                         try clear c5
                         try clear c5b0
                         try clear c5b1
                         try clear c6
                         try clear c6b0
                         try clear c6b1
                         try clear p6
                         try clear c7
                         try clear p7
                         try clear q7
                         try clear hx7
                         try clear hf7
                         try clear c8
                         try clear c9
                         try clear q9
                         try clear c10
                         try clear c11
                         try clear p11
                         try clear q11
                         try clear hx11
                         try clear hf11
                         try clear c13
                         try clear c13b0
                         try clear c14
                         try clear c14b0
                         try clear c15
                         try clear c15b0
                         try clear c16
                         try clear c17
                         try clear c18
                         try clear c18b0
                         try clear c19
                         try clear c19b0
                         try clear p20
                         try clear q20
                         try clear hx20
                         try clear hf20
                         try clear p21
                         try clear q21
                         try clear hx21
                         try clear p22
                         try clear q22
                         try clear hx22
                         try clear p23
                         try clear q23
                         try clear hx23
                         try clear c27
                         try clear c27b0
                         try clear c27b1
                         try clear c28
                         try clear c28b0
                         try clear c28b1
                         try clear c33
                         try clear c33b0
                         try clear c34
                         try clear c34b0
                         try clear c35
                         try clear c35b0
                         try clear c36
                         try clear c36b0
                         try clear c36b1
                         try clear c37
                         try clear c37b0
                         try clear c38
                         try clear c38b0
                         try clear p39
                         try clear q39
                         try clear hx39
                         try clear hf39
                         try clear c40
                         try clear c40b0
                         try clear c40b1
                         try clear c41
                         try clear c41b0
                         try clear c42
                         try clear c42b0
                         try clear p43
                         try clear q43
                         try clear hx43
                         try clear hf43
                         try clear c45
                         try clear c55
                         try clear c63
                         try clear p64
                         try clear c70
                         try clear c70b0
                         try clear c70b1
                         try clear c71
                         try clear c71b0
                         try clear c72
                         try clear c72b0
                         try clear c73
                         try clear p73
                         try clear q73
                         try clear hx73
                         try clear hf73
                         try clear c75
                         try clear c82
                         try clear c85
                         try clear c87
                         try clear c89
                         try clear c89b0
                         try clear c90
                         try clear c90b0
                         try clear c91
                         try clear c91b0
                         try clear c94
                         try clear c96
                         try clear c96b0
                         try clear q97
                         try clear c98
                         try clear c102
                         try clear c107
                         try clear c108
                         try clear c108b0
                         try clear c109
                         try clear c109b0
                         try clear p110
                         try clear q110
                         try clear hx110
                         try clear hf110
                         try clear c114
                         try clear hcz103_0
                         try clear hcz103_1
                         try clear hcz103_2
                         try clear hcz103_3
                         try clear hcz10_0
                         try clear hcz115_0
                         try clear hcz115_1
                         try clear hcz115_2
                         try clear hcz115_3
                         try clear hcz21_0
                         try clear hcz25_0
                         try clear hcz29_0
                         try clear hcz32_0
                         try clear hcz46_0
                         try clear hcz46_1
                         try clear hcz46_2
                         try clear hcz46_3
                         try clear hcz48_0
                         try clear hcz48_1
                         try clear hcz48_2
                         try clear hcz48_3
                         try clear hcz51_0
                         try clear hcz51_1
                         try clear hcz51_2
                         try clear hcz51_3
                         try clear hcz56_0
                         try clear hcz56_1
                         try clear hcz56_2
                         try clear hcz56_3
                         try clear hcz58_0
                         try clear hcz58_1
                         try clear hcz58_2
                         try clear hcz58_3
                         try clear hcz61_0
                         try clear hcz61_1
                         try clear hcz61_2
                         try clear hcz61_3
                         try clear hcz64_0
                         try clear hcz64_1
                         try clear hcz64_2
                         try clear hcz64_3
                         try clear hcz66_0
                         try clear hcz66_1
                         try clear hcz66_2
                         try clear hcz66_3
                         try clear hcz69_0
                         try clear hcz69_1
                         try clear hcz69_2
                         try clear hcz69_3
                         try clear hcz76_0
                         try clear hcz76_1
                         try clear hcz76_2
                         try clear hcz76_3
                         try clear hcz78_0
                         try clear hcz78_1
                         try clear hcz78_2
                         try clear hcz78_3
                         try clear hcz83_0
                         try clear hcz83_1
                         try clear hcz83_2
                         try clear hcz83_3
                         try clear hcz86_0
                         try clear hcz86_1
                         try clear hcz86_2
                         try clear hcz86_3
                         try clear hcz88_0
                         try clear hcz8_0
                         try clear hcz95_0
                         try clear hcz95_1
                         try clear hcz95_2
                         try clear hcz95_3
                         try clear hfz103_0
                         try clear hfz103_1
                         try clear hfz103_2
                         try clear hfz103_3
                         try clear hfz10_0
                         try clear hfz115_0
                         try clear hfz115_1
                         try clear hfz115_2
                         try clear hfz115_3
                         try clear hfz21_0
                         try clear hfz25_0
                         try clear hfz29_0
                         try clear hfz32_0
                         try clear hfz46_0
                         try clear hfz46_1
                         try clear hfz46_2
                         try clear hfz46_3
                         try clear hfz48_0
                         try clear hfz48_1
                         try clear hfz48_2
                         try clear hfz48_3
                         try clear hfz51_0
                         try clear hfz51_1
                         try clear hfz51_2
                         try clear hfz51_3
                         try clear hfz56_0
                         try clear hfz56_1
                         try clear hfz56_2
                         try clear hfz56_3
                         try clear hfz58_0
                         try clear hfz58_1
                         try clear hfz58_2
                         try clear hfz58_3
                         try clear hfz61_0
                         try clear hfz61_1
                         try clear hfz61_2
                         try clear hfz61_3
                         try clear hfz64_0
                         try clear hfz64_1
                         try clear hfz64_2
                         try clear hfz64_3
                         try clear hfz66_0
                         try clear hfz66_1
                         try clear hfz66_2
                         try clear hfz66_3
                         try clear hfz69_0
                         try clear hfz69_1
                         try clear hfz69_2
                         try clear hfz69_3
                         try clear hfz76_0
                         try clear hfz76_1
                         try clear hfz76_2
                         try clear hfz76_3
                         try clear hfz78_0
                         try clear hfz78_1
                         try clear hfz78_2
                         try clear hfz78_3
                         try clear hfz83_0
                         try clear hfz83_1
                         try clear hfz83_2
                         try clear hfz83_3
                         try clear hfz86_0
                         try clear hfz86_1
                         try clear hfz86_2
                         try clear hfz86_3
                         try clear hfz88_0
                         try clear hfz8_0
                         try clear hfz95_0
                         try clear hfz95_1
                         try clear hfz95_2
                         try clear hfz95_3
                         try clear hx110_0
                         try clear hx20_0
                         try clear hx217_0
                         try clear hx223_0
                         try clear hx223_1
                         try clear hx223_2
                         try clear hx223_3
                         try clear hx228_0
                         try clear hx228_1
                         try clear hx228_2
                         try clear hx228_3
                         try clear hx230_0
                         try clear hx39_0
                         try clear hx43_0
                         try clear hx73_0
                         try clear p1
                         try clear p11
                         try clear p110
                         try clear p2
                         try clear p20
                         try clear p21
                         try clear p217
                         try clear p22
                         try clear p223
                         try clear p228
                         try clear p23
                         try clear p230
                         try clear p3
                         try clear p39
                         try clear p4
                         try clear p43
                         try clear p6
                         try clear p64
                         try clear p7
                         try clear p73
                         try clear q1
                         try clear q11
                         try clear q110
                         try clear q2
                         try clear q20
                         try clear q21
                         try clear q217
                         try clear q22
                         try clear q223
                         try clear q228
                         try clear q23
                         try clear q230
                         try clear q3
                         try clear q39
                         try clear q4
                         try clear q43
                         try clear q7
                         try clear q73
                         try clear q9
                         try clear q97
                         obtain ⟨x5_7, x11_7, x96_7, rfl, rfl, HA, HK7, HO_5, HO_8, HO_94, BK212, BK229, HB⟩ := hrel
                         have hl5_7 := (Kd.R_reads' HO_5.out).1
                         rw [hl5_7] at HO_5
                         (try simp only [hl5_7])
                         (try simp only [hl5_7] at BK212)
                         (try simp only [hl5_7] at BK229)
                         (try simp only [hl5_7] at HO_8)
                         (try simp only [hl5_7] at HO_94)
                         cases gk with
                         | zero => exact absurd HA.out (by simp [impl_Reach.l4])
                         | succ k7 =>
                          have H := HA.out
                          clear HA
                          simp only [impl_Reach.l4] at H
                          by_cases c119 : x96_7 < (t233.length : Int)
                          ·rw [if_pos c119] at H
                           have c119b0 : decide (x96_7 < (t233.length : Int)) = true := decide_eq_true c119
                           clear c119
                           by_cases c120 : 0 ≤ x96_7
                           ·rw [if_pos c120] at H
                            have c120b0 : decide (0 ≤ x96_7) = true := decide_eq_true c120
                            clear c120
                            by_cases c121 : x96_7 < (t233.length : Int)
                            ·rw [if_pos c121] at H
                             have c121b0 : decide (x96_7 < (t233.length : Int)) = true := decide_eq_true c121
                             clear c121
                             by_cases c122 : 0 ≤ (rd t233 x96_7)
                             ·rw [if_pos c122] at H
                              have c122b0 : decide (0 ≤ (rd t233 x96_7)) = true := decide_eq_true c122
                              clear c122
                              by_cases c123 : (rd t233 x96_7) < (x5_7.length : Int)
                              ·rw [if_pos c123] at H
                               have c123b0 : decide ((rd t233 x96_7) < (x5_7.length : Int)) = true := decide_eq_true c123
                               clear c123
                               obtain ⟨bq124, hbq124⟩ : ∃ b_ : Bool, b_ = (rdOf false x5_7 (rd t233 x96_7)) := ⟨_, rfl⟩
                               replace H : (if (bq124 = true) then (impl_Reach.l4 k7 x5_7 x8_2 x11_7 l0_0 (l0_0.length : Int) x72_4 t233 (t233.length : Int) (wrap64 (x96_7 + 1)) l0_0) else (impl_Reach.l4 k7 (x5_7.set ((rd t233 x96_7) : Int).toNat true) x8_2 true l0_0 (l0_0.length : Int) x72_4 t233 (t233.length : Int) (wrap64 (x96_7 + 1)) l0_0)) = some r := by rw [← hbq124] at H; exact H
                               have Nbq124 := Aside0.mk hbq124
                               clear hbq124
                               by_cases c125 : (bq124 = true)
                               ·subst c125
                                have H1 : (impl_Reach.l4 k7 x5_7 x8_2 x11_7 l0_0 (l0_0.length : Int) x72_4 t233 (t233.length : Int) (wrap64 (x96_7 + 1)) l0_0) = some r := by rw [if_pos rfl] at H; exact H
                                clear H
                                have H := H1
                                clear H1
                                have H' := Aside0.mk H
                                clear H
                                have p236 : 0 ≤ (x96_7 : Int) := oda
                                have q236 : x96_7 < (t233.length : Int) := oda
                                obtain ⟨ad236, e236, hx236_0⟩ := Kd.at_int (Kd.R_reads' HO_94.out).2.2 x96_7 p236 q236
                                cases e236
                                replace p236 := eq_true p236
                                replace q236 := eq_true q236
                                have p237 : 0 ≤ ((rd t233 x96_7) : Int) := oda
                                have q237 : (rd t233 x96_7) < (x5_7.length : Int) := oda
                                obtain ⟨ad237, e237, hx237_0⟩ := Kd.at_bool (Kd.R_reads' HO_5.out).2.2 (rd t233 x96_7) p237 q237
                                (try rw [← Nbq124.out] at hx237_0)
                                cases e237
                                replace p237 := eq_true p237
                                replace q237 := eq_true q237
                                go_wp2
                                (try simp only [← hl5_7])
                                go_roundg k7
                                case measure => have := HK1.out; have := HK2.out; have := HK3.out; have := HK4.out; have := HJ91.out; have := HJ105.out; have := HK7.out; omega
                                case rel => exact ⟨(x5_7), (x11_7), (wrap64 (x96_7 + 1)), (by first | rfl | (simp; done) | (simp [*]; done)), (by first | rfl | (simp; done) | (simp [*]; done)), H', ⟨by have := HK1.out; have := HK2.out; have := HK3.out; have := HK4.out; have := HJ91.out; have := HJ105.out; have := HK7.out; omega⟩, ⟨by (try simp only [hl5_7]); (with_reducible repeat (first | apply Kd.R_alloc | apply Kd.R_drewN | apply Kd.R_drew)); exact HO_5.out⟩, ⟨by (try simp only [hl5_7]); (with_reducible repeat (first | apply Kd.R_alloc | apply Kd.R_drewN | apply Kd.R_drew)); exact HO_8.out⟩, ⟨by (try simp only [hl5_7]); (with_reducible repeat (first | apply Kd.R_alloc | apply Kd.R_drewN | apply Kd.R_drew)); exact HO_94.out⟩, ⟨by (try simp only [hl5_7]); exact bl BK212.out⟩, ⟨by (try simp only [hl5_7]); exact bl BK229.out⟩, ⟨bw HB.out⟩⟩
                               ·replace c125 := Bool.eq_false_iff.mpr c125
                                subst c125
                                have H1 : (impl_Reach.l4 k7 (x5_7.set ((rd t233 x96_7) : Int).toNat true) x8_2 true l0_0 (l0_0.length : Int) x72_4 t233 (t233.length : Int) (wrap64 (x96_7 + 1)) l0_0) = some r := by rw [if_neg (show ¬ (false = true) by decide)] at H; exact H
                                clear H
                                have H := H1
                                clear H1
                                obtain ⟨y238, hy238⟩ : ∃ y_ : List Bool, y_ = (x5_7.set ((rd t233 x96_7) : Int).toNat true) := ⟨_, rfl⟩
                                replace H : (impl_Reach.l4 k7 y238 x8_2 true l0_0 (l0_0.length : Int) x72_4 t233 (t233.length : Int) (wrap64 (x96_7 + 1)) l0_0) = some r := by first | (rw [hy238]; with_reducible exact H) | (have H2_ := (Option.bind_some _ _).symm.trans H; rw [hy238]; with_reducible exact H2_) | (have H2_ := (Option.bind_some _ _).symm.trans H; with_reducible exact H2_) | with_reducible exact H | (rw [hy238]; exact H) | exact H
                                have Ny238 := Aside0.mk hy238
                                clear hy238
                                have H' := Aside0.mk H
                                clear H
                                have p236 : 0 ≤ (x96_7 : Int) := oda
                                have q236 : x96_7 < (t233.length : Int) := oda
                                obtain ⟨ad236, e236, hx236_0⟩ := Kd.at_int (Kd.R_reads' HO_94.out).2.2 x96_7 p236 q236
                                cases e236
                                replace p236 := eq_true p236
                                replace q236 := eq_true q236
                                have p237 : 0 ≤ ((rd t233 x96_7) : Int) := oda
                                have q237 : (rd t233 x96_7) < (x5_7.length : Int) := oda
                                obtain ⟨ad237, e237, hx237_0⟩ := Kd.at_bool (Kd.R_reads' HO_5.out).2.2 (rd t233 x96_7) p237 q237
                                (try rw [← Nbq124.out] at hx237_0)
                                cases e237
                                replace p237 := eq_true p237
                                replace q237 := eq_true q237
                                have p126 : 0 ≤ ((rd t233 x96_7) : Int) := oda
                                have q126 : ((rd t233 x96_7) : Int) < ((x5_7.length : Int) : Int) := oda
                                obtain ⟨go126, co126, eo126, gb126, gl126, cl126, HG126⟩ := Kd.R_form HO_5.out (by omega)
                                (first | cases eo126 | (injection eo126 with ea_ en_ ec_; (first | subst ea_ | (injection ea_ with ea_; subst ea_)); subst ec_; clear en_))
                                have GB126 := Aside0.mk gb126
                                have GG126 := Aside0.mk HG126
                                clear gb126 gl126 HG126
                                (first | simp only [add_plain] at hx237_0 | skip)
                                obtain ⟨hx126_0, hf126_0⟩ := Kd.R_celln false HO_5.out ((rd t233 x96_7) : Int) p126 q126
                                replace p126 := eq_true p126
                                replace q126 := eq_true q126
                                have HP127 := Kd.R_putg HO_5.out ((rd t233 x96_7) : Int) true
                                go_wp2_with (first | ((with_reducible refine gate_store (t := 4) (p := 107) rfl ?_); refine store_event (t := 4) (p := 107) (v := ?vo_w128) (w1 := (wr.setCell ⟨go126, ((rd t233 x96_7) : Int).toNat, none⟩ (.bool true))) ?hg ?ho ?hn ?hr ?_; (case ho => rfl); (case hg => rfl); (case hn => rfl); (case hr => first | (go_simp; done) | (go_simp; rfl)); intro w128 hw; have hg : wr.grownBy w128 (some go126) := (by rw [hw]; exact HP127.2); have hp_ : Kd.R Kd.bool 4 w128 w.heap.size (fun _ => True) (.slice (some ⟨go126, 0, none⟩) x5_7.length co116) y238 := (by rw [hw, Ny238.out]; exact HP127.1); clear HP127; have n0_ := Aside0.mk (hp_); have n1_ := Aside0.mk (Kd.R_over' (v := (.slice (some ⟨go126, 0, none⟩) x5_7.length co116)) (rl HO_8.out) (Kd.R_typed HO_5.out) (by decide) hg); have n2_ := Aside0.mk (Kd.R_over' (v := (.slice (some ⟨go126, 0, none⟩) x5_7.length co116)) (rl HO_94.out) (Kd.R_typed HO_5.out) (by decide) hg); have n3_ := Aside0.mk (blk_grown (g := gb212) (o := .cells #[.slice (some ad228) l0_0.length c0_0] 26 (0, 0)) (bl BK212.out) hg (Kd.R_ne HO_5.out BK212.out (by decide))); have n4_ := Aside0.mk (blk_grown (g := gb229) (o := .cells #[.int .i64 ((rd_T34 l0_0 x72_4).f0), .int .i64 ((rd_T34 l0_0 x72_4).f1), .int .i64 ((rd_T34 l0_0 x72_4).f2), .int .i64 ((rd_T34 l0_0 x72_4).f3)] 34 (0, 0)) (bl BK229.out) hg (Kd.R_ne HO_5.out BK229.out (by decide))); have n5_ := Aside0.mk ((by rw [hw]; exact below_set (HB.out) GB126.out : Below w.heap.size w w128)); clear HO_5 HO_8 HO_94 BK212 BK229 HB; have HO_5 := n0_; have HO_8 := n1_; have HO_94 := n2_; have BK212 := n3_; have BK229 := n4_; have HB := n5_; clear n0_ n1_ n2_ n3_ n4_ n5_ hg hw hp_))
                                (try simp only [← hl5_7])
                                go_roundg k7
                                case measure => have := HK1.out; have := HK2.out; have := HK3.out; have := HK4.out; have := HJ91.out; have := HJ105.out; have := HK7.out; omega
                                case rel => exact ⟨(y238), (true), (wrap64 (x96_7 + 1)), (by first | rfl | (simp; done) | (simp [*]; done)), (by first | rfl | (simp; done) | (simp [*]; done)), H', ⟨by have := HK1.out; have := HK2.out; have := HK3.out; have := HK4.out; have := HJ91.out; have := HJ105.out; have := HK7.out; omega⟩, ⟨by (try simp only [hl5_7]); (with_reducible repeat (first | apply Kd.R_alloc | apply Kd.R_drewN | apply Kd.R_drew)); exact HO_5.out⟩, ⟨by (try simp only [hl5_7]); (with_reducible repeat (first | apply Kd.R_alloc | apply Kd.R_drewN | apply Kd.R_drew)); exact HO_8.out⟩, ⟨by (try simp only [hl5_7]); (with_reducible repeat (first | apply Kd.R_alloc | apply Kd.R_drewN | apply Kd.R_drew)); exact HO_94.out⟩, ⟨by (try simp only [hl5_7]); exact bl BK212.out⟩, ⟨by (try simp only [hl5_7]); exact bl BK229.out⟩, ⟨bw HB.out⟩⟩
                              ·rw [if_neg c123] at H
                               exact absurd H (by simp)
                             ·rw [if_neg c122] at H
                              exact absurd H (by simp)
                            ·rw [if_neg c121] at H
                             exact absurd H (by simp)
                           ·rw [if_neg c120] at H
                            exact absurd H (by simp)
                          ·rw [if_neg c119] at H
                           have c119b0 : decide (x96_7 < (t233.length : Int)) = false := decide_eq_false c119
                           clear c119
                           have H' := Aside0.mk H
                           clear H
                           go_wp2
                           (try simp only [← hl5_7])
                           go_roundg k7
                           case measure => have := HK1.out; have := HK2.out; have := HK3.out; have := HK4.out; have := HJ91.out; have := HJ105.out; have := HK7.out; omega
                           case rel => exact ⟨(x5_7), (x11_7), (wrap64 (x72_4 + 1)), (by first | rfl | (simp; done) | (simp [*]; done)), (by first | rfl | (simp; done) | (simp [*]; done)), H', ⟨by have := HK1.out; have := HK2.out; have := HK3.out; have := HK4.out; have := HJ91.out; have := HJ105.out; have := HK7.out; omega⟩, ⟨by (try simp only [hl5_7]); (with_reducible repeat (first | apply Kd.R_alloc | apply Kd.R_drewN | apply Kd.R_drew)); exact HO_5.out⟩, ⟨by (try simp only [hl5_7]); (with_reducible repeat (first | apply Kd.R_alloc | apply Kd.R_drewN | apply Kd.R_drew)); exact Kd.R_mono HO_8.out (fun _ hk => trivial)⟩, ⟨by (try simp only [hl5_7]); exact bl BK212.out⟩, ⟨bw HB.out⟩⟩
                   ·rw [if_neg c91] at H
                    exact absurd H (by simp)
                  ·rw [if_neg c90] at H
                   exact absurd H (by simp)
                 ·rw [if_neg c89] at H
                  have c89b0 : decide (x72_4 < (l0_0.length : Int)) = false := decide_eq_false c89
                  clear c89
                  have H' := Aside0.mk H
                  clear H
                  go_wp2
                  go_roundg k4
                  case measure => have := HK1.out; have := HK2.out; have := HK3.out; have := HK4.out; omega
                  case rel => exact ⟨(x5_4), (x11_4), (by first | rfl | (simp; done) | (simp [*]; done)), H', ⟨by have := HK1.out; have := HK2.out; have := HK3.out; have := HK4.out; omega⟩, ⟨rl HO_5.out⟩, ⟨rl HO_8.out⟩, ⟨bl BK212.out⟩, ⟨bw HB.out⟩⟩
              ·replace c87 := Bool.eq_false_iff.mpr c87
               subst c87
               have H1 : (some x5_3) = some r := by rw [if_neg (show ¬ (false = true) by decide)] at H; exact H
               clear H
               have H := H1
               clear H1
               obtain rfl := Option.some.inj H
               go_wp2
               go_ret
               exact ⟨_, by first | rfl | (simp [errW_none, errW_some] <;> rfl) | (simp [*, errW_none, errW_some] <;> rfl), by (with_reducible repeat (first | apply Kd.R_alloc | apply Kd.R_drewN | apply Kd.R_drew)); exact HO_5.out, bw HB.out⟩
        ·rw [if_neg c28] at H
         exact absurd H (by simp)
       ·rw [if_neg c27] at H
        exact absurd H (by simp)
   ·rw [if_neg c6] at H
    exact absurd H (by simp)
  ·rw [if_neg c5] at H
   exact absurd H (by simp)
 ·replace c4 := Bool.eq_false_iff.mpr c4
  subst c4
  have H1 : (some ([] : List Bool)) = some r := by rw [if_neg (show ¬ (false = true) by decide)] at H; exact H
  clear H
  have H := H1
  clear H1
  obtain rfl := Option.some.inj H
  go_enter Try.func16, Try.ntmps16
  go_wp2_with (first | ((with_reducible refine gate_dst (N := 2) rfl ?_); refine box_event ?hg (N := 2) ?hd (cs := #[.slice A0_0 l0_0.length c0_0]) (t := 26) ?hr ?_; (case hd => rfl); (case hg => rfl); (case hr => first | (go_simp; done) | (go_simp; rfl)); intro gb212 hg w129 hbox hb; have n0_ := Aside0.mk (below_step (bw HB.out) hb); have n1_ := Aside0.mk (hbox); have n2_ := Aside0.mk ((by rw [hg]; exact (below_size (bw HB.out)) : w.heap.size ≤ gb212)); have n3_ := Aside0.mk ((by rw [hg]; exact (below_size (bw HB.out)) : w.heap.size ≤ gb212)); clear HB; have HB := n0_; have BK212 := n1_; have GW212 := n2_; have GE212 := n3_; clear n0_ n1_ n2_ n3_ hb hbox hg; have hcz130_0 : w129.cell? ⟨gb212, 0, none⟩ = some (.slice A0_0 l0_0.length c0_0) := (blk_cell BK212.out 0).trans rfl; have hfz130_0 := blk_frozen BK212.out 0) | ((with_reducible refine gate_callee (f := 27) rfl ?_); refine goesL_ (some 17) rfl rfl Try.func27 (by kernel_rfl) rfl #[.agg #[.slice A0_0 l0_0.length c0_0]] rfl ar ?_; (with_reducible refine (impl_ArenaOk.calls _ _ l0_0 false _ ?side1 ?side2 A3.out).mono ?_); (case side1 => exact cl (Kd.C_below HR0_0.out HB.out)); (case side2 => exact HC0_0.out); rintro e w131 ⟨rfl, hb⟩; refine ⟨_, rfl, ?_⟩; have n0_ := Aside0.mk (blk_below (g := gb212) (o := .cells #[.slice A0_0 l0_0.length c0_0] 26 (0, 0)) (bl BK212.out) hb); have n1_ := Aside0.mk (below_step (bw HB.out) hb); clear BK212 HB; have BK212 := n0_; have HB := n1_; clear n0_ n1_; (try clear hb); (try clear hb2); (try clear hk); (try clear hi)))
  go_ret
  exact ⟨_, by first | rfl | (simp [errW_none, errW_some] <;> rfl) | (simp [*, errW_none, errW_some] <;> rfl), by first | exact Kd.R_nil _ _ _ _ _ | exact Kd.N_nil _ _ _ _ _ | exact Kd.V_nil _ _ _ _ _ | exact Kd.Q_nil _ _ _ _ _ | exact Kd.S_nil _ _ _ _ _, bw HB.out⟩

end Go.Proofs.Ytkckdibalopagaa.SFnReaches
