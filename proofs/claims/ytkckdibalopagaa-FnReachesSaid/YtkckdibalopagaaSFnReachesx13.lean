-- Began as a print of the kit over stubs (wip/stub.py); the sections that are named OWN are this session's.
import Derived.Test.YtkckdibalopagaaSFnReachesx0
import Derived.Test.YtkckdibalopagaaSFnReachesx2
import Derived.Test.YtkckdibalopagaaSFnReachesx9
import Derived.Test.YtkckdibalopagaaSFnReachesx10
import Derived.Test.YtkckdibalopagaaSFnReachesx11
import Derived.Test.YtkckdibalopagaaSFnReachesx12
import Derived.Test.YtkckdibalopagaaVShort
namespace Go.Proofs.Ytkckdibalopagaa.SFnReaches
open Go.RowKit Go.Proofs.YtkckdibalopagaaW.PrintWords Go.Proofs.YtkckdibalopagaaW.PrintLast Go.Proofs.YtkckdibalopagaaW.PrintMore Go.Proofs.Ytkckdibalopagaa.Short
attribute [local go_sem] max2_int min2_int max_two min_two max_three min_three max_four min_four   -- for this text's walks alone
set_option linter.unusedVariables false
set_option linter.unusedSimpArgs false

/-! ### spec_l05Reach: function 78 -/
mutual
def spec_l05Reach.l0 : Nat → List Int → List Bool → Int → List (S34) → Option (List Bool)
  | 0, _, _, _, _ => none
  | k + 1, x1, x5, x6, x394000 => if x6 < (x1.length : Int) then (if 0 ≤ x6 then ((spec_l01In.f (rd x1 x6) 0 (wrap64 ((x5.length : Int) - 1))).bind fun t398 => (if t398 = true then (if 0 ≤ (rd x1 x6) then (if (rd x1 x6) < (x5.length : Int) then (spec_l05Reach.l0 k x1 (x5.set ((rd x1 x6) : Int).toNat true) (wrap64 (x6 + 1)) x394000) else (none)) else (none)) else (spec_l05Reach.l0 k x1 x5 (wrap64 (x6 + 1)) x394000))) else (none)) else ((spec_l05Pubs.f k x394000).bind fun t401 => (spec_l05Reach.l1 k x5 t401 true x394000))
def spec_l05Reach.l1 : Nat → List Bool → List Int → Bool → List (S34) → Option (List Bool)
  | 0, _, _, _, _ => none
  | k + 1, x5, x7, x8, x394000 => if x8 = true then (spec_l05Reach.l2 k x5 x7 false 0 x394000) else (some x5)
def spec_l05Reach.l2 : Nat → List Bool → List Int → Bool → Int → List (S34) → Option (List Bool)
  | 0, _, _, _, _, _ => none
  | k + 1, x5, x7, x8, x9, x394000 => if x9 < (x5.length : Int) then (if 0 ≤ x9 then (if rdOf false x5 x9 = true then (spec_l05Reach.l2 k x5 x7 x8 (wrap64 (x9 + 1)) x394000) else ((spec_l05Made.f k x394000 x5 x7 x9).bind fun t405 => (if t405 = true then (spec_l05Reach.l2 k (x5.set (x9 : Int).toNat true) x7 true (wrap64 (x9 + 1)) x394000) else (spec_l05Reach.l2 k x5 x7 x8 (wrap64 (x9 + 1)) x394000)))) else (none)) else (spec_l05Reach.l3 k x5 x7 x8 (wrap64 ((x5.length : Int) - 1)) x394000)
def spec_l05Reach.l3 : Nat → List Bool → List Int → Bool → Int → List (S34) → Option (List Bool)
  | 0, _, _, _, _, _ => none
  | k + 1, x5, x7, x8, x10, x394000 => if x10 ≥ 0 then (if 0 ≤ x10 then (if x10 < (x5.length : Int) then (if rdOf false x5 x10 = true then ((spec_l05Parts.f x394000 x5 x10).bind fun bt408 => (if bt408.1 = true then (spec_l05Reach.l3 k bt408.2 x7 true (wrap64 (x10 - 1)) x394000) else (spec_l05Reach.l3 k bt408.2 x7 x8 (wrap64 (x10 - 1)) x394000))) else (spec_l05Reach.l3 k x5 x7 x8 (wrap64 (x10 - 1)) x394000)) else (none)) else (none)) else (spec_l05Reach.l1 k x5 x7 x8 x394000)
end
def spec_l05Reach.f (k : Nat) (l0_0 : List (S34)) (l1 : List Int) : Option (List Bool) := if 0 ≤ (l0_0.length : Int) then (if ((l0_0.length : Int) : Int).toNat ≤ 281474976710656 then (spec_l05Reach.l0 k l1 (List.replicate ((l0_0.length : Int) : Int).toNat false) 0 l0_0) else (none)) else (none)
set_option maxHeartbeats 8000000 in
set_option maxRecDepth 100000 in
theorem spec_l05Reach.calls (k : Nat) (A0_0 : Option Addr) (c0_0 : Nat) (l0_0 : List (S34)) (A1 : Option Addr) (c1 : Nat) (l1 : List Int) (r : List Bool) (w : World) (hr0_0 : Kd.C k34 w A0_0 l0_0.length l0_0) (hc0_0 : l0_0.length ≤ c0_0) (hr1 : Kd.C (Kd.int .i64) w A1 l1.length l1) (hc1 : l1.length ≤ c1) (h : spec_l05Reach.f k l0_0 l1 = some r) :
  Calls Try.prog 78 #[.agg #[.slice A0_0 l0_0.length c0_0], .slice A1 l1.length c1] w fun e w' => ∃ v0_ : Value, e = .returned (v0_) ∧ Kd.R Kd.bool 4 w' w.heap.size (fun _ => True) v0_ r ∧ Below w.heap.size w w' := by
 have hu26 := Try.underlying26
 have HR0_0 := Aside0.mk hr0_0
 have HC0_0 := Aside0.mk hc0_0
 clear hr0_0 hc0_0
 have HR1 := Aside0.mk hr1
 have HC1 := Aside0.mk hc1
 clear hr1 hc1
 have HB := Aside0.mk (Below.refl w.heap.size w)
 have H : (if 0 ≤ (l0_0.length : Int) then (if ((l0_0.length : Int) : Int).toNat ≤ 281474976710656 then (spec_l05Reach.l0 k l1 (List.replicate ((l0_0.length : Int) : Int).toNat false) 0 l0_0) else (none)) else (none)) = some r := h
 clear h
 by_cases c3 : 0 ≤ (l0_0.length : Int)
 ·rw [if_pos c3] at H
  have c3b0 := eq_true c3
  have c3b1 : decide (0 ≤ (l0_0.length : Int)) = true := decide_eq_true c3
  clear c3
  by_cases c4 : ((l0_0.length : Int) : Int).toNat ≤ 281474976710656
  ·rw [if_pos c4] at H
   have c4b0 := eq_true c4
   have c4b1 : decide (((l0_0.length : Int) : Int).toNat ≤ 281474976710656) = true := decide_eq_true c4
   clear c4
   obtain ⟨y394, hy394⟩ : ∃ y_ : List Bool, y_ = (List.replicate ((l0_0.length : Int) : Int).toNat false) := ⟨_, rfl⟩
   replace H : (spec_l05Reach.l0 k l1 y394 0 l0_0) = some r := by first | (rw [hy394]; with_reducible exact H) | (have H2_ := (Option.bind_some _ _).symm.trans H; rw [hy394]; with_reducible exact H2_) | (have H2_ := (Option.bind_some _ _).symm.trans H; with_reducible exact H2_) | with_reducible exact H | (rw [hy394]; exact H) | exact H
   have Ny394 := Aside0.mk hy394
   clear hy394
   have H' := Aside0.mk H
   clear H
   go_enter Try.func78, Try.ntmps78
   go_wp2_with (first | ((with_reducible refine gate_dst (N := 2) rfl ?_); refine box_event ?hg (N := 2) ?hd (cs := #[.slice A0_0 l0_0.length c0_0]) (t := 26) ?hr ?_; (case hd => rfl); (case hg => rfl); (case hr => first | (go_simp; done) | (go_simp; rfl)); intro gb393 hg w5 hbox hb; have n0_ := Aside0.mk (below_step (bw HB.out) hb); have n1_ := Aside0.mk (hbox); have n2_ := Aside0.mk ((by rw [hg]; exact (below_size (bw HB.out)) : w.heap.size ≤ gb393)); have n3_ := Aside0.mk ((by rw [hg]; exact (below_size (bw HB.out)) : w.heap.size ≤ gb393)); clear HB; have HB := n0_; have BK393 := n1_; have GW393 := n2_; have GE393 := n3_; clear n0_ n1_ n2_ n3_ hb hbox hg; have hcz6_0 : w5.cell? ⟨gb393, 0, none⟩ = some (.slice A0_0 l0_0.length c0_0) := (blk_cell BK393.out 0).trans rfl; have hfz6_0 := blk_frozen BK393.out 0) | ((with_reducible refine gate_dst (N := 14) rfl ?_); refine Kd.R_make Kd.bool _ 4 rfl (N := 14) rfl 30 _ _ rfl (l0_0.length : Int) rfl rfl Try.underlying30 (.bool false) 1 info4 rfl (by decide) (by omega) false (ok := fun _ => True) (okp := fun _ => True) rfl (fun _ hk => hk) trivial (oda) (Nat.le_trans (Nat.mul_le_mul_right _ (oda : (l0_0.length : Int).toNat ≤ 281474976710656)) (by omega)) (Below.refl _ _) (Nat.le_refl _) ?_; intro v395 w7 ho8 hb hg_ hnew_; clear hg_ hnew_; (first | rw [← Ny394.out] at ho8 | (simp only [Int.reduceToNat] at ho8; rw [← Ny394.out] at ho8)); have n0_ := Aside0.mk (Kd.R_lower ho8 (below_size (bw HB.out))); have n1_ := Aside0.mk (blk_below (g := gb393) (o := .cells #[.slice A0_0 l0_0.length c0_0] 26 (0, 0)) (bl BK393.out) hb); have n2_ := Aside0.mk (below_step (bw HB.out) hb); clear BK393 HB; have HO396 := n0_; have BK393 := n1_; have HB := n2_; clear n0_ n1_ n2_ hb ho8))
   go_loopg [6] k (fun kq v6 w' => ∃ (x5_1 : List Bool) (x6_1 : Int), v6 = .int .i64 x6_1 ∧ Aside0 (spec_l05Reach.l0 kq l1 x5_1 x6_1 l0_0 = some r) ∧ Aside0 (kq ≤ k) ∧ Aside0 (Kd.R Kd.bool 4 w' w.heap.size (fun _ => True) v395 x5_1) ∧ Aside0 (w'.heap[gb393]? = some (.cells #[(.slice A0_0 l0_0.length c0_0)] 26 (0, 0))) ∧ Aside0 (Below w.heap.size w w'))
   case atStart => exact ⟨(y394), (0), (by first | rfl | (simp; done) | (simp [*]; done)), H', ⟨Nat.le_refl _⟩, ⟨rl HO396.out⟩, ⟨bl BK393.out⟩, ⟨bw HB.out⟩⟩
   case round =>
    clear H'
    try clear c1
    try clear p2
    try clear c3
    try clear c3b0
    try clear c3b1
    try clear c4
    try clear c4b0
    try clear c4b1
    try clear c7
    try clear hcz6_0
    try clear hfz6_0
    obtain ⟨x5_1, x6_1, rfl, HA, HK1, HO_5, BK393, HB⟩ := hrel
    cases gk with
    | zero => exact absurd HA.out (by simp [spec_l05Reach.l0])
    | succ k1 =>
     have H := HA.out
     clear HA
     simp only [spec_l05Reach.l0] at H
     by_cases c9 : x6_1 < (l1.length : Int)
     ·rw [if_pos c9] at H
      have c9b0 : decide (x6_1 < (l1.length : Int)) = true := decide_eq_true c9
      clear c9
      by_cases c10 : 0 ≤ x6_1
      ·rw [if_pos c10] at H
       have c10b0 : decide (0 ≤ x6_1) = true := decide_eq_true c10
       clear c10
       replace H := Option.bind_eq_some_iff.mp H
       obtain ⟨t398, A110, H⟩ := H
       replace H : (if t398 = true then (if 0 ≤ (rd l1 x6_1) then (if (rd l1 x6_1) < (x5_1.length : Int) then (spec_l05Reach.l0 k1 l1 (x5_1.set ((rd l1 x6_1) : Int).toNat true) (wrap64 (x6_1 + 1)) l0_0) else (none)) else (none)) else (spec_l05Reach.l0 k1 l1 x5_1 (wrap64 (x6_1 + 1)) l0_0)) = some r := H
       have A11 := Aside0.mk A110
       clear A110
       by_cases c12 : t398 = true
       ·subst c12
        have H1 : (if 0 ≤ (rd l1 x6_1) then (if (rd l1 x6_1) < (x5_1.length : Int) then (spec_l05Reach.l0 k1 l1 (x5_1.set ((rd l1 x6_1) : Int).toNat true) (wrap64 (x6_1 + 1)) l0_0) else (none)) else (none)) = some r := by rw [if_pos rfl] at H; exact H
        clear H
        have H := H1
        clear H1
        by_cases c13 : 0 ≤ (rd l1 x6_1)
        ·rw [if_pos c13] at H
         have c13b0 : decide (0 ≤ (rd l1 x6_1)) = true := decide_eq_true c13
         clear c13
         by_cases c14 : (rd l1 x6_1) < (x5_1.length : Int)
         ·rw [if_pos c14] at H
          have c14b0 : decide ((rd l1 x6_1) < (x5_1.length : Int)) = true := decide_eq_true c14
          clear c14
          obtain ⟨y400, hy400⟩ : ∃ y_ : List Bool, y_ = (x5_1.set ((rd l1 x6_1) : Int).toNat true) := ⟨_, rfl⟩
          replace H : (spec_l05Reach.l0 k1 l1 y400 (wrap64 (x6_1 + 1)) l0_0) = some r := by first | (rw [hy400]; with_reducible exact H) | (have H2_ := (Option.bind_some _ _).symm.trans H; rw [hy400]; with_reducible exact H2_) | (have H2_ := (Option.bind_some _ _).symm.trans H; with_reducible exact H2_) | with_reducible exact H | (rw [hy400]; exact H) | exact H
          have Ny400 := Aside0.mk hy400
          clear hy400
          have H' := Aside0.mk H
          clear H
          have p397 : 0 ≤ (x6_1 : Int) := oda
          have q397 : x6_1 < (l1.length : Int) := oda
          obtain ⟨ad397, e397, hx397_0⟩ := Kd.at_int HR1.out x6_1 p397 q397
          cases e397
          replace hx397_0 := (HB.out.cell (World.block_lt_of_cell? w _ hx397_0)).trans hx397_0
          replace p397 := eq_true p397
          replace q397 := eq_true q397
          obtain ⟨Ao16, co16, eo16⟩ := Kd.R_slice HO_5.out
          subst eo16
          go_wp2_with (first | ((with_reducible refine gate_callee (f := 79) rfl ?_); refine goesL_ (some 28) rfl rfl Try.func79 (by kernel_rfl) rfl #[.int .i64 (rd l1 x6_1), .int .i64 0, .int .i64 (wrap64 ((x5_1.length : Int) - 1))] rfl ar ?_; (with_reducible refine (spec_l01In.calls (rd l1 x6_1) 0 (wrap64 ((x5_1.length : Int) - 1)) true _ A11.out).mono ?_); rintro e w' ⟨rfl, ⟨nd, rfl⟩⟩; refine ⟨_, rfl, ?_⟩; (try (rw [drewN_self wr]; generalize hq_ : World.drewN wr _ = wr; have n0_ : Aside0 (Kd.R Kd.bool 4 wr w.heap.size (fun _ => True) (.slice Ao16 x5_1.length co16) x5_1) := ⟨by rw [← hq_]; exact (rl HO_5.out)⟩; have n1_ : Aside0 (wr.heap[gb393]? = some (.cells #[.slice A0_0 l0_0.length c0_0] 26 (0, 0))) := ⟨by rw [← hq_]; exact (bl BK393.out)⟩; have n2_ : Aside0 (Below w.heap.size w wr) := ⟨by rw [← hq_]; exact (bw HB.out)⟩; clear HO_5 BK393 HB hq_; have HO_5 := n0_; have BK393 := n1_; have HB := n2_; clear n0_ n1_ n2_)); have p399 : 0 ≤ (x6_1 : Int) := oda; have q399 : x6_1 < (l1.length : Int) := oda; obtain ⟨ad399, e399, hx399_0⟩ := Kd.at_int HR1.out x6_1 p399 q399; obtain rfl : ad397 = ad399 := (by injection e399); replace hx399_0 := (HB.out.cell (World.block_lt_of_cell? w _ hx399_0)).trans hx399_0; replace p399 := eq_true p399; replace q399 := eq_true q399; have p15 : 0 ≤ ((rd l1 x6_1) : Int) := oda; have q15 : ((rd l1 x6_1) : Int) < ((x5_1.length : Int) : Int) := oda; obtain ⟨go15, co15, eo15, gb15, gl15, cl15, HG15⟩ := Kd.R_form HO_5.out (by omega); (first | cases eo15 | (injection eo15 with ea_ en_ ec_; (first | subst ea_ | (injection ea_ with ea_; subst ea_)); subst ec_; clear en_)); have GB15 := Aside0.mk gb15; have GG15 := Aside0.mk HG15; clear gb15 gl15 HG15; obtain ⟨hx15_0, hf15_0⟩ := Kd.R_celln false HO_5.out ((rd l1 x6_1) : Int) p15 q15; replace p15 := eq_true p15; replace q15 := eq_true q15; obtain ⟨hy17_, hz17_⟩ := Kd.R_celln false HO_5.out ((rd l1 x6_1) : Int) (oda) (oda); have HP17 := Kd.R_putg HO_5.out ((rd l1 x6_1) : Int) true) | ((with_reducible refine gate_store (t := 4) (p := 34) rfl ?_); refine store_event (t := 4) (p := 34) (v := ?vo_w18) (w1 := (wr.setCell ⟨go15, ((rd l1 x6_1) : Int).toNat, none⟩ (.bool true))) ?hg ?ho ?hn ?hr ?_; (case ho => rfl); (case hg => rfl); (case hn => rfl); (case hr => first | (go_simp; done) | (go_simp; rfl)); intro w18 hw; have hg : wr.grownBy w18 (some go15) := (by rw [hw]; exact HP17.2); have hp_ : Kd.R Kd.bool 4 w18 w.heap.size (fun _ => True) (.slice (some ⟨go15, 0, none⟩) x5_1.length co16) y400 := (by rw [hw, Ny400.out]; exact HP17.1); clear HP17; have n0_ := Aside0.mk (hp_); have n1_ := Aside0.mk (blk_grown (g := gb393) (o := .cells #[.slice A0_0 l0_0.length c0_0] 26 (0, 0)) (bl BK393.out) hg (Kd.R_ne HO_5.out BK393.out (by decide))); have n2_ := Aside0.mk ((by rw [hw]; exact below_set (HB.out) GB15.out : Below w.heap.size w w18)); clear HO_5 BK393 HB; have HO_5 := n0_; have BK393 := n1_; have HB := n2_; clear n0_ n1_ n2_ hg hw hp_))
          go_roundg k1
          case measure => have := HK1.out; omega
          case rel => exact ⟨(y400), (wrap64 (x6_1 + 1)), (by first | rfl | (simp; done) | (simp [*]; done)), H', ⟨by have := HK1.out; omega⟩, ⟨rl HO_5.out⟩, ⟨bl BK393.out⟩, ⟨bw HB.out⟩⟩
         ·rw [if_neg c14] at H
          exact absurd H (by simp)
        ·rw [if_neg c13] at H
         exact absurd H (by simp)
       ·replace c12 := Bool.eq_false_iff.mpr c12
        subst c12
        have H1 : (spec_l05Reach.l0 k1 l1 x5_1 (wrap64 (x6_1 + 1)) l0_0) = some r := by rw [if_neg (show ¬ (false = true) by decide)] at H; exact H
        clear H
        have H := H1
        clear H1
        have H' := Aside0.mk H
        clear H
        have p397 : 0 ≤ (x6_1 : Int) := oda
        have q397 : x6_1 < (l1.length : Int) := oda
        obtain ⟨ad397, e397, hx397_0⟩ := Kd.at_int HR1.out x6_1 p397 q397
        cases e397
        replace hx397_0 := (HB.out.cell (World.block_lt_of_cell? w _ hx397_0)).trans hx397_0
        replace p397 := eq_true p397
        replace q397 := eq_true q397
        obtain ⟨Ao19, co19, eo19⟩ := Kd.R_slice HO_5.out
        subst eo19
        go_wp2_with (first | ((with_reducible refine gate_callee (f := 79) rfl ?_); refine goesL_ (some 28) rfl rfl Try.func79 (by kernel_rfl) rfl #[.int .i64 (rd l1 x6_1), .int .i64 0, .int .i64 (wrap64 ((x5_1.length : Int) - 1))] rfl ar ?_; (with_reducible refine (spec_l01In.calls (rd l1 x6_1) 0 (wrap64 ((x5_1.length : Int) - 1)) false _ A11.out).mono ?_); rintro e w' ⟨rfl, ⟨nd, rfl⟩⟩; refine ⟨_, rfl, ?_⟩))
        go_roundg k1
        case measure => have := HK1.out; omega
        case rel => exact ⟨(x5_1), (wrap64 (x6_1 + 1)), (by first | rfl | (simp; done) | (simp [*]; done)), H', ⟨by have := HK1.out; omega⟩, ⟨rl HO_5.out⟩, ⟨bl BK393.out⟩, ⟨bw HB.out⟩⟩
      ·rw [if_neg c10] at H
       exact absurd H (by simp)
     ·rw [if_neg c9] at H
      have c9b0 : decide (x6_1 < (l1.length : Int)) = false := decide_eq_false c9
      clear c9
      replace H := Option.bind_eq_some_iff.mp H
      obtain ⟨t401, A200, H⟩ := H
      replace H : (spec_l05Reach.l1 k1 x5_1 t401 true l0_0) = some r := H
      have A20 := Aside0.mk A200
      clear A200
      have H' := Aside0.mk H
      clear H
      have hcz21_0 : wr.cell? ⟨gb393, 0, none⟩ = some (.slice A0_0 l0_0.length c0_0) := (blk_cell BK393.out 0).trans rfl
      have hfz21_0 := blk_frozen BK393.out 0
      go_wp2_with (first | ((with_reducible refine gate_callee (f := 118) rfl ?_); refine goesL_ (some 36) rfl rfl Try.func118 (by kernel_rfl) rfl #[.agg #[.slice A0_0 l0_0.length c0_0]] rfl ar ?_; (with_reducible refine (spec_l05Pubs.calls k1 _ _ l0_0 t401 _ ?side1 ?side2 A20.out).mono ?_); (case side1 => exact cl (Kd.C_below HR0_0.out HB.out)); (case side2 => exact HC0_0.out); rintro e w22 ⟨v402, rfl, ho0, hb⟩; refine ⟨_, rfl, ?_⟩; have n0_ := Aside0.mk (Kd.R_below (rl HO_5.out) hb); have n1_ := Aside0.mk (Kd.R_lower ho0 (below_size (bw HB.out))); have n2_ := Aside0.mk (blk_below (g := gb393) (o := .cells #[.slice A0_0 l0_0.length c0_0] 26 (0, 0)) (bl BK393.out) hb); have n3_ := Aside0.mk (below_step (bw HB.out) hb); clear HO_5 BK393 HB; have HO_5 := n0_; have HO403 := n1_; have BK393 := n2_; have HB := n3_; clear n0_ n1_ n2_ n3_; (try clear hb); (try clear hb2); (try clear hk); (try clear hi); (try clear ho0)))
      go_loopg [8] k1 (fun kq v8 w' => ∃ (x5_2 : List Bool) (x8_2 : Bool), v8 = .bool x8_2 ∧ Aside0 (spec_l05Reach.l1 kq x5_2 t401 x8_2 l0_0 = some r) ∧ Aside0 (kq ≤ k1) ∧ Aside0 (Kd.R Kd.bool 4 w' w.heap.size (fun _ => True) v395 x5_2) ∧ Aside0 (Kd.R (Kd.int .i64) 3 w' w.heap.size (fun _ => True) v402 t401) ∧ Aside0 (w'.heap[gb393]? = some (.cells #[(.slice A0_0 l0_0.length c0_0)] 26 (0, 0))) ∧ Aside0 (Below w.heap.size w w'))
      case atStart => exact ⟨(x5_1), (true), (by first | rfl | (simp; done) | (simp [*]; done)), H', ⟨Nat.le_refl _⟩, ⟨rl HO_5.out⟩, ⟨rl HO403.out⟩, ⟨bl BK393.out⟩, ⟨bw HB.out⟩⟩
      case round =>
       clear H'
       try clear c1
       try clear p1
       try clear q1
       try clear hx1
       try clear p2
       try clear c3
       try clear c3b0
       try clear c3b1
       try clear p3
       try clear q3
       try clear hx3
       try clear c4
       try clear c4b0
       try clear c4b1
       try clear p6
       try clear c7
       try clear c9
       try clear c9b0
       try clear c10
       try clear c10b0
       try clear c11
       try clear c12
       try clear c13
       try clear c13b0
       try clear c14
       try clear c14b0
       try clear p15
       try clear q15
       try clear hx15
       try clear hf15
       try clear hcz21_0
       try clear hcz6_0
       try clear hfz21_0
       try clear hfz6_0
       try clear hx15_0
       try clear hx397_0
       try clear hx399_0
       try clear p15
       try clear p2
       try clear p397
       try clear p399
       try clear q15
       try clear q397
       try clear q399
       obtain ⟨x5_2, x8_2, rfl, HA, HK2, HO_5, HO_7, BK393, HB⟩ := hrel
       cases gk with
       | zero => exact absurd HA.out (by simp [spec_l05Reach.l1])
       | succ k2 =>
        have H := HA.out
        clear HA
        simp only [spec_l05Reach.l1] at H
        by_cases c23 : x8_2 = true
        ·subst c23
         have H1 : (spec_l05Reach.l2 k2 x5_2 t401 false 0 l0_0) = some r := by rw [if_pos rfl] at H; exact H
         clear H
         have H := H1
         clear H1
         have H' := Aside0.mk H
         clear H
         go_wp2
         go_loopg [8, 9] k2 (fun kq v8 v9 w' => ∃ (x5_3 : List Bool) (x8_3 : Bool) (x9_3 : Int), v8 = .bool x8_3 ∧ v9 = .int .i64 x9_3 ∧ Aside0 (spec_l05Reach.l2 kq x5_3 t401 x8_3 x9_3 l0_0 = some r) ∧ Aside0 (kq ≤ k2) ∧ Aside0 (Kd.R Kd.bool 4 w' w.heap.size (fun _ => True) v395 x5_3) ∧ Aside0 (Kd.R (Kd.int .i64) 3 w' w.heap.size (fun _ => True) v402 t401) ∧ Aside0 (w'.heap[gb393]? = some (.cells #[(.slice A0_0 l0_0.length c0_0)] 26 (0, 0))) ∧ Aside0 (Below w.heap.size w w'))
         case atStart => exact ⟨(x5_2), (false), (0), (by first | rfl | (simp; done) | (simp [*]; done)), (by first | rfl | (simp; done) | (simp [*]; done)), H', ⟨Nat.le_refl _⟩, ⟨rl HO_5.out⟩, ⟨rl HO_7.out⟩, ⟨bl BK393.out⟩, ⟨bw HB.out⟩⟩
         case round =>
          clear H'
          try clear c1
          try clear p1
          try clear q1
          try clear hx1
          try clear c2
          try clear p2
          try clear c3
          try clear c3b0
          try clear c3b1
          try clear p3
          try clear q3
          try clear hx3
          try clear c4
          try clear c4b0
          try clear c4b1
          try clear p6
          try clear c7
          try clear c9
          try clear c9b0
          try clear c10
          try clear c10b0
          try clear c11
          try clear c12
          try clear c13
          try clear c13b0
          try clear c14
          try clear c14b0
          try clear p15
          try clear q15
          try clear hx15
          try clear hf15
          try clear c23
          try clear hcz21_0
          try clear hcz6_0
          try clear hfz21_0
          try clear hfz6_0
          try clear hx15_0
          try clear hx397_0
          try clear hx399_0
          try clear p1
          try clear p15
          try clear p2
          try clear p3
          try clear p397
          try clear p399
          try clear p6
          try clear q1
          try clear q15
          try clear q3
          try clear q397
          try clear q399
          obtain ⟨x5_3, x8_3, x9_3, rfl, rfl, HA, HK3, HO_5, HO_7, BK393, HB⟩ := hrel
          cases gk with
          | zero => exact absurd HA.out (by simp [spec_l05Reach.l2])
          | succ k3 =>
           have H := HA.out
           clear HA
           simp only [spec_l05Reach.l2] at H
           by_cases c24 : x9_3 < (x5_3.length : Int)
           ·rw [if_pos c24] at H
            have c24b0 : decide (x9_3 < (x5_3.length : Int)) = true := decide_eq_true c24
            clear c24
            by_cases c25 : 0 ≤ x9_3
            ·rw [if_pos c25] at H
             have c25b0 : decide (0 ≤ x9_3) = true := decide_eq_true c25
             clear c25
             obtain ⟨bq26, hbq26⟩ : ∃ b_ : Bool, b_ = (rdOf false x5_3 x9_3) := ⟨_, rfl⟩
             replace H : (if bq26 = true then (spec_l05Reach.l2 k3 x5_3 t401 x8_3 (wrap64 (x9_3 + 1)) l0_0) else ((spec_l05Made.f k3 l0_0 x5_3 t401 x9_3).bind fun t405 => (if t405 = true then (spec_l05Reach.l2 k3 (x5_3.set (x9_3 : Int).toNat true) t401 true (wrap64 (x9_3 + 1)) l0_0) else (spec_l05Reach.l2 k3 x5_3 t401 x8_3 (wrap64 (x9_3 + 1)) l0_0)))) = some r := by rw [← hbq26] at H; exact H
             have Nbq26 := Aside0.mk hbq26
             clear hbq26
             by_cases c27 : bq26 = true
             ·subst c27
              have H1 : (spec_l05Reach.l2 k3 x5_3 t401 x8_3 (wrap64 (x9_3 + 1)) l0_0) = some r := by rw [if_pos rfl] at H; exact H
              clear H
              have H := H1
              clear H1
              have H' := Aside0.mk H
              clear H
              obtain ⟨Ao28, co28, eo28⟩ := Kd.R_slice HO_5.out
              subst eo28
              have p404 : 0 ≤ (x9_3 : Int) := oda
              have q404 : x9_3 < (x5_3.length : Int) := oda
              obtain ⟨ad404, e404, hx404_0⟩ := Kd.at_bool (Kd.R_reads' HO_5.out).2.2 x9_3 p404 q404
              (try rw [← Nbq26.out] at hx404_0)
              cases e404
              replace p404 := eq_true p404
              replace q404 := eq_true q404
              go_wp2
              go_roundg k3
              case measure => have := HK1.out; have := HK2.out; have := HK3.out; omega
              case rel => exact ⟨(x5_3), (x8_3), (wrap64 (x9_3 + 1)), (by first | rfl | (simp; done) | (simp [*]; done)), (by first | rfl | (simp; done) | (simp [*]; done)), H', ⟨by have := HK1.out; have := HK2.out; have := HK3.out; omega⟩, ⟨rl HO_5.out⟩, ⟨rl HO_7.out⟩, ⟨bl BK393.out⟩, ⟨bw HB.out⟩⟩
             ·replace c27 := Bool.eq_false_iff.mpr c27
              subst c27
              have H1 : ((spec_l05Made.f k3 l0_0 x5_3 t401 x9_3).bind fun t405 => (if t405 = true then (spec_l05Reach.l2 k3 (x5_3.set (x9_3 : Int).toNat true) t401 true (wrap64 (x9_3 + 1)) l0_0) else (spec_l05Reach.l2 k3 x5_3 t401 x8_3 (wrap64 (x9_3 + 1)) l0_0))) = some r := by rw [if_neg (show ¬ (false = true) by decide)] at H; exact H
              clear H
              have H := H1
              clear H1
              replace H := Option.bind_eq_some_iff.mp H
              obtain ⟨t405, A290, H⟩ := H
              replace H : (if t405 = true then (spec_l05Reach.l2 k3 (x5_3.set (x9_3 : Int).toNat true) t401 true (wrap64 (x9_3 + 1)) l0_0) else (spec_l05Reach.l2 k3 x5_3 t401 x8_3 (wrap64 (x9_3 + 1)) l0_0)) = some r := H
              have A29 := Aside0.mk A290
              clear A290
              by_cases c30 : t405 = true
              ·subst c30
               have H1 : (spec_l05Reach.l2 k3 (x5_3.set (x9_3 : Int).toNat true) t401 true (wrap64 (x9_3 + 1)) l0_0) = some r := by rw [if_pos rfl] at H; exact H
               clear H
               have H := H1
               clear H1
               obtain ⟨y406, hy406⟩ : ∃ y_ : List Bool, y_ = (x5_3.set (x9_3 : Int).toNat true) := ⟨_, rfl⟩
               replace H : (spec_l05Reach.l2 k3 y406 t401 true (wrap64 (x9_3 + 1)) l0_0) = some r := by first | (rw [hy406]; with_reducible exact H) | (have H2_ := (Option.bind_some _ _).symm.trans H; rw [hy406]; with_reducible exact H2_) | (have H2_ := (Option.bind_some _ _).symm.trans H; with_reducible exact H2_) | with_reducible exact H | (rw [hy406]; exact H) | exact H
               have Ny406 := Aside0.mk hy406
               clear hy406
               have H' := Aside0.mk H
               clear H
               obtain ⟨Ao32, co32, eo32⟩ := Kd.R_slice HO_5.out
               subst eo32
               have p404 : 0 ≤ (x9_3 : Int) := oda
               have q404 : x9_3 < (x5_3.length : Int) := oda
               obtain ⟨ad404, e404, hx404_0⟩ := Kd.at_bool (Kd.R_reads' HO_5.out).2.2 x9_3 p404 q404
               (try rw [← Nbq26.out] at hx404_0)
               cases e404
               replace p404 := eq_true p404
               replace q404 := eq_true q404
               have hcz33_0 : wr.cell? ⟨gb393, 0, none⟩ = some (.slice A0_0 l0_0.length c0_0) := (blk_cell BK393.out 0).trans rfl
               have hfz33_0 := blk_frozen BK393.out 0
               obtain ⟨Ao34, co34, eo34⟩ := Kd.R_slice HO_7.out
               subst eo34
               go_wp2_with (first | (go_at_call 119; (with_reducible refine (spec_l05Made.calls k3 _ _ l0_0 _ _ x5_3 _ _ t401 x9_3 true _ ?side1 ?side2 ?side3 ?side4 ?side5 ?side6 A29.out).mono ?_); (case side1 => exact cl (Kd.C_below HR0_0.out HB.out)); (case side2 => exact HC0_0.out); (case side3 => exact cl (Kd.R_reads' HO_5.out).2.2); (case side4 => exact (Kd.R_reads' HO_5.out).2.1); (case side5 => exact cl (Kd.R_reads' HO_7.out).2.2); (case side6 => exact (Kd.R_reads' HO_7.out).2.1); rintro e w35 ⟨rfl, hb⟩; have n0_ := Aside0.mk (Kd.R_below (rl HO_5.out) hb); have n1_ := Aside0.mk (Kd.R_below (rl HO_7.out) hb); have n2_ := Aside0.mk (blk_below (g := gb393) (o := .cells #[.slice A0_0 l0_0.length c0_0] 26 (0, 0)) (bl BK393.out) hb); have n3_ := Aside0.mk (below_step (bw HB.out) hb); clear HO_5 HO_7 BK393 HB; have HO_5 := n0_; have HO_7 := n1_; have BK393 := n2_; have HB := n3_; clear n0_ n1_ n2_ n3_; (try clear hb); (try clear hb2); (try clear hk); (try clear hi); have p31 : 0 ≤ (x9_3 : Int) := oda; have q31 : (x9_3 : Int) < ((x5_3.length : Int) : Int) := oda; obtain ⟨go31, co31, eo31, gb31, gl31, cl31, HG31⟩ := Kd.R_form HO_5.out (by omega); (first | cases eo31 | (injection eo31 with ea_ en_ ec_; (first | subst ea_ | (injection ea_ with ea_; subst ea_)); subst ec_; clear en_)); have GB31 := Aside0.mk gb31; have GG31 := Aside0.mk HG31; clear gb31 gl31 HG31; (first | simp only [add_plain] at hx404_0 | skip); obtain ⟨hx31_0, hf31_0⟩ := Kd.R_celln false HO_5.out (x9_3 : Int) p31 q31; replace p31 := eq_true p31; replace q31 := eq_true q31; obtain ⟨hy36_, hz36_⟩ := Kd.R_celln false HO_5.out (x9_3 : Int) (oda) (oda); have HP36 := Kd.R_putg HO_5.out (x9_3 : Int) true) | ((with_reducible refine gate_store (t := 4) (p := 58) rfl ?_); refine store_event (t := 4) (p := 58) (v := ?vo_w37) (w1 := (w35.setCell ⟨go31, (x9_3 : Int).toNat, none⟩ (.bool true))) ?hg ?ho ?hn ?hr ?_; (case ho => rfl); (case hg => rfl); (case hn => rfl); (case hr => first | (go_simp; done) | (go_simp; rfl)); intro w37 hw; have hg : w35.grownBy w37 (some go31) := (by rw [hw]; exact HP36.2); have hp_ : Kd.R Kd.bool 4 w37 w.heap.size (fun _ => True) (.slice (some ⟨go31, 0, none⟩) x5_3.length co32) y406 := (by rw [hw, Ny406.out]; exact HP36.1); clear HP36; have n0_ := Aside0.mk (hp_); have n1_ := Aside0.mk (Kd.R_over' (v := (.slice (some ⟨go31, 0, none⟩) x5_3.length co32)) (rl HO_7.out) (Kd.R_typed HO_5.out) (by decide) hg); have n2_ := Aside0.mk (blk_grown (g := gb393) (o := .cells #[.slice A0_0 l0_0.length c0_0] 26 (0, 0)) (bl BK393.out) hg (Kd.R_ne HO_5.out BK393.out (by decide))); have n3_ := Aside0.mk ((by rw [hw]; exact below_set (HB.out) GB31.out : Below w.heap.size w w37)); clear HO_5 HO_7 BK393 HB; have HO_5 := n0_; have HO_7 := n1_; have BK393 := n2_; have HB := n3_; clear n0_ n1_ n2_ n3_ hg hw hp_))
               go_roundg k3
               case measure => have := HK1.out; have := HK2.out; have := HK3.out; omega
               case rel => exact ⟨(y406), (true), (wrap64 (x9_3 + 1)), (by first | rfl | (simp; done) | (simp [*]; done)), (by first | rfl | (simp; done) | (simp [*]; done)), H', ⟨by have := HK1.out; have := HK2.out; have := HK3.out; omega⟩, ⟨rl HO_5.out⟩, ⟨rl HO_7.out⟩, ⟨bl BK393.out⟩, ⟨bw HB.out⟩⟩
              ·replace c30 := Bool.eq_false_iff.mpr c30
               subst c30
               have H1 : (spec_l05Reach.l2 k3 x5_3 t401 x8_3 (wrap64 (x9_3 + 1)) l0_0) = some r := by rw [if_neg (show ¬ (false = true) by decide)] at H; exact H
               clear H
               have H := H1
               clear H1
               have H' := Aside0.mk H
               clear H
               obtain ⟨Ao38, co38, eo38⟩ := Kd.R_slice HO_5.out
               subst eo38
               have p404 : 0 ≤ (x9_3 : Int) := oda
               have q404 : x9_3 < (x5_3.length : Int) := oda
               obtain ⟨ad404, e404, hx404_0⟩ := Kd.at_bool (Kd.R_reads' HO_5.out).2.2 x9_3 p404 q404
               (try rw [← Nbq26.out] at hx404_0)
               cases e404
               replace p404 := eq_true p404
               replace q404 := eq_true q404
               have hcz39_0 : wr.cell? ⟨gb393, 0, none⟩ = some (.slice A0_0 l0_0.length c0_0) := (blk_cell BK393.out 0).trans rfl
               have hfz39_0 := blk_frozen BK393.out 0
               obtain ⟨Ao40, co40, eo40⟩ := Kd.R_slice HO_7.out
               subst eo40
               go_wp2_with (first | (go_at_call 119; (with_reducible refine (spec_l05Made.calls k3 _ _ l0_0 _ _ x5_3 _ _ t401 x9_3 false _ ?side1 ?side2 ?side3 ?side4 ?side5 ?side6 A29.out).mono ?_); (case side1 => exact cl (Kd.C_below HR0_0.out HB.out)); (case side2 => exact HC0_0.out); (case side3 => exact cl (Kd.R_reads' HO_5.out).2.2); (case side4 => exact (Kd.R_reads' HO_5.out).2.1); (case side5 => exact cl (Kd.R_reads' HO_7.out).2.2); (case side6 => exact (Kd.R_reads' HO_7.out).2.1); rintro e w41 ⟨rfl, hb⟩; have n0_ := Aside0.mk (Kd.R_below (rl HO_5.out) hb); have n1_ := Aside0.mk (Kd.R_below (rl HO_7.out) hb); have n2_ := Aside0.mk (blk_below (g := gb393) (o := .cells #[.slice A0_0 l0_0.length c0_0] 26 (0, 0)) (bl BK393.out) hb); have n3_ := Aside0.mk (below_step (bw HB.out) hb); clear HO_5 HO_7 BK393 HB; have HO_5 := n0_; have HO_7 := n1_; have BK393 := n2_; have HB := n3_; clear n0_ n1_ n2_ n3_; (try clear hb); (try clear hb2); (try clear hk); (try clear hi)))
               go_roundg k3
               case measure => have := HK1.out; have := HK2.out; have := HK3.out; omega
               case rel => exact ⟨(x5_3), (x8_3), (wrap64 (x9_3 + 1)), (by first | rfl | (simp; done) | (simp [*]; done)), (by first | rfl | (simp; done) | (simp [*]; done)), H', ⟨by have := HK1.out; have := HK2.out; have := HK3.out; omega⟩, ⟨rl HO_5.out⟩, ⟨rl HO_7.out⟩, ⟨bl BK393.out⟩, ⟨bw HB.out⟩⟩
            ·rw [if_neg c25] at H
             exact absurd H (by simp)
           ·rw [if_neg c24] at H
            have c24b0 : decide (x9_3 < (x5_3.length : Int)) = false := decide_eq_false c24
            clear c24
            have H' := Aside0.mk H
            clear H
            obtain ⟨Ao42, co42, eo42⟩ := Kd.R_slice HO_5.out
            subst eo42
            go_wp2
            go_loopg [8, 10] k3 (fun kq v8 v10 w' => ∃ (x5_4 : List Bool) (x8_4 : Bool) (x10_4 : Int), v8 = .bool x8_4 ∧ v10 = .int .i64 x10_4 ∧ Aside0 (spec_l05Reach.l3 kq x5_4 t401 x8_4 x10_4 l0_0 = some r) ∧ Aside0 (kq ≤ k3) ∧ Aside0 (Kd.R Kd.bool 4 w' w.heap.size (fun _ => True) (.slice Ao42 x5_3.length co42) x5_4) ∧ Aside0 (Kd.R (Kd.int .i64) 3 w' w.heap.size (fun _ => True) v402 t401) ∧ Aside0 (w'.heap[gb393]? = some (.cells #[(.slice A0_0 l0_0.length c0_0)] 26 (0, 0))) ∧ Aside0 (Below w.heap.size w w'))
            case atStart => exact ⟨(x5_3), (x8_3), (wrap64 ((x5_3.length : Int) - 1)), (by first | rfl | (simp; done) | (simp [*]; done)), (by first | rfl | (simp; done) | (simp [*]; done)), H', ⟨Nat.le_refl _⟩, ⟨rl HO_5.out⟩, ⟨rl HO_7.out⟩, ⟨bl BK393.out⟩, ⟨bw HB.out⟩⟩
            case round =>
             clear H'
             try clear c1
             try clear p1
             try clear q1
             try clear hx1
             try clear c2
             try clear p2
             try clear q2
             try clear c3
             try clear c3b0
             try clear c3b1
             try clear p3
             try clear q3
             try clear hx3
             try clear hf3
             try clear c4
             try clear c4b0
             try clear c4b1
             try clear p4
             try clear q4
             try clear hx4
             try clear p6
             try clear c7
             try clear c9
             try clear c9b0
             try clear c10
             try clear c10b0
             try clear c11
             try clear c12
             try clear c13
             try clear c13b0
             try clear c14
             try clear c14b0
             try clear p15
             try clear q15
             try clear hx15
             try clear hf15
             try clear c23
             try clear c24
             try clear c24b0
             try clear c25
             try clear c25b0
             try clear q26
             try clear c27
             try clear c30
             try clear p31
             try clear q31
             try clear hx31
             try clear hf31
             try clear p39
             try clear q39
             try clear hx39
             try clear p40
             try clear q40
             try clear hx40
             try clear hcz21_0
             try clear hcz33_0
             try clear hcz39_0
             try clear hcz6_0
             try clear hfz21_0
             try clear hfz33_0
             try clear hfz39_0
             try clear hfz6_0
             try clear hx15_0
             try clear hx31_0
             try clear hx397_0
             try clear hx399_0
             try clear hx404_0
             try clear p1
             try clear p15
             try clear p2
             try clear p3
             try clear p31
             try clear p397
             try clear p399
             try clear p404
             try clear p6
             try clear q1
             try clear q15
             try clear q3
             try clear q31
             try clear q397
             try clear q399
             try clear q404
             obtain ⟨x5_4, x8_4, x10_4, rfl, rfl, HA, HK4, HO_5, HO_7, BK393, HB⟩ := hrel
             have hl5_4 := (Kd.R_reads' HO_5.out).1
             rw [hl5_4] at HO_5
             (try simp only [hl5_4])
             (try simp only [hl5_4] at BK393)
             (try simp only [hl5_4] at HO_7)
             cases gk with
             | zero => exact absurd HA.out (by simp [spec_l05Reach.l3])
             | succ k4 =>
              have H := HA.out
              clear HA
              simp only [spec_l05Reach.l3] at H
              by_cases c43 : x10_4 ≥ 0
              ·rw [if_pos c43] at H
               have c43b0 : decide (0 ≤ x10_4) = true := decide_eq_true c43
               clear c43
               by_cases c44 : 0 ≤ x10_4
               ·rw [if_pos c44] at H
                have c44b0 : decide (0 ≤ x10_4) = true := decide_eq_true c44
                clear c44
                by_cases c45 : x10_4 < (x5_4.length : Int)
                ·rw [if_pos c45] at H
                 have c45b0 : decide (x10_4 < (x5_4.length : Int)) = true := decide_eq_true c45
                 clear c45
                 obtain ⟨bq46, hbq46⟩ : ∃ b_ : Bool, b_ = (rdOf false x5_4 x10_4) := ⟨_, rfl⟩
                 replace H : (if bq46 = true then ((spec_l05Parts.f l0_0 x5_4 x10_4).bind fun bt408 => (if bt408.1 = true then (spec_l05Reach.l3 k4 bt408.2 t401 true (wrap64 (x10_4 - 1)) l0_0) else (spec_l05Reach.l3 k4 bt408.2 t401 x8_4 (wrap64 (x10_4 - 1)) l0_0))) else (spec_l05Reach.l3 k4 x5_4 t401 x8_4 (wrap64 (x10_4 - 1)) l0_0)) = some r := by rw [← hbq46] at H; exact H
                 have Nbq46 := Aside0.mk hbq46
                 clear hbq46
                 by_cases c47 : bq46 = true
                 ·subst c47
                  have H1 : ((spec_l05Parts.f l0_0 x5_4 x10_4).bind fun bt408 => (if bt408.1 = true then (spec_l05Reach.l3 k4 bt408.2 t401 true (wrap64 (x10_4 - 1)) l0_0) else (spec_l05Reach.l3 k4 bt408.2 t401 x8_4 (wrap64 (x10_4 - 1)) l0_0))) = some r := by rw [if_pos rfl] at H; exact H
                  clear H
                  have H := H1
                  clear H1
                  replace H := Option.bind_eq_some_iff.mp H
                  obtain ⟨⟨t408, t409⟩, A480, H⟩ := H
                  replace H : (if t408 = true then (spec_l05Reach.l3 k4 t409 t401 true (wrap64 (x10_4 - 1)) l0_0) else (spec_l05Reach.l3 k4 t409 t401 x8_4 (wrap64 (x10_4 - 1)) l0_0)) = some r := H
                  have A48 := Aside0.mk A480
                  clear A480
                  by_cases c49 : t408 = true
                  ·subst c49
                   have H1 : (spec_l05Reach.l3 k4 t409 t401 true (wrap64 (x10_4 - 1)) l0_0) = some r := by rw [if_pos rfl] at H; exact H
                   clear H
                   have H := H1
                   clear H1
                   have H' := Aside0.mk H
                   clear H
                   have p407 : 0 ≤ (x10_4 : Int) := oda
                   have q407 : x10_4 < (x5_4.length : Int) := oda
                   obtain ⟨ad407, e407, hx407_0⟩ := Kd.at_bool (Kd.R_reads' HO_5.out).2.2 x10_4 p407 q407
                   (try rw [← Nbq46.out] at hx407_0)
                   cases e407
                   replace p407 := eq_true p407
                   replace q407 := eq_true q407
                   have hcz50_0 : wr.cell? ⟨gb393, 0, none⟩ = some (.slice A0_0 l0_0.length c0_0) := (blk_cell BK393.out 0).trans rfl
                   have hfz50_0 := blk_frozen BK393.out 0
                   go_wp2_with (first | (go_at_call 120; (with_reducible refine (spec_l05Parts.calls _ _ l0_0 (fun k_ => some k_ = (.slice (some ad407) x5_4.length co42 : Value).ownBlock) (.slice (some ad407) x5_4.length co42) x5_4 x10_4 true t409 w _ ?side1 ?side2 ?side3 ?side4 A48.out).mono ?_); (case side1 => exact bw HB.out); (case side2 => exact Kd.C_kept_came k34_heap HR0_0.out (bw HB.out) (fun k_ hs_ => (fun e_ => Kd.R_base HO_5.out k_ e_.symm) hs_)); (case side3 => exact HC0_0.out); (case side4 => exact Kd.R_tight rfl HO_5.out); rintro e w51 ⟨rfl, hy0, hb, hkp⟩; have n0_ := Aside0.mk (Kd.R_reok rfl hy0 (fun k_ e_ => HO_5.out.1 k_ e_)); have n1_ := Aside0.mk (Kd.R_mono (ok' := fun k_ => True) (Kd.R_keptB ((Kd.R_apart' HO_7.out (Kd.R_typed HO_5.out) (by decide))) hkp (fun k_ hk_ hs_ => (hk_.2) hs_)) (fun k_ hk_ => trivial)); have n2_ := Aside0.mk (blk_kept (bl BK393.out) hkp (fun hs_ => (fun e_ => (Kd.R_ne HO_5.out BK393.out (by decide)) e_) hs_)); have n3_ := Aside0.mk (hb); clear HO_5 HO_7 BK393 HB; have HO_5 := n0_; have HO_7 := n1_; have BK393 := n2_; have HB := n3_; clear n0_ n1_ n2_ n3_; (try clear hb); (try clear hkp); (try clear hy0)))
                   (try simp only [← hl5_4])
                   go_roundg k4
                   case measure => have := HK1.out; have := HK2.out; have := HK3.out; have := HK4.out; omega
                   case rel => exact ⟨(t409), (true), (wrap64 (x10_4 - 1)), (by first | rfl | (simp; done) | (simp [*]; done)), (by first | rfl | (simp; done) | (simp [*]; done)), H', ⟨by have := HK1.out; have := HK2.out; have := HK3.out; have := HK4.out; omega⟩, ⟨by (try simp only [hl5_4]); (with_reducible repeat (first | apply Kd.R_alloc | apply Kd.R_drewN | apply Kd.R_drew)); exact HO_5.out⟩, ⟨by (try simp only [hl5_4]); (with_reducible repeat (first | apply Kd.R_alloc | apply Kd.R_drewN | apply Kd.R_drew)); exact HO_7.out⟩, ⟨by (try simp only [hl5_4]); exact bl BK393.out⟩, ⟨bw HB.out⟩⟩
                  ·replace c49 := Bool.eq_false_iff.mpr c49
                   subst c49
                   have H1 : (spec_l05Reach.l3 k4 t409 t401 x8_4 (wrap64 (x10_4 - 1)) l0_0) = some r := by rw [if_neg (show ¬ (false = true) by decide)] at H; exact H
                   clear H
                   have H := H1
                   clear H1
                   have H' := Aside0.mk H
                   clear H
                   have p407 : 0 ≤ (x10_4 : Int) := oda
                   have q407 : x10_4 < (x5_4.length : Int) := oda
                   obtain ⟨ad407, e407, hx407_0⟩ := Kd.at_bool (Kd.R_reads' HO_5.out).2.2 x10_4 p407 q407
                   (try rw [← Nbq46.out] at hx407_0)
                   cases e407
                   replace p407 := eq_true p407
                   replace q407 := eq_true q407
                   have hcz52_0 : wr.cell? ⟨gb393, 0, none⟩ = some (.slice A0_0 l0_0.length c0_0) := (blk_cell BK393.out 0).trans rfl
                   have hfz52_0 := blk_frozen BK393.out 0
                   go_wp2_with (first | (go_at_call 120; (with_reducible refine (spec_l05Parts.calls _ _ l0_0 (fun k_ => some k_ = (.slice (some ad407) x5_4.length co42 : Value).ownBlock) (.slice (some ad407) x5_4.length co42) x5_4 x10_4 false t409 w _ ?side1 ?side2 ?side3 ?side4 A48.out).mono ?_); (case side1 => exact bw HB.out); (case side2 => exact Kd.C_kept_came k34_heap HR0_0.out (bw HB.out) (fun k_ hs_ => (fun e_ => Kd.R_base HO_5.out k_ e_.symm) hs_)); (case side3 => exact HC0_0.out); (case side4 => exact Kd.R_tight rfl HO_5.out); rintro e w53 ⟨rfl, hy0, hb, hkp⟩; have n0_ := Aside0.mk (Kd.R_reok rfl hy0 (fun k_ e_ => HO_5.out.1 k_ e_)); have n1_ := Aside0.mk (Kd.R_mono (ok' := fun k_ => True) (Kd.R_keptB ((Kd.R_apart' HO_7.out (Kd.R_typed HO_5.out) (by decide))) hkp (fun k_ hk_ hs_ => (hk_.2) hs_)) (fun k_ hk_ => trivial)); have n2_ := Aside0.mk (blk_kept (bl BK393.out) hkp (fun hs_ => (fun e_ => (Kd.R_ne HO_5.out BK393.out (by decide)) e_) hs_)); have n3_ := Aside0.mk (hb); clear HO_5 HO_7 BK393 HB; have HO_5 := n0_; have HO_7 := n1_; have BK393 := n2_; have HB := n3_; clear n0_ n1_ n2_ n3_; (try clear hb); (try clear hkp); (try clear hy0)))
                   (try simp only [← hl5_4])
                   go_roundg k4
                   case measure => have := HK1.out; have := HK2.out; have := HK3.out; have := HK4.out; omega
                   case rel => exact ⟨(t409), (x8_4), (wrap64 (x10_4 - 1)), (by first | rfl | (simp; done) | (simp [*]; done)), (by first | rfl | (simp; done) | (simp [*]; done)), H', ⟨by have := HK1.out; have := HK2.out; have := HK3.out; have := HK4.out; omega⟩, ⟨by (try simp only [hl5_4]); (with_reducible repeat (first | apply Kd.R_alloc | apply Kd.R_drewN | apply Kd.R_drew)); exact HO_5.out⟩, ⟨by (try simp only [hl5_4]); (with_reducible repeat (first | apply Kd.R_alloc | apply Kd.R_drewN | apply Kd.R_drew)); exact HO_7.out⟩, ⟨by (try simp only [hl5_4]); exact bl BK393.out⟩, ⟨bw HB.out⟩⟩
                 ·replace c47 := Bool.eq_false_iff.mpr c47
                  subst c47
                  have H1 : (spec_l05Reach.l3 k4 x5_4 t401 x8_4 (wrap64 (x10_4 - 1)) l0_0) = some r := by rw [if_neg (show ¬ (false = true) by decide)] at H; exact H
                  clear H
                  have H := H1
                  clear H1
                  have H' := Aside0.mk H
                  clear H
                  have p407 : 0 ≤ (x10_4 : Int) := oda
                  have q407 : x10_4 < (x5_4.length : Int) := oda
                  obtain ⟨ad407, e407, hx407_0⟩ := Kd.at_bool (Kd.R_reads' HO_5.out).2.2 x10_4 p407 q407
                  (try rw [← Nbq46.out] at hx407_0)
                  cases e407
                  replace p407 := eq_true p407
                  replace q407 := eq_true q407
                  go_wp2
                  (try simp only [← hl5_4])
                  go_roundg k4
                  case measure => have := HK1.out; have := HK2.out; have := HK3.out; have := HK4.out; omega
                  case rel => exact ⟨(x5_4), (x8_4), (wrap64 (x10_4 - 1)), (by first | rfl | (simp; done) | (simp [*]; done)), (by first | rfl | (simp; done) | (simp [*]; done)), H', ⟨by have := HK1.out; have := HK2.out; have := HK3.out; have := HK4.out; omega⟩, ⟨by (try simp only [hl5_4]); (with_reducible repeat (first | apply Kd.R_alloc | apply Kd.R_drewN | apply Kd.R_drew)); exact HO_5.out⟩, ⟨by (try simp only [hl5_4]); (with_reducible repeat (first | apply Kd.R_alloc | apply Kd.R_drewN | apply Kd.R_drew)); exact HO_7.out⟩, ⟨by (try simp only [hl5_4]); exact bl BK393.out⟩, ⟨bw HB.out⟩⟩
                ·rw [if_neg c45] at H
                 exact absurd H (by simp)
               ·rw [if_neg c44] at H
                exact absurd H (by simp)
              ·rw [if_neg c43] at H
               have c43b0 : decide (0 ≤ x10_4) = false := decide_eq_false c43
               clear c43
               have H' := Aside0.mk H
               clear H
               go_wp2
               (try simp only [← hl5_4])
               go_roundg k4
               case measure => have := HK1.out; have := HK2.out; have := HK3.out; have := HK4.out; omega
               case rel => exact ⟨(x5_4), (x8_4), (by first | rfl | (simp; done) | (simp [*]; done)), H', ⟨by have := HK1.out; have := HK2.out; have := HK3.out; have := HK4.out; omega⟩, ⟨by (try simp only [hl5_4]); (with_reducible repeat (first | apply Kd.R_alloc | apply Kd.R_drewN | apply Kd.R_drew)); exact HO_5.out⟩, ⟨by (try simp only [hl5_4]); (with_reducible repeat (first | apply Kd.R_alloc | apply Kd.R_drewN | apply Kd.R_drew)); exact HO_7.out⟩, ⟨by (try simp only [hl5_4]); exact bl BK393.out⟩, ⟨bw HB.out⟩⟩
        ·replace c23 := Bool.eq_false_iff.mpr c23
         subst c23
         have H1 : (some x5_2) = some r := by rw [if_neg (show ¬ (false = true) by decide)] at H; exact H
         clear H
         have H := H1
         clear H1
         obtain rfl := Option.some.inj H
         go_wp2
         go_ret
         exact ⟨_, by first | rfl | (simp [errW_none, errW_some] <;> rfl) | (simp [*, errW_none, errW_some] <;> rfl), by (with_reducible repeat (first | apply Kd.R_alloc | apply Kd.R_drewN | apply Kd.R_drew)); exact HO_5.out, bw HB.out⟩
  ·rw [if_neg c4] at H
   exact absurd H (by simp)
 ·rw [if_neg c3] at H
  exact absurd H (by simp)

/-! ### spec_Reach: function 22 -/
def spec_Reach.f (k : Nat) (l0_0 : List (S34)) (l1 : List Int) : Option (List Bool) := (spec_ArenaOk.f k l0_0).bind fun t411 => (if t411 = true then ((spec_l05Reach.f k l0_0 l1).bind fun t412 => (some t412)) else (some (([] : List Bool))))
set_option maxHeartbeats 8000000 in
set_option maxRecDepth 100000 in
theorem spec_Reach.calls (k : Nat) (A0_0 : Option Addr) (c0_0 : Nat) (l0_0 : List (S34)) (A1 : Option Addr) (c1 : Nat) (l1 : List Int) (r : List Bool) (w : World) (hr0_0 : Kd.C k34 w A0_0 l0_0.length l0_0) (hc0_0 : l0_0.length ≤ c0_0) (hr1 : Kd.C (Kd.int .i64) w A1 l1.length l1) (hc1 : l1.length ≤ c1) (h : spec_Reach.f k l0_0 l1 = some r) :
  Calls Try.prog 22 #[.agg #[.slice A0_0 l0_0.length c0_0], .slice A1 l1.length c1] w fun e w' => ∃ v0_ : Value, e = .returned (v0_) ∧ Kd.R Kd.bool 4 w' w.heap.size (fun _ => True) v0_ r ∧ Below w.heap.size w w' := by
 have hu26 := Try.underlying26
 have HR0_0 := Aside0.mk hr0_0
 have HC0_0 := Aside0.mk hc0_0
 clear hr0_0 hc0_0
 have HR1 := Aside0.mk hr1
 have HC1 := Aside0.mk hc1
 clear hr1 hc1
 have HB := Aside0.mk (Below.refl w.heap.size w)
 have H : ((spec_ArenaOk.f k l0_0).bind fun t411 => (if t411 = true then ((spec_l05Reach.f k l0_0 l1).bind fun t412 => (some t412)) else (some (([] : List Bool))))) = some r := h
 clear h
 replace H := Option.bind_eq_some_iff.mp H
 obtain ⟨t411, A30, H⟩ := H
 replace H : (if t411 = true then ((spec_l05Reach.f k l0_0 l1).bind fun t412 => (some t412)) else (some (([] : List Bool)))) = some r := H
 have A3 := Aside0.mk A30
 clear A30
 by_cases c4 : t411 = true
 ·subst c4
  have H1 : ((spec_l05Reach.f k l0_0 l1).bind fun t412 => (some t412)) = some r := by rw [if_pos rfl] at H; exact H
  clear H
  have H := H1
  clear H1
  replace H := Option.bind_eq_some_iff.mp H
  obtain ⟨t412, A50, H⟩ := H
  replace H : (some t412) = some r := H
  have A5 := Aside0.mk A50
  clear A50
  obtain rfl := Option.some.inj H
  go_enter Try.func22, Try.ntmps22
  go_wp2_with (first | ((with_reducible refine gate_dst (N := 2) rfl ?_); refine box_event ?hg (N := 2) ?hd (cs := #[.slice A0_0 l0_0.length c0_0]) (t := 26) ?hr ?_; (case hd => rfl); (case hg => rfl); (case hr => first | (go_simp; done) | (go_simp; rfl)); intro gb410 hg w6 hbox hb; have n0_ := Aside0.mk (below_step (bw HB.out) hb); have n1_ := Aside0.mk (hbox); have n2_ := Aside0.mk ((by rw [hg]; exact (below_size (bw HB.out)) : w.heap.size ≤ gb410)); have n3_ := Aside0.mk ((by rw [hg]; exact (below_size (bw HB.out)) : w.heap.size ≤ gb410)); clear HB; have HB := n0_; have BK410 := n1_; have GW410 := n2_; have GE410 := n3_; clear n0_ n1_ n2_ n3_ hb hbox hg; have hcz7_0 : w6.cell? ⟨gb410, 0, none⟩ = some (.slice A0_0 l0_0.length c0_0) := (blk_cell BK410.out 0).trans rfl; have hfz7_0 := blk_frozen BK410.out 0) | ((with_reducible refine gate_callee (f := 25) rfl ?_); refine goesL_ (some 6) rfl rfl Try.func25 (by kernel_rfl) rfl #[.agg #[.slice A0_0 l0_0.length c0_0]] rfl ar ?_; (with_reducible refine (spec_ArenaOk.calls k _ _ l0_0 true _ ?side1 ?side2 A3.out).mono ?_); (case side1 => exact cl (Kd.C_below HR0_0.out HB.out)); (case side2 => exact HC0_0.out); rintro e w8 ⟨rfl, hb⟩; refine ⟨_, rfl, ?_⟩; have n0_ := Aside0.mk (blk_below (g := gb410) (o := .cells #[.slice A0_0 l0_0.length c0_0] 26 (0, 0)) (bl BK410.out) hb); have n1_ := Aside0.mk (below_step (bw HB.out) hb); clear BK410 HB; have BK410 := n0_; have HB := n1_; clear n0_ n1_; (try clear hb); (try clear hb2); (try clear hk); (try clear hi); have hcz9_0 : w8.cell? ⟨gb410, 0, none⟩ = some (.slice A0_0 l0_0.length c0_0) := (blk_cell BK410.out 0).trans rfl; have hfz9_0 := blk_frozen BK410.out 0) | ((with_reducible refine gate_callee (f := 78) rfl ?_); refine goesL_ (some 11) rfl rfl Try.func78 (by kernel_rfl) rfl #[.agg #[.slice A0_0 l0_0.length c0_0], .slice A1 l1.length c1] rfl ar ?_; (with_reducible refine (spec_l05Reach.calls k _ _ l0_0 _ _ l1 t412 _ ?side1 ?side2 ?side3 ?side4 A5.out).mono ?_); (case side1 => exact cl (Kd.C_below HR0_0.out HB.out)); (case side2 => exact HC0_0.out); (case side3 => exact cl (Kd.C_below HR1.out HB.out)); (case side4 => exact HC1.out); rintro e w10 ⟨v413, rfl, ho0, hb⟩; refine ⟨_, rfl, ?_⟩; have n0_ := Aside0.mk (Kd.R_lower ho0 (below_size (bw HB.out))); have n1_ := Aside0.mk (blk_below (g := gb410) (o := .cells #[.slice A0_0 l0_0.length c0_0] 26 (0, 0)) (bl BK410.out) hb); have n2_ := Aside0.mk (below_step (bw HB.out) hb); clear BK410 HB; have HO414 := n0_; have BK410 := n1_; have HB := n2_; clear n0_ n1_ n2_; (try clear hb); (try clear hb2); (try clear hk); (try clear hi); (try clear ho0)))
  go_ret
  exact ⟨_, by first | rfl | (simp [errW_none, errW_some] <;> rfl) | (simp [*, errW_none, errW_some] <;> rfl), by (with_reducible repeat (first | apply Kd.R_alloc | apply Kd.R_drewN | apply Kd.R_drew)); exact HO414.out, bw HB.out⟩
 ·replace c4 := Bool.eq_false_iff.mpr c4
  subst c4
  have H1 : (some (([] : List Bool))) = some r := by rw [if_neg (show ¬ (false = true) by decide)] at H; exact H
  clear H
  have H := H1
  clear H1
  obtain ⟨y415, hy415⟩ : ∃ y_ : List Bool, y_ = (([] : List Bool)) := ⟨_, rfl⟩
  replace H : (some y415) = some r := by first | (rw [hy415]; with_reducible exact H) | (have H2_ := (Option.bind_some _ _).symm.trans H; rw [hy415]; with_reducible exact H2_) | (have H2_ := (Option.bind_some _ _).symm.trans H; with_reducible exact H2_) | with_reducible exact H | (rw [hy415]; exact H) | exact H
  have Ny415 := Aside0.mk hy415
  clear hy415
  obtain rfl := Option.some.inj H
  go_enter Try.func22, Try.ntmps22
  go_wp2_with (first | ((with_reducible refine gate_dst (N := 2) rfl ?_); refine box_event ?hg (N := 2) ?hd (cs := #[.slice A0_0 l0_0.length c0_0]) (t := 26) ?hr ?_; (case hd => rfl); (case hg => rfl); (case hr => first | (go_simp; done) | (go_simp; rfl)); intro gb410 hg w11 hbox hb; have n0_ := Aside0.mk (below_step (bw HB.out) hb); have n1_ := Aside0.mk (hbox); have n2_ := Aside0.mk ((by rw [hg]; exact (below_size (bw HB.out)) : w.heap.size ≤ gb410)); have n3_ := Aside0.mk ((by rw [hg]; exact (below_size (bw HB.out)) : w.heap.size ≤ gb410)); clear HB; have HB := n0_; have BK410 := n1_; have GW410 := n2_; have GE410 := n3_; clear n0_ n1_ n2_ n3_ hb hbox hg; have hcz12_0 : w11.cell? ⟨gb410, 0, none⟩ = some (.slice A0_0 l0_0.length c0_0) := (blk_cell BK410.out 0).trans rfl; have hfz12_0 := blk_frozen BK410.out 0) | ((with_reducible refine gate_callee (f := 25) rfl ?_); refine goesL_ (some 6) rfl rfl Try.func25 (by kernel_rfl) rfl #[.agg #[.slice A0_0 l0_0.length c0_0]] rfl ar ?_; (with_reducible refine (spec_ArenaOk.calls k _ _ l0_0 false _ ?side1 ?side2 A3.out).mono ?_); (case side1 => exact cl (Kd.C_below HR0_0.out HB.out)); (case side2 => exact HC0_0.out); rintro e w13 ⟨rfl, hb⟩; refine ⟨_, rfl, ?_⟩; have n0_ := Aside0.mk (blk_below (g := gb410) (o := .cells #[.slice A0_0 l0_0.length c0_0] 26 (0, 0)) (bl BK410.out) hb); have n1_ := Aside0.mk (below_step (bw HB.out) hb); clear BK410 HB; have BK410 := n0_; have HB := n1_; clear n0_ n1_; (try clear hb); (try clear hb2); (try clear hk); (try clear hi)) | ((with_reducible refine gate_dst (N := 8) rfl ?_); refine Kd.R_lit Kd.bool _ 4 ?hg (N := 8) ?hd (xs := ([] : List Bool)) (inner := []) (ok := fun _ => True) (okp := fun _ => True) ?hr ?hp (fun _ hk => hk) trivial (Below.refl _ _) (Nat.le_refl _) (by simp) ?_; (case hd => rfl); (case hg => rfl); (case hr => first | (go_simp; done) | (go_simp; rfl)); (case hp => exact (Reps.none _ _)); intro v416 w14 ho15 hb hg_ hnew_; clear hg_ hnew_; (first | rw [← Ny415.out] at ho15 | (simp only [Int.reduceToNat] at ho15; rw [← Ny415.out] at ho15)); have n0_ := Aside0.mk (Kd.R_lower ho15 (below_size (bw HB.out))); have n1_ := Aside0.mk (blk_below (g := gb410) (o := .cells #[.slice A0_0 l0_0.length c0_0] 26 (0, 0)) (bl BK410.out) hb); have n2_ := Aside0.mk (below_step (bw HB.out) hb); clear BK410 HB; have HO417 := n0_; have BK410 := n1_; have HB := n2_; clear n0_ n1_ n2_ hb ho15))
  go_ret
  exact ⟨_, by first | rfl | (simp [errW_none, errW_some] <;> rfl) | (simp [*, errW_none, errW_some] <;> rfl), by (with_reducible repeat (first | apply Kd.R_alloc | apply Kd.R_drewN | apply Kd.R_drew)); exact HO417.out, bw HB.out⟩

/-! ### spec_Derives: function 23 -/
def spec_Derives.f (k : Nat) (l0_0 : List (S34)) (l1 : List Int) (a2 : Int) : Option (Bool) := (spec_Reach.f k l0_0 l1).bind fun t419 => ((spec_l01In.f a2 0 (wrap64 ((t419.length : Int) - 1))).bind fun t422 => (if t422 = true then (if 0 ≤ a2 then (if a2 < (t419.length : Int) then (some (rdOf false t419 a2)) else (none)) else (none)) else (some false)))
set_option maxHeartbeats 8000000 in
set_option maxRecDepth 100000 in
theorem spec_Derives.calls (k : Nat) (A0_0 : Option Addr) (c0_0 : Nat) (l0_0 : List (S34)) (A1 : Option Addr) (c1 : Nat) (l1 : List Int) (a2 : Int) (r : Bool) (w : World) (hr0_0 : Kd.C k34 w A0_0 l0_0.length l0_0) (hc0_0 : l0_0.length ≤ c0_0) (hr1 : Kd.C (Kd.int .i64) w A1 l1.length l1) (hc1 : l1.length ≤ c1) (h : spec_Derives.f k l0_0 l1 a2 = some r) :
  Calls Try.prog 23 #[.agg #[.slice A0_0 l0_0.length c0_0], .slice A1 l1.length c1, .int .i64 a2] w fun e w' => e = .returned (.bool r) ∧ Below w.heap.size w w' := by
 have hu26 := Try.underlying26
 have HR0_0 := Aside0.mk hr0_0
 have HC0_0 := Aside0.mk hc0_0
 clear hr0_0 hc0_0
 have HR1 := Aside0.mk hr1
 have HC1 := Aside0.mk hc1
 clear hr1 hc1
 have HB := Aside0.mk (Below.refl w.heap.size w)
 have H : ((spec_Reach.f k l0_0 l1).bind fun t419 => ((spec_l01In.f a2 0 (wrap64 ((t419.length : Int) - 1))).bind fun t422 => (if t422 = true then (if 0 ≤ a2 then (if a2 < (t419.length : Int) then (some (rdOf false t419 a2)) else (none)) else (none)) else (some false)))) = some r := h
 clear h
 replace H := Option.bind_eq_some_iff.mp H
 obtain ⟨t419, A40, H⟩ := H
 replace H : ((spec_l01In.f a2 0 (wrap64 ((t419.length : Int) - 1))).bind fun t422 => (if t422 = true then (if 0 ≤ a2 then (if a2 < (t419.length : Int) then (some (rdOf false t419 a2)) else (none)) else (none)) else (some false))) = some r := H
 have A4 := Aside0.mk A40
 clear A40
 replace H := Option.bind_eq_some_iff.mp H
 obtain ⟨t422, A50, H⟩ := H
 replace H : (if t422 = true then (if 0 ≤ a2 then (if a2 < (t419.length : Int) then (some (rdOf false t419 a2)) else (none)) else (none)) else (some false)) = some r := H
 have A5 := Aside0.mk A50
 clear A50
 by_cases c6 : t422 = true
 ·subst c6
  have H1 : (if 0 ≤ a2 then (if a2 < (t419.length : Int) then (some (rdOf false t419 a2)) else (none)) else (none)) = some r := by rw [if_pos rfl] at H; exact H
  clear H
  have H := H1
  clear H1
  by_cases c7 : 0 ≤ a2
  ·rw [if_pos c7] at H
   have c7b0 : decide (0 ≤ a2) = true := decide_eq_true c7
   clear c7
   by_cases c8 : a2 < (t419.length : Int)
   ·rw [if_pos c8] at H
    have c8b0 : decide (a2 < (t419.length : Int)) = true := decide_eq_true c8
    clear c8
    obtain rfl := Option.some.inj H
    go_enter Try.func23, Try.ntmps23
    go_wp2_with (first | ((with_reducible refine gate_dst (N := 3) rfl ?_); refine box_event ?hg (N := 3) ?hd (cs := #[.slice A0_0 l0_0.length c0_0]) (t := 26) ?hr ?_; (case hd => rfl); (case hg => rfl); (case hr => first | (go_simp; done) | (go_simp; rfl)); intro gb418 hg w9 hbox hb; have n0_ := Aside0.mk (below_step (bw HB.out) hb); have n1_ := Aside0.mk (hbox); have n2_ := Aside0.mk ((by rw [hg]; exact (below_size (bw HB.out)) : w.heap.size ≤ gb418)); have n3_ := Aside0.mk ((by rw [hg]; exact (below_size (bw HB.out)) : w.heap.size ≤ gb418)); clear HB; have HB := n0_; have BK418 := n1_; have GW418 := n2_; have GE418 := n3_; clear n0_ n1_ n2_ n3_ hb hbox hg; have hcz10_0 : w9.cell? ⟨gb418, 0, none⟩ = some (.slice A0_0 l0_0.length c0_0) := (blk_cell BK418.out 0).trans rfl; have hfz10_0 := blk_frozen BK418.out 0) | ((with_reducible refine gate_callee (f := 22) rfl ?_); refine goesL_ (some 10) rfl rfl Try.func22 (by kernel_rfl) rfl #[.agg #[.slice A0_0 l0_0.length c0_0], .slice A1 l1.length c1] rfl ar ?_; (with_reducible refine (spec_Reach.calls k _ _ l0_0 _ _ l1 t419 _ ?side1 ?side2 ?side3 ?side4 A4.out).mono ?_); (case side1 => exact cl (Kd.C_below HR0_0.out HB.out)); (case side2 => exact HC0_0.out); (case side3 => exact cl (Kd.C_below HR1.out HB.out)); (case side4 => exact HC1.out); rintro e w11 ⟨v420, rfl, ho0, hb⟩; refine ⟨_, rfl, ?_⟩; have n0_ := Aside0.mk (Kd.R_lower ho0 (below_size (bw HB.out))); have n1_ := Aside0.mk (blk_below (g := gb418) (o := .cells #[.slice A0_0 l0_0.length c0_0] 26 (0, 0)) (bl BK418.out) hb); have n2_ := Aside0.mk (below_step (bw HB.out) hb); clear BK418 HB; have HO421 := n0_; have BK418 := n1_; have HB := n2_; clear n0_ n1_ n2_; (try clear hb); (try clear hb2); (try clear hk); (try clear hi); (try clear ho0); obtain ⟨Ao12, co12, eo12⟩ := Kd.R_slice HO421.out; subst eo12) | ((with_reducible refine gate_callee (f := 79) rfl ?_); refine goesL_ (some 15) rfl rfl Try.func79 (by kernel_rfl) rfl #[.int .i64 a2, .int .i64 0, .int .i64 (wrap64 ((t419.length : Int) - 1))] rfl ar ?_; (with_reducible refine (spec_l01In.calls a2 0 (wrap64 ((t419.length : Int) - 1)) true _ A5.out).mono ?_); rintro e w' ⟨rfl, ⟨nd, rfl⟩⟩; refine ⟨_, rfl, ?_⟩; have p423 : 0 ≤ (a2 : Int) := oda; have q423 : a2 < (t419.length : Int) := oda; obtain ⟨ad423, e423, hx423_0⟩ := Kd.at_bool (Kd.R_reads' HO421.out).2.2 a2 p423 q423; cases e423; replace p423 := eq_true p423; replace q423 := eq_true q423))
    go_ret
    exact ⟨by first | rfl | (simp [errW_none, errW_some] <;> rfl) | (simp [*, errW_none, errW_some] <;> rfl), bw HB.out⟩
   ·rw [if_neg c8] at H
    exact absurd H (by simp)
  ·rw [if_neg c7] at H
   exact absurd H (by simp)
 ·replace c6 := Bool.eq_false_iff.mpr c6
  subst c6
  have H1 : (some false) = some r := by rw [if_neg (show ¬ (false = true) by decide)] at H; exact H
  clear H
  have H := H1
  clear H1
  obtain rfl := Option.some.inj H
  go_enter Try.func23, Try.ntmps23
  go_wp2_with (first | ((with_reducible refine gate_dst (N := 3) rfl ?_); refine box_event ?hg (N := 3) ?hd (cs := #[.slice A0_0 l0_0.length c0_0]) (t := 26) ?hr ?_; (case hd => rfl); (case hg => rfl); (case hr => first | (go_simp; done) | (go_simp; rfl)); intro gb418 hg w13 hbox hb; have n0_ := Aside0.mk (below_step (bw HB.out) hb); have n1_ := Aside0.mk (hbox); have n2_ := Aside0.mk ((by rw [hg]; exact (below_size (bw HB.out)) : w.heap.size ≤ gb418)); have n3_ := Aside0.mk ((by rw [hg]; exact (below_size (bw HB.out)) : w.heap.size ≤ gb418)); clear HB; have HB := n0_; have BK418 := n1_; have GW418 := n2_; have GE418 := n3_; clear n0_ n1_ n2_ n3_ hb hbox hg; have hcz14_0 : w13.cell? ⟨gb418, 0, none⟩ = some (.slice A0_0 l0_0.length c0_0) := (blk_cell BK418.out 0).trans rfl; have hfz14_0 := blk_frozen BK418.out 0) | ((with_reducible refine gate_callee (f := 22) rfl ?_); refine goesL_ (some 10) rfl rfl Try.func22 (by kernel_rfl) rfl #[.agg #[.slice A0_0 l0_0.length c0_0], .slice A1 l1.length c1] rfl ar ?_; (with_reducible refine (spec_Reach.calls k _ _ l0_0 _ _ l1 t419 _ ?side1 ?side2 ?side3 ?side4 A4.out).mono ?_); (case side1 => exact cl (Kd.C_below HR0_0.out HB.out)); (case side2 => exact HC0_0.out); (case side3 => exact cl (Kd.C_below HR1.out HB.out)); (case side4 => exact HC1.out); rintro e w15 ⟨v420, rfl, ho0, hb⟩; refine ⟨_, rfl, ?_⟩; have n0_ := Aside0.mk (Kd.R_lower ho0 (below_size (bw HB.out))); have n1_ := Aside0.mk (blk_below (g := gb418) (o := .cells #[.slice A0_0 l0_0.length c0_0] 26 (0, 0)) (bl BK418.out) hb); have n2_ := Aside0.mk (below_step (bw HB.out) hb); clear BK418 HB; have HO421 := n0_; have BK418 := n1_; have HB := n2_; clear n0_ n1_ n2_; (try clear hb); (try clear hb2); (try clear hk); (try clear hi); (try clear ho0); obtain ⟨Ao16, co16, eo16⟩ := Kd.R_slice HO421.out; subst eo16) | ((with_reducible refine gate_callee (f := 79) rfl ?_); refine goesL_ (some 15) rfl rfl Try.func79 (by kernel_rfl) rfl #[.int .i64 a2, .int .i64 0, .int .i64 (wrap64 ((t419.length : Int) - 1))] rfl ar ?_; (with_reducible refine (spec_l01In.calls a2 0 (wrap64 ((t419.length : Int) - 1)) false _ A5.out).mono ?_); rintro e w' ⟨rfl, ⟨nd, rfl⟩⟩; refine ⟨_, rfl, ?_⟩))
  go_ret
  exact ⟨by first | rfl | (simp [errW_none, errW_some] <;> rfl) | (simp [*, errW_none, errW_some] <;> rfl), bw HB.out⟩

-- NOT PRINTED: function 3 (laws_FnReaches)

end Go.Proofs.Ytkckdibalopagaa.SFnReaches
