-- Began as a print of the kit over stubs (wip/stub.py); the sections that are named OWN are this session's.
import Derived.Test.YtkckdibalopagaaSFnReachesx0
import Derived.Test.YtkckdibalopagaaSFnReachesx2
import Derived.Test.YtkckdibalopagaaSFnReachesx3
import Derived.Test.YtkckdibalopagaaSFnReachesx6
import Derived.Test.YtkckdibalopagaaVShort
namespace Go.Proofs.Ytkckdibalopagaa.SFnReaches
open Go.RowKit Go.Proofs.YtkckdibalopagaaW.PrintWords Go.Proofs.YtkckdibalopagaaW.PrintLast Go.Proofs.YtkckdibalopagaaW.PrintMore Go.Proofs.Ytkckdibalopagaa.Short
attribute [local go_sem] max2_int min2_int max_two min_two max_three min_three max_four min_four   -- for this text's walks alone
set_option linter.unusedVariables false
set_option linter.unusedSimpArgs false

/-! ### spec_DrawPlaces: function 17 -/
def spec_DrawPlaces.l0 : Nat → List Int → Int → List Int → Int → Int → Option (List Int)
  | 0, _, _, _, _, _ => none
  | k + 1, x4, x5, x243000, x243001, x243002 => if x5 < 12 then ((spec_l01Below.f x243000 x243001 x243002 10000).bind fun bt249 => (if x4.length < 17592186044416 then (spec_DrawPlaces.l0 k (x4 ++ [bt249.1]) (wrap64 (x5 + 1)) x243000 bt249.2.1 bt249.2.2) else (none))) else (some x4)
def spec_DrawPlaces.f (k : Nat) (l0 : List Int) : Option (List Int) := (spec_l01New.f k l0).bind fun bt239 => ((spec_l01Byte.f bt239.1 bt239.2.1 bt239.2.2).bind fun bt243 => (spec_DrawPlaces.l0 k (([] : List Int)) 0 bt239.1 bt243.2.1 bt243.2.2))
set_option maxHeartbeats 8000000 in
set_option maxRecDepth 100000 in
theorem spec_DrawPlaces.calls (k : Nat) (A0 : Option Addr) (c0 : Nat) (l0 : List Int) (r : List Int) (w : World) (hr0 : Kd.C (Kd.int .u8) w A0 l0.length l0) (hc0 : l0.length ≤ c0) (h : spec_DrawPlaces.f k l0 = some r) :
  Calls Try.prog 17 #[.slice A0 l0.length c0] w fun e w' => ∃ v0_ : Value, e = .returned (v0_) ∧ Kd.R (Kd.int .i64) 3 w' w.heap.size (fun _ => True) v0_ r ∧ Below w.heap.size w w' := by
 have HR0 := Aside0.mk hr0
 have HC0 := Aside0.mk hc0
 clear hr0 hc0
 have HB := Aside0.mk (Below.refl w.heap.size w)
 have H : ((spec_l01New.f k l0).bind fun bt239 => ((spec_l01Byte.f bt239.1 bt239.2.1 bt239.2.2).bind fun bt243 => (spec_DrawPlaces.l0 k (([] : List Int)) 0 bt239.1 bt243.2.1 bt243.2.2))) = some r := h
 clear h
 replace H := Option.bind_eq_some_iff.mp H
 obtain ⟨⟨t239, t240, t241⟩, A20, H⟩ := H
 replace H : ((spec_l01Byte.f t239 t240 t241).bind fun bt243 => (spec_DrawPlaces.l0 k (([] : List Int)) 0 t239 bt243.2.1 bt243.2.2)) = some r := H
 have A2 := Aside0.mk A20
 clear A20
 replace H := Option.bind_eq_some_iff.mp H
 obtain ⟨⟨t243, t244, t245⟩, A30, H⟩ := H
 replace H : (spec_DrawPlaces.l0 k (([] : List Int)) 0 t239 t244 t245) = some r := H
 have A3 := Aside0.mk A30
 clear A30
 obtain ⟨y246, hy246⟩ : ∃ y_ : List Int, y_ = (([] : List Int)) := ⟨_, rfl⟩
 replace H : (spec_DrawPlaces.l0 k y246 0 t239 t244 t245) = some r := by first | (rw [hy246]; with_reducible exact H) | (have H2_ := (Option.bind_some _ _).symm.trans H; rw [hy246]; with_reducible exact H2_) | (have H2_ := (Option.bind_some _ _).symm.trans H; with_reducible exact H2_) | with_reducible exact H | (rw [hy246]; exact H) | exact H
 have Ny246 := Aside0.mk hy246
 clear hy246
 have H' := Aside0.mk H
 clear H
 go_enter Try.func17, Try.ntmps17
 go_wp2_with (first | ((with_reducible refine gate_callee (f := 68) rfl ?_); refine goesL_ (some 7) rfl rfl Try.func68 (by kernel_rfl) rfl #[.slice A0 l0.length c0] rfl ar ?_; (with_reducible refine (spec_l01New.calls k _ _ l0 t239 t240 t241 w _ ?side1 ?side2 ?side3 A2.out).mono ?_); (case side1 => exact bw HB.out); (case side2 => exact HR0.out); (case side3 => exact HC0.out); rintro e w4 ⟨g242, rfl, hi, hb, hb2⟩; refine ⟨_, rfl, ?_⟩; have n0_ := Aside0.mk (hb); have n1_ := Aside0.mk (hi); clear HB; have HB := n0_; have HI242 := n1_; clear n0_ n1_; (try clear hb); (try clear hb2); (try clear hk); (try clear hi)) | ((with_reducible refine gate_callee (f := 74) rfl ?_); refine goesL_ (some 9) rfl rfl Try.func74 (by kernel_rfl) rfl #[.pointer (some ⟨g242, 0, none⟩)] rfl ar ?_; (with_reducible refine (spec_l01Byte.calls g242 t239 t240 t241 t243 t244 t245 w _ ?side1 ?side2 A3.out).mono ?_); (case side1 => exact i9 HI242.out); (case side2 => exact b9 HB.out); rintro e w5 ⟨rfl, hi, hb, hk⟩; refine ⟨_, rfl, ?_⟩; have n0_ := Aside0.mk (hb); have n1_ := Aside0.mk (hi); clear HB HI242; have HB := n0_; have HI242 := n1_; clear n0_ n1_; (try clear hb); (try clear hb2); (try clear hk); (try clear hi)) | ((with_reducible refine gate_dst (N := 10) rfl ?_); refine Kd.R_lit (Kd.int .i64) _ 3 ?hg (N := 10) ?hd (xs := ([] : List Int)) (inner := []) (ok := fun _ => True) (okp := fun _ => True) ?hr ?hp (fun _ hk => hk) trivial (Below.refl _ _) (Nat.le_refl _) (by simp) ?_; (case hd => rfl); (case hg => rfl); (case hr => first | (go_simp; done) | (go_simp; rfl)); (case hp => exact (Reps.none _ _)); intro v247 w6 ho7 hb hg_ hnew_; clear hg_ hnew_; (first | rw [← Ny246.out] at ho7 | (simp only [Int.reduceToNat] at ho7; rw [← Ny246.out] at ho7)); have n0_ := Aside0.mk (Kd.R_lower ho7 (below_size (b9 HB.out))); have n1_ := Aside0.mk (IsS119.below (i9 HI242.out) hb); have n2_ := Aside0.mk (below_step (b9 HB.out) hb); clear HI242 HB; have HO248 := n0_; have HI242 := n1_; have HB := n2_; clear n0_ n1_ n2_ hb ho7))
 go_loopg [4, 5] k (fun kq v4 v5 w' => ∃ (x4_1 : List Int) (x5_1 : Int) (x243001_1 : Int) (x243002_1 : Int), v5 = .int .i64 x5_1 ∧ Aside0 (spec_DrawPlaces.l0 kq x4_1 x5_1 t239 x243001_1 x243002_1 = some r) ∧ Aside0 (kq ≤ k) ∧ Aside0 (Kd.R (Kd.int .i64) 3 w' w.heap.size (fun _ => True) v4 x4_1) ∧ Aside0 (IsS119 w w' g242 t239 x243001_1 x243002_1) ∧ Aside0 (Below w.heap.size w w'))
 case atStart => exact ⟨(y246), (0), (t244), (t245), (by first | rfl | (simp; done) | (simp [*]; done)), H', ⟨Nat.le_refl _⟩, ⟨rl HO248.out⟩, ⟨i9 HI242.out⟩, ⟨b9 HB.out⟩⟩
 case round =>
  clear H'
  try clear c1
  try clear p2
  try clear c6
  try clear c7
  obtain ⟨x4_1, x5_1, x243001_1, x243002_1, rfl, HA, HK1, HO_4, HI242, HB⟩ := hrel
  cases gk with
  | zero => exact absurd HA.out (by simp [spec_DrawPlaces.l0])
  | succ k1 =>
   have H := HA.out
   clear HA
   simp only [spec_DrawPlaces.l0] at H
   by_cases c8 : x5_1 < 12
   ·rw [if_pos c8] at H
    have c8b0 : decide (x5_1 < 12) = true := decide_eq_true c8
    clear c8
    replace H := Option.bind_eq_some_iff.mp H
    obtain ⟨⟨t249, t250, t251⟩, A90, H⟩ := H
    replace H : (if x4_1.length < 17592186044416 then (spec_DrawPlaces.l0 k1 (x4_1 ++ [t249]) (wrap64 (x5_1 + 1)) t239 t250 t251) else (none)) = some r := H
    have A9 := Aside0.mk A90
    clear A90
    by_cases c10 : x4_1.length < 17592186044416
    ·rw [if_pos c10] at H
     have LMc10 := Aside0.mk c10
     clear c10
     obtain ⟨y252, hy252⟩ : ∃ y_ : List Int, y_ = (x4_1 ++ [t249]) := ⟨_, rfl⟩
     replace H : (spec_DrawPlaces.l0 k1 y252 (wrap64 (x5_1 + 1)) t239 t250 t251) = some r := by first | (rw [hy252]; with_reducible exact H) | (have H2_ := (Option.bind_some _ _).symm.trans H; rw [hy252]; with_reducible exact H2_) | (have H2_ := (Option.bind_some _ _).symm.trans H; with_reducible exact H2_) | with_reducible exact H | (rw [hy252]; exact H) | exact H
     have Ny252 := Aside0.mk hy252
     clear hy252
     have H' := Aside0.mk H
     clear H
     go_wp2_with (first | ((with_reducible refine gate_callee (f := 70) rfl ?_); refine goesL_ (some 17) rfl rfl Try.func70 (by kernel_rfl) rfl #[.pointer (some ⟨g242, 0, none⟩), .int .i64 10000] rfl ar ?_; (with_reducible refine (spec_l01Below.calls g242 t239 x243001_1 x243002_1 10000 t249 t250 t251 w _ ?side1 ?side2 A9.out).mono ?_); (case side1 => exact i9 HI242.out); (case side2 => exact b9 HB.out); rintro e w11 ⟨rfl, hi, hb, hk⟩; refine ⟨_, rfl, ?_⟩; have n0_ := Aside0.mk (Kd.R_mono (Kd.R_keep (IsS119.apart (show IsS119 w _ g242 t239 x243001_1 x243002_1 from i9 HI242.out) (rl HO_4.out) (by decide)) hk (fun _ h => h.2)) (fun _ h => h.1)); have n1_ := Aside0.mk (hb); have n2_ := Aside0.mk (hi); clear HO_4 HB HI242; have HO_4 := n0_; have HB := n1_; have HI242 := n2_; clear n0_ n1_ n2_; (try clear hb); (try clear hb2); (try clear hk); (try clear hi)) | ((with_reducible refine gate_builtin (b := .append) (xs := #[.tmp 15, .tmp 18]) rfl ?_); at_builtin; refine Kd.R_append (Kd.int .i64) (w0 := w) w.heap.size rfl (.tmp 15) (.tmp 18) 27 3 (.int .i64 0) 8 rfl Try.underlying27 info3 rfl (by decide) (by omega) u4 x4_1 t249 [.int .i64 t249] (fun _ => True) (fun _ => False) rfl rfl ?aP (fun _ hk => hk.elim) ?aF ?aO ?aB ?aS ?aL ?_; (case aP => exact rfl); (case aB => exact (b9 HB.out)); (case aF => exact (fun _ _ => trivial)); (case aO => exact (rl HO_4.out)); (case aS => exact (below_size (b9 HB.out))); (case aL => have := LMc10.out; omega); intro v253 w12 ho hb hg hat; rw [← Ny252.out] at ho; have n0_ := Aside0.mk (IsS119.grown (i9 HI242.out) hg (IsS119.own_ne HI242.out HO_4.out (by decide))); have n1_ := Aside0.mk (hb); have n2_ := Aside0.mk (ho); clear HI242 HB HO_4; have HI242 := n0_; have HB := n1_; have HO254 := n2_; clear n0_ n1_ n2_ ho hb hg hat))
     go_roundg k1
     case measure => have := HK1.out; omega
     case rel => exact ⟨(y252), (wrap64 (x5_1 + 1)), (t250), (t251), (by first | rfl | (simp; done) | (simp [*]; done)), H', ⟨by have := HK1.out; omega⟩, ⟨rl HO254.out⟩, ⟨i9 HI242.out⟩, ⟨b9 HB.out⟩⟩
    ·rw [if_neg c10] at H
     exact absurd H (by simp)
   ·rw [if_neg c8] at H
    have c8b0 : decide (x5_1 < 12) = false := decide_eq_false c8
    clear c8
    obtain rfl := Option.some.inj H
    go_wp2
    go_ret
    exact ⟨_, by first | rfl | (simp [errW_none, errW_some] <;> rfl) | (simp [*, errW_none, errW_some] <;> rfl), by (with_reducible repeat (first | apply Kd.R_alloc | apply Kd.R_drewN | apply Kd.R_drew)); exact HO_4.out, b9 HB.out⟩

/-! ### impl_Derives: function 18 -/
def impl_Derives.f (k : Nat) (l0_0 : List (S34)) (l1 : List Int) (a2 : Int) : Option (Bool) := (impl_Reach.f k l0_0 l1).bind fun t256 => ((impl_within.f a2 0 (wrap64 ((t256.length : Int) - 1))).bind fun t259 => (if t259 = true then (if 0 ≤ a2 then (if a2 < (t256.length : Int) then (some (rdOf false t256 a2)) else (none)) else (none)) else (some false)))
set_option maxHeartbeats 8000000 in
set_option maxRecDepth 100000 in
theorem impl_Derives.calls (k : Nat) (A0_0 : Option Addr) (c0_0 : Nat) (l0_0 : List (S34)) (A1 : Option Addr) (c1 : Nat) (l1 : List Int) (a2 : Int) (r : Bool) (w : World) (hr0_0 : Kd.C k34 w A0_0 l0_0.length l0_0) (hc0_0 : l0_0.length ≤ c0_0) (hr1 : Kd.C (Kd.int .i64) w A1 l1.length l1) (hc1 : l1.length ≤ c1) (h : impl_Derives.f k l0_0 l1 a2 = some r) :
  Calls Try.prog 18 #[.agg #[.slice A0_0 l0_0.length c0_0], .slice A1 l1.length c1, .int .i64 a2] w fun e w' => e = .returned (.bool r) ∧ Below w.heap.size w w' := by
 have hu26 := Try.underlying26
 have HR0_0 := Aside0.mk hr0_0
 have HC0_0 := Aside0.mk hc0_0
 clear hr0_0 hc0_0
 have HR1 := Aside0.mk hr1
 have HC1 := Aside0.mk hc1
 clear hr1 hc1
 have HB := Aside0.mk (Below.refl w.heap.size w)
 have H : ((impl_Reach.f k l0_0 l1).bind fun t256 => ((impl_within.f a2 0 (wrap64 ((t256.length : Int) - 1))).bind fun t259 => (if t259 = true then (if 0 ≤ a2 then (if a2 < (t256.length : Int) then (some (rdOf false t256 a2)) else (none)) else (none)) else (some false)))) = some r := h
 clear h
 replace H := Option.bind_eq_some_iff.mp H
 obtain ⟨t256, A40, H⟩ := H
 replace H : ((impl_within.f a2 0 (wrap64 ((t256.length : Int) - 1))).bind fun t259 => (if t259 = true then (if 0 ≤ a2 then (if a2 < (t256.length : Int) then (some (rdOf false t256 a2)) else (none)) else (none)) else (some false))) = some r := H
 have A4 := Aside0.mk A40
 clear A40
 replace H := Option.bind_eq_some_iff.mp H
 obtain ⟨t259, A50, H⟩ := H
 replace H : (if t259 = true then (if 0 ≤ a2 then (if a2 < (t256.length : Int) then (some (rdOf false t256 a2)) else (none)) else (none)) else (some false)) = some r := H
 have A5 := Aside0.mk A50
 clear A50
 by_cases c6 : t259 = true
 ·subst c6
  have H1 : (if 0 ≤ a2 then (if a2 < (t256.length : Int) then (some (rdOf false t256 a2)) else (none)) else (none)) = some r := by rw [if_pos rfl] at H; exact H
  clear H
  have H := H1
  clear H1
  by_cases c7 : 0 ≤ a2
  ·rw [if_pos c7] at H
   have c7b0 : decide (0 ≤ a2) = true := decide_eq_true c7
   clear c7
   by_cases c8 : a2 < (t256.length : Int)
   ·rw [if_pos c8] at H
    have c8b0 : decide (a2 < (t256.length : Int)) = true := decide_eq_true c8
    clear c8
    obtain rfl := Option.some.inj H
    go_enter Try.func18, Try.ntmps18
    go_wp2_with (first | ((with_reducible refine gate_dst (N := 3) rfl ?_); refine box_event ?hg (N := 3) ?hd (cs := #[.slice A0_0 l0_0.length c0_0]) (t := 26) ?hr ?_; (case hd => rfl); (case hg => rfl); (case hr => first | (go_simp; done) | (go_simp; rfl)); intro gb255 hg w9 hbox hb; have n0_ := Aside0.mk (below_step (bw HB.out) hb); have n1_ := Aside0.mk (hbox); have n2_ := Aside0.mk ((by rw [hg]; exact (below_size (bw HB.out)) : w.heap.size ≤ gb255)); have n3_ := Aside0.mk ((by rw [hg]; exact (below_size (bw HB.out)) : w.heap.size ≤ gb255)); clear HB; have HB := n0_; have BK255 := n1_; have GW255 := n2_; have GE255 := n3_; clear n0_ n1_ n2_ n3_ hb hbox hg; have hcz10_0 : w9.cell? ⟨gb255, 0, none⟩ = some (.slice A0_0 l0_0.length c0_0) := (blk_cell BK255.out 0).trans rfl; have hfz10_0 := blk_frozen BK255.out 0) | ((with_reducible refine gate_callee (f := 16) rfl ?_); refine goesL_ (some 10) rfl rfl Try.func16 (by kernel_rfl) rfl #[.agg #[.slice A0_0 l0_0.length c0_0], .slice A1 l1.length c1] rfl ar ?_; (with_reducible refine (impl_Reach.calls k _ _ l0_0 _ _ l1 t256 _ ?side1 ?side2 ?side3 ?side4 A4.out).mono ?_); (case side1 => exact cl (Kd.C_below HR0_0.out HB.out)); (case side2 => exact HC0_0.out); (case side3 => exact cl (Kd.C_below HR1.out HB.out)); (case side4 => exact HC1.out); rintro e w11 ⟨v257, rfl, ho0, hb⟩; refine ⟨_, rfl, ?_⟩; have n0_ := Aside0.mk (Kd.R_lower ho0 (below_size (bw HB.out))); have n1_ := Aside0.mk (blk_below (g := gb255) (o := .cells #[.slice A0_0 l0_0.length c0_0] 26 (0, 0)) (bl BK255.out) hb); have n2_ := Aside0.mk (below_step (bw HB.out) hb); clear BK255 HB; have HO258 := n0_; have BK255 := n1_; have HB := n2_; clear n0_ n1_ n2_; (try clear hb); (try clear hb2); (try clear hk); (try clear hi); (try clear ho0); obtain ⟨Ao12, co12, eo12⟩ := Kd.R_slice HO258.out; subst eo12) | ((with_reducible refine gate_callee (f := 75) rfl ?_); refine goesL_ (some 15) rfl rfl Try.func75 (by kernel_rfl) rfl #[.int .i64 a2, .int .i64 0, .int .i64 (wrap64 ((t256.length : Int) - 1))] rfl ar ?_; (with_reducible refine (impl_within.calls a2 0 (wrap64 ((t256.length : Int) - 1)) true _ A5.out).mono ?_); rintro e w' ⟨rfl, ⟨nd, rfl⟩⟩; refine ⟨_, rfl, ?_⟩; have p260 : 0 ≤ (a2 : Int) := oda; have q260 : a2 < (t256.length : Int) := oda; obtain ⟨ad260, e260, hx260_0⟩ := Kd.at_bool (Kd.R_reads' HO258.out).2.2 a2 p260 q260; cases e260; replace p260 := eq_true p260; replace q260 := eq_true q260))
    go_ret
    exact ⟨by first | rfl | (simp [errW_none, errW_some] <;> rfl) | (simp [*, errW_none, errW_some] <;> rfl), bw HB.out⟩
   ·rw [if_neg c8] at H
    exact absurd H (by simp)
  ·rw [if_neg c7] at H
   exact absurd H (by simp)
 ·replace c6 := Bool.eq_false_iff.mpr c6
  subst c6
  have H1 : (some false) = some r := by rw [if_neg (show ¬ (false = true) by decide)] at H; exact H
  clear H
  have H := H1
  clear H1
  obtain rfl := Option.some.inj H
  go_enter Try.func18, Try.ntmps18
  go_wp2_with (first | ((with_reducible refine gate_dst (N := 3) rfl ?_); refine box_event ?hg (N := 3) ?hd (cs := #[.slice A0_0 l0_0.length c0_0]) (t := 26) ?hr ?_; (case hd => rfl); (case hg => rfl); (case hr => first | (go_simp; done) | (go_simp; rfl)); intro gb255 hg w13 hbox hb; have n0_ := Aside0.mk (below_step (bw HB.out) hb); have n1_ := Aside0.mk (hbox); have n2_ := Aside0.mk ((by rw [hg]; exact (below_size (bw HB.out)) : w.heap.size ≤ gb255)); have n3_ := Aside0.mk ((by rw [hg]; exact (below_size (bw HB.out)) : w.heap.size ≤ gb255)); clear HB; have HB := n0_; have BK255 := n1_; have GW255 := n2_; have GE255 := n3_; clear n0_ n1_ n2_ n3_ hb hbox hg; have hcz14_0 : w13.cell? ⟨gb255, 0, none⟩ = some (.slice A0_0 l0_0.length c0_0) := (blk_cell BK255.out 0).trans rfl; have hfz14_0 := blk_frozen BK255.out 0) | ((with_reducible refine gate_callee (f := 16) rfl ?_); refine goesL_ (some 10) rfl rfl Try.func16 (by kernel_rfl) rfl #[.agg #[.slice A0_0 l0_0.length c0_0], .slice A1 l1.length c1] rfl ar ?_; (with_reducible refine (impl_Reach.calls k _ _ l0_0 _ _ l1 t256 _ ?side1 ?side2 ?side3 ?side4 A4.out).mono ?_); (case side1 => exact cl (Kd.C_below HR0_0.out HB.out)); (case side2 => exact HC0_0.out); (case side3 => exact cl (Kd.C_below HR1.out HB.out)); (case side4 => exact HC1.out); rintro e w15 ⟨v257, rfl, ho0, hb⟩; refine ⟨_, rfl, ?_⟩; have n0_ := Aside0.mk (Kd.R_lower ho0 (below_size (bw HB.out))); have n1_ := Aside0.mk (blk_below (g := gb255) (o := .cells #[.slice A0_0 l0_0.length c0_0] 26 (0, 0)) (bl BK255.out) hb); have n2_ := Aside0.mk (below_step (bw HB.out) hb); clear BK255 HB; have HO258 := n0_; have BK255 := n1_; have HB := n2_; clear n0_ n1_ n2_; (try clear hb); (try clear hb2); (try clear hk); (try clear hi); (try clear ho0); obtain ⟨Ao16, co16, eo16⟩ := Kd.R_slice HO258.out; subst eo16) | ((with_reducible refine gate_callee (f := 75) rfl ?_); refine goesL_ (some 15) rfl rfl Try.func75 (by kernel_rfl) rfl #[.int .i64 a2, .int .i64 0, .int .i64 (wrap64 ((t256.length : Int) - 1))] rfl ar ?_; (with_reducible refine (impl_within.calls a2 0 (wrap64 ((t256.length : Int) - 1)) false _ A5.out).mono ?_); rintro e w' ⟨rfl, ⟨nd, rfl⟩⟩; refine ⟨_, rfl, ?_⟩))
  go_ret
  exact ⟨by first | rfl | (simp [errW_none, errW_some] <;> rfl) | (simp [*, errW_none, errW_some] <;> rfl), bw HB.out⟩

/-! ### spec_l03Copy: function 90 -/
def spec_l03Copy.f (l0_0 : List (S34)) : Option ((List (S34))) := (some (([] : List (S34)) : List (S34))).bind fun y263 => (if y263.length + l0_0.length < 4398046511104 then (some (y263 ++ l0_0)) else (none))
set_option maxHeartbeats 8000000 in
set_option maxRecDepth 100000 in
theorem spec_l03Copy.calls (A0_0 : Option Addr) (c0_0 : Nat) (l0_0 : List (S34)) (r : List (S34)) (w : World) (hr0_0 : Kd.C k34 w A0_0 l0_0.length l0_0) (hc0_0 : l0_0.length ≤ c0_0) (h : spec_l03Copy.f l0_0 = some r) :
  Calls Try.prog 90 #[.agg #[.slice A0_0 l0_0.length c0_0]] w fun e w' => ∃ v0_ : Value, e = .returned (.agg #[v0_]) ∧ Kd.R k34 34 w' w.heap.size (fun _ => True) v0_ r ∧ Below w.heap.size w w' := by
 have hu26 := Try.underlying26
 have HR0_0 := Aside0.mk hr0_0
 have HC0_0 := Aside0.mk hc0_0
 clear hr0_0 hc0_0
 have HB := Aside0.mk (Below.refl w.heap.size w)
 have H : ((some (([] : List (S34)) : List (S34))).bind fun y263 => (if y263.length + l0_0.length < 4398046511104 then (some (y263 ++ l0_0)) else (none))) = some r := h
 clear h
 obtain ⟨y263, hy263⟩ : ∃ y_ : List (S34), y_ = (([] : List (S34))) := ⟨_, rfl⟩
 replace H : (if y263.length + l0_0.length < 4398046511104 then (some (y263 ++ l0_0)) else (none)) = some r := by first | (rw [hy263]; with_reducible exact H) | (have H2_ := (Option.bind_some _ _).symm.trans H; rw [hy263]; with_reducible exact H2_) | (have H2_ := (Option.bind_some _ _).symm.trans H; with_reducible exact H2_) | with_reducible exact H | (rw [hy263]; exact H) | exact H
 have Ny263 := Aside0.mk hy263
 clear hy263
 by_cases c2 : y263.length + l0_0.length < 4398046511104
 ·rw [if_pos c2] at H
  have LMc2 := Aside0.mk c2
  clear c2
  obtain ⟨y266, hy266⟩ : ∃ y_ : List (S34), y_ = (y263 ++ l0_0) := ⟨_, rfl⟩
  replace H : (some y266) = some r := by first | (rw [hy266]; with_reducible exact H) | (have H2_ := (Option.bind_some _ _).symm.trans H; rw [hy266]; with_reducible exact H2_) | (have H2_ := (Option.bind_some _ _).symm.trans H; with_reducible exact H2_) | with_reducible exact H | (rw [hy266]; exact H) | exact H
  have Ny266 := Aside0.mk hy266
  clear hy266
  obtain rfl := Option.some.inj H
  go_enter Try.func90, Try.ntmps90
  go_wp2_with (first | ((with_reducible refine gate_dst (N := 1) rfl ?_); refine box_event ?hg (N := 1) ?hd (cs := #[.slice A0_0 l0_0.length c0_0]) (t := 26) ?hr ?_; (case hd => rfl); (case hg => rfl); (case hr => first | (go_simp; done) | (go_simp; rfl)); intro gb261 hg w3 hbox hb; have n0_ := Aside0.mk (below_step (bw HB.out) hb); have n1_ := Aside0.mk (hbox); have n2_ := Aside0.mk ((by rw [hg]; exact (below_size (bw HB.out)) : w.heap.size ≤ gb261)); have n3_ := Aside0.mk ((by rw [hg]; exact (below_size (bw HB.out)) : w.heap.size ≤ gb261)); clear HB; have HB := n0_; have BK261 := n1_; have GW261 := n2_; have GE261 := n3_; clear n0_ n1_ n2_ n3_ hb hbox hg) | ((with_reducible refine gate_dst (N := 2) rfl ?_); refine box_event ?hg (N := 2) ?hd (cs := #[.slice none 0 0]) (t := 26) ?hr ?_; (case hd => rfl); (case hg => rfl); (case hr => first | (go_simp; done) | (go_simp; rfl)); intro gb262 hg w4 hbox hb; have n0_ := Aside0.mk (blk_below (g := gb261) (o := .cells #[.slice A0_0 l0_0.length c0_0] 26 (0, 0)) (bl BK261.out) hb); have n1_ := Aside0.mk (below_step (bw HB.out) hb); have n2_ := Aside0.mk (hbox); have n3_ := Aside0.mk ((by rw [hg]; exact (below_size (bw HB.out)) : w.heap.size ≤ gb262)); have n4_ := Aside0.mk ((by rw [hg]; exact (below_size (bw HB.out)) : w.heap.size ≤ gb262)); have n5_ := Aside0.mk ((by rw [hg]; exact Nat.ne_of_lt (blk_lt (g := gb261) (o := .cells #[.slice A0_0 l0_0.length c0_0] 26 (0, 0)) (bl BK261.out)) : gb261 ≠ gb262)); have n6_ := Aside0.mk ((by rw [hg]; exact Nat.ne_of_gt (blk_lt (g := gb261) (o := .cells #[.slice A0_0 l0_0.length c0_0] 26 (0, 0)) (bl BK261.out)) : gb262 ≠ gb261)); clear BK261 HB; have BK261 := n0_; have HB := n1_; have BK262 := n2_; have GW262 := n3_; have GE262 := n4_; have NB261_262 := n5_; have NB262_261 := n6_; clear n0_ n1_ n2_ n3_ n4_ n5_ n6_ hb hbox hg) | ((with_reducible refine gate_dst (N := 3) rfl ?_); refine Kd.R_lit k34 _ 34 ?hg (N := 3) ?hd (xs := ([] : List (S34))) (inner := []) (ok := fun _ => True) (okp := fun _ => True) ?hr ?hp (fun _ hk => hk) trivial (Below.refl _ _) (Nat.le_refl _) (by simp) ?_; (case hd => rfl); (case hg => rfl); (case hr => first | (go_simp; done) | (go_simp; rfl)); (case hp => exact (Reps.none _ _)); intro v264 w5 ho6 hb hg_ hnew_; clear hg_ hnew_; (first | rw [← Ny263.out] at ho6 | (simp only [Int.reduceToNat] at ho6; rw [← Ny263.out] at ho6)); have n0_ := Aside0.mk (Kd.R_lower ho6 (below_size (bw HB.out))); have n1_ := Aside0.mk (blk_below (g := gb261) (o := .cells #[.slice A0_0 l0_0.length c0_0] 26 (0, 0)) (bl BK261.out) hb); have n2_ := Aside0.mk (blk_below (g := gb262) (o := .cells #[.slice none 0 0] 26 (0, 0)) (bl BK262.out) hb); have n3_ := Aside0.mk (below_step (bw HB.out) hb); clear BK261 BK262 HB; have HO265 := n0_; have BK261 := n1_; have BK262 := n2_; have HB := n3_; clear n0_ n1_ n2_ n3_ hb ho6; have hnb7 := NB261_262.out; have hnc7 := NB262_261.out; have hcz8_0 : w5.cell? ⟨gb261, 0, none⟩ = some (.slice A0_0 l0_0.length c0_0) := (blk_cell BK261.out 0).trans rfl; have hfz8_0 := blk_frozen BK261.out 0) | ((with_reducible refine gate_builtin (b := .append) (xs := #[.tmp 3, .tmp 5]) rfl ?_); at_builtin; refine Kd.R_append_rows k34 (w0 := w) w.heap.size rfl (.tmp 3) (.tmp 5) 24 34 (.agg #[(.int .i64 0), (.int .i64 0), (.int .i64 0), (.int .i64 0)]) 32 rfl Try.underlying24 info34 rfl (by decide) (by omega) v264 y263 l0_0 _ _ _ (fun _ => True) (fun _ => False) rfl rfl ?aO ?aR (fun _ _ h => h) (fun _ h => h.elim) ?aF ?aB ?aS ?aL ?_; (case aR => repeat (first | exact (Kd.C_below HR0_0.out HB.out) | (with_reducible refine Kd.C_alloc ?_ _) | (with_reducible refine Kd.C_drewN ?_ _) | (with_reducible refine Kd.C_drew ?_))); (case aB => exact (bw HB.out)); (case aF => exact (fun _ _ => trivial)); (case aO => exact (rl HO265.out)); (case aS => exact (below_size (bw HB.out))); (case aL => have := LMc2.out; omega); intro v267 w9 ho hb hg hat; rw [← Ny266.out] at ho; have n0_ := Aside0.mk (blk_grown (g := gb261) (o := .cells #[.slice A0_0 l0_0.length c0_0] 26 (0, 0)) (bl BK261.out) hg (Kd.R_ne HO265.out BK261.out (by decide))); have n1_ := Aside0.mk (blk_grown (g := gb262) (o := .cells #[.slice none 0 0] 26 (0, 0)) (bl BK262.out) hg (Kd.R_ne HO265.out BK262.out (by decide))); have n2_ := Aside0.mk (hb); have n3_ := Aside0.mk (ho); clear BK261 BK262 HB HO265; have BK261 := n0_; have BK262 := n1_; have HB := n2_; have HO268 := n3_; clear n0_ n1_ n2_ n3_ ho hb hg hat; obtain ⟨Ao10, co10, eo10⟩ := Kd.R_slice HO268.out; subst eo10; have hcz11_0 : w9.cell? ⟨gb262, 0, none⟩ = some (.slice none 0 0) := (blk_cell BK262.out 0).trans rfl; have hfz11_0 := blk_frozen BK262.out 0))
  refine bodyPost_ret (results_cell_row rfl _ _ gb262 26 #[.slice Ao10 y266.length co10] (0, 0) _ rfl (by (with_reducible repeat (first | refine blk_drewN ?_ _ | refine blk_drew ?_ | refine blk_alloc ?_ _)); refine blk_put (cs := #[.slice none 0 0]) ?_ 0 _ rfl; exact bl BK262.out) Try.underlying26 rfl (by kernel_rfl)) rfl ?_
  exact ⟨_, by first | rfl | (simp [errW_none, errW_some] <;> rfl) | (simp [*, errW_none, errW_some] <;> rfl), by (with_reducible repeat (first | apply Kd.R_alloc | apply Kd.R_drewN | apply Kd.R_drew)); exact Kd.R_mono (Kd.R_far (p := ⟨gb262, 0, none⟩) (Kd.R_types HO268.out BK262.out (by decide)) (fun _ hk => hk.2) (.slice Ao10 y266.length co10)) (fun _ hk => trivial), bw HB.out⟩
 ·rw [if_neg c2] at H
  exact absurd H (by simp)

/-! ### spec_l03Any: function 76 -/
def spec_l03Any.f (s0_0 : List Int) (s0_1 : Int) (s0_2 : Int) : Option ((List (S34)) × Int × Int) := (spec_l01Below.f s0_0 s0_1 s0_2 12).bind fun bt270 => ((spec_l01Below.f s0_0 bt270.2.1 bt270.2.2 60).bind fun bt273 => ((spec_l03Arena.f s0_0 bt273.2.1 bt273.2.2).bind fun bt276 => ((spec_l03Copy.f bt276.1).bind fun t281 => (if (t281.length : Int) = 0 then (none) else (if bt270.1 = 0 then (if 0 ≤ (Int.tmod bt273.1 (t281.length : Int)) then (if (Int.tmod bt273.1 (t281.length : Int)) < (t281.length : Int) then (some ((t281.set ((Int.tmod bt273.1 (t281.length : Int)) : Int).toNat (⟨Int.tmod bt273.1 11, (rd_T34 t281 (Int.tmod bt273.1 (t281.length : Int))).f1, (rd_T34 t281 (Int.tmod bt273.1 (t281.length : Int))).f2, (rd_T34 t281 (Int.tmod bt273.1 (t281.length : Int))).f3⟩ : S34)), bt276.2.1, bt276.2.2)) else (none)) else (none)) else (if bt270.1 = 1 then (if 0 ≤ (Int.tmod bt273.1 (t281.length : Int)) then (if (Int.tmod bt273.1 (t281.length : Int)) < (t281.length : Int) then (some ((t281.set ((Int.tmod bt273.1 (t281.length : Int)) : Int).toNat (⟨(rd_T34 t281 (Int.tmod bt273.1 (t281.length : Int))).f0, (rd_T34 t281 (Int.tmod bt273.1 (t281.length : Int))).f1, wrap64 ((Int.tmod bt273.1 9) - 1), (rd_T34 t281 (Int.tmod bt273.1 (t281.length : Int))).f3⟩ : S34)), bt276.2.1, bt276.2.2)) else (none)) else (none)) else (if bt270.1 = 2 then ((some (([(-1), 5, 1000000] : List Int) : List Int)).bind fun y287 => (if 0 ≤ (Int.tmod bt273.1 3) then (if (Int.tmod bt273.1 3) < (y287.length : Int) then (if 0 ≤ (Int.tmod bt273.1 (t281.length : Int)) then (if (Int.tmod bt273.1 (t281.length : Int)) < (t281.length : Int) then (some ((t281.set ((Int.tmod bt273.1 (t281.length : Int)) : Int).toNat (⟨(rd_T34 t281 (Int.tmod bt273.1 (t281.length : Int))).f0, rd y287 (Int.tmod bt273.1 3), (rd_T34 t281 (Int.tmod bt273.1 (t281.length : Int))).f2, (rd_T34 t281 (Int.tmod bt273.1 (t281.length : Int))).f3⟩ : S34)), bt276.2.1, bt276.2.2)) else (none)) else (none)) else (none)) else (none))) else (if bt270.1 = 3 then (if 0 < (t281.length : Int) then (if t281.length < 4398046511104 then (some ((t281 ++ [(⟨(rd_T34 t281 0).f0, (rd_T34 t281 0).f1, (rd_T34 t281 0).f2, (rd_T34 t281 0).f3⟩ : S34)]), bt276.2.1, bt276.2.2)) else (none)) else (none)) else (some (t281, bt276.2.1, bt276.2.2))))))))))
def spec_l03Any.T11 : Bool × List (List Nat × List Nat) := (true, [([], []), ([0], [0]), ([], []), ([], []), ([], []), ([4], [4]), ([3, 5], [3, 5]), ([6], [6]), ([1, 2, 0, 1, 2, 3, 4, 5, 6, 7], [1, 2]), ([8, 0, 1, 2, 3, 4, 5, 6, 7], [8]), ([9, 7, 0, 1, 2, 3, 4, 5, 6, 7], [7, 9])])
def spec_l03Any.B11 : List Nat := [0, 1, 0, 0, 0, 16, 56, 120, 255, 511, 1023]
theorem spec_l03Any.tab11 : rtab .any (opsOf Try.f76 11) = spec_l03Any.T11 := by kernel_rfl
theorem spec_l03Any.bits11 : waitsOk spec_l03Any.T11.2 spec_l03Any.B11 = true := by kernel_rfl
def spec_l03Any.T13 : Bool × List (List Nat × List Nat) := (true, [([], []), ([0], [0]), ([], []), ([2], [2]), ([3], [3]), ([4], [4]), ([5], [5]), ([1, 6], [1, 6]), ([0, 1, 2, 3, 4, 5, 6, 7], []), ([8, 7, 7, 0, 1, 2, 3, 4, 5, 6, 7], [7, 8])])
def spec_l03Any.B13 : List Nat := [0, 1, 0, 4, 12, 28, 60, 127, 255, 511]
theorem spec_l03Any.tab13 : rtab .any (opsOf Try.f76 13) = spec_l03Any.T13 := by kernel_rfl
theorem spec_l03Any.bits13 : waitsOk spec_l03Any.T13.2 spec_l03Any.B13 = true := by kernel_rfl
set_option maxHeartbeats 8000000 in
set_option maxRecDepth 100000 in
theorem spec_l03Any.calls (g : Nat) (s0_0 : List Int) (s0_1 : Int) (s0_2 : Int) (r1 : List (S34)) (r2 : Int) (r3 : Int) (w0 w : World) (hI : IsS119 w0 w g s0_0 s0_1 s0_2) (hB : Below w0.heap.size w0 w) (h : spec_l03Any.f s0_0 s0_1 s0_2 = some (r1, r2, r3)) :
  Calls Try.prog 76 #[.pointer (some ⟨g, 0, none⟩)] w fun e w' => ∃ v0_ : Value, e = .returned (.agg #[v0_]) ∧ Kd.R k34 34 w' w.heap.size (fun _ => True) v0_ r1 ∧ IsS119 w0 w' g s0_0 r2 r3 ∧ Below w0.heap.size w0 w' ∧ KeepBut w w' g none := by
 have hu26 := Try.underlying26
 have hu34 := Try.underlying34
 have HI0 := Aside0.mk hI
 have HK := Aside0.mk (KeepBut.refl w g none)
 have HL := Aside0.mk hB.size
 clear hI
 have HW0 := Aside0.mk hB.size
 have HB := Aside0.mk hB
 clear hB
 have H : ((spec_l01Below.f s0_0 s0_1 s0_2 12).bind fun bt270 => ((spec_l01Below.f s0_0 bt270.2.1 bt270.2.2 60).bind fun bt273 => ((spec_l03Arena.f s0_0 bt273.2.1 bt273.2.2).bind fun bt276 => ((spec_l03Copy.f bt276.1).bind fun t281 => (if (t281.length : Int) = 0 then (none) else (if bt270.1 = 0 then (if 0 ≤ (Int.tmod bt273.1 (t281.length : Int)) then (if (Int.tmod bt273.1 (t281.length : Int)) < (t281.length : Int) then (some ((t281.set ((Int.tmod bt273.1 (t281.length : Int)) : Int).toNat (⟨Int.tmod bt273.1 11, (rd_T34 t281 (Int.tmod bt273.1 (t281.length : Int))).f1, (rd_T34 t281 (Int.tmod bt273.1 (t281.length : Int))).f2, (rd_T34 t281 (Int.tmod bt273.1 (t281.length : Int))).f3⟩ : S34)), bt276.2.1, bt276.2.2)) else (none)) else (none)) else (if bt270.1 = 1 then (if 0 ≤ (Int.tmod bt273.1 (t281.length : Int)) then (if (Int.tmod bt273.1 (t281.length : Int)) < (t281.length : Int) then (some ((t281.set ((Int.tmod bt273.1 (t281.length : Int)) : Int).toNat (⟨(rd_T34 t281 (Int.tmod bt273.1 (t281.length : Int))).f0, (rd_T34 t281 (Int.tmod bt273.1 (t281.length : Int))).f1, wrap64 ((Int.tmod bt273.1 9) - 1), (rd_T34 t281 (Int.tmod bt273.1 (t281.length : Int))).f3⟩ : S34)), bt276.2.1, bt276.2.2)) else (none)) else (none)) else (if bt270.1 = 2 then ((some (([(-1), 5, 1000000] : List Int) : List Int)).bind fun y287 => (if 0 ≤ (Int.tmod bt273.1 3) then (if (Int.tmod bt273.1 3) < (y287.length : Int) then (if 0 ≤ (Int.tmod bt273.1 (t281.length : Int)) then (if (Int.tmod bt273.1 (t281.length : Int)) < (t281.length : Int) then (some ((t281.set ((Int.tmod bt273.1 (t281.length : Int)) : Int).toNat (⟨(rd_T34 t281 (Int.tmod bt273.1 (t281.length : Int))).f0, rd y287 (Int.tmod bt273.1 3), (rd_T34 t281 (Int.tmod bt273.1 (t281.length : Int))).f2, (rd_T34 t281 (Int.tmod bt273.1 (t281.length : Int))).f3⟩ : S34)), bt276.2.1, bt276.2.2)) else (none)) else (none)) else (none)) else (none))) else (if bt270.1 = 3 then (if 0 < (t281.length : Int) then (if t281.length < 4398046511104 then (some ((t281 ++ [(⟨(rd_T34 t281 0).f0, (rd_T34 t281 0).f1, (rd_T34 t281 0).f2, (rd_T34 t281 0).f3⟩ : S34)]), bt276.2.1, bt276.2.2)) else (none)) else (none)) else (some (t281, bt276.2.1, bt276.2.2))))))))))) = some (r1, r2, r3) := h
 clear h
 replace H := Option.bind_eq_some_iff.mp H
 obtain ⟨⟨t270, t271, t272⟩, A20, H⟩ := H
 replace H : ((spec_l01Below.f s0_0 t271 t272 60).bind fun bt273 => ((spec_l03Arena.f s0_0 bt273.2.1 bt273.2.2).bind fun bt276 => ((spec_l03Copy.f bt276.1).bind fun t281 => (if (t281.length : Int) = 0 then (none) else (if t270 = 0 then (if 0 ≤ (Int.tmod bt273.1 (t281.length : Int)) then (if (Int.tmod bt273.1 (t281.length : Int)) < (t281.length : Int) then (some ((t281.set ((Int.tmod bt273.1 (t281.length : Int)) : Int).toNat (⟨Int.tmod bt273.1 11, (rd_T34 t281 (Int.tmod bt273.1 (t281.length : Int))).f1, (rd_T34 t281 (Int.tmod bt273.1 (t281.length : Int))).f2, (rd_T34 t281 (Int.tmod bt273.1 (t281.length : Int))).f3⟩ : S34)), bt276.2.1, bt276.2.2)) else (none)) else (none)) else (if t270 = 1 then (if 0 ≤ (Int.tmod bt273.1 (t281.length : Int)) then (if (Int.tmod bt273.1 (t281.length : Int)) < (t281.length : Int) then (some ((t281.set ((Int.tmod bt273.1 (t281.length : Int)) : Int).toNat (⟨(rd_T34 t281 (Int.tmod bt273.1 (t281.length : Int))).f0, (rd_T34 t281 (Int.tmod bt273.1 (t281.length : Int))).f1, wrap64 ((Int.tmod bt273.1 9) - 1), (rd_T34 t281 (Int.tmod bt273.1 (t281.length : Int))).f3⟩ : S34)), bt276.2.1, bt276.2.2)) else (none)) else (none)) else (if t270 = 2 then ((some (([(-1), 5, 1000000] : List Int) : List Int)).bind fun y287 => (if 0 ≤ (Int.tmod bt273.1 3) then (if (Int.tmod bt273.1 3) < (y287.length : Int) then (if 0 ≤ (Int.tmod bt273.1 (t281.length : Int)) then (if (Int.tmod bt273.1 (t281.length : Int)) < (t281.length : Int) then (some ((t281.set ((Int.tmod bt273.1 (t281.length : Int)) : Int).toNat (⟨(rd_T34 t281 (Int.tmod bt273.1 (t281.length : Int))).f0, rd y287 (Int.tmod bt273.1 3), (rd_T34 t281 (Int.tmod bt273.1 (t281.length : Int))).f2, (rd_T34 t281 (Int.tmod bt273.1 (t281.length : Int))).f3⟩ : S34)), bt276.2.1, bt276.2.2)) else (none)) else (none)) else (none)) else (none))) else (if t270 = 3 then (if 0 < (t281.length : Int) then (if t281.length < 4398046511104 then (some ((t281 ++ [(⟨(rd_T34 t281 0).f0, (rd_T34 t281 0).f1, (rd_T34 t281 0).f2, (rd_T34 t281 0).f3⟩ : S34)]), bt276.2.1, bt276.2.2)) else (none)) else (none)) else (some (t281, bt276.2.1, bt276.2.2)))))))))) = some (r1, r2, r3) := H
 have A2 := Aside0.mk A20
 clear A20
 replace H := Option.bind_eq_some_iff.mp H
 obtain ⟨⟨t273, t274, t275⟩, A30, H⟩ := H
 replace H : ((spec_l03Arena.f s0_0 t274 t275).bind fun bt276 => ((spec_l03Copy.f bt276.1).bind fun t281 => (if (t281.length : Int) = 0 then (none) else (if t270 = 0 then (if 0 ≤ (Int.tmod t273 (t281.length : Int)) then (if (Int.tmod t273 (t281.length : Int)) < (t281.length : Int) then (some ((t281.set ((Int.tmod t273 (t281.length : Int)) : Int).toNat (⟨Int.tmod t273 11, (rd_T34 t281 (Int.tmod t273 (t281.length : Int))).f1, (rd_T34 t281 (Int.tmod t273 (t281.length : Int))).f2, (rd_T34 t281 (Int.tmod t273 (t281.length : Int))).f3⟩ : S34)), bt276.2.1, bt276.2.2)) else (none)) else (none)) else (if t270 = 1 then (if 0 ≤ (Int.tmod t273 (t281.length : Int)) then (if (Int.tmod t273 (t281.length : Int)) < (t281.length : Int) then (some ((t281.set ((Int.tmod t273 (t281.length : Int)) : Int).toNat (⟨(rd_T34 t281 (Int.tmod t273 (t281.length : Int))).f0, (rd_T34 t281 (Int.tmod t273 (t281.length : Int))).f1, wrap64 ((Int.tmod t273 9) - 1), (rd_T34 t281 (Int.tmod t273 (t281.length : Int))).f3⟩ : S34)), bt276.2.1, bt276.2.2)) else (none)) else (none)) else (if t270 = 2 then ((some (([(-1), 5, 1000000] : List Int) : List Int)).bind fun y287 => (if 0 ≤ (Int.tmod t273 3) then (if (Int.tmod t273 3) < (y287.length : Int) then (if 0 ≤ (Int.tmod t273 (t281.length : Int)) then (if (Int.tmod t273 (t281.length : Int)) < (t281.length : Int) then (some ((t281.set ((Int.tmod t273 (t281.length : Int)) : Int).toNat (⟨(rd_T34 t281 (Int.tmod t273 (t281.length : Int))).f0, rd y287 (Int.tmod t273 3), (rd_T34 t281 (Int.tmod t273 (t281.length : Int))).f2, (rd_T34 t281 (Int.tmod t273 (t281.length : Int))).f3⟩ : S34)), bt276.2.1, bt276.2.2)) else (none)) else (none)) else (none)) else (none))) else (if t270 = 3 then (if 0 < (t281.length : Int) then (if t281.length < 4398046511104 then (some ((t281 ++ [(⟨(rd_T34 t281 0).f0, (rd_T34 t281 0).f1, (rd_T34 t281 0).f2, (rd_T34 t281 0).f3⟩ : S34)]), bt276.2.1, bt276.2.2)) else (none)) else (none)) else (some (t281, bt276.2.1, bt276.2.2))))))))) = some (r1, r2, r3) := H
 have A3 := Aside0.mk A30
 clear A30
 replace H := Option.bind_eq_some_iff.mp H
 obtain ⟨⟨t276, t279, t280⟩, A40, H⟩ := H
 replace H : ((spec_l03Copy.f t276).bind fun t281 => (if (t281.length : Int) = 0 then (none) else (if t270 = 0 then (if 0 ≤ (Int.tmod t273 (t281.length : Int)) then (if (Int.tmod t273 (t281.length : Int)) < (t281.length : Int) then (some ((t281.set ((Int.tmod t273 (t281.length : Int)) : Int).toNat (⟨Int.tmod t273 11, (rd_T34 t281 (Int.tmod t273 (t281.length : Int))).f1, (rd_T34 t281 (Int.tmod t273 (t281.length : Int))).f2, (rd_T34 t281 (Int.tmod t273 (t281.length : Int))).f3⟩ : S34)), t279, t280)) else (none)) else (none)) else (if t270 = 1 then (if 0 ≤ (Int.tmod t273 (t281.length : Int)) then (if (Int.tmod t273 (t281.length : Int)) < (t281.length : Int) then (some ((t281.set ((Int.tmod t273 (t281.length : Int)) : Int).toNat (⟨(rd_T34 t281 (Int.tmod t273 (t281.length : Int))).f0, (rd_T34 t281 (Int.tmod t273 (t281.length : Int))).f1, wrap64 ((Int.tmod t273 9) - 1), (rd_T34 t281 (Int.tmod t273 (t281.length : Int))).f3⟩ : S34)), t279, t280)) else (none)) else (none)) else (if t270 = 2 then ((some (([(-1), 5, 1000000] : List Int) : List Int)).bind fun y287 => (if 0 ≤ (Int.tmod t273 3) then (if (Int.tmod t273 3) < (y287.length : Int) then (if 0 ≤ (Int.tmod t273 (t281.length : Int)) then (if (Int.tmod t273 (t281.length : Int)) < (t281.length : Int) then (some ((t281.set ((Int.tmod t273 (t281.length : Int)) : Int).toNat (⟨(rd_T34 t281 (Int.tmod t273 (t281.length : Int))).f0, rd y287 (Int.tmod t273 3), (rd_T34 t281 (Int.tmod t273 (t281.length : Int))).f2, (rd_T34 t281 (Int.tmod t273 (t281.length : Int))).f3⟩ : S34)), t279, t280)) else (none)) else (none)) else (none)) else (none))) else (if t270 = 3 then (if 0 < (t281.length : Int) then (if t281.length < 4398046511104 then (some ((t281 ++ [(⟨(rd_T34 t281 0).f0, (rd_T34 t281 0).f1, (rd_T34 t281 0).f2, (rd_T34 t281 0).f3⟩ : S34)]), t279, t280)) else (none)) else (none)) else (some (t281, t279, t280)))))))) = some (r1, r2, r3) := H
 have A4 := Aside0.mk A40
 clear A40
 replace H := Option.bind_eq_some_iff.mp H
 obtain ⟨t281, A50, H⟩ := H
 replace H : (if (t281.length : Int) = 0 then (none) else (if t270 = 0 then (if 0 ≤ (Int.tmod t273 (t281.length : Int)) then (if (Int.tmod t273 (t281.length : Int)) < (t281.length : Int) then (some ((t281.set ((Int.tmod t273 (t281.length : Int)) : Int).toNat (⟨Int.tmod t273 11, (rd_T34 t281 (Int.tmod t273 (t281.length : Int))).f1, (rd_T34 t281 (Int.tmod t273 (t281.length : Int))).f2, (rd_T34 t281 (Int.tmod t273 (t281.length : Int))).f3⟩ : S34)), t279, t280)) else (none)) else (none)) else (if t270 = 1 then (if 0 ≤ (Int.tmod t273 (t281.length : Int)) then (if (Int.tmod t273 (t281.length : Int)) < (t281.length : Int) then (some ((t281.set ((Int.tmod t273 (t281.length : Int)) : Int).toNat (⟨(rd_T34 t281 (Int.tmod t273 (t281.length : Int))).f0, (rd_T34 t281 (Int.tmod t273 (t281.length : Int))).f1, wrap64 ((Int.tmod t273 9) - 1), (rd_T34 t281 (Int.tmod t273 (t281.length : Int))).f3⟩ : S34)), t279, t280)) else (none)) else (none)) else (if t270 = 2 then ((some (([(-1), 5, 1000000] : List Int) : List Int)).bind fun y287 => (if 0 ≤ (Int.tmod t273 3) then (if (Int.tmod t273 3) < (y287.length : Int) then (if 0 ≤ (Int.tmod t273 (t281.length : Int)) then (if (Int.tmod t273 (t281.length : Int)) < (t281.length : Int) then (some ((t281.set ((Int.tmod t273 (t281.length : Int)) : Int).toNat (⟨(rd_T34 t281 (Int.tmod t273 (t281.length : Int))).f0, rd y287 (Int.tmod t273 3), (rd_T34 t281 (Int.tmod t273 (t281.length : Int))).f2, (rd_T34 t281 (Int.tmod t273 (t281.length : Int))).f3⟩ : S34)), t279, t280)) else (none)) else (none)) else (none)) else (none))) else (if t270 = 3 then (if 0 < (t281.length : Int) then (if t281.length < 4398046511104 then (some ((t281 ++ [(⟨(rd_T34 t281 0).f0, (rd_T34 t281 0).f1, (rd_T34 t281 0).f2, (rd_T34 t281 0).f3⟩ : S34)]), t279, t280)) else (none)) else (none)) else (some (t281, t279, t280))))))) = some (r1, r2, r3) := H
 have A5 := Aside0.mk A50
 clear A50
 by_cases c6 : (t281.length : Int) = 0
 ·rw [if_pos c6] at H
  exact absurd H (by simp)
 ·rw [if_neg c6] at H
  have c6b0 : ((t281.length : Int) == 0) = false := beq_eq_false_iff_ne.mpr c6
  have c6b1 : ((t281.length : Int) != 0) = true := bne_iff_ne.mpr c6
  have c6b2 : ¬ (t281 = []) := fun h_ => c6 (by rw [h_]; rfl)
  by_cases c7 : t270 = 0
  ·rw [if_pos c7] at H
   have c7b0 : (t270 == 0) = true := beq_iff_eq.mpr c7
   have c7b1 : (t270 != 0) = false := bne_eq_false_iff_eq.mpr c7
   clear c7
   obtain ⟨ji8, hji8⟩ : ∃ j_ : Int, (Int.tmod t273 (t281.length : Int)) = j_ := ⟨_, rfl⟩
   replace H : (if 0 ≤ (ji8) then (if (ji8) < (t281.length : Int) then (some ((t281.set ((ji8) : Int).toNat (⟨Int.tmod t273 11, (rd_T34 t281 (ji8)).f1, (rd_T34 t281 (ji8)).f2, (rd_T34 t281 (ji8)).f3⟩ : S34)), t279, t280)) else (none)) else (none)) = some (r1, r2, r3) := by first | (rw [hji8] at H; exact H) | (simp only [hji8] at H ⊢; exact H)
   (try rw [hji8] at A2)
   (try rw [hji8] at A3)
   (try rw [hji8] at A4)
   (try rw [hji8] at A5)
   by_cases c9 : 0 ≤ (ji8)
   ·rw [if_pos c9] at H
    have c9b0 : decide (0 ≤ (ji8)) = true := decide_eq_true c9
    clear c9
    by_cases c10 : (ji8) < (t281.length : Int)
    ·rw [if_pos c10] at H
     have c10b0 : decide ((ji8) < (t281.length : Int)) = true := decide_eq_true c10
     clear c10
     obtain ⟨y285, hy285⟩ : ∃ y_ : List (S34), y_ = (t281.set ((ji8) : Int).toNat (⟨Int.tmod t273 11, (rd_T34 t281 (ji8)).f1, (rd_T34 t281 (ji8)).f2, (rd_T34 t281 (ji8)).f3⟩ : S34)) := ⟨_, rfl⟩
     replace H : (some (y285, t279, t280)) = some (r1, r2, r3) := by first | (rw [hy285]; with_reducible exact H) | (have H2_ := (Option.bind_some _ _).symm.trans H; rw [hy285]; with_reducible exact H2_) | (have H2_ := (Option.bind_some _ _).symm.trans H; with_reducible exact H2_) | with_reducible exact H | (rw [hy285]; exact H) | exact H
     have Ny285 := Aside0.mk hy285
     clear hy285
     simp only [Option.some.injEq, Prod.mk.injEq] at H
     obtain ⟨rfl, rfl, rfl⟩ := H
     go_enter Try.func76, Try.ntmps76
     go_wp2_with (first | ((with_reducible refine gate_dst (N := 2) rfl ?_); refine box_event ?hg (N := 2) ?hd (cs := #[.slice none 0 0]) (t := 26) ?hr ?_; (case hd => rfl); (case hg => rfl); (case hr => first | (go_simp; done) | (go_simp; rfl)); intro gb269 hg w12 hbox hb; have n0_ := Aside0.mk (IsS119.below (i9 HI0.out) hb); have n1_ := Aside0.mk (KeepBut.trans (kp HK.out) (KeepBut.of_below hb g none) (.inl rfl)); have n2_ := Aside0.mk (below_step (b9 HB.out) hb); have n3_ := Aside0.mk (hbox); have n4_ := Aside0.mk ((by rw [hg]; exact (keep_size (w := w) (g := g) (row := none) (kp HK.out)) : w.heap.size ≤ gb269)); have n5_ := Aside0.mk ((Nat.le_trans HW0.out (by rw [hg]; exact (keep_size (w := w) (g := g) (row := none) (kp HK.out)) : w.heap.size ≤ gb269) : w0.heap.size ≤ gb269)); have n6_ := Aside0.mk ((by rw [hg]; exact Nat.ne_of_lt (IsS119.lt (show IsS119 w0 _ g s0_0 s0_1 s0_2 from i9 HI0.out)) : g ≠ gb269)); have n7_ := Aside0.mk ((by rw [hg]; exact Nat.ne_of_gt (IsS119.lt (show IsS119 w0 _ g s0_0 s0_1 s0_2 from i9 HI0.out)) : gb269 ≠ g)); clear HI0 HK HB; have HI0 := n0_; have HK := n1_; have HB := n2_; have BK269 := n3_; have GW269 := n4_; have GE269 := n5_; have NB0_269 := n6_; have NB269_0 := n7_; clear n0_ n1_ n2_ n3_ n4_ n5_ n6_ n7_ hb hbox hg) | ((with_reducible refine gate_callee (f := 70) rfl ?_); refine goesL_ (some 8) rfl rfl Try.func70 (by kernel_rfl) rfl #[.pointer (some ⟨g, 0, none⟩), .int .i64 12] rfl ar ?_; (with_reducible refine (spec_l01Below.calls g s0_0 s0_1 s0_2 12 t270 t271 t272 w0 _ ?side1 ?side2 A2.out).mono ?_); (case side1 => exact i9 HI0.out); (case side2 => exact b9 HB.out); rintro e w13 ⟨rfl, hi, hb, hk⟩; refine ⟨_, rfl, ?_⟩; have n0_ := Aside0.mk (KeepBut.blk hk (g' := gb269) (o := .cells #[.slice none 0 0] 26 (0, 0)) (bl BK269.out) NB269_0.out (by simp)); have n1_ := Aside0.mk (KeepBut.trans (kp HK.out) hk (.inl rfl)); have n2_ := Aside0.mk (hb); have n3_ := Aside0.mk (hi); clear BK269 HK HB HI0; have BK269 := n0_; have HK := n1_; have HB := n2_; have HI0 := n3_; clear n0_ n1_ n2_ n3_; (try clear hb); (try clear hb2); (try clear hk); (try clear hi)) | ((with_reducible refine gate_callee (f := 70) rfl ?_); refine goesL_ (some 10) rfl rfl Try.func70 (by kernel_rfl) rfl #[.pointer (some ⟨g, 0, none⟩), .int .i64 60] rfl ar ?_; (with_reducible refine (spec_l01Below.calls g s0_0 t271 t272 60 t273 t274 t275 w0 _ ?side1 ?side2 A3.out).mono ?_); (case side1 => exact i9 HI0.out); (case side2 => exact b9 HB.out); rintro e w14 ⟨rfl, hi, hb, hk⟩; refine ⟨_, rfl, ?_⟩; have n0_ := Aside0.mk (KeepBut.blk hk (g' := gb269) (o := .cells #[.slice none 0 0] 26 (0, 0)) (bl BK269.out) NB269_0.out (by simp)); have n1_ := Aside0.mk (KeepBut.trans (kp HK.out) hk (.inl rfl)); have n2_ := Aside0.mk (hb); have n3_ := Aside0.mk (hi); clear BK269 HK HB HI0; have BK269 := n0_; have HK := n1_; have HB := n2_; have HI0 := n3_; clear n0_ n1_ n2_ n3_; (try clear hb); (try clear hb2); (try clear hk); (try clear hi)) | ((with_reducible refine gate_callee (f := 69) rfl ?_); refine goesL_ (some 12) rfl rfl Try.func69 (by kernel_rfl) rfl #[.pointer (some ⟨g, 0, none⟩)] rfl ar ?_; (with_reducible refine (spec_l03Arena.calls g s0_0 t274 t275 t276 t279 t280 w0 _ ?side1 ?side2 A4.out).mono ?_); (case side1 => exact i9 HI0.out); (case side2 => exact b9 HB.out); rintro e w15 ⟨v277, rfl, ho0, hi, hb, hk⟩; refine ⟨_, rfl, ?_⟩; have n0_ := Aside0.mk (KeepBut.blk hk (g' := gb269) (o := .cells #[.slice none 0 0] 26 (0, 0)) (bl BK269.out) NB269_0.out (by simp)); have n1_ := Aside0.mk (Kd.R_lower ho0 (keep_size (w := w) (g := g) (row := none) (kp HK.out))); have n2_ := Aside0.mk (KeepBut.trans (kp HK.out) hk (.inl rfl)); have n3_ := Aside0.mk (hb); have n4_ := Aside0.mk (hi); clear BK269 HK HB HI0; have BK269 := n0_; have HO278 := n1_; have HK := n2_; have HB := n3_; have HI0 := n4_; clear n0_ n1_ n2_ n3_ n4_; (try clear hb); (try clear hb2); (try clear hk); (try clear hi); (try clear ho0); obtain ⟨Ao16, co16, eo16⟩ := Kd.R_slice HO278.out; subst eo16) | ((with_reducible refine gate_callee (f := 90) rfl ?_); refine goesL_ (some 13) rfl rfl Try.func90 (by kernel_rfl) rfl #[.agg #[.slice Ao16 t276.length co16]] rfl ar ?_; (with_reducible refine (spec_l03Copy.calls _ _ t276 t281 _ ?side1 ?side2 A5.out).mono ?_); (case side1 => exact cl (Kd.R_reads' HO278.out).2.2); (case side2 => exact (Kd.R_reads' HO278.out).2.1); rintro e w17 ⟨v282, rfl, ho0, hb⟩; refine ⟨_, rfl, ?_⟩; have n0_ := Aside0.mk (Kd.R_elder' (rl HO278.out) (Kd.R_base ho0) hb); have n1_ := Aside0.mk (Kd.R_lower (Kd.R_new' ho0 (Kd.R_lt (rl HO278.out))) (keep_size (w := w) (g := g) (row := none) (kp HK.out))); have n2_ := Aside0.mk (IsS119.below (i9 HI0.out) hb); have n3_ := Aside0.mk (blk_below (g := gb269) (o := .cells #[.slice none 0 0] 26 (0, 0)) (bl BK269.out) hb); have n4_ := Aside0.mk (KeepBut.trans (kp HK.out) (KeepBut.of_below hb g none) (.inl rfl)); have n5_ := Aside0.mk (below_step (b9 HB.out) hb); clear HO278 HI0 BK269 HK HB; have HO278 := n0_; have HO283 := n1_; have HI0 := n2_; have BK269 := n3_; have HK := n4_; have HB := n5_; clear n0_ n1_ n2_ n3_ n4_ n5_; (try clear hb); (try clear hb2); (try clear hk); (try clear hi); (try clear ho0)) | ((with_reducible refine gate_dst (N := 5) rfl ?_); refine box_event ?hg (N := 5) ?hd (cs := #[.slice none 0 0]) (t := 26) ?hr ?_; (case hd => rfl); (case hg => rfl); (case hr => first | (go_simp; done) | (go_simp; rfl)); intro gb284 hg w18 hbox hb; have n0_ := Aside0.mk (Kd.R_below (rl HO278.out) hb); have n1_ := Aside0.mk (Kd.R_below (rl HO283.out) hb); have n2_ := Aside0.mk (IsS119.below (i9 HI0.out) hb); have n3_ := Aside0.mk (blk_below (g := gb269) (o := .cells #[.slice none 0 0] 26 (0, 0)) (bl BK269.out) hb); have n4_ := Aside0.mk (KeepBut.trans (kp HK.out) (KeepBut.of_below hb g none) (.inl rfl)); have n5_ := Aside0.mk (below_step (b9 HB.out) hb); have n6_ := Aside0.mk (hbox); have n7_ := Aside0.mk ((by rw [hg]; exact (keep_size (w := w) (g := g) (row := none) (kp HK.out)) : w.heap.size ≤ gb284)); have n8_ := Aside0.mk ((Nat.le_trans HW0.out (by rw [hg]; exact (keep_size (w := w) (g := g) (row := none) (kp HK.out)) : w.heap.size ≤ gb284) : w0.heap.size ≤ gb284)); have n9_ := Aside0.mk ((by rw [hg]; exact Nat.ne_of_lt (blk_lt (g := gb269) (o := .cells #[.slice none 0 0] 26 (0, 0)) (bl BK269.out)) : gb269 ≠ gb284)); have n10_ := Aside0.mk ((by rw [hg]; exact Nat.ne_of_gt (blk_lt (g := gb269) (o := .cells #[.slice none 0 0] 26 (0, 0)) (bl BK269.out)) : gb284 ≠ gb269)); have n11_ := Aside0.mk ((by rw [hg]; exact Nat.ne_of_lt (IsS119.lt (show IsS119 w0 _ g s0_0 t279 t280 from i9 HI0.out)) : g ≠ gb284)); have n12_ := Aside0.mk ((by rw [hg]; exact Nat.ne_of_gt (IsS119.lt (show IsS119 w0 _ g s0_0 t279 t280 from i9 HI0.out)) : gb284 ≠ g)); clear HO278 HO283 HI0 BK269 HK HB; have HO278 := n0_; have HO283 := n1_; have HI0 := n2_; have BK269 := n3_; have HK := n4_; have HB := n5_; have BK284 := n6_; have GW284 := n7_; have GE284 := n8_; have NB269_284 := n9_; have NB284_269 := n10_; have NB0_284 := n11_; have NB284_0 := n12_; clear n0_ n1_ n2_ n3_ n4_ n5_ n6_ n7_ n8_ n9_ n10_ n11_ n12_ hb hbox hg; obtain ⟨Ao19, co19, eo19⟩ := Kd.R_slice HO283.out; subst eo19; have hnb20 := NB284_269.out; have hnc20 := NB269_284.out; have hnb21 := NB284_0.out; have hnc21 := NB0_284.out; have hcz22_0 : w18.cell? ⟨gb284, 0, none⟩ = some (.slice none 0 0) := (blk_cell BK284.out 0).trans rfl; have hfz22_0 := blk_frozen BK284.out 0) | ((with_reducible refine gate_store (t := 26) (p := 5) rfl ?_); refine store_event (t := 26) (p := 5) (v := ?vo_w23) (w1 := (w18.setCell ⟨gb284, 0, none⟩ (.slice Ao19 t281.length co19))) ?hg ?ho ?hn ?hr ?_; (case ho => rfl); (case hg => rfl); (case hn => rfl); (case hr => first | (go_simp; done) | (go_simp; rfl)); intro w23 hw; have n0_ : Aside0 (Kd.R k34 34 w23 w.heap.size (fun k_ => some k_ ≠ (.slice Ao19 t281.length co19 : Value).ownBlock) (.slice Ao16 t276.length co16) t276) := ⟨(by rw [hw]; exact (by (with_reducible repeat (first | apply Kd.R_alloc | apply Kd.R_drewN | apply Kd.R_drew)); exact Kd.R_mono (Kd.R_far (p := ⟨gb284, 0, none⟩) (Kd.R_types HO278.out BK284.out (by decide)) (fun _ hk => hk.2) (.slice Ao19 t281.length co19)) (fun _ hk => hk.1.2)))⟩; have n1_ : Aside0 (Kd.R k34 34 w23 w.heap.size (fun k_ => some k_ ≠ (.slice Ao16 t276.length co16 : Value).ownBlock) (.slice Ao19 t281.length co19) t281) := ⟨(by rw [hw]; exact (by (with_reducible repeat (first | apply Kd.R_alloc | apply Kd.R_drewN | apply Kd.R_drew)); exact Kd.R_mono (Kd.R_far (p := ⟨gb284, 0, none⟩) (Kd.R_types HO283.out BK284.out (by decide)) (fun _ hk => hk.2) (.slice Ao19 t281.length co19)) (fun _ hk => hk.1.2)))⟩; have n2_ : Aside0 (w23.heap[gb269]? = some (.cells #[.slice none 0 0] 26 (0, 0))) := ⟨(by rw [hw]; exact (by (with_reducible repeat (first | refine blk_drewN ?_ _ | refine blk_drew ?_ | refine blk_alloc ?_ _)); refine blk_far ?_ NB269_284.out _; exact bl BK269.out))⟩; have n3_ : Aside0 (w23.heap[gb284]? = some (.cells #[.slice Ao19 t281.length co19] 26 (0, 0))) := ⟨(by rw [hw]; exact (by (with_reducible repeat (first | refine blk_drewN ?_ _ | refine blk_drew ?_ | refine blk_alloc ?_ _)); refine blk_put (cs := #[.slice none 0 0]) ?_ 0 _ rfl; exact bl BK284.out))⟩; have n4_ : Aside0 (IsS119 w0 w23 g s0_0 t279 t280) := ⟨(by rw [hw]; exact (i9 HI0.out))⟩; have n5_ : Aside0 (KeepBut w w23 g none) := ⟨(by rw [hw]; exact (kp HK.out))⟩; have n6_ : Aside0 (Below w0.heap.size w0 w23) := ⟨(by rw [hw]; exact (b9 HB.out))⟩; clear hw HO278 HO283 BK269 BK284 HI0 HK HB; have HO278 := n0_; have HO283 := n1_; have BK269 := n2_; have BK284 := n3_; have HI0 := n4_; have HK := n5_; have HB := n6_; clear n0_ n1_ n2_ n3_ n4_ n5_ n6_; have hcz24_0 : w23.cell? ⟨gb284, 0, none⟩ = some (.slice Ao19 t281.length co19) := (blk_cell BK284.out 0).trans rfl; have hfz24_0 := blk_frozen BK284.out 0; have p11 : 0 ≤ ((ji8) : Int) := oda; have q11 : ((ji8) : Int) < ((t281.length : Int) : Int) := oda; obtain ⟨go11, co11, eo11, gb11, gl11, cl11, HG11⟩ := Kd.R_form HO283.out (by omega); (first | cases eo11 | (injection eo11 with ea_ en_ ec_; (first | subst ea_ | (injection ea_ with ea_; subst ea_)); subst ec_; clear en_)); have GB11 := Aside0.mk gb11; have GG11 := Aside0.mk HG11; clear gb11 gl11 HG11; obtain ⟨ce11, hcl11, hM11, hcc11, hfr11⟩ := Kd.R_elem HO283.out z34 ((ji8) : Int) p11 q11; obtain rfl := k34_openM hM11; have hx11_0 : w23.cell? ⟨go11, ((ji8) : Int).toNat * 4, none⟩ = some (.int .i64 ((rd_T34 t281 (ji8)).f0)) := hcc11 0 _ rfl; have hx11_1 : w23.cell? ⟨go11, ((ji8) : Int).toNat * 4 + 1, none⟩ = some (.int .i64 ((rd_T34 t281 (ji8)).f1)) := hcc11 1 _ rfl; have hx11_2 : w23.cell? ⟨go11, ((ji8) : Int).toNat * 4 + 2, none⟩ = some (.int .i64 ((rd_T34 t281 (ji8)).f2)) := hcc11 2 _ rfl; have hx11_3 : w23.cell? ⟨go11, ((ji8) : Int).toNat * 4 + 3, none⟩ = some (.int .i64 ((rd_T34 t281 (ji8)).f3)) := hcc11 3 _ rfl; have hf11_0 : w23.frozen? ⟨go11, ((ji8) : Int).toNat * 4, none⟩ = false := hfr11 0; have hf11_1 : w23.frozen? ⟨go11, ((ji8) : Int).toNat * 4 + 1, none⟩ = false := hfr11 1; have hf11_2 : w23.frozen? ⟨go11, ((ji8) : Int).toNat * 4 + 2, none⟩ = false := hfr11 2; have hf11_3 : w23.frozen? ⟨go11, ((ji8) : Int).toNat * 4 + 3, none⟩ = false := hfr11 3; clear hcl11 hcc11 hfr11 hM11; replace p11 := eq_true p11; replace q11 := eq_true q11; have HX25 := Aside0.mk (show Kd.R k34 34 w23 w.heap.size (fun k_ => some k_ ≠ (.slice Ao16 t276.length co16 : Value).ownBlock) (.slice (some ⟨go11, 0, none⟩) t281.length co19) t281 from (rl HO283.out)); obtain ⟨ce25, hcl25, hM25, hcc25, hfr25⟩ := Kd.R_elem HX25.out z34 ((ji8) : Int) (oda) (by have h_ : ((ji8) : Int) < ((t281.length : Int) : Int) := oda; first | exact h_ | (have e_ := (Kd.R_reads' HO283.out).1; omega) | simpa using h_); obtain rfl := k34_openM hM25; have HP25 := Kd.R_seg HX25.out ((ji8) : Int) (oda) (by have h_ : ((ji8) : Int) < ((t281.length : Int) : Int) := oda; first | exact h_ | (have e_ := (Kd.R_reads' HO283.out).1; omega) | simpa using h_) (seg := [.int .i64 (Int.tmod t273 11)]) (j := 0) hcl25 hcc25 (show 1 ≤ 4 from by decide) (x' := (⟨Int.tmod t273 11, (rd_T34 t281 (ji8)).f1, (rd_T34 t281 (ji8)).f2, (rd_T34 t281 (ji8)).f3⟩ : S34)) (k34_mkM _ _ _ (⟨Int.tmod t273 11, (rd_T34 t281 (ji8)).f1, (rd_T34 t281 (ji8)).f2, (rd_T34 t281 (ji8)).f3⟩ : S34) ) (fun _ hk => hk); have hx25_0 := hcc25 0 _ rfl; (try simp only [show (k34).sz = 4 from rfl, Nat.mul_one, Nat.add_zero] at hx25_0); have hf25_0 := hfr25 0; (try simp only [show (k34).sz = 4 from rfl, Nat.mul_one, Nat.add_zero] at hf25_0); clear hcl25 hcc25 hfr25 hM25) | ((with_reducible refine gate_store (t := 3) (p := 28) rfl ?_); refine store_event (t := 3) (p := 28) (v := ?vo_w26) (w1 := (w23.setCell ⟨go11, ((ji8) : Int).toNat * 4, none⟩ (.int .i64 (Int.tmod t273 11)))) ?hg ?ho ?hn ?hr ?_; (case ho => rfl); (case hg => rfl); (case hn => rfl); (case hr => first | (go_simp; done) | (go_simp; rfl)); intro w26 hw; have hg : w23.grownBy w26 (some go11) := (by rw [hw]; exact HP25.2); have hp_ : Kd.R k34 34 w26 w.heap.size (fun k_ => some k_ ≠ (.slice Ao16 t276.length co16 : Value).ownBlock) (.slice (some ⟨go11, 0, none⟩) t281.length co19) y285 := (by rw [hw, Ny285.out]; exact HP25.1); clear HP25; have n0_ := Aside0.mk (IsS119.grown (i9 HI0.out) hg (IsS119.own_ne HI0.out HO283.out (by decide))); have n1_ := Aside0.mk (blk_grown (g := gb269) (o := .cells #[.slice none 0 0] 26 (0, 0)) (bl BK269.out) hg (Kd.R_ne HO283.out BK269.out (by decide))); have n2_ := Aside0.mk (Kd.R_after (v := (.slice (some ⟨go11, 0, none⟩) t281.length co19)) (v1 := (.slice (some ⟨go11, 0, none⟩) t281.length co19)) (ok := (fun _ => True)) (by (with_reducible repeat (first | apply Kd.R_alloc | apply Kd.R_drewN | apply Kd.R_drew)); exact Kd.R_mono HO278.out (fun _ hk => ⟨trivial, hk⟩)) hg (.inl rfl)); have n3_ := Aside0.mk (hp_); have n4_ := Aside0.mk (blk_grown (g := gb284) (o := .cells #[.slice (some ⟨go11, 0, none⟩) t281.length co19] 26 (0, 0)) (bl BK284.out) hg (Kd.R_ne HO283.out BK284.out (by decide))); have n5_ := Aside0.mk ((by rw [hw]; exact below_set (HB.out) (Nat.le_trans HL.out GB11.out) : Below w0.heap.size w0 w26)); have n6_ := Aside0.mk (KeepBut.trans (kp HK.out) (KeepBut.of_grown hg g) (Kd.R_base2 HO283.out)); clear HI0 BK269 HO278 HO283 BK284 HB HK; have HI0 := n0_; have BK269 := n1_; have HO278 := n2_; have HO283 := n3_; have BK284 := n4_; have HB := n5_; have HK := n6_; clear n0_ n1_ n2_ n3_ n4_ n5_ n6_ hg hw hp_; have hcz27_0 : w26.cell? ⟨gb284, 0, none⟩ = some (.slice (some ⟨go11, 0, none⟩) t281.length co19) := (blk_cell BK284.out 0).trans rfl; have hfz27_0 := blk_frozen BK284.out 0; have hnb28 := NB269_0.out; have hnc28 := NB0_269.out; have hcz29_0 : w26.cell? ⟨gb269, 0, none⟩ = some (.slice none 0 0) := (blk_cell BK269.out 0).trans rfl; have hfz29_0 := blk_frozen BK269.out 0))
     refine bodyPost_ret (results_cell_row rfl _ _ gb269 26 #[.slice (some ⟨go11, 0, none⟩) t281.length co19] (0, 0) _ rfl (by (with_reducible repeat (first | refine blk_drewN ?_ _ | refine blk_drew ?_ | refine blk_alloc ?_ _)); refine blk_put (cs := #[.slice none 0 0]) ?_ 0 _ rfl; exact bl BK269.out) Try.underlying26 rfl (by kernel_rfl)) rfl ?_
     exact ⟨_, by first | rfl | (simp [errW_none, errW_some] <;> rfl) | (simp only [← hji8]; first | rfl | (simp [errW_none, errW_some] <;> rfl)) | (simp [*, errW_none, errW_some] <;> rfl), by (with_reducible repeat (first | apply Kd.R_alloc | apply Kd.R_drewN | apply Kd.R_drew)); exact Kd.R_mono (Kd.R_far (p := ⟨gb269, 0, none⟩) (Kd.R_types HO283.out BK269.out (by decide)) (fun _ hk => hk.2) (.slice (some ⟨go11, 0, none⟩) t281.length co19)) (fun _ hk => trivial), i9 HI0.out, b9 HB.out, kp HK.out⟩
    ·rw [if_neg c10] at H
     exact absurd H (by simp)
   ·rw [if_neg c9] at H
    exact absurd H (by simp)
  ·rw [if_neg c7] at H
   have c7b0 : (t270 == 0) = false := beq_eq_false_iff_ne.mpr c7
   have c7b1 : (t270 != 0) = true := bne_iff_ne.mpr c7
   by_cases c30 : t270 = 1
   ·rw [if_pos c30] at H
    have c30b0 : (t270 == 1) = true := beq_iff_eq.mpr c30
    have c30b1 : (t270 != 1) = false := bne_eq_false_iff_eq.mpr c30
    clear c30
    obtain ⟨ji31, hji31⟩ : ∃ j_ : Int, (Int.tmod t273 (t281.length : Int)) = j_ := ⟨_, rfl⟩
    replace H : (if 0 ≤ (ji31) then (if (ji31) < (t281.length : Int) then (some ((t281.set ((ji31) : Int).toNat (⟨(rd_T34 t281 (ji31)).f0, (rd_T34 t281 (ji31)).f1, wrap64 ((Int.tmod t273 9) - 1), (rd_T34 t281 (ji31)).f3⟩ : S34)), t279, t280)) else (none)) else (none)) = some (r1, r2, r3) := by first | (rw [hji31] at H; exact H) | (simp only [hji31] at H ⊢; exact H)
    (try rw [hji31] at A2)
    (try rw [hji31] at A3)
    (try rw [hji31] at A4)
    (try rw [hji31] at A5)
    by_cases c32 : 0 ≤ (ji31)
    ·rw [if_pos c32] at H
     have c32b0 : decide (0 ≤ (ji31)) = true := decide_eq_true c32
     clear c32
     by_cases c33 : (ji31) < (t281.length : Int)
     ·rw [if_pos c33] at H
      have c33b0 : decide ((ji31) < (t281.length : Int)) = true := decide_eq_true c33
      clear c33
      obtain ⟨y286, hy286⟩ : ∃ y_ : List (S34), y_ = (t281.set ((ji31) : Int).toNat (⟨(rd_T34 t281 (ji31)).f0, (rd_T34 t281 (ji31)).f1, wrap64 ((Int.tmod t273 9) - 1), (rd_T34 t281 (ji31)).f3⟩ : S34)) := ⟨_, rfl⟩
      replace H : (some (y286, t279, t280)) = some (r1, r2, r3) := by first | (rw [hy286]; with_reducible exact H) | (have H2_ := (Option.bind_some _ _).symm.trans H; rw [hy286]; with_reducible exact H2_) | (have H2_ := (Option.bind_some _ _).symm.trans H; with_reducible exact H2_) | with_reducible exact H | (rw [hy286]; exact H) | exact H
      have Ny286 := Aside0.mk hy286
      clear hy286
      simp only [Option.some.injEq, Prod.mk.injEq] at H
      obtain ⟨rfl, rfl, rfl⟩ := H
      go_enter Try.func76, Try.ntmps76
      go_wp2_with (first | ((with_reducible refine gate_dst (N := 2) rfl ?_); refine box_event ?hg (N := 2) ?hd (cs := #[.slice none 0 0]) (t := 26) ?hr ?_; (case hd => rfl); (case hg => rfl); (case hr => first | (go_simp; done) | (go_simp; rfl)); intro gb269 hg w35 hbox hb; have n0_ := Aside0.mk (IsS119.below (i9 HI0.out) hb); have n1_ := Aside0.mk (KeepBut.trans (kp HK.out) (KeepBut.of_below hb g none) (.inl rfl)); have n2_ := Aside0.mk (below_step (b9 HB.out) hb); have n3_ := Aside0.mk (hbox); have n4_ := Aside0.mk ((by rw [hg]; exact (keep_size (w := w) (g := g) (row := none) (kp HK.out)) : w.heap.size ≤ gb269)); have n5_ := Aside0.mk ((Nat.le_trans HW0.out (by rw [hg]; exact (keep_size (w := w) (g := g) (row := none) (kp HK.out)) : w.heap.size ≤ gb269) : w0.heap.size ≤ gb269)); have n6_ := Aside0.mk ((by rw [hg]; exact Nat.ne_of_lt (IsS119.lt (show IsS119 w0 _ g s0_0 s0_1 s0_2 from i9 HI0.out)) : g ≠ gb269)); have n7_ := Aside0.mk ((by rw [hg]; exact Nat.ne_of_gt (IsS119.lt (show IsS119 w0 _ g s0_0 s0_1 s0_2 from i9 HI0.out)) : gb269 ≠ g)); clear HI0 HK HB; have HI0 := n0_; have HK := n1_; have HB := n2_; have BK269 := n3_; have GW269 := n4_; have GE269 := n5_; have NB0_269 := n6_; have NB269_0 := n7_; clear n0_ n1_ n2_ n3_ n4_ n5_ n6_ n7_ hb hbox hg) | ((with_reducible refine gate_callee (f := 70) rfl ?_); refine goesL_ (some 8) rfl rfl Try.func70 (by kernel_rfl) rfl #[.pointer (some ⟨g, 0, none⟩), .int .i64 12] rfl ar ?_; (with_reducible refine (spec_l01Below.calls g s0_0 s0_1 s0_2 12 t270 t271 t272 w0 _ ?side1 ?side2 A2.out).mono ?_); (case side1 => exact i9 HI0.out); (case side2 => exact b9 HB.out); rintro e w36 ⟨rfl, hi, hb, hk⟩; refine ⟨_, rfl, ?_⟩; have n0_ := Aside0.mk (KeepBut.blk hk (g' := gb269) (o := .cells #[.slice none 0 0] 26 (0, 0)) (bl BK269.out) NB269_0.out (by simp)); have n1_ := Aside0.mk (KeepBut.trans (kp HK.out) hk (.inl rfl)); have n2_ := Aside0.mk (hb); have n3_ := Aside0.mk (hi); clear BK269 HK HB HI0; have BK269 := n0_; have HK := n1_; have HB := n2_; have HI0 := n3_; clear n0_ n1_ n2_ n3_; (try clear hb); (try clear hb2); (try clear hk); (try clear hi)) | ((with_reducible refine gate_callee (f := 70) rfl ?_); refine goesL_ (some 10) rfl rfl Try.func70 (by kernel_rfl) rfl #[.pointer (some ⟨g, 0, none⟩), .int .i64 60] rfl ar ?_; (with_reducible refine (spec_l01Below.calls g s0_0 t271 t272 60 t273 t274 t275 w0 _ ?side1 ?side2 A3.out).mono ?_); (case side1 => exact i9 HI0.out); (case side2 => exact b9 HB.out); rintro e w37 ⟨rfl, hi, hb, hk⟩; refine ⟨_, rfl, ?_⟩; have n0_ := Aside0.mk (KeepBut.blk hk (g' := gb269) (o := .cells #[.slice none 0 0] 26 (0, 0)) (bl BK269.out) NB269_0.out (by simp)); have n1_ := Aside0.mk (KeepBut.trans (kp HK.out) hk (.inl rfl)); have n2_ := Aside0.mk (hb); have n3_ := Aside0.mk (hi); clear BK269 HK HB HI0; have BK269 := n0_; have HK := n1_; have HB := n2_; have HI0 := n3_; clear n0_ n1_ n2_ n3_; (try clear hb); (try clear hb2); (try clear hk); (try clear hi)) | ((with_reducible refine gate_callee (f := 69) rfl ?_); refine goesL_ (some 12) rfl rfl Try.func69 (by kernel_rfl) rfl #[.pointer (some ⟨g, 0, none⟩)] rfl ar ?_; (with_reducible refine (spec_l03Arena.calls g s0_0 t274 t275 t276 t279 t280 w0 _ ?side1 ?side2 A4.out).mono ?_); (case side1 => exact i9 HI0.out); (case side2 => exact b9 HB.out); rintro e w38 ⟨v277, rfl, ho0, hi, hb, hk⟩; refine ⟨_, rfl, ?_⟩; have n0_ := Aside0.mk (KeepBut.blk hk (g' := gb269) (o := .cells #[.slice none 0 0] 26 (0, 0)) (bl BK269.out) NB269_0.out (by simp)); have n1_ := Aside0.mk (Kd.R_lower ho0 (keep_size (w := w) (g := g) (row := none) (kp HK.out))); have n2_ := Aside0.mk (KeepBut.trans (kp HK.out) hk (.inl rfl)); have n3_ := Aside0.mk (hb); have n4_ := Aside0.mk (hi); clear BK269 HK HB HI0; have BK269 := n0_; have HO278 := n1_; have HK := n2_; have HB := n3_; have HI0 := n4_; clear n0_ n1_ n2_ n3_ n4_; (try clear hb); (try clear hb2); (try clear hk); (try clear hi); (try clear ho0); obtain ⟨Ao39, co39, eo39⟩ := Kd.R_slice HO278.out; subst eo39) | ((with_reducible refine gate_callee (f := 90) rfl ?_); refine goesL_ (some 13) rfl rfl Try.func90 (by kernel_rfl) rfl #[.agg #[.slice Ao39 t276.length co39]] rfl ar ?_; (with_reducible refine (spec_l03Copy.calls _ _ t276 t281 _ ?side1 ?side2 A5.out).mono ?_); (case side1 => exact cl (Kd.R_reads' HO278.out).2.2); (case side2 => exact (Kd.R_reads' HO278.out).2.1); rintro e w40 ⟨v282, rfl, ho0, hb⟩; refine ⟨_, rfl, ?_⟩; have n0_ := Aside0.mk (Kd.R_elder' (rl HO278.out) (Kd.R_base ho0) hb); have n1_ := Aside0.mk (Kd.R_lower (Kd.R_new' ho0 (Kd.R_lt (rl HO278.out))) (keep_size (w := w) (g := g) (row := none) (kp HK.out))); have n2_ := Aside0.mk (IsS119.below (i9 HI0.out) hb); have n3_ := Aside0.mk (blk_below (g := gb269) (o := .cells #[.slice none 0 0] 26 (0, 0)) (bl BK269.out) hb); have n4_ := Aside0.mk (KeepBut.trans (kp HK.out) (KeepBut.of_below hb g none) (.inl rfl)); have n5_ := Aside0.mk (below_step (b9 HB.out) hb); clear HO278 HI0 BK269 HK HB; have HO278 := n0_; have HO283 := n1_; have HI0 := n2_; have BK269 := n3_; have HK := n4_; have HB := n5_; clear n0_ n1_ n2_ n3_ n4_ n5_; (try clear hb); (try clear hb2); (try clear hk); (try clear hi); (try clear ho0)) | ((with_reducible refine gate_dst (N := 5) rfl ?_); refine box_event ?hg (N := 5) ?hd (cs := #[.slice none 0 0]) (t := 26) ?hr ?_; (case hd => rfl); (case hg => rfl); (case hr => first | (go_simp; done) | (go_simp; rfl)); intro gb284 hg w41 hbox hb; have n0_ := Aside0.mk (Kd.R_below (rl HO278.out) hb); have n1_ := Aside0.mk (Kd.R_below (rl HO283.out) hb); have n2_ := Aside0.mk (IsS119.below (i9 HI0.out) hb); have n3_ := Aside0.mk (blk_below (g := gb269) (o := .cells #[.slice none 0 0] 26 (0, 0)) (bl BK269.out) hb); have n4_ := Aside0.mk (KeepBut.trans (kp HK.out) (KeepBut.of_below hb g none) (.inl rfl)); have n5_ := Aside0.mk (below_step (b9 HB.out) hb); have n6_ := Aside0.mk (hbox); have n7_ := Aside0.mk ((by rw [hg]; exact (keep_size (w := w) (g := g) (row := none) (kp HK.out)) : w.heap.size ≤ gb284)); have n8_ := Aside0.mk ((Nat.le_trans HW0.out (by rw [hg]; exact (keep_size (w := w) (g := g) (row := none) (kp HK.out)) : w.heap.size ≤ gb284) : w0.heap.size ≤ gb284)); have n9_ := Aside0.mk ((by rw [hg]; exact Nat.ne_of_lt (blk_lt (g := gb269) (o := .cells #[.slice none 0 0] 26 (0, 0)) (bl BK269.out)) : gb269 ≠ gb284)); have n10_ := Aside0.mk ((by rw [hg]; exact Nat.ne_of_gt (blk_lt (g := gb269) (o := .cells #[.slice none 0 0] 26 (0, 0)) (bl BK269.out)) : gb284 ≠ gb269)); have n11_ := Aside0.mk ((by rw [hg]; exact Nat.ne_of_lt (IsS119.lt (show IsS119 w0 _ g s0_0 t279 t280 from i9 HI0.out)) : g ≠ gb284)); have n12_ := Aside0.mk ((by rw [hg]; exact Nat.ne_of_gt (IsS119.lt (show IsS119 w0 _ g s0_0 t279 t280 from i9 HI0.out)) : gb284 ≠ g)); clear HO278 HO283 HI0 BK269 HK HB; have HO278 := n0_; have HO283 := n1_; have HI0 := n2_; have BK269 := n3_; have HK := n4_; have HB := n5_; have BK284 := n6_; have GW284 := n7_; have GE284 := n8_; have NB269_284 := n9_; have NB284_269 := n10_; have NB0_284 := n11_; have NB284_0 := n12_; clear n0_ n1_ n2_ n3_ n4_ n5_ n6_ n7_ n8_ n9_ n10_ n11_ n12_ hb hbox hg; obtain ⟨Ao42, co42, eo42⟩ := Kd.R_slice HO283.out; subst eo42; have hnb43 := NB284_269.out; have hnc43 := NB269_284.out; have hnb44 := NB284_0.out; have hnc44 := NB0_284.out; have hcz45_0 : w41.cell? ⟨gb284, 0, none⟩ = some (.slice none 0 0) := (blk_cell BK284.out 0).trans rfl; have hfz45_0 := blk_frozen BK284.out 0) | ((with_reducible refine gate_store (t := 26) (p := 5) rfl ?_); refine store_event (t := 26) (p := 5) (v := ?vo_w46) (w1 := (w41.setCell ⟨gb284, 0, none⟩ (.slice Ao42 t281.length co42))) ?hg ?ho ?hn ?hr ?_; (case ho => rfl); (case hg => rfl); (case hn => rfl); (case hr => first | (go_simp; done) | (go_simp; rfl)); intro w46 hw; have n0_ : Aside0 (Kd.R k34 34 w46 w.heap.size (fun k_ => some k_ ≠ (.slice Ao42 t281.length co42 : Value).ownBlock) (.slice Ao39 t276.length co39) t276) := ⟨(by rw [hw]; exact (by (with_reducible repeat (first | apply Kd.R_alloc | apply Kd.R_drewN | apply Kd.R_drew)); exact Kd.R_mono (Kd.R_far (p := ⟨gb284, 0, none⟩) (Kd.R_types HO278.out BK284.out (by decide)) (fun _ hk => hk.2) (.slice Ao42 t281.length co42)) (fun _ hk => hk.1.2)))⟩; have n1_ : Aside0 (Kd.R k34 34 w46 w.heap.size (fun k_ => some k_ ≠ (.slice Ao39 t276.length co39 : Value).ownBlock) (.slice Ao42 t281.length co42) t281) := ⟨(by rw [hw]; exact (by (with_reducible repeat (first | apply Kd.R_alloc | apply Kd.R_drewN | apply Kd.R_drew)); exact Kd.R_mono (Kd.R_far (p := ⟨gb284, 0, none⟩) (Kd.R_types HO283.out BK284.out (by decide)) (fun _ hk => hk.2) (.slice Ao42 t281.length co42)) (fun _ hk => hk.1.2)))⟩; have n2_ : Aside0 (w46.heap[gb269]? = some (.cells #[.slice none 0 0] 26 (0, 0))) := ⟨(by rw [hw]; exact (by (with_reducible repeat (first | refine blk_drewN ?_ _ | refine blk_drew ?_ | refine blk_alloc ?_ _)); refine blk_far ?_ NB269_284.out _; exact bl BK269.out))⟩; have n3_ : Aside0 (w46.heap[gb284]? = some (.cells #[.slice Ao42 t281.length co42] 26 (0, 0))) := ⟨(by rw [hw]; exact (by (with_reducible repeat (first | refine blk_drewN ?_ _ | refine blk_drew ?_ | refine blk_alloc ?_ _)); refine blk_put (cs := #[.slice none 0 0]) ?_ 0 _ rfl; exact bl BK284.out))⟩; have n4_ : Aside0 (IsS119 w0 w46 g s0_0 t279 t280) := ⟨(by rw [hw]; exact (i9 HI0.out))⟩; have n5_ : Aside0 (KeepBut w w46 g none) := ⟨(by rw [hw]; exact (kp HK.out))⟩; have n6_ : Aside0 (Below w0.heap.size w0 w46) := ⟨(by rw [hw]; exact (b9 HB.out))⟩; clear hw HO278 HO283 BK269 BK284 HI0 HK HB; have HO278 := n0_; have HO283 := n1_; have BK269 := n2_; have BK284 := n3_; have HI0 := n4_; have HK := n5_; have HB := n6_; clear n0_ n1_ n2_ n3_ n4_ n5_ n6_; have hcz47_0 : w46.cell? ⟨gb284, 0, none⟩ = some (.slice Ao42 t281.length co42) := (blk_cell BK284.out 0).trans rfl; have hfz47_0 := blk_frozen BK284.out 0; have p34 : 0 ≤ ((ji31) : Int) := oda; have q34 : ((ji31) : Int) < ((t281.length : Int) : Int) := oda; obtain ⟨go34, co34, eo34, gb34, gl34, cl34, HG34⟩ := Kd.R_form HO283.out (by omega); (first | cases eo34 | (injection eo34 with ea_ en_ ec_; (first | subst ea_ | (injection ea_ with ea_; subst ea_)); subst ec_; clear en_)); have GB34 := Aside0.mk gb34; have GG34 := Aside0.mk HG34; clear gb34 gl34 HG34; obtain ⟨ce34, hcl34, hM34, hcc34, hfr34⟩ := Kd.R_elem HO283.out z34 ((ji31) : Int) p34 q34; obtain rfl := k34_openM hM34; have hx34_0 : w46.cell? ⟨go34, ((ji31) : Int).toNat * 4, none⟩ = some (.int .i64 ((rd_T34 t281 (ji31)).f0)) := hcc34 0 _ rfl; have hx34_1 : w46.cell? ⟨go34, ((ji31) : Int).toNat * 4 + 1, none⟩ = some (.int .i64 ((rd_T34 t281 (ji31)).f1)) := hcc34 1 _ rfl; have hx34_2 : w46.cell? ⟨go34, ((ji31) : Int).toNat * 4 + 2, none⟩ = some (.int .i64 ((rd_T34 t281 (ji31)).f2)) := hcc34 2 _ rfl; have hx34_3 : w46.cell? ⟨go34, ((ji31) : Int).toNat * 4 + 3, none⟩ = some (.int .i64 ((rd_T34 t281 (ji31)).f3)) := hcc34 3 _ rfl; have hf34_0 : w46.frozen? ⟨go34, ((ji31) : Int).toNat * 4, none⟩ = false := hfr34 0; have hf34_1 : w46.frozen? ⟨go34, ((ji31) : Int).toNat * 4 + 1, none⟩ = false := hfr34 1; have hf34_2 : w46.frozen? ⟨go34, ((ji31) : Int).toNat * 4 + 2, none⟩ = false := hfr34 2; have hf34_3 : w46.frozen? ⟨go34, ((ji31) : Int).toNat * 4 + 3, none⟩ = false := hfr34 3; clear hcl34 hcc34 hfr34 hM34; replace p34 := eq_true p34; replace q34 := eq_true q34; have HX48 := Aside0.mk (show Kd.R k34 34 w46 w.heap.size (fun k_ => some k_ ≠ (.slice Ao39 t276.length co39 : Value).ownBlock) (.slice (some ⟨go34, 0, none⟩) t281.length co42) t281 from (rl HO283.out)); obtain ⟨ce48, hcl48, hM48, hcc48, hfr48⟩ := Kd.R_elem HX48.out z34 ((ji31) : Int) (oda) (by have h_ : ((ji31) : Int) < ((t281.length : Int) : Int) := oda; first | exact h_ | (have e_ := (Kd.R_reads' HO283.out).1; omega) | simpa using h_); obtain rfl := k34_openM hM48; have HP48 := Kd.R_seg HX48.out ((ji31) : Int) (oda) (by have h_ : ((ji31) : Int) < ((t281.length : Int) : Int) := oda; first | exact h_ | (have e_ := (Kd.R_reads' HO283.out).1; omega) | simpa using h_) (seg := [.int .i64 (wrap64 ((Int.tmod t273 9) - 1))]) (j := 2) hcl48 hcc48 (show 3 ≤ 4 from by decide) (x' := (⟨(rd_T34 t281 (ji31)).f0, (rd_T34 t281 (ji31)).f1, wrap64 ((Int.tmod t273 9) - 1), (rd_T34 t281 (ji31)).f3⟩ : S34)) (k34_mkM _ _ _ (⟨(rd_T34 t281 (ji31)).f0, (rd_T34 t281 (ji31)).f1, wrap64 ((Int.tmod t273 9) - 1), (rd_T34 t281 (ji31)).f3⟩ : S34) ) (fun _ hk => hk); have hx48_2 := hcc48 2 _ rfl; (try simp only [show (k34).sz = 4 from rfl, Nat.mul_one, Nat.add_zero] at hx48_2); have hf48_2 := hfr48 2; (try simp only [show (k34).sz = 4 from rfl, Nat.mul_one, Nat.add_zero] at hf48_2); clear hcl48 hcc48 hfr48 hM48) | ((with_reducible refine gate_store (t := 3) (p := 38) rfl ?_); refine store_event (t := 3) (p := 38) (v := ?vo_w49) (w1 := (w46.setCell ⟨go34, ((ji31) : Int).toNat * 4 + 2, none⟩ (.int .i64 (wrap64 ((Int.tmod t273 9) - 1))))) ?hg ?ho ?hn ?hr ?_; (case ho => rfl); (case hg => rfl); (case hn => rfl); (case hr => first | (go_simp; done) | (go_simp; rfl)); intro w49 hw; have hg : w46.grownBy w49 (some go34) := (by rw [hw]; exact HP48.2); have hp_ : Kd.R k34 34 w49 w.heap.size (fun k_ => some k_ ≠ (.slice Ao39 t276.length co39 : Value).ownBlock) (.slice (some ⟨go34, 0, none⟩) t281.length co42) y286 := (by rw [hw, Ny286.out]; exact HP48.1); clear HP48; have n0_ := Aside0.mk (IsS119.grown (i9 HI0.out) hg (IsS119.own_ne HI0.out HO283.out (by decide))); have n1_ := Aside0.mk (blk_grown (g := gb269) (o := .cells #[.slice none 0 0] 26 (0, 0)) (bl BK269.out) hg (Kd.R_ne HO283.out BK269.out (by decide))); have n2_ := Aside0.mk (Kd.R_after (v := (.slice (some ⟨go34, 0, none⟩) t281.length co42)) (v1 := (.slice (some ⟨go34, 0, none⟩) t281.length co42)) (ok := (fun _ => True)) (by (with_reducible repeat (first | apply Kd.R_alloc | apply Kd.R_drewN | apply Kd.R_drew)); exact Kd.R_mono HO278.out (fun _ hk => ⟨trivial, hk⟩)) hg (.inl rfl)); have n3_ := Aside0.mk (hp_); have n4_ := Aside0.mk (blk_grown (g := gb284) (o := .cells #[.slice (some ⟨go34, 0, none⟩) t281.length co42] 26 (0, 0)) (bl BK284.out) hg (Kd.R_ne HO283.out BK284.out (by decide))); have n5_ := Aside0.mk ((by rw [hw]; exact below_set (HB.out) (Nat.le_trans HL.out GB34.out) : Below w0.heap.size w0 w49)); have n6_ := Aside0.mk (KeepBut.trans (kp HK.out) (KeepBut.of_grown hg g) (Kd.R_base2 HO283.out)); clear HI0 BK269 HO278 HO283 BK284 HB HK; have HI0 := n0_; have BK269 := n1_; have HO278 := n2_; have HO283 := n3_; have BK284 := n4_; have HB := n5_; have HK := n6_; clear n0_ n1_ n2_ n3_ n4_ n5_ n6_ hg hw hp_; have hcz50_0 : w49.cell? ⟨gb284, 0, none⟩ = some (.slice (some ⟨go34, 0, none⟩) t281.length co42) := (blk_cell BK284.out 0).trans rfl; have hfz50_0 := blk_frozen BK284.out 0; have hnb51 := NB269_0.out; have hnc51 := NB0_269.out; have hcz52_0 : w49.cell? ⟨gb269, 0, none⟩ = some (.slice none 0 0) := (blk_cell BK269.out 0).trans rfl; have hfz52_0 := blk_frozen BK269.out 0))
      refine bodyPost_ret (results_cell_row rfl _ _ gb269 26 #[.slice (some ⟨go34, 0, none⟩) t281.length co42] (0, 0) _ rfl (by (with_reducible repeat (first | refine blk_drewN ?_ _ | refine blk_drew ?_ | refine blk_alloc ?_ _)); refine blk_put (cs := #[.slice none 0 0]) ?_ 0 _ rfl; exact bl BK269.out) Try.underlying26 rfl (by kernel_rfl)) rfl ?_
      exact ⟨_, by first | rfl | (simp [errW_none, errW_some] <;> rfl) | (simp only [← hji31]; first | rfl | (simp [errW_none, errW_some] <;> rfl)) | (simp [*, errW_none, errW_some] <;> rfl), by (with_reducible repeat (first | apply Kd.R_alloc | apply Kd.R_drewN | apply Kd.R_drew)); exact Kd.R_mono (Kd.R_far (p := ⟨gb269, 0, none⟩) (Kd.R_types HO283.out BK269.out (by decide)) (fun _ hk => hk.2) (.slice (some ⟨go34, 0, none⟩) t281.length co42)) (fun _ hk => trivial), i9 HI0.out, b9 HB.out, kp HK.out⟩
     ·rw [if_neg c33] at H
      exact absurd H (by simp)
    ·rw [if_neg c32] at H
     exact absurd H (by simp)
   ·rw [if_neg c30] at H
    have c30b0 : (t270 == 1) = false := beq_eq_false_iff_ne.mpr c30
    have c30b1 : (t270 != 1) = true := bne_iff_ne.mpr c30
    by_cases c53 : t270 = 2
    ·rw [if_pos c53] at H
     have c53b0 : (t270 == 2) = true := beq_iff_eq.mpr c53
     have c53b1 : (t270 != 2) = false := bne_eq_false_iff_eq.mpr c53
     clear c53
     obtain ⟨y287, hy287⟩ : ∃ y_ : List Int, y_ = (([(-1), 5, 1000000] : List Int)) := ⟨_, rfl⟩
     replace H : (if 0 ≤ (Int.tmod t273 3) then (if (Int.tmod t273 3) < (y287.length : Int) then (if 0 ≤ (Int.tmod t273 (t281.length : Int)) then (if (Int.tmod t273 (t281.length : Int)) < (t281.length : Int) then (some ((t281.set ((Int.tmod t273 (t281.length : Int)) : Int).toNat (⟨(rd_T34 t281 (Int.tmod t273 (t281.length : Int))).f0, rd y287 (Int.tmod t273 3), (rd_T34 t281 (Int.tmod t273 (t281.length : Int))).f2, (rd_T34 t281 (Int.tmod t273 (t281.length : Int))).f3⟩ : S34)), t279, t280)) else (none)) else (none)) else (none)) else (none)) = some (r1, r2, r3) := by first | (rw [hy287]; with_reducible exact H) | (have H2_ := (Option.bind_some _ _).symm.trans H; rw [hy287]; with_reducible exact H2_) | (have H2_ := (Option.bind_some _ _).symm.trans H; with_reducible exact H2_) | with_reducible exact H | (rw [hy287]; exact H) | exact H
     have Ny287 := Aside0.mk hy287
     clear hy287
     obtain ⟨ji54, hji54⟩ : ∃ j_ : Int, (Int.tmod t273 3) = j_ := ⟨_, rfl⟩
     replace H : (if 0 ≤ (ji54) then (if (ji54) < (y287.length : Int) then (if 0 ≤ (Int.tmod t273 (t281.length : Int)) then (if (Int.tmod t273 (t281.length : Int)) < (t281.length : Int) then (some ((t281.set ((Int.tmod t273 (t281.length : Int)) : Int).toNat (⟨(rd_T34 t281 (Int.tmod t273 (t281.length : Int))).f0, rd y287 (ji54), (rd_T34 t281 (Int.tmod t273 (t281.length : Int))).f2, (rd_T34 t281 (Int.tmod t273 (t281.length : Int))).f3⟩ : S34)), t279, t280)) else (none)) else (none)) else (none)) else (none)) = some (r1, r2, r3) := by first | (rw [hji54] at H; exact H) | (simp only [hji54] at H ⊢; exact H)
     (try rw [hji54] at A2)
     (try rw [hji54] at A3)
     (try rw [hji54] at A4)
     (try rw [hji54] at A5)
     by_cases c55 : 0 ≤ (ji54)
     ·rw [if_pos c55] at H
      have c55b0 : decide (0 ≤ (ji54)) = true := decide_eq_true c55
      clear c55
      by_cases c56 : (ji54) < (y287.length : Int)
      ·rw [if_pos c56] at H
       have c56b0 : decide ((ji54) < (y287.length : Int)) = true := decide_eq_true c56
       clear c56
       obtain ⟨ji57, hji57⟩ : ∃ j_ : Int, (Int.tmod t273 (t281.length : Int)) = j_ := ⟨_, rfl⟩
       replace H : (if 0 ≤ (ji57) then (if (ji57) < (t281.length : Int) then (some ((t281.set ((ji57) : Int).toNat (⟨(rd_T34 t281 (ji57)).f0, rd y287 (ji54), (rd_T34 t281 (ji57)).f2, (rd_T34 t281 (ji57)).f3⟩ : S34)), t279, t280)) else (none)) else (none)) = some (r1, r2, r3) := by first | (rw [hji57] at H; exact H) | (simp only [hji57] at H ⊢; exact H)
       (try rw [hji57] at A2)
       (try rw [hji57] at A3)
       (try rw [hji57] at A4)
       (try rw [hji57] at A5)
       by_cases c58 : 0 ≤ (ji57)
       ·rw [if_pos c58] at H
        have c58b0 : decide (0 ≤ (ji57)) = true := decide_eq_true c58
        clear c58
        by_cases c59 : (ji57) < (t281.length : Int)
        ·rw [if_pos c59] at H
         have c59b0 : decide ((ji57) < (t281.length : Int)) = true := decide_eq_true c59
         clear c59
         obtain ⟨y291, hy291⟩ : ∃ y_ : List (S34), y_ = (t281.set ((ji57) : Int).toNat (⟨(rd_T34 t281 (ji57)).f0, rd y287 (ji54), (rd_T34 t281 (ji57)).f2, (rd_T34 t281 (ji57)).f3⟩ : S34)) := ⟨_, rfl⟩
         replace H : (some (y291, t279, t280)) = some (r1, r2, r3) := by first | (rw [hy291]; with_reducible exact H) | (have H2_ := (Option.bind_some _ _).symm.trans H; rw [hy291]; with_reducible exact H2_) | (have H2_ := (Option.bind_some _ _).symm.trans H; with_reducible exact H2_) | with_reducible exact H | (rw [hy291]; exact H) | exact H
         have Ny291 := Aside0.mk hy291
         clear hy291
         simp only [Option.some.injEq, Prod.mk.injEq] at H
         obtain ⟨rfl, rfl, rfl⟩ := H
         go_enter Try.func76, Try.ntmps76
         try go_wp2_with (first | ((with_reducible refine gate_dst (N := 2) rfl ?_); refine box_event ?hg (N := 2) ?hd (cs := #[.slice none 0 0]) (t := 26) ?hr ?_; (case hd => rfl); (case hg => rfl); (case hr => first | (go_simp; done) | (go_simp; rfl)); intro gb269 hg w61 hbox hb; have n0_ := Aside0.mk (IsS119.below (i9 HI0.out) hb); have n1_ := Aside0.mk (KeepBut.trans (kp HK.out) (KeepBut.of_below hb g none) (.inl rfl)); have n2_ := Aside0.mk (below_step (b9 HB.out) hb); have n3_ := Aside0.mk (hbox); have n4_ := Aside0.mk ((by rw [hg]; exact (keep_size (w := w) (g := g) (row := none) (kp HK.out)) : w.heap.size ≤ gb269)); have n5_ := Aside0.mk ((Nat.le_trans HW0.out (by rw [hg]; exact (keep_size (w := w) (g := g) (row := none) (kp HK.out)) : w.heap.size ≤ gb269) : w0.heap.size ≤ gb269)); have n6_ := Aside0.mk ((by rw [hg]; exact Nat.ne_of_lt (IsS119.lt (show IsS119 w0 _ g s0_0 s0_1 s0_2 from i9 HI0.out)) : g ≠ gb269)); have n7_ := Aside0.mk ((by rw [hg]; exact Nat.ne_of_gt (IsS119.lt (show IsS119 w0 _ g s0_0 s0_1 s0_2 from i9 HI0.out)) : gb269 ≠ g)); clear HI0 HK HB; have HI0 := n0_; have HK := n1_; have HB := n2_; have BK269 := n3_; have GW269 := n4_; have GE269 := n5_; have NB0_269 := n6_; have NB269_0 := n7_; clear n0_ n1_ n2_ n3_ n4_ n5_ n6_ n7_ hb hbox hg) | ((with_reducible refine gate_callee (f := 70) rfl ?_); refine goesL_ (some 8) rfl rfl Try.func70 (by kernel_rfl) rfl #[.pointer (some ⟨g, 0, none⟩), .int .i64 12] rfl ar ?_; (with_reducible refine (spec_l01Below.calls g s0_0 s0_1 s0_2 12 t270 t271 t272 w0 _ ?side1 ?side2 A2.out).mono ?_); (case side1 => exact i9 HI0.out); (case side2 => exact b9 HB.out); rintro e w62 ⟨rfl, hi, hb, hk⟩; refine ⟨_, rfl, ?_⟩; have n0_ := Aside0.mk (KeepBut.blk hk (g' := gb269) (o := .cells #[.slice none 0 0] 26 (0, 0)) (bl BK269.out) NB269_0.out (by simp)); have n1_ := Aside0.mk (KeepBut.trans (kp HK.out) hk (.inl rfl)); have n2_ := Aside0.mk (hb); have n3_ := Aside0.mk (hi); clear BK269 HK HB HI0; have BK269 := n0_; have HK := n1_; have HB := n2_; have HI0 := n3_; clear n0_ n1_ n2_ n3_; (try clear hb); (try clear hb2); (try clear hk); (try clear hi)) | ((with_reducible refine gate_callee (f := 70) rfl ?_); refine goesL_ (some 10) rfl rfl Try.func70 (by kernel_rfl) rfl #[.pointer (some ⟨g, 0, none⟩), .int .i64 60] rfl ar ?_; (with_reducible refine (spec_l01Below.calls g s0_0 t271 t272 60 t273 t274 t275 w0 _ ?side1 ?side2 A3.out).mono ?_); (case side1 => exact i9 HI0.out); (case side2 => exact b9 HB.out); rintro e w63 ⟨rfl, hi, hb, hk⟩; refine ⟨_, rfl, ?_⟩; have n0_ := Aside0.mk (KeepBut.blk hk (g' := gb269) (o := .cells #[.slice none 0 0] 26 (0, 0)) (bl BK269.out) NB269_0.out (by simp)); have n1_ := Aside0.mk (KeepBut.trans (kp HK.out) hk (.inl rfl)); have n2_ := Aside0.mk (hb); have n3_ := Aside0.mk (hi); clear BK269 HK HB HI0; have BK269 := n0_; have HK := n1_; have HB := n2_; have HI0 := n3_; clear n0_ n1_ n2_ n3_; (try clear hb); (try clear hb2); (try clear hk); (try clear hi)) | ((with_reducible refine gate_callee (f := 69) rfl ?_); refine goesL_ (some 12) rfl rfl Try.func69 (by kernel_rfl) rfl #[.pointer (some ⟨g, 0, none⟩)] rfl ar ?_; (with_reducible refine (spec_l03Arena.calls g s0_0 t274 t275 t276 t279 t280 w0 _ ?side1 ?side2 A4.out).mono ?_); (case side1 => exact i9 HI0.out); (case side2 => exact b9 HB.out); rintro e w64 ⟨v277, rfl, ho0, hi, hb, hk⟩; refine ⟨_, rfl, ?_⟩; have n0_ := Aside0.mk (KeepBut.blk hk (g' := gb269) (o := .cells #[.slice none 0 0] 26 (0, 0)) (bl BK269.out) NB269_0.out (by simp)); have n1_ := Aside0.mk (Kd.R_lower ho0 (keep_size (w := w) (g := g) (row := none) (kp HK.out))); have n2_ := Aside0.mk (KeepBut.trans (kp HK.out) hk (.inl rfl)); have n3_ := Aside0.mk (hb); have n4_ := Aside0.mk (hi); clear BK269 HK HB HI0; have BK269 := n0_; have HO278 := n1_; have HK := n2_; have HB := n3_; have HI0 := n4_; clear n0_ n1_ n2_ n3_ n4_; (try clear hb); (try clear hb2); (try clear hk); (try clear hi); (try clear ho0); obtain ⟨Ao65, co65, eo65⟩ := Kd.R_slice HO278.out; subst eo65) | ((with_reducible refine gate_callee (f := 90) rfl ?_); refine goesL_ (some 13) rfl rfl Try.func90 (by kernel_rfl) rfl #[.agg #[.slice Ao65 t276.length co65]] rfl ar ?_; (with_reducible refine (spec_l03Copy.calls _ _ t276 t281 _ ?side1 ?side2 A5.out).mono ?_); (case side1 => exact cl (Kd.R_reads' HO278.out).2.2); (case side2 => exact (Kd.R_reads' HO278.out).2.1); rintro e w66 ⟨v282, rfl, ho0, hb⟩; refine ⟨_, rfl, ?_⟩; have n0_ := Aside0.mk (Kd.R_elder' (rl HO278.out) (Kd.R_base ho0) hb); have n1_ := Aside0.mk (Kd.R_lower (Kd.R_new' ho0 (Kd.R_lt (rl HO278.out))) (keep_size (w := w) (g := g) (row := none) (kp HK.out))); have n2_ := Aside0.mk (IsS119.below (i9 HI0.out) hb); have n3_ := Aside0.mk (blk_below (g := gb269) (o := .cells #[.slice none 0 0] 26 (0, 0)) (bl BK269.out) hb); have n4_ := Aside0.mk (KeepBut.trans (kp HK.out) (KeepBut.of_below hb g none) (.inl rfl)); have n5_ := Aside0.mk (below_step (b9 HB.out) hb); clear HO278 HI0 BK269 HK HB; have HO278 := n0_; have HO283 := n1_; have HI0 := n2_; have BK269 := n3_; have HK := n4_; have HB := n5_; clear n0_ n1_ n2_ n3_ n4_ n5_; (try clear hb); (try clear hb2); (try clear hk); (try clear hi); (try clear ho0)) | ((with_reducible refine gate_dst (N := 5) rfl ?_); refine box_event ?hg (N := 5) ?hd (cs := #[.slice none 0 0]) (t := 26) ?hr ?_; (case hd => rfl); (case hg => rfl); (case hr => first | (go_simp; done) | (go_simp; rfl)); intro gb284 hg w67 hbox hb; have n0_ := Aside0.mk (Kd.R_below (rl HO278.out) hb); have n1_ := Aside0.mk (Kd.R_below (rl HO283.out) hb); have n2_ := Aside0.mk (IsS119.below (i9 HI0.out) hb); have n3_ := Aside0.mk (blk_below (g := gb269) (o := .cells #[.slice none 0 0] 26 (0, 0)) (bl BK269.out) hb); have n4_ := Aside0.mk (KeepBut.trans (kp HK.out) (KeepBut.of_below hb g none) (.inl rfl)); have n5_ := Aside0.mk (below_step (b9 HB.out) hb); have n6_ := Aside0.mk (hbox); have n7_ := Aside0.mk ((by rw [hg]; exact (keep_size (w := w) (g := g) (row := none) (kp HK.out)) : w.heap.size ≤ gb284)); have n8_ := Aside0.mk ((Nat.le_trans HW0.out (by rw [hg]; exact (keep_size (w := w) (g := g) (row := none) (kp HK.out)) : w.heap.size ≤ gb284) : w0.heap.size ≤ gb284)); have n9_ := Aside0.mk ((by rw [hg]; exact Nat.ne_of_lt (blk_lt (g := gb269) (o := .cells #[.slice none 0 0] 26 (0, 0)) (bl BK269.out)) : gb269 ≠ gb284)); have n10_ := Aside0.mk ((by rw [hg]; exact Nat.ne_of_gt (blk_lt (g := gb269) (o := .cells #[.slice none 0 0] 26 (0, 0)) (bl BK269.out)) : gb284 ≠ gb269)); have n11_ := Aside0.mk ((by rw [hg]; exact Nat.ne_of_lt (IsS119.lt (show IsS119 w0 _ g s0_0 t279 t280 from i9 HI0.out)) : g ≠ gb284)); have n12_ := Aside0.mk ((by rw [hg]; exact Nat.ne_of_gt (IsS119.lt (show IsS119 w0 _ g s0_0 t279 t280 from i9 HI0.out)) : gb284 ≠ g)); clear HO278 HO283 HI0 BK269 HK HB; have HO278 := n0_; have HO283 := n1_; have HI0 := n2_; have BK269 := n3_; have HK := n4_; have HB := n5_; have BK284 := n6_; have GW284 := n7_; have GE284 := n8_; have NB269_284 := n9_; have NB284_269 := n10_; have NB0_284 := n11_; have NB284_0 := n12_; clear n0_ n1_ n2_ n3_ n4_ n5_ n6_ n7_ n8_ n9_ n10_ n11_ n12_ hb hbox hg; obtain ⟨Ao68, co68, eo68⟩ := Kd.R_slice HO283.out; subst eo68; have hnb69 := NB284_269.out; have hnc69 := NB269_284.out; have hnb70 := NB284_0.out; have hnc70 := NB0_284.out; have hcz71_0 : w67.cell? ⟨gb284, 0, none⟩ = some (.slice none 0 0) := (blk_cell BK284.out 0).trans rfl; have hfz71_0 := blk_frozen BK284.out 0))
         have pi290 : (0 ≤ ((ji54) : Int)) = True := eq_true (oda)
         have qi290 : ((ji54) < (y287.length : Int)) = True := eq_true (oda)
         have n0_ : Aside0 (Kd.R k34 34 (w67.setCell ⟨gb284, 0, none⟩ (.slice Ao68 t281.length co68)) w.heap.size (fun k_ => some k_ ≠ (.slice Ao68 t281.length co68 : Value).ownBlock) (.slice Ao65 t276.length co65) t276) := ⟨by (with_reducible repeat (first | apply Kd.R_alloc | apply Kd.R_drewN | apply Kd.R_drew)); exact Kd.R_mono (Kd.R_far (p := ⟨gb284, 0, none⟩) (Kd.R_types HO278.out BK284.out (by decide)) (fun _ hk => hk.2) (.slice Ao68 t281.length co68)) (fun _ hk => hk.1.2)⟩
         have n1_ : Aside0 (Kd.R k34 34 (w67.setCell ⟨gb284, 0, none⟩ (.slice Ao68 t281.length co68)) w.heap.size (fun k_ => some k_ ≠ (.slice Ao65 t276.length co65 : Value).ownBlock) (.slice Ao68 t281.length co68) t281) := ⟨by (with_reducible repeat (first | apply Kd.R_alloc | apply Kd.R_drewN | apply Kd.R_drew)); exact Kd.R_mono (Kd.R_far (p := ⟨gb284, 0, none⟩) (Kd.R_types HO283.out BK284.out (by decide)) (fun _ hk => hk.2) (.slice Ao68 t281.length co68)) (fun _ hk => hk.1.2)⟩
         have n2_ : Aside0 ((w67.setCell ⟨gb284, 0, none⟩ (.slice Ao68 t281.length co68)).heap[gb269]? = some (.cells #[.slice none 0 0] 26 (0, 0))) := ⟨by (with_reducible repeat (first | refine blk_drewN ?_ _ | refine blk_drew ?_ | refine blk_alloc ?_ _)); refine blk_far ?_ NB269_284.out _; exact bl BK269.out⟩
         have n3_ : Aside0 ((w67.setCell ⟨gb284, 0, none⟩ (.slice Ao68 t281.length co68)).heap[gb284]? = some (.cells #[.slice Ao68 t281.length co68] 26 (0, 0))) := ⟨by (with_reducible repeat (first | refine blk_drewN ?_ _ | refine blk_drew ?_ | refine blk_alloc ?_ _)); refine blk_put (cs := #[.slice none 0 0]) ?_ 0 _ rfl; exact bl BK284.out⟩
         have n4_ : Aside0 (IsS119 w0 (w67.setCell ⟨gb284, 0, none⟩ (.slice Ao68 t281.length co68)) g s0_0 t279 t280) := ⟨i9 HI0.out⟩
         have n5_ : Aside0 (KeepBut w (w67.setCell ⟨gb284, 0, none⟩ (.slice Ao68 t281.length co68)) g none) := ⟨kp HK.out⟩
         have n6_ : Aside0 (Below w0.heap.size w0 (w67.setCell ⟨gb284, 0, none⟩ (.slice Ao68 t281.length co68))) := ⟨b9 HB.out⟩
         (try clear HO278)
         (try clear HO283)
         (try clear BK269)
         (try clear BK284)
         (try clear HI0)
         (try clear HK)
         (try clear HB)
         generalize (w67.setCell ⟨gb284, 0, none⟩ (.slice Ao68 t281.length co68)) = w72 at n0_ n1_ n2_ n3_ n4_ n5_ n6_ ⊢
         have HO278 := n0_
         have HO283 := n1_
         have BK269 := n2_
         have BK284 := n3_
         have HI0 := n4_
         have HK := n5_
         have HB := n6_
         clear n0_ n1_ n2_ n3_ n4_ n5_ n6_
         have n0_ := Aside0.mk (Kd.R_drew HO278.out)
         have n1_ := Aside0.mk (Kd.R_drew HO283.out)
         have n2_ := Aside0.mk (blk_drew BK269.out)
         have n3_ := Aside0.mk (blk_drew BK284.out)
         have n4_ := Aside0.mk (IsS119.drew HI0.out)
         have n5_ := Aside0.mk (keep_drew HK.out)
         have n6_ := Aside0.mk (below_drew1 HB.out)
         clear HO278
         clear HO283
         clear BK269
         clear BK284
         clear HI0
         clear HK
         clear HB
         have HO278 := n0_
         have HO283 := n1_
         have BK269 := n2_
         have BK284 := n3_
         have HI0 := n4_
         have HK := n5_
         have HB := n6_
         clear n0_ n1_ n2_ n3_ n4_ n5_ n6_
         refine start_ (n := 11) (S := fun w' => w'.cell? ⟨gb284, 0, none⟩ = some (.slice Ao68 t281.length co68)) (ds := [10]) #[false, false, false, false, false, false, false, false, false, false, false] (by kernel_rfl) rfl rfl ((blk_cell BK284.out 0).trans rfl) (fun hHeld => ?_); refine with_tabW spec_l03Any.tab11 spec_l03Any.bits11 (fun HT_ HW_ => ?_)
         generalize w72.drew = w73 at HO278 HO283 BK269 BK284 HI0 HK HB hHeld ⊢
         refine pure_ (i := 0) (N := some 41) (v := ?_) (a' := ?_) #[true, false, false, false, false, false, false, false, false, false, false] rfl rfl (any_of HT_.out (by kernel_rfl)) (fun _ _ _ h => h) (Or.inl ⟨by rfl, ?_⟩) ?_ ?_
         rotate_left
         ·intro w'
          go_simp
          with_reducible rfl
         rotate_left
         ·simp only [Act.put, List.setIfInBounds_toArray, List.set_cons_zero, List.set_cons_succ, i64_w, i32_w]
          rfl
         refine pure_ (i := 2) (N := some 43) (v := ?_) (a' := ?_) #[true, false, true, false, false, false, false, false, false, false, false] rfl rfl (any_of HT_.out (by kernel_rfl)) (fun _ _ _ h => h) (Or.inl ⟨by rfl, ?_⟩) ?_ ?_
         rotate_left
         ·intro w'
          go_simp
          with_reducible rfl
         rotate_left
         ·simp only [Act.put, List.setIfInBounds_toArray, List.set_cons_zero, List.set_cons_succ, i64_w, i32_w]
          rfl
         refine pure_ (i := 4) (N := some 45) (v := ?_) (a' := ?_) #[true, false, true, false, true, false, false, false, false, false, false] rfl rfl (any_of HT_.out (by kernel_rfl)) (fun _ _ _ h => h) (Or.inl ⟨by rfl, ?_⟩) ?_ ?_
         rotate_left
         ·intro w'
          go_simp
          with_reducible rfl
         rotate_left
         ·simp only [Act.put, List.setIfInBounds_toArray, List.set_cons_zero, List.set_cons_succ, i64_w, i32_w]
          rfl
         refine pure_ (i := 5) (N := some 46) (v := ?_) (a' := ?_) #[true, false, true, false, true, true, false, false, false, false, false] rfl rfl (any_of HT_.out (by kernel_rfl)) (fun _ _ _ h => h) (Or.inl ⟨by rfl, ?_⟩) ?_ ?_
         rotate_left
         ·intro w'
          go_simp
          with_reducible rfl
         rotate_left
         ·simp only [Act.put, List.setIfInBounds_toArray, List.set_cons_zero, List.set_cons_succ, i64_w, i32_w]
          rfl
         refine take_ (i := 1) (N := some 42) (v := ?_) (a' := ?_) #[true, true, true, false, true, true, false, false, false, false, false] rfl rfl (take_ofW HT_.out HW_.out (by kernel_rfl)) (fun _ _ _ h => h) (Or.inl ⟨by rfl, ?_⟩) hHeld ?_ ?_
         rotate_left
         ·intro w' s0
          go_simp
          with_reducible rfl
         rotate_left
         ·simp only [Act.put, List.setIfInBounds_toArray, List.set_cons_zero, List.set_cons_succ, i64_w, i32_w]
          rfl
         refine one_ (i := 3) (N := some 44) #[true, true, true, true, true, true, false, false, false, false, false] rfl rfl (one_of HT_.out (by kernel_rfl)) (by decide) (fun K hK => ?_)
         refine Kd.R_lit_step (Kd.int .i64) _ 3 ?hg (N := 44) ?hd (xs := ([(-1), 5, 1000000] : List Int)) (inner := [.int .i64 (-1), .int .i64 5, .int .i64 1000000]) (ok := fun _ => True) (okp := fun _ => True) ?hr ?hp (fun _ hk => hk) trivial (Below.refl _ _) (Nat.le_refl _) (by simp) ?_; (case hd => rfl); (case hg => rfl); (case hr => first | (go_simp; done) | (go_simp; rfl)); (case hp => exact (Reps.one (show Kd.M (Kd.int .i64) _ _ _ (-1) [.int .i64 (-1)] from rfl) (Reps.one (show Kd.M (Kd.int .i64) _ _ _ 5 [.int .i64 5] from rfl) (Reps.one (show Kd.M (Kd.int .i64) _ _ _ 1000000 [.int .i64 1000000] from rfl) (Reps.none _ _)))))
         intro v288 w74 ho75 hb hg_ hnew_
         clear hg_ hnew_
         (first | rw [← Ny287.out] at ho75 | (simp only [Int.reduceToNat] at ho75; rw [← Ny287.out] at ho75))
         have n0_ := Aside0.mk (Kd.R_below (rl HO278.out) hb)
         have n1_ := Aside0.mk (Kd.R_below (rl HO283.out) hb)
         have n2_ := Aside0.mk (Kd.R_lower ho75 (keep_size (w := w) (g := g) (row := none) (kp HK.out)))
         have n3_ := Aside0.mk (IsS119.below (i9 HI0.out) hb)
         have n4_ := Aside0.mk (blk_below (g := gb269) (o := .cells #[.slice none 0 0] 26 (0, 0)) (bl BK269.out) hb)
         have n5_ := Aside0.mk (blk_below (g := gb284) (o := .cells #[.slice Ao68 t281.length co68] 26 (0, 0)) (bl BK284.out) hb)
         have n6_ := Aside0.mk (KeepBut.trans (kp HK.out) (KeepBut.of_below hb g none) (.inl rfl))
         have n7_ := Aside0.mk (below_step (b9 HB.out) hb)
         clear HO278
         clear HO283
         clear HI0
         clear BK269
         clear BK284
         clear HK
         clear HB
         have HO278 := n0_
         have HO283 := n1_
         have HO289 := n2_
         have HI0 := n3_
         have BK269 := n4_
         have BK284 := n5_
         have HK := n6_
         have HB := n7_
         clear n0_ n1_ n2_ n3_ n4_ n5_ n6_ n7_
         clear hb ho75
         obtain ⟨Ao76, co76, eo76⟩ := Kd.R_slice HO289.out
         subst eo76
         obtain ⟨ado76, fo76, _⟩ := Kd.at_int (Kd.R_reads' HO289.out).2.2 0 (by decide) (by rw [Ny287.out]; simp)
         cases fo76
         have p60 : 0 ≤ ((ji57) : Int) := oda
         have q60 : ((ji57) : Int) < ((t281.length : Int) : Int) := oda
         obtain ⟨go60, co60, eo60, gb60, gl60, cl60, HG60⟩ := Kd.R_form HO283.out (by omega)
         (first | cases eo60 | (injection eo60 with ea_ en_ ec_; (first | subst ea_ | (injection ea_ with ea_; subst ea_)); subst ec_; clear en_))
         have GB60 := Aside0.mk gb60
         have GG60 := Aside0.mk HG60
         clear gb60 gl60 HG60
         obtain ⟨ce60, hcl60, hM60, hcc60, hfr60⟩ := Kd.R_elem HO283.out z34 ((ji57) : Int) p60 q60
         obtain rfl := k34_openM hM60
         have hx60_0 : World.cell? _ ⟨go60, ((ji57) : Int).toNat * 4, none⟩ = some (.int .i64 ((rd_T34 t281 (ji57)).f0)) := hcc60 0 _ rfl
         have hx60_1 : World.cell? _ ⟨go60, ((ji57) : Int).toNat * 4 + 1, none⟩ = some (.int .i64 ((rd_T34 t281 (ji57)).f1)) := hcc60 1 _ rfl
         have hx60_2 : World.cell? _ ⟨go60, ((ji57) : Int).toNat * 4 + 2, none⟩ = some (.int .i64 ((rd_T34 t281 (ji57)).f2)) := hcc60 2 _ rfl
         have hx60_3 : World.cell? _ ⟨go60, ((ji57) : Int).toNat * 4 + 3, none⟩ = some (.int .i64 ((rd_T34 t281 (ji57)).f3)) := hcc60 3 _ rfl
         have hf60_0 : World.frozen? _ ⟨go60, ((ji57) : Int).toNat * 4, none⟩ = false := hfr60 0
         have hf60_1 : World.frozen? _ ⟨go60, ((ji57) : Int).toNat * 4 + 1, none⟩ = false := hfr60 1
         have hf60_2 : World.frozen? _ ⟨go60, ((ji57) : Int).toNat * 4 + 2, none⟩ = false := hfr60 2
         have hf60_3 : World.frozen? _ ⟨go60, ((ji57) : Int).toNat * 4 + 3, none⟩ = false := hfr60 3
         clear hcl60 hcc60 hfr60 hM60
         replace p60 := eq_true p60
         replace q60 := eq_true q60
         have HN0_go60 := Aside0.mk (show g ≠ go60 from by have h_ := IsS119.own_ne HI0.out HO283.out (by decide); intro e_; exact h_ (by rw [e_]; rfl))
         obtain ⟨ce77, hcl77, hM77, hcc77, hfr77⟩ := Kd.R_elem HO283.out z34 ((ji57) : Int) (oda) (by have h_ : ((ji57) : Int) < ((t281.length : Int) : Int) := oda; first | exact h_ | (have e_ := (Kd.R_reads' HO283.out).1; omega) | simpa using h_)
         obtain rfl := k34_openM hM77
         have HP77 := (Kd.R_seg HO283.out ((ji57) : Int) (oda) (by have h_ : ((ji57) : Int) < ((t281.length : Int) : Int) := oda; first | exact h_ | (have e_ := (Kd.R_reads' HO283.out).1; omega) | simpa using h_) (seg := [.int .i64 (rd y287 (ji54))]) (j := 1) hcl77 hcc77 (show 2 ≤ 4 from by decide) (x' := (⟨(rd_T34 t281 (ji57)).f0, rd y287 (ji54), (rd_T34 t281 (ji57)).f2, (rd_T34 t281 (ji57)).f3⟩ : S34)) (k34_mkM _ _ _ (⟨(rd_T34 t281 (ji57)).f0, rd y287 (ji54), (rd_T34 t281 (ji57)).f2, (rd_T34 t281 (ji57)).f3⟩ : S34) ) (fun _ hk => hk)).1
         rw [← Ny291.out] at HP77
         have HQ77 := Aside0.mk HP77
         clear hcl77 hcc77 hfr77 hM77 HP77
         refine hK.out _ _ ((blk_cell BK284.out 0).trans rfl) (fun hHeld => ?_)
         clear hK K
         refine norm_ (a' := ?_) ?_ ?_
         rotate_left
         ·show Act.put _ (some 44) _ = _
          simp only [Act.put, List.setIfInBounds_toArray, List.set_cons_zero, List.set_cons_succ, i64_w, i32_w]
          rfl
         refine pure_ (i := 6) (N := some 47) (v := ?_) (a' := ?_) #[true, true, true, true, true, true, true, false, false, false, false] rfl rfl (any_of HT_.out (by kernel_rfl)) (fun _ _ _ h => h) (Or.inl ⟨by rfl, ?_⟩) ?_ ?_
         rotate_left
         ·intro w'
          go_simp
          with_reducible rfl
         rotate_left
         ·simp only [Act.put, List.setIfInBounds_toArray, List.set_cons_zero, List.set_cons_succ, i64_w, i32_w]
          rfl
         refine one_ (i := 7) (N := some 48) #[true, true, true, true, true, true, true, true, false, false, false] rfl rfl (one_of HT_.out (by kernel_rfl)) (by decide) (fun K hK => ?_)
         (have p290 : 0 ≤ ((ji54) : Int) := oda; have q290 : (ji54) < (y287.length : Int) := oda; obtain ⟨ad290, e290, hx290_0⟩ := Kd.at_int (Kd.R_reads' HO289.out).2.2 (ji54) p290 q290; obtain rfl : ado76 = ad290 := (by injection e290))
         refine value_ (w1 := ?_) (v := ?_) (by rfl) rfl ?_ ?_
         rotate_left 2
         ·go_simp
          constructor
          ·rfl
          ·rfl
         clear hx290_0
         refine hK.out _ _ ((blk_cell BK284.out 0).trans rfl) (fun hHeld => ?_)
         clear hK K
         refine norm_ (a' := ?_) ?_ ?_
         rotate_left
         ·show Act.put _ (some 48) _ = _
          simp only [Act.put, List.setIfInBounds_toArray, List.set_cons_zero, List.set_cons_succ, i64_w, i32_w]
          rfl
         refine pure_ (i := 8) (N := some 49) (v := ?_) (a' := ?_) #[true, true, true, true, true, true, true, true, true, false, false] rfl rfl (any_of HT_.out (by kernel_rfl)) (fun _ _ _ h => h) (Or.inl ⟨by rfl, ?_⟩) ?_ ?_
         rotate_left
         ·intro w'
          go_simp
          with_reducible rfl
         rotate_left
         ·simp only [Act.put, List.setIfInBounds_toArray, List.set_cons_zero, List.set_cons_succ, i64_w, i32_w]
          rfl
         refine pure_ (i := 9) (N := some 50) (v := ?_) (a' := ?_) #[true, true, true, true, true, true, true, true, true, true, false] rfl rfl (any_of HT_.out (by kernel_rfl)) (fun _ _ _ h => h) (Or.inl ⟨by rfl, ?_⟩) ?_ ?_
         rotate_left
         ·intro w'
          go_simp
          with_reducible rfl
         rotate_left
         ·simp only [Act.put, List.setIfInBounds_toArray, List.set_cons_zero, List.set_cons_succ, i64_w, i32_w]
          rfl
         refine last_ (i := 10) (N := none) #[true, true, true, true, true, true, true, true, true, true, true] rfl rfl (one_of HT_.out (by kernel_rfl)) (by decide) (fun K hK => ?_)
         refine skip_ (w1 := ?_) (by rfl) rfl ?_ ?_
         rotate_left
         ·go_simp
          rfl
         refine hK.out _ _ ?_
         clear hK K
         refine done_ (done_of HT_.out (by kernel_rfl)) ?_
         have n0_ : Aside0 (Kd.R k34 34 (w74.setCell ⟨go60, ((ji57) : Int).toNat * 4 + 1, none⟩ (.int .i64 (rd y287 (ji54)))) w.heap.size (fun k_ => some k_ ≠ (.slice (some ⟨go60, 0, none⟩) t281.length co68 : Value).ownBlock) (.slice Ao65 t276.length co65) t276) := ⟨by (with_reducible repeat (first | apply Kd.R_alloc | apply Kd.R_drewN | apply Kd.R_drew)); exact Kd.R_mono (Kd.R_far (p := ⟨go60, ((ji57) : Int).toNat * 4 + 1, none⟩) (Kd.R_mono HO278.out (fun k_ hk => (⟨hk, fun e_ => hk (by rw [e_]; rfl)⟩ : _ ∧ k_ ≠ go60))) (fun _ hk => hk.2) (.int .i64 (rd y287 (ji54)))) (fun _ hk => hk.1)⟩
         have n1_ : Aside0 (Kd.R k34 34 (w74.setCell ⟨go60, ((ji57) : Int).toNat * 4 + 1, none⟩ (.int .i64 (rd y287 (ji54)))) w.heap.size (fun k_ => some k_ ≠ (.slice Ao65 t276.length co65 : Value).ownBlock) (.slice (some ⟨go60, 0, none⟩) t281.length co68) y291) := ⟨rl HQ77.out⟩
         have n2_ : Aside0 (Kd.R (Kd.int .i64) 3 (w74.setCell ⟨go60, ((ji57) : Int).toNat * 4 + 1, none⟩ (.int .i64 (rd y287 (ji54)))) w.heap.size (fun _ => True) (.slice (some ado76) y287.length co76) y287) := ⟨by (with_reducible repeat (first | apply Kd.R_alloc | apply Kd.R_drewN | apply Kd.R_drew)); exact Kd.R_mono (Kd.R_far (p := ⟨go60, ((ji57) : Int).toNat * 4 + 1, none⟩) (Kd.R_types HO289.out GG60.out (by decide)) (fun _ hk => hk.2) (.int .i64 (rd y287 (ji54)))) (fun _ hk => trivial)⟩
         have n3_ : Aside0 ((w74.setCell ⟨go60, ((ji57) : Int).toNat * 4 + 1, none⟩ (.int .i64 (rd y287 (ji54)))).heap[gb269]? = some (.cells #[.slice none 0 0] 26 (0, 0))) := ⟨by (with_reducible repeat (first | refine blk_drewN ?_ _ | refine blk_drew ?_ | refine blk_alloc ?_ _)); refine blk_far ?_ (by have h_ := Kd.R_ne HO283.out BK269.out (by decide); intro e_; exact h_ (by rw [e_]; rfl)) _; exact bl BK269.out⟩
         have n4_ : Aside0 ((w74.setCell ⟨go60, ((ji57) : Int).toNat * 4 + 1, none⟩ (.int .i64 (rd y287 (ji54)))).heap[gb284]? = some (.cells #[.slice (some ⟨go60, 0, none⟩) t281.length co68] 26 (0, 0))) := ⟨by (with_reducible repeat (first | refine blk_drewN ?_ _ | refine blk_drew ?_ | refine blk_alloc ?_ _)); refine blk_far ?_ (by have h_ := Kd.R_ne HO283.out BK284.out (by decide); intro e_; exact h_ (by rw [e_]; rfl)) _; exact bl BK284.out⟩
         have n5_ : Aside0 (IsS119 w0 (w74.setCell ⟨go60, ((ji57) : Int).toNat * 4 + 1, none⟩ (.int .i64 (rd y287 (ji54)))) g s0_0 t279 t280) := ⟨i9 HI0.out⟩
         have n6_ : Aside0 (KeepBut w (w74.setCell ⟨go60, ((ji57) : Int).toNat * 4 + 1, none⟩ (.int .i64 (rd y287 (ji54)))) g none) := ⟨kp HK.out⟩
         have n7_ : Aside0 (Below w0.heap.size w0 (w74.setCell ⟨go60, ((ji57) : Int).toNat * 4 + 1, none⟩ (.int .i64 (rd y287 (ji54))))) := ⟨by repeat (first | (with_reducible first | exact HB.out | apply below_alloc | apply pw_below_drewN | apply below_drew1 | refine below_set ?_ (Nat.le_trans HL.out GB60.out) | refine below_set ?_ (IsS119.ge HI0.out) | refine below_set ?_ GE269.out | refine below_set ?_ GE284.out) | exact HB.out)⟩
         (try clear HO278)
         (try clear HO283)
         (try clear HO289)
         (try clear BK269)
         (try clear BK284)
         (try clear HI0)
         (try clear HK)
         (try clear HB)
         generalize (w74.setCell ⟨go60, ((ji57) : Int).toNat * 4 + 1, none⟩ (.int .i64 (rd y287 (ji54)))) = w78 at n0_ n1_ n2_ n3_ n4_ n5_ n6_ n7_ ⊢
         have HO278 := n0_
         have HO283 := n1_
         have HO289 := n2_
         have BK269 := n3_
         have BK284 := n4_
         have HI0 := n5_
         have HK := n6_
         have HB := n7_
         clear n0_ n1_ n2_ n3_ n4_ n5_ n6_ n7_
         have hcz79_0 : w78.cell? ⟨gb284, 0, none⟩ = some (.slice (some ⟨go60, 0, none⟩) t281.length co68) := (blk_cell BK284.out 0).trans rfl
         have hfz79_0 := blk_frozen BK284.out 0
         have hnb80 := NB269_0.out
         have hnc80 := NB0_269.out
         have hcz81_0 : w78.cell? ⟨gb269, 0, none⟩ = some (.slice none 0 0) := (blk_cell BK269.out 0).trans rfl
         have hfz81_0 := blk_frozen BK269.out 0
         try go_wp2
         refine bodyPost_ret (results_cell_row rfl _ _ gb269 26 #[.slice (some ⟨go60, 0, none⟩) t281.length co68] (0, 0) _ rfl (by (with_reducible repeat (first | refine blk_drewN ?_ _ | refine blk_drew ?_ | refine blk_alloc ?_ _)); refine blk_put (cs := #[.slice none 0 0]) ?_ 0 _ rfl; exact bl BK269.out) Try.underlying26 rfl (by kernel_rfl)) rfl ?_
         exact ⟨_, by first | rfl | (simp [errW_none, errW_some] <;> rfl) | (simp only [← hji54, ← hji57]; first | rfl | (simp [errW_none, errW_some] <;> rfl)) | (simp [*, errW_none, errW_some] <;> rfl), by (with_reducible repeat (first | apply Kd.R_alloc | apply Kd.R_drewN | apply Kd.R_drew)); exact Kd.R_mono (Kd.R_far (p := ⟨gb269, 0, none⟩) (Kd.R_types HO283.out BK269.out (by decide)) (fun _ hk => hk.2) (.slice (some ⟨go60, 0, none⟩) t281.length co68)) (fun _ hk => trivial), i9 HI0.out, b9 HB.out, kp HK.out⟩
        ·rw [if_neg c59] at H
         exact absurd H (by simp)
       ·rw [if_neg c58] at H
        exact absurd H (by simp)
      ·rw [if_neg c56] at H
       exact absurd H (by simp)
     ·rw [if_neg c55] at H
      exact absurd H (by simp)
    ·rw [if_neg c53] at H
     have c53b0 : (t270 == 2) = false := beq_eq_false_iff_ne.mpr c53
     have c53b1 : (t270 != 2) = true := bne_iff_ne.mpr c53
     by_cases c82 : t270 = 3
     ·rw [if_pos c82] at H
      have c82b0 : (t270 == 3) = true := beq_iff_eq.mpr c82
      have c82b1 : (t270 != 3) = false := bne_eq_false_iff_eq.mpr c82
      clear c82
      by_cases c83 : 0 < (t281.length : Int)
      ·rw [if_pos c83] at H
       have c83b0 : decide (0 < (t281.length : Int)) = true := decide_eq_true c83
       have c83b1 : decide (0 < t281.length) = true := decide_eq_true (by omega)
       clear c83
       by_cases c84 : t281.length < 4398046511104
       ·rw [if_pos c84] at H
        have LMc84 := Aside0.mk c84
        clear c84
        obtain ⟨y293, hy293⟩ : ∃ y_ : List (S34), y_ = (t281 ++ [(⟨(rd_T34 t281 0).f0, (rd_T34 t281 0).f1, (rd_T34 t281 0).f2, (rd_T34 t281 0).f3⟩ : S34)]) := ⟨_, rfl⟩
        replace H : (some (y293, t279, t280)) = some (r1, r2, r3) := by first | (rw [hy293]; with_reducible exact H) | (have H2_ := (Option.bind_some _ _).symm.trans H; rw [hy293]; with_reducible exact H2_) | (have H2_ := (Option.bind_some _ _).symm.trans H; with_reducible exact H2_) | with_reducible exact H | (rw [hy293]; exact H) | exact H
        have Ny293 := Aside0.mk hy293
        clear hy293
        simp only [Option.some.injEq, Prod.mk.injEq] at H
        obtain ⟨rfl, rfl, rfl⟩ := H
        go_enter Try.func76, Try.ntmps76
        try go_wp2_with (first | ((with_reducible refine gate_dst (N := 2) rfl ?_); refine box_event ?hg (N := 2) ?hd (cs := #[.slice none 0 0]) (t := 26) ?hr ?_; (case hd => rfl); (case hg => rfl); (case hr => first | (go_simp; done) | (go_simp; rfl)); intro gb269 hg w85 hbox hb; have n0_ := Aside0.mk (IsS119.below (i9 HI0.out) hb); have n1_ := Aside0.mk (KeepBut.trans (kp HK.out) (KeepBut.of_below hb g none) (.inl rfl)); have n2_ := Aside0.mk (below_step (b9 HB.out) hb); have n3_ := Aside0.mk (hbox); have n4_ := Aside0.mk ((by rw [hg]; exact (keep_size (w := w) (g := g) (row := none) (kp HK.out)) : w.heap.size ≤ gb269)); have n5_ := Aside0.mk ((Nat.le_trans HW0.out (by rw [hg]; exact (keep_size (w := w) (g := g) (row := none) (kp HK.out)) : w.heap.size ≤ gb269) : w0.heap.size ≤ gb269)); have n6_ := Aside0.mk ((by rw [hg]; exact Nat.ne_of_lt (IsS119.lt (show IsS119 w0 _ g s0_0 s0_1 s0_2 from i9 HI0.out)) : g ≠ gb269)); have n7_ := Aside0.mk ((by rw [hg]; exact Nat.ne_of_gt (IsS119.lt (show IsS119 w0 _ g s0_0 s0_1 s0_2 from i9 HI0.out)) : gb269 ≠ g)); clear HI0 HK HB; have HI0 := n0_; have HK := n1_; have HB := n2_; have BK269 := n3_; have GW269 := n4_; have GE269 := n5_; have NB0_269 := n6_; have NB269_0 := n7_; clear n0_ n1_ n2_ n3_ n4_ n5_ n6_ n7_ hb hbox hg) | ((with_reducible refine gate_callee (f := 70) rfl ?_); refine goesL_ (some 8) rfl rfl Try.func70 (by kernel_rfl) rfl #[.pointer (some ⟨g, 0, none⟩), .int .i64 12] rfl ar ?_; (with_reducible refine (spec_l01Below.calls g s0_0 s0_1 s0_2 12 t270 t271 t272 w0 _ ?side1 ?side2 A2.out).mono ?_); (case side1 => exact i9 HI0.out); (case side2 => exact b9 HB.out); rintro e w86 ⟨rfl, hi, hb, hk⟩; refine ⟨_, rfl, ?_⟩; have n0_ := Aside0.mk (KeepBut.blk hk (g' := gb269) (o := .cells #[.slice none 0 0] 26 (0, 0)) (bl BK269.out) NB269_0.out (by simp)); have n1_ := Aside0.mk (KeepBut.trans (kp HK.out) hk (.inl rfl)); have n2_ := Aside0.mk (hb); have n3_ := Aside0.mk (hi); clear BK269 HK HB HI0; have BK269 := n0_; have HK := n1_; have HB := n2_; have HI0 := n3_; clear n0_ n1_ n2_ n3_; (try clear hb); (try clear hb2); (try clear hk); (try clear hi)) | ((with_reducible refine gate_callee (f := 70) rfl ?_); refine goesL_ (some 10) rfl rfl Try.func70 (by kernel_rfl) rfl #[.pointer (some ⟨g, 0, none⟩), .int .i64 60] rfl ar ?_; (with_reducible refine (spec_l01Below.calls g s0_0 t271 t272 60 t273 t274 t275 w0 _ ?side1 ?side2 A3.out).mono ?_); (case side1 => exact i9 HI0.out); (case side2 => exact b9 HB.out); rintro e w87 ⟨rfl, hi, hb, hk⟩; refine ⟨_, rfl, ?_⟩; have n0_ := Aside0.mk (KeepBut.blk hk (g' := gb269) (o := .cells #[.slice none 0 0] 26 (0, 0)) (bl BK269.out) NB269_0.out (by simp)); have n1_ := Aside0.mk (KeepBut.trans (kp HK.out) hk (.inl rfl)); have n2_ := Aside0.mk (hb); have n3_ := Aside0.mk (hi); clear BK269 HK HB HI0; have BK269 := n0_; have HK := n1_; have HB := n2_; have HI0 := n3_; clear n0_ n1_ n2_ n3_; (try clear hb); (try clear hb2); (try clear hk); (try clear hi)) | ((with_reducible refine gate_callee (f := 69) rfl ?_); refine goesL_ (some 12) rfl rfl Try.func69 (by kernel_rfl) rfl #[.pointer (some ⟨g, 0, none⟩)] rfl ar ?_; (with_reducible refine (spec_l03Arena.calls g s0_0 t274 t275 t276 t279 t280 w0 _ ?side1 ?side2 A4.out).mono ?_); (case side1 => exact i9 HI0.out); (case side2 => exact b9 HB.out); rintro e w88 ⟨v277, rfl, ho0, hi, hb, hk⟩; refine ⟨_, rfl, ?_⟩; have n0_ := Aside0.mk (KeepBut.blk hk (g' := gb269) (o := .cells #[.slice none 0 0] 26 (0, 0)) (bl BK269.out) NB269_0.out (by simp)); have n1_ := Aside0.mk (Kd.R_lower ho0 (keep_size (w := w) (g := g) (row := none) (kp HK.out))); have n2_ := Aside0.mk (KeepBut.trans (kp HK.out) hk (.inl rfl)); have n3_ := Aside0.mk (hb); have n4_ := Aside0.mk (hi); clear BK269 HK HB HI0; have BK269 := n0_; have HO278 := n1_; have HK := n2_; have HB := n3_; have HI0 := n4_; clear n0_ n1_ n2_ n3_ n4_; (try clear hb); (try clear hb2); (try clear hk); (try clear hi); (try clear ho0); obtain ⟨Ao89, co89, eo89⟩ := Kd.R_slice HO278.out; subst eo89) | ((with_reducible refine gate_callee (f := 90) rfl ?_); refine goesL_ (some 13) rfl rfl Try.func90 (by kernel_rfl) rfl #[.agg #[.slice Ao89 t276.length co89]] rfl ar ?_; (with_reducible refine (spec_l03Copy.calls _ _ t276 t281 _ ?side1 ?side2 A5.out).mono ?_); (case side1 => exact cl (Kd.R_reads' HO278.out).2.2); (case side2 => exact (Kd.R_reads' HO278.out).2.1); rintro e w90 ⟨v282, rfl, ho0, hb⟩; refine ⟨_, rfl, ?_⟩; have n0_ := Aside0.mk (Kd.R_elder' (rl HO278.out) (Kd.R_base ho0) hb); have n1_ := Aside0.mk (Kd.R_lower (Kd.R_new' ho0 (Kd.R_lt (rl HO278.out))) (keep_size (w := w) (g := g) (row := none) (kp HK.out))); have n2_ := Aside0.mk (IsS119.below (i9 HI0.out) hb); have n3_ := Aside0.mk (blk_below (g := gb269) (o := .cells #[.slice none 0 0] 26 (0, 0)) (bl BK269.out) hb); have n4_ := Aside0.mk (KeepBut.trans (kp HK.out) (KeepBut.of_below hb g none) (.inl rfl)); have n5_ := Aside0.mk (below_step (b9 HB.out) hb); clear HO278 HI0 BK269 HK HB; have HO278 := n0_; have HO283 := n1_; have HI0 := n2_; have BK269 := n3_; have HK := n4_; have HB := n5_; clear n0_ n1_ n2_ n3_ n4_ n5_; (try clear hb); (try clear hb2); (try clear hk); (try clear hi); (try clear ho0)) | ((with_reducible refine gate_dst (N := 5) rfl ?_); refine box_event ?hg (N := 5) ?hd (cs := #[.slice none 0 0]) (t := 26) ?hr ?_; (case hd => rfl); (case hg => rfl); (case hr => first | (go_simp; done) | (go_simp; rfl)); intro gb284 hg w91 hbox hb; have n0_ := Aside0.mk (Kd.R_below (rl HO278.out) hb); have n1_ := Aside0.mk (Kd.R_below (rl HO283.out) hb); have n2_ := Aside0.mk (IsS119.below (i9 HI0.out) hb); have n3_ := Aside0.mk (blk_below (g := gb269) (o := .cells #[.slice none 0 0] 26 (0, 0)) (bl BK269.out) hb); have n4_ := Aside0.mk (KeepBut.trans (kp HK.out) (KeepBut.of_below hb g none) (.inl rfl)); have n5_ := Aside0.mk (below_step (b9 HB.out) hb); have n6_ := Aside0.mk (hbox); have n7_ := Aside0.mk ((by rw [hg]; exact (keep_size (w := w) (g := g) (row := none) (kp HK.out)) : w.heap.size ≤ gb284)); have n8_ := Aside0.mk ((Nat.le_trans HW0.out (by rw [hg]; exact (keep_size (w := w) (g := g) (row := none) (kp HK.out)) : w.heap.size ≤ gb284) : w0.heap.size ≤ gb284)); have n9_ := Aside0.mk ((by rw [hg]; exact Nat.ne_of_lt (blk_lt (g := gb269) (o := .cells #[.slice none 0 0] 26 (0, 0)) (bl BK269.out)) : gb269 ≠ gb284)); have n10_ := Aside0.mk ((by rw [hg]; exact Nat.ne_of_gt (blk_lt (g := gb269) (o := .cells #[.slice none 0 0] 26 (0, 0)) (bl BK269.out)) : gb284 ≠ gb269)); have n11_ := Aside0.mk ((by rw [hg]; exact Nat.ne_of_lt (IsS119.lt (show IsS119 w0 _ g s0_0 t279 t280 from i9 HI0.out)) : g ≠ gb284)); have n12_ := Aside0.mk ((by rw [hg]; exact Nat.ne_of_gt (IsS119.lt (show IsS119 w0 _ g s0_0 t279 t280 from i9 HI0.out)) : gb284 ≠ g)); clear HO278 HO283 HI0 BK269 HK HB; have HO278 := n0_; have HO283 := n1_; have HI0 := n2_; have BK269 := n3_; have HK := n4_; have HB := n5_; have BK284 := n6_; have GW284 := n7_; have GE284 := n8_; have NB269_284 := n9_; have NB284_269 := n10_; have NB0_284 := n11_; have NB284_0 := n12_; clear n0_ n1_ n2_ n3_ n4_ n5_ n6_ n7_ n8_ n9_ n10_ n11_ n12_ hb hbox hg; obtain ⟨Ao92, co92, eo92⟩ := Kd.R_slice HO283.out; subst eo92; have hnb93 := NB284_269.out; have hnc93 := NB269_284.out; have hnb94 := NB284_0.out; have hnc94 := NB0_284.out; have hcz95_0 : w91.cell? ⟨gb284, 0, none⟩ = some (.slice none 0 0) := (blk_cell BK284.out 0).trans rfl; have hfz95_0 := blk_frozen BK284.out 0))
        have n0_ : Aside0 (Kd.R k34 34 (w91.setCell ⟨gb284, 0, none⟩ (.slice Ao92 t281.length co92)) w.heap.size (fun k_ => some k_ ≠ (.slice Ao92 t281.length co92 : Value).ownBlock) (.slice Ao89 t276.length co89) t276) := ⟨by (with_reducible repeat (first | apply Kd.R_alloc | apply Kd.R_drewN | apply Kd.R_drew)); exact Kd.R_mono (Kd.R_far (p := ⟨gb284, 0, none⟩) (Kd.R_types HO278.out BK284.out (by decide)) (fun _ hk => hk.2) (.slice Ao92 t281.length co92)) (fun _ hk => hk.1.2)⟩
        have n1_ : Aside0 (Kd.R k34 34 (w91.setCell ⟨gb284, 0, none⟩ (.slice Ao92 t281.length co92)) w.heap.size (fun k_ => some k_ ≠ (.slice Ao89 t276.length co89 : Value).ownBlock) (.slice Ao92 t281.length co92) t281) := ⟨by (with_reducible repeat (first | apply Kd.R_alloc | apply Kd.R_drewN | apply Kd.R_drew)); exact Kd.R_mono (Kd.R_far (p := ⟨gb284, 0, none⟩) (Kd.R_types HO283.out BK284.out (by decide)) (fun _ hk => hk.2) (.slice Ao92 t281.length co92)) (fun _ hk => hk.1.2)⟩
        have n2_ : Aside0 ((w91.setCell ⟨gb284, 0, none⟩ (.slice Ao92 t281.length co92)).heap[gb269]? = some (.cells #[.slice none 0 0] 26 (0, 0))) := ⟨by (with_reducible repeat (first | refine blk_drewN ?_ _ | refine blk_drew ?_ | refine blk_alloc ?_ _)); refine blk_far ?_ NB269_284.out _; exact bl BK269.out⟩
        have n3_ : Aside0 ((w91.setCell ⟨gb284, 0, none⟩ (.slice Ao92 t281.length co92)).heap[gb284]? = some (.cells #[.slice Ao92 t281.length co92] 26 (0, 0))) := ⟨by (with_reducible repeat (first | refine blk_drewN ?_ _ | refine blk_drew ?_ | refine blk_alloc ?_ _)); refine blk_put (cs := #[.slice none 0 0]) ?_ 0 _ rfl; exact bl BK284.out⟩
        have n4_ : Aside0 (IsS119 w0 (w91.setCell ⟨gb284, 0, none⟩ (.slice Ao92 t281.length co92)) g s0_0 t279 t280) := ⟨i9 HI0.out⟩
        have n5_ : Aside0 (KeepBut w (w91.setCell ⟨gb284, 0, none⟩ (.slice Ao92 t281.length co92)) g none) := ⟨kp HK.out⟩
        have n6_ : Aside0 (Below w0.heap.size w0 (w91.setCell ⟨gb284, 0, none⟩ (.slice Ao92 t281.length co92))) := ⟨b9 HB.out⟩
        (try clear HO278)
        (try clear HO283)
        (try clear BK269)
        (try clear BK284)
        (try clear HI0)
        (try clear HK)
        (try clear HB)
        generalize (w91.setCell ⟨gb284, 0, none⟩ (.slice Ao92 t281.length co92)) = w96 at n0_ n1_ n2_ n3_ n4_ n5_ n6_ ⊢
        have HO278 := n0_
        have HO283 := n1_
        have BK269 := n2_
        have BK284 := n3_
        have HI0 := n4_
        have HK := n5_
        have HB := n6_
        clear n0_ n1_ n2_ n3_ n4_ n5_ n6_
        have n0_ := Aside0.mk (Kd.R_drew HO278.out)
        have n1_ := Aside0.mk (Kd.R_drew HO283.out)
        have n2_ := Aside0.mk (blk_drew BK269.out)
        have n3_ := Aside0.mk (blk_drew BK284.out)
        have n4_ := Aside0.mk (IsS119.drew HI0.out)
        have n5_ := Aside0.mk (keep_drew HK.out)
        have n6_ := Aside0.mk (below_drew1 HB.out)
        clear HO278
        clear HO283
        clear BK269
        clear BK284
        clear HI0
        clear HK
        clear HB
        have HO278 := n0_
        have HO283 := n1_
        have BK269 := n2_
        have BK284 := n3_
        have HI0 := n4_
        have HK := n5_
        have HB := n6_
        clear n0_ n1_ n2_ n3_ n4_ n5_ n6_
        have p292 : 0 ≤ (0 : Int) := (by omega)
        have q292 : 0 < (t281.length : Int) := oda
        obtain ⟨ad292, e292, hx292_0, hx292_1, hx292_2, hx292_3⟩ := at_T34 (Kd.R_reads' HO283.out).2.2 0 p292 q292
        cases e292
        have qi292 : (0 < t281.length) = True := eq_true (by omega)
        (try rw [show ((0 : Int)).toNat = 0 from rfl] at hx292_0)
        (try rw [show 0 * 4 = 0 from rfl] at hx292_0)
        (try rw [Addr.add_zero'] at hx292_0)
        (try rw [show ((0 : Int)).toNat = 0 from rfl] at hx292_1)
        (try rw [show 0 * 4 = 0 from rfl] at hx292_1)
        (try rw [Addr.add_zero'] at hx292_1)
        (try rw [show ((0 : Int)).toNat = 0 from rfl] at hx292_2)
        (try rw [show 0 * 4 = 0 from rfl] at hx292_2)
        (try rw [Addr.add_zero'] at hx292_2)
        (try rw [show ((0 : Int)).toNat = 0 from rfl] at hx292_3)
        (try rw [show 0 * 4 = 0 from rfl] at hx292_3)
        (try rw [Addr.add_zero'] at hx292_3)
        replace p292 := eq_true p292
        replace q292 := eq_true q292
        refine start_ (n := 10) (S := fun w' => w'.cell? ⟨gb284, 0, none⟩ = some (.slice (some ad292) t281.length co92) ∧ w'.cell? ad292 = some (.int .i64 ((rd_T34 t281 0).f0)) ∧ w'.cell? ⟨ad292.block, ad292.off + 1, none⟩ = some (.int .i64 ((rd_T34 t281 0).f1)) ∧ w'.cell? ⟨ad292.block, ad292.off + 2, none⟩ = some (.int .i64 ((rd_T34 t281 0).f2)) ∧ w'.cell? ⟨ad292.block, ad292.off + 3, none⟩ = some (.int .i64 ((rd_T34 t281 0).f3))) (ds := [7, 9]) #[false, false, false, false, false, false, false, false, false, false] (by kernel_rfl) rfl rfl ⟨(blk_cell BK284.out 0).trans rfl, hx292_0, hx292_1, hx292_2, hx292_3⟩ (fun hHeld => ?_); refine with_tabW spec_l03Any.tab13 spec_l03Any.bits13 (fun HT_ HW_ => ?_)
        generalize w96.drew = w97 at HO278 HO283 BK269 BK284 HI0 HK HB hx292_0 hx292_1 hx292_2 hx292_3 hHeld ⊢
        refine pure_ (i := 0) (N := some 53) (v := ?_) (a' := ?_) #[true, false, false, false, false, false, false, false, false, false] rfl rfl (any_of HT_.out (by kernel_rfl)) (fun _ _ _ h => h) (Or.inl ⟨by rfl, ?_⟩) ?_ ?_
        rotate_left
        ·intro w'
         go_simp
         with_reducible rfl
        rotate_left
        ·simp only [Act.put, List.setIfInBounds_toArray, List.set_cons_zero, List.set_cons_succ, i64_w, i32_w]
         rfl
        refine pure_ (i := 2) (N := some 55) (v := ?_) (a' := ?_) #[true, false, true, false, false, false, false, false, false, false] rfl rfl (any_of HT_.out (by kernel_rfl)) (fun _ _ _ h => h) (Or.inl ⟨by rfl, ?_⟩) ?_ ?_
        rotate_left
        ·intro w'
         go_simp
         with_reducible rfl
        rotate_left
        ·simp only [Act.put, List.setIfInBounds_toArray, List.set_cons_zero, List.set_cons_succ, i64_w, i32_w]
         rfl
        refine take_ (i := 1) (N := some 54) (v := ?_) (a' := ?_) #[true, true, true, false, false, false, false, false, false, false] rfl rfl (take_ofW HT_.out HW_.out (by kernel_rfl)) (fun _ _ _ h => h) (Or.inl ⟨by rfl, ?_⟩) hHeld ?_ ?_
        rotate_left
        ·rintro w' ⟨s0, s1, s2, s3, s4⟩
         go_simp
         with_reducible rfl
        rotate_left
        ·simp only [Act.put, List.setIfInBounds_toArray, List.set_cons_zero, List.set_cons_succ, i64_w, i32_w]
         rfl
        refine take_ (i := 3) (N := some 56) (v := ?_) (a' := ?_) #[true, true, true, true, false, false, false, false, false, false] rfl rfl (take_ofW HT_.out HW_.out (by kernel_rfl)) (fun _ _ _ h => h) (Or.inl ⟨by rfl, ?_⟩) hHeld ?_ ?_
        rotate_left
        ·rintro w' ⟨s0, s1, s2, s3, s4⟩
         go_simp
         with_reducible rfl
        rotate_left
        ·simp only [Act.put, List.setIfInBounds_toArray, List.set_cons_zero, List.set_cons_succ, i64_w, i32_w]
         rfl
        refine pure_ (i := 4) (N := some 57) (v := ?_) (a' := ?_) #[true, true, true, true, true, false, false, false, false, false] rfl rfl (any_of HT_.out (by kernel_rfl)) (fun _ _ _ h => h) (Or.inl ⟨by rfl, ?_⟩) ?_ ?_
        rotate_left
        ·intro w'
         go_simp
         with_reducible rfl
        rotate_left
        ·simp only [Act.put, List.setIfInBounds_toArray, List.set_cons_zero, List.set_cons_succ, i64_w, i32_w]
         rfl
        refine take_ (i := 5) (N := some 58) (v := ?_) (a' := ?_) #[true, true, true, true, true, true, false, false, false, false] rfl rfl (take_ofW HT_.out HW_.out (by kernel_rfl)) (fun _ _ _ h => h) (Or.inl ⟨by rfl, ?_⟩) hHeld ?_ ?_
        rotate_left
        ·rintro w' ⟨s0, s1, s2, s3, s4⟩
         go_simp
         with_reducible rfl
        rotate_left
        ·simp only [Act.put, List.setIfInBounds_toArray, List.set_cons_zero, List.set_cons_succ, i64_w, i32_w]
         rfl
        refine one_ (i := 6) (N := some 59) #[true, true, true, true, true, true, true, false, false, false] rfl rfl (one_of HT_.out (by kernel_rfl)) (by decide) (fun K hK => ?_)
        refine value_ (w1 := ?_) (v := ?_) (by rfl) rfl ?_ ?_
        rotate_left 2
        ·go_simp
         constructor
         ·rfl
         ·rfl
        refine hK.out _ _ ⟨(blk_cell (blk_alloc BK284.out _) 0).trans rfl, (World.cell?_alloc_lt _ _ _ (World.block_lt_of_cell? _ _ (hHeld.2.1))).trans (hHeld.2.1), (World.cell?_alloc_lt _ _ _ (World.block_lt_of_cell? _ _ (hHeld.2.2.1))).trans (hHeld.2.2.1), (World.cell?_alloc_lt _ _ _ (World.block_lt_of_cell? _ _ (hHeld.2.2.2.1))).trans (hHeld.2.2.2.1), (World.cell?_alloc_lt _ _ _ (World.block_lt_of_cell? _ _ (hHeld.2.2.2.2))).trans (hHeld.2.2.2.2)⟩ (fun hHeld => ?_)
        clear hK K
        refine norm_ (a' := ?_) ?_ ?_
        rotate_left
        ·show Act.put _ (some 59) _ = _
         simp only [Act.put, List.setIfInBounds_toArray, List.set_cons_zero, List.set_cons_succ, i64_w, i32_w]
         rfl
        refine last_ (i := 7) (N := some 60) #[true, true, true, true, true, true, true, true, false, false] rfl rfl (one_of HT_.out (by kernel_rfl)) (by decide) (fun K hK => ?_)
        refine Kd.R_append_step k34 w.heap.size (by rfl) (.tmp 54) (.tmp 59) 24 34 (.agg #[(.int .i64 0), (.int .i64 0), (.int .i64 0), (.int .i64 0)]) 32 rfl Try.underlying24 info34 rfl (by decide) (by omega) (.slice (some ad292) t281.length co92) t281 (⟨(rd_T34 t281 0).f0, (rd_T34 t281 0).f1, (rd_T34 t281 0).f2, (rd_T34 t281 0).f3⟩ : S34) [.int .i64 ((rd_T34 t281 0).f0), .int .i64 ((rd_T34 t281 0).f1), .int .i64 ((rd_T34 t281 0).f2), .int .i64 ((rd_T34 t281 0).f3)] (fun k_ => some k_ ≠ (.slice Ao89 t276.length co89 : Value).ownBlock) (fun _ => False) rfl rfl ?aP (fun _ hk => hk.elim) ?aF ?aO (Below.refl _ _) ?aS ?aL ?_
        (case aP => exact k34_mkM _ _ _ (⟨(rd_T34 t281 0).f0, (rd_T34 t281 0).f1, (rd_T34 t281 0).f2, (rd_T34 t281 0).f3⟩ : S34))
        (case aF => exact (fun k_ hk => Kd.fresh' (Kd.R_lt (rl HO278.out)) k_ hk))
        (case aO => exact (rl HO283.out))
        (case aS => exact (keep_size (w := w) (g := g) (row := none) (kp HK.out)))
        (case aL => have := LMc84.out; omega)
        intro v294 w98 ho hb hg hat
        rw [← Ny293.out] at ho
        have n0_ := Aside0.mk (IsS119.grown (i9 HI0.out) hg (IsS119.own_ne HI0.out HO283.out (by decide)))
        have n1_ := Aside0.mk (blk_grown (g := gb269) (o := .cells #[.slice none 0 0] 26 (0, 0)) (bl BK269.out) hg (Kd.R_ne HO283.out BK269.out (by decide)))
        have n2_ := Aside0.mk (Kd.R_after (ok := (fun _ => True)) (by (with_reducible repeat (first | apply Kd.R_alloc | apply Kd.R_drewN | apply Kd.R_drew)); exact Kd.R_mono HO278.out (fun _ hk => ⟨trivial, hk⟩)) hg hat)
        have n3_ := Aside0.mk (blk_grown (g := gb284) (o := .cells #[.slice (some ad292) t281.length co92] 26 (0, 0)) (bl BK284.out) hg (Kd.R_ne HO283.out BK284.out (by decide)))
        have n4_ := Aside0.mk (below_weaken (b9 HB.out) HL.out hb)
        have n5_ := Aside0.mk (KeepBut.trans (kp HK.out) (KeepBut.of_grown hg g) (Kd.R_base2 HO283.out))
        have n6_ := Aside0.mk (ho)
        clear HI0
        clear BK269
        clear HO278
        clear BK284
        clear HB
        clear HK
        clear HO283
        have HI0 := n0_
        have BK269 := n1_
        have HO278 := n2_
        have BK284 := n3_
        have HB := n4_
        have HK := n5_
        have HO295 := n6_
        clear n0_ n1_ n2_ n3_ n4_ n5_ n6_
        clear ho hb hg hat
        obtain ⟨Ao99, co99, eo99⟩ := Kd.R_slice HO295.out
        (first | subst eo99 | (injection eo99 with f1_ f2_ f3_; have f4_ := f1_.symm; have f5_ := f3_.symm; clear f1_ f2_ f3_; subst f4_; subst f5_))
        refine hK.out _ _ ?_
        clear hK K
        refine norm_ (a' := ?_) ?_ ?_
        rotate_left
        ·show Act.put _ (some 60) _ = _
         simp only [Act.put, List.setIfInBounds_toArray, List.set_cons_zero, List.set_cons_succ, i64_w, i32_w]
         rfl
        refine pure_ (i := 8) (N := some 61) (v := ?_) (a' := ?_) #[true, true, true, true, true, true, true, true, true, false] rfl rfl (any_of HT_.out (by kernel_rfl)) (fun _ _ _ h => h) (Or.inl ⟨by rfl, ?_⟩) ?_ ?_
        rotate_left
        ·intro w'
         go_simp
         with_reducible rfl
        rotate_left
        ·simp only [Act.put, List.setIfInBounds_toArray, List.set_cons_zero, List.set_cons_succ, i64_w, i32_w]
         rfl
        refine last_ (i := 9) (N := none) #[true, true, true, true, true, true, true, true, true, true] rfl rfl (one_of HT_.out (by kernel_rfl)) (by decide) (fun K hK => ?_)
        have hs100 : w98.cell? ⟨gb284, 0, none⟩ = some (.slice (some ad292) t281.length co92) := (blk_cell BK284.out 0).trans rfl
        have hfs100 := blk_frozen BK284.out 0
        have hns100_0 := NB269_284.out
        have hms100_0 := NB284_269.out
        refine skip_ (w1 := ?_) (by rfl) rfl ?_ ?_
        rotate_left
        ·go_simp
         rfl
        refine hK.out _ _ ?_
        clear hK K
        refine done_ (done_of HT_.out (by kernel_rfl)) ?_
        have hcz101_0 : w98.cell? ⟨gb284, 0, none⟩ = some (.slice (some ad292) t281.length co92) := (blk_cell BK284.out 0).trans rfl
        have hfz101_0 := blk_frozen BK284.out 0
        have hnb102 := NB269_0.out
        have hnc102 := NB0_269.out
        have hcz103_0 : w98.cell? ⟨gb269, 0, none⟩ = some (.slice none 0 0) := (blk_cell BK269.out 0).trans rfl
        have hfz103_0 := blk_frozen BK269.out 0
        try go_wp2
        refine bodyPost_ret (results_cell_row rfl _ _ gb269 26 #[.slice Ao99 y293.length co99] (0, 0) _ rfl (by (with_reducible repeat (first | refine blk_drewN ?_ _ | refine blk_drew ?_ | refine blk_alloc ?_ _)); refine blk_put (cs := #[.slice none 0 0]) ?_ 0 _ rfl; (with_reducible repeat (first | refine blk_drewN ?_ _ | refine blk_drew ?_ | refine blk_alloc ?_ _)); refine blk_far ?_ NB269_284.out _; exact bl BK269.out) Try.underlying26 rfl (by kernel_rfl)) rfl ?_
        exact ⟨_, by first | rfl | (simp [errW_none, errW_some] <;> rfl) | (simp [*, errW_none, errW_some] <;> rfl), by (with_reducible repeat (first | apply Kd.R_alloc | apply Kd.R_drewN | apply Kd.R_drew)); exact Kd.R_mono (Kd.R_far (p := ⟨gb269, 0, none⟩) (Kd.R_far (p := ⟨gb284, 0, none⟩) (Kd.R_types (Kd.R_types HO295.out BK284.out (by decide)) BK269.out (by decide)) (fun _ hk => hk.1.2) (.slice Ao99 y293.length co99)) (fun _ hk => hk.2) (.slice Ao99 y293.length co99)) (fun _ hk => trivial), i9 HI0.out, b9 HB.out, kp HK.out⟩
       ·rw [if_neg c84] at H
        exact absurd H (by simp)
      ·rw [if_neg c83] at H
       exact absurd H (by simp)
     ·rw [if_neg c82] at H
      have c82b0 : (t270 == 3) = false := beq_eq_false_iff_ne.mpr c82
      have c82b1 : (t270 != 3) = true := bne_iff_ne.mpr c82
      simp only [Option.some.injEq, Prod.mk.injEq] at H
      obtain ⟨rfl, rfl, rfl⟩ := H
      go_enter Try.func76, Try.ntmps76
      go_wp2_with (first | ((with_reducible refine gate_dst (N := 2) rfl ?_); refine box_event ?hg (N := 2) ?hd (cs := #[.slice none 0 0]) (t := 26) ?hr ?_; (case hd => rfl); (case hg => rfl); (case hr => first | (go_simp; done) | (go_simp; rfl)); intro gb269 hg w104 hbox hb; have n0_ := Aside0.mk (IsS119.below (i9 HI0.out) hb); have n1_ := Aside0.mk (KeepBut.trans (kp HK.out) (KeepBut.of_below hb g none) (.inl rfl)); have n2_ := Aside0.mk (below_step (b9 HB.out) hb); have n3_ := Aside0.mk (hbox); have n4_ := Aside0.mk ((by rw [hg]; exact (keep_size (w := w) (g := g) (row := none) (kp HK.out)) : w.heap.size ≤ gb269)); have n5_ := Aside0.mk ((Nat.le_trans HW0.out (by rw [hg]; exact (keep_size (w := w) (g := g) (row := none) (kp HK.out)) : w.heap.size ≤ gb269) : w0.heap.size ≤ gb269)); have n6_ := Aside0.mk ((by rw [hg]; exact Nat.ne_of_lt (IsS119.lt (show IsS119 w0 _ g s0_0 s0_1 s0_2 from i9 HI0.out)) : g ≠ gb269)); have n7_ := Aside0.mk ((by rw [hg]; exact Nat.ne_of_gt (IsS119.lt (show IsS119 w0 _ g s0_0 s0_1 s0_2 from i9 HI0.out)) : gb269 ≠ g)); clear HI0 HK HB; have HI0 := n0_; have HK := n1_; have HB := n2_; have BK269 := n3_; have GW269 := n4_; have GE269 := n5_; have NB0_269 := n6_; have NB269_0 := n7_; clear n0_ n1_ n2_ n3_ n4_ n5_ n6_ n7_ hb hbox hg) | ((with_reducible refine gate_callee (f := 70) rfl ?_); refine goesL_ (some 8) rfl rfl Try.func70 (by kernel_rfl) rfl #[.pointer (some ⟨g, 0, none⟩), .int .i64 12] rfl ar ?_; (with_reducible refine (spec_l01Below.calls g s0_0 s0_1 s0_2 12 t270 t271 t272 w0 _ ?side1 ?side2 A2.out).mono ?_); (case side1 => exact i9 HI0.out); (case side2 => exact b9 HB.out); rintro e w105 ⟨rfl, hi, hb, hk⟩; refine ⟨_, rfl, ?_⟩; have n0_ := Aside0.mk (KeepBut.blk hk (g' := gb269) (o := .cells #[.slice none 0 0] 26 (0, 0)) (bl BK269.out) NB269_0.out (by simp)); have n1_ := Aside0.mk (KeepBut.trans (kp HK.out) hk (.inl rfl)); have n2_ := Aside0.mk (hb); have n3_ := Aside0.mk (hi); clear BK269 HK HB HI0; have BK269 := n0_; have HK := n1_; have HB := n2_; have HI0 := n3_; clear n0_ n1_ n2_ n3_; (try clear hb); (try clear hb2); (try clear hk); (try clear hi)) | ((with_reducible refine gate_callee (f := 70) rfl ?_); refine goesL_ (some 10) rfl rfl Try.func70 (by kernel_rfl) rfl #[.pointer (some ⟨g, 0, none⟩), .int .i64 60] rfl ar ?_; (with_reducible refine (spec_l01Below.calls g s0_0 t271 t272 60 t273 t274 t275 w0 _ ?side1 ?side2 A3.out).mono ?_); (case side1 => exact i9 HI0.out); (case side2 => exact b9 HB.out); rintro e w106 ⟨rfl, hi, hb, hk⟩; refine ⟨_, rfl, ?_⟩; have n0_ := Aside0.mk (KeepBut.blk hk (g' := gb269) (o := .cells #[.slice none 0 0] 26 (0, 0)) (bl BK269.out) NB269_0.out (by simp)); have n1_ := Aside0.mk (KeepBut.trans (kp HK.out) hk (.inl rfl)); have n2_ := Aside0.mk (hb); have n3_ := Aside0.mk (hi); clear BK269 HK HB HI0; have BK269 := n0_; have HK := n1_; have HB := n2_; have HI0 := n3_; clear n0_ n1_ n2_ n3_; (try clear hb); (try clear hb2); (try clear hk); (try clear hi)) | ((with_reducible refine gate_callee (f := 69) rfl ?_); refine goesL_ (some 12) rfl rfl Try.func69 (by kernel_rfl) rfl #[.pointer (some ⟨g, 0, none⟩)] rfl ar ?_; (with_reducible refine (spec_l03Arena.calls g s0_0 t274 t275 t276 t279 t280 w0 _ ?side1 ?side2 A4.out).mono ?_); (case side1 => exact i9 HI0.out); (case side2 => exact b9 HB.out); rintro e w107 ⟨v277, rfl, ho0, hi, hb, hk⟩; refine ⟨_, rfl, ?_⟩; have n0_ := Aside0.mk (KeepBut.blk hk (g' := gb269) (o := .cells #[.slice none 0 0] 26 (0, 0)) (bl BK269.out) NB269_0.out (by simp)); have n1_ := Aside0.mk (Kd.R_lower ho0 (keep_size (w := w) (g := g) (row := none) (kp HK.out))); have n2_ := Aside0.mk (KeepBut.trans (kp HK.out) hk (.inl rfl)); have n3_ := Aside0.mk (hb); have n4_ := Aside0.mk (hi); clear BK269 HK HB HI0; have BK269 := n0_; have HO278 := n1_; have HK := n2_; have HB := n3_; have HI0 := n4_; clear n0_ n1_ n2_ n3_ n4_; (try clear hb); (try clear hb2); (try clear hk); (try clear hi); (try clear ho0); obtain ⟨Ao108, co108, eo108⟩ := Kd.R_slice HO278.out; subst eo108) | ((with_reducible refine gate_callee (f := 90) rfl ?_); refine goesL_ (some 13) rfl rfl Try.func90 (by kernel_rfl) rfl #[.agg #[.slice Ao108 t276.length co108]] rfl ar ?_; (with_reducible refine (spec_l03Copy.calls _ _ t276 t281 _ ?side1 ?side2 A5.out).mono ?_); (case side1 => exact cl (Kd.R_reads' HO278.out).2.2); (case side2 => exact (Kd.R_reads' HO278.out).2.1); rintro e w109 ⟨v282, rfl, ho0, hb⟩; refine ⟨_, rfl, ?_⟩; have n0_ := Aside0.mk (Kd.R_elder' (rl HO278.out) (Kd.R_base ho0) hb); have n1_ := Aside0.mk (Kd.R_lower (Kd.R_new' ho0 (Kd.R_lt (rl HO278.out))) (keep_size (w := w) (g := g) (row := none) (kp HK.out))); have n2_ := Aside0.mk (IsS119.below (i9 HI0.out) hb); have n3_ := Aside0.mk (blk_below (g := gb269) (o := .cells #[.slice none 0 0] 26 (0, 0)) (bl BK269.out) hb); have n4_ := Aside0.mk (KeepBut.trans (kp HK.out) (KeepBut.of_below hb g none) (.inl rfl)); have n5_ := Aside0.mk (below_step (b9 HB.out) hb); clear HO278 HI0 BK269 HK HB; have HO278 := n0_; have HO283 := n1_; have HI0 := n2_; have BK269 := n3_; have HK := n4_; have HB := n5_; clear n0_ n1_ n2_ n3_ n4_ n5_; (try clear hb); (try clear hb2); (try clear hk); (try clear hi); (try clear ho0)) | ((with_reducible refine gate_dst (N := 5) rfl ?_); refine box_event ?hg (N := 5) ?hd (cs := #[.slice none 0 0]) (t := 26) ?hr ?_; (case hd => rfl); (case hg => rfl); (case hr => first | (go_simp; done) | (go_simp; rfl)); intro gb284 hg w110 hbox hb; have n0_ := Aside0.mk (Kd.R_below (rl HO278.out) hb); have n1_ := Aside0.mk (Kd.R_below (rl HO283.out) hb); have n2_ := Aside0.mk (IsS119.below (i9 HI0.out) hb); have n3_ := Aside0.mk (blk_below (g := gb269) (o := .cells #[.slice none 0 0] 26 (0, 0)) (bl BK269.out) hb); have n4_ := Aside0.mk (KeepBut.trans (kp HK.out) (KeepBut.of_below hb g none) (.inl rfl)); have n5_ := Aside0.mk (below_step (b9 HB.out) hb); have n6_ := Aside0.mk (hbox); have n7_ := Aside0.mk ((by rw [hg]; exact (keep_size (w := w) (g := g) (row := none) (kp HK.out)) : w.heap.size ≤ gb284)); have n8_ := Aside0.mk ((Nat.le_trans HW0.out (by rw [hg]; exact (keep_size (w := w) (g := g) (row := none) (kp HK.out)) : w.heap.size ≤ gb284) : w0.heap.size ≤ gb284)); have n9_ := Aside0.mk ((by rw [hg]; exact Nat.ne_of_lt (blk_lt (g := gb269) (o := .cells #[.slice none 0 0] 26 (0, 0)) (bl BK269.out)) : gb269 ≠ gb284)); have n10_ := Aside0.mk ((by rw [hg]; exact Nat.ne_of_gt (blk_lt (g := gb269) (o := .cells #[.slice none 0 0] 26 (0, 0)) (bl BK269.out)) : gb284 ≠ gb269)); have n11_ := Aside0.mk ((by rw [hg]; exact Nat.ne_of_lt (IsS119.lt (show IsS119 w0 _ g s0_0 t279 t280 from i9 HI0.out)) : g ≠ gb284)); have n12_ := Aside0.mk ((by rw [hg]; exact Nat.ne_of_gt (IsS119.lt (show IsS119 w0 _ g s0_0 t279 t280 from i9 HI0.out)) : gb284 ≠ g)); clear HO278 HO283 HI0 BK269 HK HB; have HO278 := n0_; have HO283 := n1_; have HI0 := n2_; have BK269 := n3_; have HK := n4_; have HB := n5_; have BK284 := n6_; have GW284 := n7_; have GE284 := n8_; have NB269_284 := n9_; have NB284_269 := n10_; have NB0_284 := n11_; have NB284_0 := n12_; clear n0_ n1_ n2_ n3_ n4_ n5_ n6_ n7_ n8_ n9_ n10_ n11_ n12_ hb hbox hg; obtain ⟨Ao111, co111, eo111⟩ := Kd.R_slice HO283.out; subst eo111; have hnb112 := NB284_269.out; have hnc112 := NB269_284.out; have hnb113 := NB284_0.out; have hnc113 := NB0_284.out; have hcz114_0 : w110.cell? ⟨gb284, 0, none⟩ = some (.slice none 0 0) := (blk_cell BK284.out 0).trans rfl; have hfz114_0 := blk_frozen BK284.out 0; have hnb115 := NB269_0.out; have hnc115 := NB0_269.out; have hcz116_0 : w110.cell? ⟨gb269, 0, none⟩ = some (.slice none 0 0) := (blk_cell BK269.out 0).trans rfl; have hfz116_0 := blk_frozen BK269.out 0))
      refine bodyPost_ret (results_cell_row rfl _ _ gb269 26 #[.slice Ao111 t281.length co111] (0, 0) _ rfl (by (with_reducible repeat (first | refine blk_drewN ?_ _ | refine blk_drew ?_ | refine blk_alloc ?_ _)); refine blk_put (cs := #[.slice none 0 0]) ?_ 0 _ rfl; (with_reducible repeat (first | refine blk_drewN ?_ _ | refine blk_drew ?_ | refine blk_alloc ?_ _)); refine blk_far ?_ NB269_284.out _; exact bl BK269.out) Try.underlying26 rfl (by kernel_rfl)) rfl ?_
      exact ⟨_, by first | rfl | (simp [errW_none, errW_some] <;> rfl) | (simp [*, errW_none, errW_some] <;> rfl), by (with_reducible repeat (first | apply Kd.R_alloc | apply Kd.R_drewN | apply Kd.R_drew)); exact Kd.R_mono (Kd.R_far (p := ⟨gb269, 0, none⟩) (Kd.R_far (p := ⟨gb284, 0, none⟩) (Kd.R_types (Kd.R_types HO283.out BK284.out (by decide)) BK269.out (by decide)) (fun _ hk => hk.1.2) (.slice Ao111 t281.length co111)) (fun _ hk => hk.2) (.slice Ao111 t281.length co111)) (fun _ hk => trivial), i9 HI0.out, b9 HB.out, kp HK.out⟩

end Go.Proofs.Ytkckdibalopagaa.SFnReaches
