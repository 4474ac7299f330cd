-- Began as a print of the kit over stubs (wip/stub.py); the sections that are named OWN are this session's.
import Derived.Test.YtkckdibalopagaaSFnMakesx0
import Derived.Test.YtkckdibalopagaaSFnMakesx1
import Derived.Test.YtkckdibalopagaaSFnMakesx4
import Derived.Test.YtkckdibalopagaaSFnMakesx5
import Derived.Test.YtkckdibalopagaaSFnMakesx7
import Derived.Test.YtkckdibalopagaaQAppendAt
import Derived.Test.YtkckdibalopagaaQBase
import Derived.Test.YtkckdibalopagaaQMapOnce
import Derived.RegionTactic
import Derived.BigRegion
import Derived.Carry
import Derived.DeepKeys4
import Derived.Test.YtkckdibalopagaaQShort
namespace Go.Proofs.Ytkckdibalopagaa.SFnMakes
open Go.RowKit Go.Proofs.YtkckdibalopagaaW.PrintWords Go.Proofs.YtkckdibalopagaaW.PrintLast Go.Proofs.YtkckdibalopagaaW.PrintMore Go.Proofs.Ytkckdibalopagaa.Short
attribute [local go_sem] max2_int min2_int max_two min_two max_three min_three max_four min_four   -- for this text's walks alone
set_option linter.unusedVariables false
set_option linter.unusedSimpArgs false

attribute [local go_sem high] eqA34
/-! ### impl_termBytes: OWN: function 89 -/
def impl_termBytes.f : Nat → List Int → List (S34) → Int → Option (List Int)
  | 0, _, _, _ => none
  | k + 1, l0, l1_0, a2 => if 0 ≤ a2 then (if a2 < (l1_0.length : Int) then ((impl_VarText.f k ((rd_T34 l1_0 a2).f0)).bind fun bt278 => (if l0.length + bt278.1.size < 140737488355328 then ((some (l0 ++ bytesOf bt278.1 : List Int)).bind fun y280 => (if ((rd_T34 l1_0 a2).f0) = 1 then ((impl_VarText.f k ((rd_T34 l1_0 a2).f1)).bind fun bt283 => (if y280.length + bt283.1.size < 140737488355328 then (some (y280 ++ bytesOf bt283.1)) else (none))) else ((impl_termBytes.f k y280 l1_0 ((rd_T34 l1_0 a2).f2)).bind fun t288 => ((impl_hasB.f ((rd_T34 l1_0 a2).f0)).bind fun t291 => (if t291 = true then ((impl_termBytes.f k t288 l1_0 ((rd_T34 l1_0 a2).f3)).bind fun t292 => (some t292)) else (some t288)))))) else (none))) else (none)) else (none)
set_option maxHeartbeats 8000000 in
set_option maxRecDepth 100000 in
theorem impl_termBytes.calls (k : Nat) : ∀ (P0_ : Nat → Prop) (u9000_ : Value) (l0 : List Int) (A1_0 : Option Addr) (c1_0 : Nat) (l1_0 : List (S34)) (a2 : Int) (r : List Int) (w0 w : World) (hB : Below w0.heap.size w0 w) (ho0 : Kd.R (Kd.int .u8) 5 w w0.heap.size P0_ u9000_ l0) (hr1_0 : ∀ W_, Kept w W_ (fun k_ => P0_ k_) → Kd.C k34 W_ A1_0 l1_0.length l1_0) (hc1_0 : l1_0.length ≤ c1_0) (h : impl_termBytes.f k l0 l1_0 a2 = some r),
  Calls Try.prog 89 #[u9000_, .agg #[.slice A1_0 l1_0.length c1_0], .int .i64 a2] w fun e w' => ∃ v0_ : Value, e = .returned (v0_) ∧ Kd.R (Kd.int .u8) 5 w' w0.heap.size (fun k_ => (P0_ k_ ∨ w.heap.size ≤ k_)) v0_ r ∧ Below w0.heap.size w0 w' ∧ Kept w w' (fun k_ => P0_ k_) := by
 induction k using Nat.strongRecOn with
 | _ k ih =>
 intro P0_ u9000_ l0 A1_0 c1_0 l1_0 a2 r w0 w hB ho0 hr1_0 hc1_0 h
 cases k with
 | zero => exact absurd h (by simp [impl_termBytes.f])
 | succ k =>
 simp only [impl_termBytes.f] at h
 have hu26 := Try.underlying26
 have hu34 := Try.underlying34
 have HO0 := Aside0.mk (show Kd.R (Kd.int .u8) 5 w w0.heap.size (fun k_ => (P0_ k_ ∨ w.heap.size ≤ k_)) u9000_ l0 from Kd.R_mono ho0 (fun k_ hk => (.inl hk)))
 have HR1_0 := Aside0.mk hr1_0
 have HC1_0 := Aside0.mk hc1_0
 clear hr1_0 hc1_0
 have HK := Aside0.mk (Kept.refl w (fun k_ => P0_ k_))
 have HW0 := Aside0.mk hB.size
 have HB := Aside0.mk hB
 clear hB
 have H : (if 0 ≤ a2 then (if a2 < (l1_0.length : Int) then ((impl_VarText.f k ((rd_T34 l1_0 a2).f0)).bind fun bt278 => (if l0.length + bt278.1.size < 140737488355328 then ((some (l0 ++ bytesOf bt278.1 : List Int)).bind fun y280 => (if ((rd_T34 l1_0 a2).f0) = 1 then ((impl_VarText.f k ((rd_T34 l1_0 a2).f1)).bind fun bt283 => (if y280.length + bt283.1.size < 140737488355328 then (some (y280 ++ bytesOf bt283.1)) else (none))) else ((impl_termBytes.f k y280 l1_0 ((rd_T34 l1_0 a2).f2)).bind fun t288 => ((impl_hasB.f ((rd_T34 l1_0 a2).f0)).bind fun t291 => (if t291 = true then ((impl_termBytes.f k t288 l1_0 ((rd_T34 l1_0 a2).f3)).bind fun t292 => (some t292)) else (some t288)))))) else (none))) else (none)) else (none)) = some r := h
 clear h
 by_cases c4 : 0 ≤ a2
 ·rw [if_pos c4] at H
  have c4b0 : decide (0 ≤ a2) = true := decide_eq_true c4
  clear c4
  by_cases c5 : a2 < (l1_0.length : Int)
  ·rw [if_pos c5] at H
   have c5b0 : decide (a2 < (l1_0.length : Int)) = true := decide_eq_true c5
   clear c5
   replace H := Option.bind_eq_some_iff.mp H
   obtain ⟨⟨t278, t279⟩, A60, H⟩ := H
   replace H : (if l0.length + t278.size < 140737488355328 then ((some (l0 ++ bytesOf t278 : List Int)).bind fun y280 => (if ((rd_T34 l1_0 a2).f0) = 1 then ((impl_VarText.f k ((rd_T34 l1_0 a2).f1)).bind fun bt283 => (if y280.length + bt283.1.size < 140737488355328 then (some (y280 ++ bytesOf bt283.1)) else (none))) else ((impl_termBytes.f k y280 l1_0 ((rd_T34 l1_0 a2).f2)).bind fun t288 => ((impl_hasB.f ((rd_T34 l1_0 a2).f0)).bind fun t291 => (if t291 = true then ((impl_termBytes.f k t288 l1_0 ((rd_T34 l1_0 a2).f3)).bind fun t292 => (some t292)) else (some t288)))))) else (none)) = some r := H
   have A6 := Aside0.mk A60
   clear A60
   by_cases c7 : l0.length + t278.size < 140737488355328
   ·rw [if_pos c7] at H
    have LMc7 := Aside0.mk c7
    clear c7
    obtain ⟨y280, hy280⟩ : ∃ y_ : List Int, y_ = (l0 ++ bytesOf t278) := ⟨_, rfl⟩
    replace H : (if ((rd_T34 l1_0 a2).f0) = 1 then ((impl_VarText.f k ((rd_T34 l1_0 a2).f1)).bind fun bt283 => (if y280.length + bt283.1.size < 140737488355328 then (some (y280 ++ bytesOf bt283.1)) else (none))) else ((impl_termBytes.f k y280 l1_0 ((rd_T34 l1_0 a2).f2)).bind fun t288 => ((impl_hasB.f ((rd_T34 l1_0 a2).f0)).bind fun t291 => (if t291 = true then ((impl_termBytes.f k t288 l1_0 ((rd_T34 l1_0 a2).f3)).bind fun t292 => (some t292)) else (some t288))))) = some r := by first | (rw [hy280]; with_reducible exact H) | (have H2_ := (Option.bind_some _ _).symm.trans H; rw [hy280]; with_reducible exact H2_) | (have H2_ := (Option.bind_some _ _).symm.trans H; with_reducible exact H2_) | with_reducible exact H | (rw [hy280]; exact H) | exact H
    have Ny280 := Aside0.mk hy280
    clear hy280
    by_cases c8 : ((rd_T34 l1_0 a2).f0) = 1
    ·rw [if_pos c8] at H
     have c8b0 : (((rd_T34 l1_0 a2).f0) == 1) = true := beq_iff_eq.mpr c8
     have c8b1 : (((rd_T34 l1_0 a2).f0) != 1) = false := bne_eq_false_iff_eq.mpr c8
     clear c8
     replace H := Option.bind_eq_some_iff.mp H
     obtain ⟨⟨t283, t284⟩, A90, H⟩ := H
     replace H : (if y280.length + t283.size < 140737488355328 then (some (y280 ++ bytesOf t283)) else (none)) = some r := H
     have A9 := Aside0.mk A90
     clear A90
     by_cases c10 : y280.length + t283.size < 140737488355328
     ·rw [if_pos c10] at H
      have LMc10 := Aside0.mk c10
      clear c10
      obtain ⟨y285, hy285⟩ : ∃ y_ : List Int, y_ = (y280 ++ bytesOf t283) := ⟨_, rfl⟩
      replace H : (some y285) = some r := by first | (rw [hy285]; with_reducible exact H) | (have H2_ := (Option.bind_some _ _).symm.trans H; rw [hy285]; with_reducible exact H2_) | (have H2_ := (Option.bind_some _ _).symm.trans H; with_reducible exact H2_) | with_reducible exact H | (rw [hy285]; exact H) | exact H
      have Ny285 := Aside0.mk hy285
      clear hy285
      obtain rfl := Option.some.inj H
      go_enter Try.func89, Try.ntmps89
      go_wp2_with (first | ((with_reducible refine gate_dst (N := 4) rfl ?_); refine box_event ?hg (N := 4) ?hd (cs := #[.slice A1_0 l1_0.length c1_0]) (t := 26) ?hr ?_; (case hd => rfl); (case hg => rfl); (case hr => first | (go_simp; done) | (go_simp; rfl)); intro gb275 hg w11 hbox hb; have n0_ := Aside0.mk (Kd.R_below (rl HO0.out) hb); have n1_ := Aside0.mk (Kept.below (S := (fun k_ => P0_ k_)) (by repeat (first | (with_reducible first | exact HK.out | apply Kept.alloc | apply Kept.drewN | apply Kept.drew) | exact HK.out)) hb); have n2_ := Aside0.mk (below_step (bw HB.out) hb); have n3_ := Aside0.mk (hbox); have n4_ := Aside0.mk ((by rw [hg]; exact (by first | exact HK.out.1 | exact (show Kept w _ (fun k_ => P0_ k_) from by repeat (first | (with_reducible first | exact HK.out | apply Kept.alloc | apply Kept.drewN | apply Kept.drew) | exact HK.out)).1) : w.heap.size ≤ gb275)); have n5_ := Aside0.mk ((by rw [hg]; exact (below_size (bw HB.out)) : w0.heap.size ≤ gb275)); clear HO0 HK HB; have HO0 := n0_; have HK := n1_; have HB := n2_; have BK275 := n3_; have GW275 := n4_; have GE275 := n5_; clear n0_ n1_ n2_ n3_ n4_ n5_ hb hbox hg; have hcz12_0 : w11.cell? ⟨gb275, 0, none⟩ = some (.slice A1_0 l1_0.length c1_0) := (blk_cell BK275.out 0).trans rfl; have hfz12_0 := blk_frozen BK275.out 0; have p276 : 0 ≤ (a2 : Int) := oda; have q276 : a2 < (l1_0.length : Int) := oda; obtain ⟨ad276, e276, hx276_0, hx276_1, hx276_2, hx276_3⟩ := at_T34 (Kd.C_kept_now HR1_0.out HK.out) a2 p276 q276; cases e276; replace p276 := eq_true p276; replace q276 := eq_true q276) | ((with_reducible refine gate_dst (N := 7) rfl ?_); refine box_event ?hg (N := 7) ?hd (cs := #[.int .i64 0, .int .i64 0, .int .i64 0, .int .i64 0]) (t := 34) ?hr ?_; (case hd => rfl); (case hg => rfl); (case hr => first | (go_simp; done) | (go_simp; rfl)); intro gb277 hg w13 hbox hb; have n0_ := Aside0.mk (Kd.R_below (rl HO0.out) hb); have n1_ := Aside0.mk (blk_below (g := gb275) (o := .cells #[.slice (some ad276) l1_0.length c1_0] 26 (0, 0)) (bl BK275.out) hb); have n2_ := Aside0.mk (Kept.below (S := (fun k_ => P0_ k_)) (by repeat (first | (with_reducible first | exact HK.out | apply Kept.alloc | apply Kept.drewN | apply Kept.drew | refine Kept.setCell ?_ (.inr GW275.out) _) | exact HK.out)) hb); have n3_ := Aside0.mk (below_step (bw HB.out) hb); have n4_ := Aside0.mk (hbox); have n5_ := Aside0.mk ((by rw [hg]; exact (by first | exact HK.out.1 | exact (show Kept w _ (fun k_ => P0_ k_) from by repeat (first | (with_reducible first | exact HK.out | apply Kept.alloc | apply Kept.drewN | apply Kept.drew | refine Kept.setCell ?_ (.inr GW275.out) _) | exact HK.out)).1) : w.heap.size ≤ gb277)); have n6_ := Aside0.mk ((by rw [hg]; exact (below_size (bw HB.out)) : w0.heap.size ≤ gb277)); have n7_ := Aside0.mk ((by rw [hg]; exact Nat.ne_of_lt (blk_lt (g := gb275) (o := .cells #[.slice (some ad276) l1_0.length c1_0] 26 (0, 0)) (bl BK275.out)) : gb275 ≠ gb277)); have n8_ := Aside0.mk ((by rw [hg]; exact Nat.ne_of_gt (blk_lt (g := gb275) (o := .cells #[.slice (some ad276) l1_0.length c1_0] 26 (0, 0)) (bl BK275.out)) : gb277 ≠ gb275)); clear HO0 BK275 HK HB; have HO0 := n0_; have BK275 := n1_; have HK := n2_; have HB := n3_; have BK277 := n4_; have GW277 := n5_; have GE277 := n6_; have NB275_277 := n7_; have NB277_275 := n8_; clear n0_ n1_ n2_ n3_ n4_ n5_ n6_ n7_ n8_ hb hbox hg; have hnb14 := NB277_275.out; have hnc14 := NB275_277.out; have hcz15_0 : w13.cell? ⟨gb277, 0, none⟩ = some (.int .i64 0) := (blk_cell BK277.out 0).trans rfl; have hcz15_1 : w13.cell? ⟨gb277, 1, none⟩ = some (.int .i64 0) := (blk_cell BK277.out 1).trans rfl; have hcz15_2 : w13.cell? ⟨gb277, 2, none⟩ = some (.int .i64 0) := (blk_cell BK277.out 2).trans rfl; have hcz15_3 : w13.cell? ⟨gb277, 3, none⟩ = some (.int .i64 0) := (blk_cell BK277.out 3).trans rfl; have hfz15_0 := blk_frozen BK277.out 0; have hfz15_1 := blk_frozen BK277.out 1; have hfz15_2 := blk_frozen BK277.out 2; have hfz15_3 := blk_frozen BK277.out 3) | ((with_reducible refine gate_callee (f := 124) rfl ?_); refine goesL_ (some 20) rfl rfl Try.func124 (by kernel_rfl) rfl #[.int .i64 ((rd_T34 l1_0 a2).f0)] rfl ar ?_; (with_reducible refine (impl_VarText.calls k ((rd_T34 l1_0 a2).f0) t278 t279 _ A6.out).mono ?_); rintro e w16 ⟨rfl, hb⟩; refine ⟨_, rfl, ?_⟩; have n0_ := Aside0.mk (Kd.R_below (by (with_reducible repeat (first | apply Kd.R_alloc | apply Kd.R_drewN | apply Kd.R_drew)); exact (Kd.R_mono (Kd.R_far (p := ⟨gb277, 3, none⟩) (Kd.R_far (p := ⟨gb277, 2, none⟩) (Kd.R_far (p := ⟨gb277, 1, none⟩) (Kd.R_far (p := ⟨gb277, 0, none⟩) (Kd.R_types HO0.out BK277.out (by decide)) (fun _ hk => hk.2) (.int .i64 ((rd_T34 l1_0 a2).f0))) (fun _ hk => hk.2) (.int .i64 ((rd_T34 l1_0 a2).f1))) (fun _ hk => hk.2) (.int .i64 ((rd_T34 l1_0 a2).f2))) (fun _ hk => hk.2) (.int .i64 ((rd_T34 l1_0 a2).f3))) (fun _ h_ => h_.1))) hb); have n1_ := Aside0.mk (blk_below (g := gb275) (o := .cells #[.slice (some ad276) l1_0.length c1_0] 26 (0, 0)) (by (with_reducible repeat (first | refine blk_drewN ?_ _ | refine blk_drew ?_ | refine blk_alloc ?_ _)); refine blk_far ?_ NB275_277.out _; (with_reducible repeat (first | refine blk_drewN ?_ _ | refine blk_drew ?_ | refine blk_alloc ?_ _)); refine blk_far ?_ NB275_277.out _; (with_reducible repeat (first | refine blk_drewN ?_ _ | refine blk_drew ?_ | refine blk_alloc ?_ _)); refine blk_far ?_ NB275_277.out _; (with_reducible repeat (first | refine blk_drewN ?_ _ | refine blk_drew ?_ | refine blk_alloc ?_ _)); refine blk_far ?_ NB275_277.out _; (with_reducible repeat (first | refine blk_drewN ?_ _ | refine blk_drew ?_ | refine blk_alloc ?_ _)); exact BK275.out) hb); have n2_ := Aside0.mk (blk_below (g := gb277) (o := .cells #[.int .i64 ((rd_T34 l1_0 a2).f0), .int .i64 ((rd_T34 l1_0 a2).f1), .int .i64 ((rd_T34 l1_0 a2).f2), .int .i64 ((rd_T34 l1_0 a2).f3)] 34 (0, 0)) (by (with_reducible repeat (first | refine blk_drewN ?_ _ | refine blk_drew ?_ | refine blk_alloc ?_ _)); refine blk_put (cs := #[.int .i64 ((rd_T34 l1_0 a2).f0), .int .i64 ((rd_T34 l1_0 a2).f1), .int .i64 ((rd_T34 l1_0 a2).f2), .int .i64 0]) ?_ 3 _ rfl; (with_reducible repeat (first | refine blk_drewN ?_ _ | refine blk_drew ?_ | refine blk_alloc ?_ _)); refine blk_put (cs := #[.int .i64 ((rd_T34 l1_0 a2).f0), .int .i64 ((rd_T34 l1_0 a2).f1), .int .i64 0, .int .i64 0]) ?_ 2 _ rfl; (with_reducible repeat (first | refine blk_drewN ?_ _ | refine blk_drew ?_ | refine blk_alloc ?_ _)); refine blk_put (cs := #[.int .i64 ((rd_T34 l1_0 a2).f0), .int .i64 0, .int .i64 0, .int .i64 0]) ?_ 1 _ rfl; (with_reducible repeat (first | refine blk_drewN ?_ _ | refine blk_drew ?_ | refine blk_alloc ?_ _)); refine blk_put (cs := #[.int .i64 0, .int .i64 0, .int .i64 0, .int .i64 0]) ?_ 0 _ rfl; (with_reducible repeat (first | refine blk_drewN ?_ _ | refine blk_drew ?_ | refine blk_alloc ?_ _)); exact BK277.out) hb); have n3_ := Aside0.mk (Kept.below (S := (fun k_ => P0_ k_)) (by repeat (first | (with_reducible first | exact HK.out | apply Kept.alloc | apply Kept.drewN | apply Kept.drew | refine Kept.setCell ?_ (.inr GW275.out) _ | refine Kept.setCell ?_ (.inr GW277.out) _) | exact HK.out)) hb); have n4_ := Aside0.mk (below_step (bw HB.out) hb); clear HO0 BK275 BK277 HK HB; have HO0 := n0_; have BK275 := n1_; have BK277 := n2_; have HK := n3_; have HB := n4_; clear n0_ n1_ n2_ n3_ n4_; (try clear hb); (try clear hb2); (try clear hk); (try clear hi)) | (at_builtin; refine Go.Proofs.Ytkckdibalopagaa.Base.print_append_str_at (w0 := w0) w0.heap.size rfl (.tmp 23) _ 22 9 5 rfl Try.underlying22 Try.underlying9 info5 u9000_ l0 t278 rfl rfl ?aO ?aB ?aS ?aL ?_; (case aB => exact (bw HB.out)); (case aO => exact (Kd.own_of_R (rl HO0.out))); (case aS => exact (below_size (bw HB.out))); (case aL => have := LMc7.out; omega); intro v281 w17 ho0 hb hg hat; have ho := Kd.R_of_own (h1 := fun _ => rfl) (ok := (fun k_ => (P0_ k_ ∨ w.heap.size ≤ k_))) ho0 (Go.Proofs.Ytkckdibalopagaa.Base.ok_at (S := (fun k_ => P0_ k_)) hat (by repeat (first | (with_reducible first | exact HK.out | apply Kept.alloc | apply Kept.drewN | apply Kept.drew | refine Kept.setCell ?_ (.inr GW275.out) _ | refine Kept.setCell ?_ (.inr GW277.out) _) | exact HK.out)) HO0.out.1); clear ho0; rw [← Ny280.out] at ho; change Kd.R (Kd.int .u8) 5 w17 w0.heap.size (fun k_ => (P0_ k_ ∨ w.heap.size ≤ k_)) v281 y280 at ho; have n0_ := Aside0.mk (blk_grown (g := gb275) (o := .cells #[.slice (some ad276) l1_0.length c1_0] 26 (0, 0)) (bl BK275.out) hg (Kd.R_ne HO0.out BK275.out (by decide))); have n1_ := Aside0.mk (blk_grown (g := gb277) (o := .cells #[.int .i64 ((rd_T34 l1_0 a2).f0), .int .i64 ((rd_T34 l1_0 a2).f1), .int .i64 ((rd_T34 l1_0 a2).f2), .int .i64 ((rd_T34 l1_0 a2).f3)] 34 (0, 0)) (bl BK277.out) hg (Kd.R_ne HO0.out BK277.out (by decide))); have n2_ := Aside0.mk (hb); have n3_ := Aside0.mk (Kept.of_grown (S := (fun k_ => P0_ k_)) hg (by repeat (first | (with_reducible first | exact HK.out | apply Kept.alloc | apply Kept.drewN | apply Kept.drew | refine Kept.setCell ?_ (.inr GW275.out) _ | refine Kept.setCell ?_ (.inr GW277.out) _) | exact HK.out)) (fun k_ e_ => (HO0.out.1 k_ e_))); have n4_ := Aside0.mk (ho); clear BK275 BK277 HB HK HO0; have BK275 := n0_; have BK277 := n1_; have HB := n2_; have HK := n3_; have HO282 := n4_; clear n0_ n1_ n2_ n3_ n4_ ho hb hg hat; have hcz18_0 : w17.cell? ⟨gb277, 0, none⟩ = some (.int .i64 ((rd_T34 l1_0 a2).f0)) := (blk_cell BK277.out 0).trans rfl; have hcz18_1 : w17.cell? ⟨gb277, 1, none⟩ = some (.int .i64 ((rd_T34 l1_0 a2).f1)) := (blk_cell BK277.out 1).trans rfl; have hcz18_2 : w17.cell? ⟨gb277, 2, none⟩ = some (.int .i64 ((rd_T34 l1_0 a2).f2)) := (blk_cell BK277.out 2).trans rfl; have hcz18_3 : w17.cell? ⟨gb277, 3, none⟩ = some (.int .i64 ((rd_T34 l1_0 a2).f3)) := (blk_cell BK277.out 3).trans rfl; have hfz18_0 := blk_frozen BK277.out 0; have hfz18_1 := blk_frozen BK277.out 1; have hfz18_2 := blk_frozen BK277.out 2; have hfz18_3 := blk_frozen BK277.out 3) | ((with_reducible refine gate_callee (f := 124) rfl ?_); refine goesL_ (some 32) rfl rfl Try.func124 (by kernel_rfl) rfl #[.int .i64 ((rd_T34 l1_0 a2).f1)] rfl ar ?_; (with_reducible refine (impl_VarText.calls k ((rd_T34 l1_0 a2).f1) t283 t284 _ A9.out).mono ?_); rintro e w19 ⟨rfl, hb⟩; refine ⟨_, rfl, ?_⟩; have n0_ := Aside0.mk (Kd.R_below (rl HO282.out) hb); have n1_ := Aside0.mk (blk_below (g := gb275) (o := .cells #[.slice (some ad276) l1_0.length c1_0] 26 (0, 0)) (bl BK275.out) hb); have n2_ := Aside0.mk (blk_below (g := gb277) (o := .cells #[.int .i64 ((rd_T34 l1_0 a2).f0), .int .i64 ((rd_T34 l1_0 a2).f1), .int .i64 ((rd_T34 l1_0 a2).f2), .int .i64 ((rd_T34 l1_0 a2).f3)] 34 (0, 0)) (bl BK277.out) hb); have n3_ := Aside0.mk (Kept.below (S := (fun k_ => P0_ k_)) (by repeat (first | (with_reducible first | exact HK.out | apply Kept.alloc | apply Kept.drewN | apply Kept.drew | refine Kept.setCell ?_ (.inr GW275.out) _ | refine Kept.setCell ?_ (.inr GW277.out) _) | exact HK.out)) hb); have n4_ := Aside0.mk (below_step (bw HB.out) hb); clear HO282 BK275 BK277 HK HB; have HO282 := n0_; have BK275 := n1_; have BK277 := n2_; have HK := n3_; have HB := n4_; clear n0_ n1_ n2_ n3_ n4_; (try clear hb); (try clear hb2); (try clear hk); (try clear hi)) | (at_builtin; refine Go.Proofs.Ytkckdibalopagaa.Base.print_append_str_at (w0 := w0) w0.heap.size rfl (.tmp 35) _ 22 9 5 rfl Try.underlying22 Try.underlying9 info5 v281 y280 t283 rfl rfl ?aO ?aB ?aS ?aL ?_; (case aB => exact (bw HB.out)); (case aO => exact (Kd.own_of_R (rl HO282.out))); (case aS => exact (below_size (bw HB.out))); (case aL => have := LMc10.out; omega); intro v286 w20 ho0 hb hg hat; have ho := Kd.R_of_own (h1 := fun _ => rfl) (ok := (fun k_ => (P0_ k_ ∨ w.heap.size ≤ k_))) ho0 (Go.Proofs.Ytkckdibalopagaa.Base.ok_at (S := (fun k_ => P0_ k_)) hat (by repeat (first | (with_reducible first | exact HK.out | apply Kept.alloc | apply Kept.drewN | apply Kept.drew | refine Kept.setCell ?_ (.inr GW275.out) _ | refine Kept.setCell ?_ (.inr GW277.out) _) | exact HK.out)) HO282.out.1); clear ho0; rw [← Ny285.out] at ho; change Kd.R (Kd.int .u8) 5 w20 w0.heap.size (fun k_ => (P0_ k_ ∨ w.heap.size ≤ k_)) v286 y285 at ho; have n0_ := Aside0.mk (blk_grown (g := gb275) (o := .cells #[.slice (some ad276) l1_0.length c1_0] 26 (0, 0)) (bl BK275.out) hg (Kd.R_ne HO282.out BK275.out (by decide))); have n1_ := Aside0.mk (blk_grown (g := gb277) (o := .cells #[.int .i64 ((rd_T34 l1_0 a2).f0), .int .i64 ((rd_T34 l1_0 a2).f1), .int .i64 ((rd_T34 l1_0 a2).f2), .int .i64 ((rd_T34 l1_0 a2).f3)] 34 (0, 0)) (bl BK277.out) hg (Kd.R_ne HO282.out BK277.out (by decide))); have n2_ := Aside0.mk (hb); have n3_ := Aside0.mk (Kept.of_grown (S := (fun k_ => P0_ k_)) hg (by repeat (first | (with_reducible first | exact HK.out | apply Kept.alloc | apply Kept.drewN | apply Kept.drew | refine Kept.setCell ?_ (.inr GW275.out) _ | refine Kept.setCell ?_ (.inr GW277.out) _) | exact HK.out)) (fun k_ e_ => (HO282.out.1 k_ e_))); have n4_ := Aside0.mk (ho); clear BK275 BK277 HB HK HO282; have BK275 := n0_; have BK277 := n1_; have HB := n2_; have HK := n3_; have HO287 := n4_; clear n0_ n1_ n2_ n3_ n4_ ho hb hg hat))
      go_ret
      exact ⟨_, by first | rfl | (simp [errW_none, errW_some] <;> rfl) | (simp [*, errW_none, errW_some] <;> rfl), by (with_reducible repeat (first | apply Kd.R_alloc | apply Kd.R_drewN | apply Kd.R_drew)); exact HO287.out, bw HB.out, by repeat (first | (with_reducible first | exact HK.out | apply Kept.alloc | apply Kept.drewN | apply Kept.drew | refine Kept.setCell ?_ (.inr GW275.out) _ | refine Kept.setCell ?_ (.inr GW277.out) _) | exact HK.out)⟩
     ·rw [if_neg c10] at H
      exact absurd H (by simp)
    ·rw [if_neg c8] at H
     have c8b0 : (((rd_T34 l1_0 a2).f0) == 1) = false := beq_eq_false_iff_ne.mpr c8
     have c8b1 : (((rd_T34 l1_0 a2).f0) != 1) = true := bne_iff_ne.mpr c8
     replace H := Option.bind_eq_some_iff.mp H
     obtain ⟨t288, A210, H⟩ := H
     replace H : ((impl_hasB.f ((rd_T34 l1_0 a2).f0)).bind fun t291 => (if t291 = true then ((impl_termBytes.f k t288 l1_0 ((rd_T34 l1_0 a2).f3)).bind fun t292 => (some t292)) else (some t288))) = some r := H
     have A21 := Aside0.mk A210
     clear A210
     replace H := Option.bind_eq_some_iff.mp H
     obtain ⟨t291, A220, H⟩ := H
     replace H : (if t291 = true then ((impl_termBytes.f k t288 l1_0 ((rd_T34 l1_0 a2).f3)).bind fun t292 => (some t292)) else (some t288)) = some r := H
     have A22 := Aside0.mk A220
     clear A220
     by_cases c23 : t291 = true
     ·subst c23
      have H1 : ((impl_termBytes.f k t288 l1_0 ((rd_T34 l1_0 a2).f3)).bind fun t292 => (some t292)) = some r := by rw [if_pos rfl] at H; exact H
      clear H
      have H := H1
      clear H1
      replace H := Option.bind_eq_some_iff.mp H
      obtain ⟨t292, A240, H⟩ := H
      replace H : (some t292) = some r := H
      have A24 := Aside0.mk A240
      clear A240
      obtain rfl := Option.some.inj H
      go_enter Try.func89, Try.ntmps89
      go_wp2_with (first | ((with_reducible refine gate_dst (N := 4) rfl ?_); refine box_event ?hg (N := 4) ?hd (cs := #[.slice A1_0 l1_0.length c1_0]) (t := 26) ?hr ?_; (case hd => rfl); (case hg => rfl); (case hr => first | (go_simp; done) | (go_simp; rfl)); intro gb275 hg w25 hbox hb; have n0_ := Aside0.mk (Kd.R_below (rl HO0.out) hb); have n1_ := Aside0.mk (Kept.below (S := (fun k_ => P0_ k_)) (by repeat (first | (with_reducible first | exact HK.out | apply Kept.alloc | apply Kept.drewN | apply Kept.drew) | exact HK.out)) hb); have n2_ := Aside0.mk (below_step (bw HB.out) hb); have n3_ := Aside0.mk (hbox); have n4_ := Aside0.mk ((by rw [hg]; exact (by first | exact HK.out.1 | exact (show Kept w _ (fun k_ => P0_ k_) from by repeat (first | (with_reducible first | exact HK.out | apply Kept.alloc | apply Kept.drewN | apply Kept.drew) | exact HK.out)).1) : w.heap.size ≤ gb275)); have n5_ := Aside0.mk ((by rw [hg]; exact (below_size (bw HB.out)) : w0.heap.size ≤ gb275)); clear HO0 HK HB; have HO0 := n0_; have HK := n1_; have HB := n2_; have BK275 := n3_; have GW275 := n4_; have GE275 := n5_; clear n0_ n1_ n2_ n3_ n4_ n5_ hb hbox hg; have hcz26_0 : w25.cell? ⟨gb275, 0, none⟩ = some (.slice A1_0 l1_0.length c1_0) := (blk_cell BK275.out 0).trans rfl; have hfz26_0 := blk_frozen BK275.out 0; have p276 : 0 ≤ (a2 : Int) := oda; have q276 : a2 < (l1_0.length : Int) := oda; obtain ⟨ad276, e276, hx276_0, hx276_1, hx276_2, hx276_3⟩ := at_T34 (Kd.C_kept_now HR1_0.out HK.out) a2 p276 q276; cases e276; replace p276 := eq_true p276; replace q276 := eq_true q276) | ((with_reducible refine gate_dst (N := 7) rfl ?_); refine box_event ?hg (N := 7) ?hd (cs := #[.int .i64 0, .int .i64 0, .int .i64 0, .int .i64 0]) (t := 34) ?hr ?_; (case hd => rfl); (case hg => rfl); (case hr => first | (go_simp; done) | (go_simp; rfl)); intro gb277 hg w27 hbox hb; have n0_ := Aside0.mk (Kd.R_below (rl HO0.out) hb); have n1_ := Aside0.mk (blk_below (g := gb275) (o := .cells #[.slice (some ad276) l1_0.length c1_0] 26 (0, 0)) (bl BK275.out) hb); have n2_ := Aside0.mk (Kept.below (S := (fun k_ => P0_ k_)) (by repeat (first | (with_reducible first | exact HK.out | apply Kept.alloc | apply Kept.drewN | apply Kept.drew | refine Kept.setCell ?_ (.inr GW275.out) _) | exact HK.out)) hb); have n3_ := Aside0.mk (below_step (bw HB.out) hb); have n4_ := Aside0.mk (hbox); have n5_ := Aside0.mk ((by rw [hg]; exact (by first | exact HK.out.1 | exact (show Kept w _ (fun k_ => P0_ k_) from by repeat (first | (with_reducible first | exact HK.out | apply Kept.alloc | apply Kept.drewN | apply Kept.drew | refine Kept.setCell ?_ (.inr GW275.out) _) | exact HK.out)).1) : w.heap.size ≤ gb277)); have n6_ := Aside0.mk ((by rw [hg]; exact (below_size (bw HB.out)) : w0.heap.size ≤ gb277)); have n7_ := Aside0.mk ((by rw [hg]; exact Nat.ne_of_lt (blk_lt (g := gb275) (o := .cells #[.slice (some ad276) l1_0.length c1_0] 26 (0, 0)) (bl BK275.out)) : gb275 ≠ gb277)); have n8_ := Aside0.mk ((by rw [hg]; exact Nat.ne_of_gt (blk_lt (g := gb275) (o := .cells #[.slice (some ad276) l1_0.length c1_0] 26 (0, 0)) (bl BK275.out)) : gb277 ≠ gb275)); clear HO0 BK275 HK HB; have HO0 := n0_; have BK275 := n1_; have HK := n2_; have HB := n3_; have BK277 := n4_; have GW277 := n5_; have GE277 := n6_; have NB275_277 := n7_; have NB277_275 := n8_; clear n0_ n1_ n2_ n3_ n4_ n5_ n6_ n7_ n8_ hb hbox hg; have hnb28 := NB277_275.out; have hnc28 := NB275_277.out; have hcz29_0 : w27.cell? ⟨gb277, 0, none⟩ = some (.int .i64 0) := (blk_cell BK277.out 0).trans rfl; have hcz29_1 : w27.cell? ⟨gb277, 1, none⟩ = some (.int .i64 0) := (blk_cell BK277.out 1).trans rfl; have hcz29_2 : w27.cell? ⟨gb277, 2, none⟩ = some (.int .i64 0) := (blk_cell BK277.out 2).trans rfl; have hcz29_3 : w27.cell? ⟨gb277, 3, none⟩ = some (.int .i64 0) := (blk_cell BK277.out 3).trans rfl; have hfz29_0 := blk_frozen BK277.out 0; have hfz29_1 := blk_frozen BK277.out 1; have hfz29_2 := blk_frozen BK277.out 2; have hfz29_3 := blk_frozen BK277.out 3) | ((with_reducible refine gate_callee (f := 124) rfl ?_); refine goesL_ (some 20) rfl rfl Try.func124 (by kernel_rfl) rfl #[.int .i64 ((rd_T34 l1_0 a2).f0)] rfl ar ?_; (with_reducible refine (impl_VarText.calls k ((rd_T34 l1_0 a2).f0) t278 t279 _ A6.out).mono ?_); rintro e w30 ⟨rfl, hb⟩; refine ⟨_, rfl, ?_⟩; have n0_ := Aside0.mk (Kd.R_below (by (with_reducible repeat (first | apply Kd.R_alloc | apply Kd.R_drewN | apply Kd.R_drew)); exact (Kd.R_mono (Kd.R_far (p := ⟨gb277, 3, none⟩) (Kd.R_far (p := ⟨gb277, 2, none⟩) (Kd.R_far (p := ⟨gb277, 1, none⟩) (Kd.R_far (p := ⟨gb277, 0, none⟩) (Kd.R_types HO0.out BK277.out (by decide)) (fun _ hk => hk.2) (.int .i64 ((rd_T34 l1_0 a2).f0))) (fun _ hk => hk.2) (.int .i64 ((rd_T34 l1_0 a2).f1))) (fun _ hk => hk.2) (.int .i64 ((rd_T34 l1_0 a2).f2))) (fun _ hk => hk.2) (.int .i64 ((rd_T34 l1_0 a2).f3))) (fun _ h_ => h_.1))) hb); have n1_ := Aside0.mk (blk_below (g := gb275) (o := .cells #[.slice (some ad276) l1_0.length c1_0] 26 (0, 0)) (by (with_reducible repeat (first | refine blk_drewN ?_ _ | refine blk_drew ?_ | refine blk_alloc ?_ _)); refine blk_far ?_ NB275_277.out _; (with_reducible repeat (first | refine blk_drewN ?_ _ | refine blk_drew ?_ | refine blk_alloc ?_ _)); refine blk_far ?_ NB275_277.out _; (with_reducible repeat (first | refine blk_drewN ?_ _ | refine blk_drew ?_ | refine blk_alloc ?_ _)); refine blk_far ?_ NB275_277.out _; (with_reducible repeat (first | refine blk_drewN ?_ _ | refine blk_drew ?_ | refine blk_alloc ?_ _)); refine blk_far ?_ NB275_277.out _; (with_reducible repeat (first | refine blk_drewN ?_ _ | refine blk_drew ?_ | refine blk_alloc ?_ _)); exact BK275.out) hb); have n2_ := Aside0.mk (blk_below (g := gb277) (o := .cells #[.int .i64 ((rd_T34 l1_0 a2).f0), .int .i64 ((rd_T34 l1_0 a2).f1), .int .i64 ((rd_T34 l1_0 a2).f2), .int .i64 ((rd_T34 l1_0 a2).f3)] 34 (0, 0)) (by (with_reducible repeat (first | refine blk_drewN ?_ _ | refine blk_drew ?_ | refine blk_alloc ?_ _)); refine blk_put (cs := #[.int .i64 ((rd_T34 l1_0 a2).f0), .int .i64 ((rd_T34 l1_0 a2).f1), .int .i64 ((rd_T34 l1_0 a2).f2), .int .i64 0]) ?_ 3 _ rfl; (with_reducible repeat (first | refine blk_drewN ?_ _ | refine blk_drew ?_ | refine blk_alloc ?_ _)); refine blk_put (cs := #[.int .i64 ((rd_T34 l1_0 a2).f0), .int .i64 ((rd_T34 l1_0 a2).f1), .int .i64 0, .int .i64 0]) ?_ 2 _ rfl; (with_reducible repeat (first | refine blk_drewN ?_ _ | refine blk_drew ?_ | refine blk_alloc ?_ _)); refine blk_put (cs := #[.int .i64 ((rd_T34 l1_0 a2).f0), .int .i64 0, .int .i64 0, .int .i64 0]) ?_ 1 _ rfl; (with_reducible repeat (first | refine blk_drewN ?_ _ | refine blk_drew ?_ | refine blk_alloc ?_ _)); refine blk_put (cs := #[.int .i64 0, .int .i64 0, .int .i64 0, .int .i64 0]) ?_ 0 _ rfl; (with_reducible repeat (first | refine blk_drewN ?_ _ | refine blk_drew ?_ | refine blk_alloc ?_ _)); exact BK277.out) hb); have n3_ := Aside0.mk (Kept.below (S := (fun k_ => P0_ k_)) (by repeat (first | (with_reducible first | exact HK.out | apply Kept.alloc | apply Kept.drewN | apply Kept.drew | refine Kept.setCell ?_ (.inr GW275.out) _ | refine Kept.setCell ?_ (.inr GW277.out) _) | exact HK.out)) hb); have n4_ := Aside0.mk (below_step (bw HB.out) hb); clear HO0 BK275 BK277 HK HB; have HO0 := n0_; have BK275 := n1_; have BK277 := n2_; have HK := n3_; have HB := n4_; clear n0_ n1_ n2_ n3_ n4_; (try clear hb); (try clear hb2); (try clear hk); (try clear hi)) | (at_builtin; refine Go.Proofs.Ytkckdibalopagaa.Base.print_append_str_at (w0 := w0) w0.heap.size rfl (.tmp 23) _ 22 9 5 rfl Try.underlying22 Try.underlying9 info5 u9000_ l0 t278 rfl rfl ?aO ?aB ?aS ?aL ?_; (case aB => exact (bw HB.out)); (case aO => exact (Kd.own_of_R (rl HO0.out))); (case aS => exact (below_size (bw HB.out))); (case aL => have := LMc7.out; omega); intro v281 w31 ho0 hb hg hat; have ho := Kd.R_of_own (h1 := fun _ => rfl) (ok := (fun k_ => (P0_ k_ ∨ w.heap.size ≤ k_))) ho0 (Go.Proofs.Ytkckdibalopagaa.Base.ok_at (S := (fun k_ => P0_ k_)) hat (by repeat (first | (with_reducible first | exact HK.out | apply Kept.alloc | apply Kept.drewN | apply Kept.drew | refine Kept.setCell ?_ (.inr GW275.out) _ | refine Kept.setCell ?_ (.inr GW277.out) _) | exact HK.out)) HO0.out.1); clear ho0; rw [← Ny280.out] at ho; change Kd.R (Kd.int .u8) 5 w31 w0.heap.size (fun k_ => (P0_ k_ ∨ w.heap.size ≤ k_)) v281 y280 at ho; have n0_ := Aside0.mk (blk_grown (g := gb275) (o := .cells #[.slice (some ad276) l1_0.length c1_0] 26 (0, 0)) (bl BK275.out) hg (Kd.R_ne HO0.out BK275.out (by decide))); have n1_ := Aside0.mk (blk_grown (g := gb277) (o := .cells #[.int .i64 ((rd_T34 l1_0 a2).f0), .int .i64 ((rd_T34 l1_0 a2).f1), .int .i64 ((rd_T34 l1_0 a2).f2), .int .i64 ((rd_T34 l1_0 a2).f3)] 34 (0, 0)) (bl BK277.out) hg (Kd.R_ne HO0.out BK277.out (by decide))); have n2_ := Aside0.mk (hb); have n3_ := Aside0.mk (Kept.of_grown (S := (fun k_ => P0_ k_)) hg (by repeat (first | (with_reducible first | exact HK.out | apply Kept.alloc | apply Kept.drewN | apply Kept.drew | refine Kept.setCell ?_ (.inr GW275.out) _ | refine Kept.setCell ?_ (.inr GW277.out) _) | exact HK.out)) (fun k_ e_ => (HO0.out.1 k_ e_))); have n4_ := Aside0.mk (ho); clear BK275 BK277 HB HK HO0; have BK275 := n0_; have BK277 := n1_; have HB := n2_; have HK := n3_; have HO282 := n4_; clear n0_ n1_ n2_ n3_ n4_ ho hb hg hat; have hcz32_0 : w31.cell? ⟨gb277, 0, none⟩ = some (.int .i64 ((rd_T34 l1_0 a2).f0)) := (blk_cell BK277.out 0).trans rfl; have hcz32_1 : w31.cell? ⟨gb277, 1, none⟩ = some (.int .i64 ((rd_T34 l1_0 a2).f1)) := (blk_cell BK277.out 1).trans rfl; have hcz32_2 : w31.cell? ⟨gb277, 2, none⟩ = some (.int .i64 ((rd_T34 l1_0 a2).f2)) := (blk_cell BK277.out 2).trans rfl; have hcz32_3 : w31.cell? ⟨gb277, 3, none⟩ = some (.int .i64 ((rd_T34 l1_0 a2).f3)) := (blk_cell BK277.out 3).trans rfl; have hfz32_0 := blk_frozen BK277.out 0; have hfz32_1 := blk_frozen BK277.out 1; have hfz32_2 := blk_frozen BK277.out 2; have hfz32_3 := blk_frozen BK277.out 3; have hcz33_0 : w31.cell? ⟨gb275, 0, none⟩ = some (.slice (some ad276) l1_0.length c1_0) := (blk_cell BK275.out 0).trans rfl; have hfz33_0 := blk_frozen BK275.out 0; obtain ⟨Ao34, co34, eo34⟩ := Kd.R_slice HO282.out; subst eo34) | ((with_reducible refine gate_callee (f := 89) rfl ?_); refine goesL_ (some 42) rfl rfl Try.func89 (by kernel_rfl) rfl #[.slice Ao34 y280.length co34, .agg #[.slice (some ad276) l1_0.length c1_0], .int .i64 ((rd_T34 l1_0 a2).f2)] rfl ar ?_; (with_reducible refine (ih k (by omega) (fun k_ => some k_ = (.slice Ao34 y280.length co34 : Value).ownBlock) (.slice Ao34 y280.length co34) y280 _ _ l1_0 ((rd_T34 l1_0 a2).f2) t288 w0 _ ?side1 ?side2 ?side3 ?side4 A21.out).mono ?_); (case side1 => exact bw HB.out); (case side2 => exact Kd.R_tight rfl HO282.out); (case side3 => exact Kd.C_kept_call HR1_0.out (by repeat (first | (with_reducible first | exact HK.out | apply Kept.alloc | apply Kept.drewN | apply Kept.drew | refine Kept.setCell ?_ (.inr GW275.out) _ | refine Kept.setCell ?_ (.inr GW277.out) _) | exact HK.out)) (fun k_ hs_ => (fun e_ => (HO282.out.1 k_ e_.symm)) hs_)); (case side4 => exact HC1_0.out); rintro e w35 ⟨v289, rfl, ho0, hb, hkp⟩; refine ⟨_, rfl, ?_⟩; have n0_ := Aside0.mk (blk_kept (bl BK275.out) hkp (fun hs_ => (fun e_ => (Kd.R_ne HO282.out BK275.out (by decide)) e_) hs_)); have n1_ := Aside0.mk (blk_kept (bl BK277.out) hkp (fun hs_ => (fun e_ => (Kd.R_ne HO282.out BK277.out (by decide)) e_) hs_)); have n2_ := Aside0.mk (Kd.R_mono (ok' := fun k_ => (P0_ k_ ∨ w.heap.size ≤ k_)) ho0 (fun k_ hk_ => Or.elim hk_ (fun hs_ => (HO282.out.1 k_ (hs_).symm)) (fun hn_ => (.inr (Nat.le_trans (by first | exact HK.out.1 | exact (show Kept w _ (fun k_ => P0_ k_) from by repeat (first | (with_reducible first | exact HK.out | apply Kept.alloc | apply Kept.drewN | apply Kept.drew | refine Kept.setCell ?_ (.inr GW275.out) _ | refine Kept.setCell ?_ (.inr GW277.out) _) | exact HK.out)).1) hn_))))); have n3_ := Aside0.mk (Kept.then_ (S := (fun k_ => P0_ k_)) (by repeat (first | (with_reducible first | exact HK.out | apply Kept.alloc | apply Kept.drewN | apply Kept.drew | refine Kept.setCell ?_ (.inr GW275.out) _ | refine Kept.setCell ?_ (.inr GW277.out) _) | exact HK.out)) hkp (fun k_ hs_ => (fun e_ => (HO282.out.1 k_ e_.symm)) hs_)); have n4_ := Aside0.mk (hb); clear BK275 BK277 HK HB HO282; have BK275 := n0_; have BK277 := n1_; have HO290 := n2_; have HK := n3_; have HB := n4_; clear n0_ n1_ n2_ n3_ n4_; (try clear hb); (try clear hkp); (try clear ho0); have hcz36_0 : w35.cell? ⟨gb277, 0, none⟩ = some (.int .i64 ((rd_T34 l1_0 a2).f0)) := (blk_cell BK277.out 0).trans rfl; have hcz36_1 : w35.cell? ⟨gb277, 1, none⟩ = some (.int .i64 ((rd_T34 l1_0 a2).f1)) := (blk_cell BK277.out 1).trans rfl; have hcz36_2 : w35.cell? ⟨gb277, 2, none⟩ = some (.int .i64 ((rd_T34 l1_0 a2).f2)) := (blk_cell BK277.out 2).trans rfl; have hcz36_3 : w35.cell? ⟨gb277, 3, none⟩ = some (.int .i64 ((rd_T34 l1_0 a2).f3)) := (blk_cell BK277.out 3).trans rfl; have hfz36_0 := blk_frozen BK277.out 0; have hfz36_1 := blk_frozen BK277.out 1; have hfz36_2 := blk_frozen BK277.out 2; have hfz36_3 := blk_frozen BK277.out 3) | ((with_reducible refine gate_callee (f := 87) rfl ?_); refine goesL_ (some 45) rfl rfl Try.func87 (by kernel_rfl) rfl #[.int .i64 ((rd_T34 l1_0 a2).f0)] rfl ar ?_; (with_reducible refine (impl_hasB.calls ((rd_T34 l1_0 a2).f0) true _ A22.out).mono ?_); rintro e w' ⟨rfl, ⟨nd, rfl⟩⟩; refine ⟨_, rfl, ?_⟩; have hcz37_0 : w35.cell? ⟨gb275, 0, none⟩ = some (.slice (some ad276) l1_0.length c1_0) := (blk_cell BK275.out 0).trans rfl; have hfz37_0 := blk_frozen BK275.out 0; obtain ⟨Ao38, co38, eo38⟩ := Kd.R_slice HO290.out; subst eo38) | ((with_reducible refine gate_callee (f := 89) rfl ?_); refine goesL_ (some 50) rfl rfl Try.func89 (by kernel_rfl) rfl #[.slice Ao38 t288.length co38, .agg #[.slice (some ad276) l1_0.length c1_0], .int .i64 ((rd_T34 l1_0 a2).f3)] rfl ar ?_; (with_reducible refine (ih k (by omega) (fun k_ => some k_ = (.slice Ao38 t288.length co38 : Value).ownBlock) (.slice Ao38 t288.length co38) t288 _ _ l1_0 ((rd_T34 l1_0 a2).f3) t292 w0 _ ?side1 ?side2 ?side3 ?side4 A24.out).mono ?_); (case side1 => exact bw HB.out); (case side2 => exact Kd.R_tight rfl HO290.out); (case side3 => exact Kd.C_kept_call HR1_0.out (by repeat (first | (with_reducible first | exact HK.out | apply Kept.alloc | apply Kept.drewN | apply Kept.drew | refine Kept.setCell ?_ (.inr GW275.out) _ | refine Kept.setCell ?_ (.inr GW277.out) _) | exact HK.out)) (fun k_ hs_ => (fun e_ => (HO290.out.1 k_ e_.symm)) hs_)); (case side4 => exact HC1_0.out); rintro e w39 ⟨v293, rfl, ho0, hb, hkp⟩; refine ⟨_, rfl, ?_⟩; have n0_ := Aside0.mk (blk_kept (bl BK275.out) hkp (fun hs_ => (fun e_ => (Kd.R_ne HO290.out BK275.out (by decide)) e_) hs_)); have n1_ := Aside0.mk (blk_kept (bl BK277.out) hkp (fun hs_ => (fun e_ => (Kd.R_ne HO290.out BK277.out (by decide)) e_) hs_)); have n2_ := Aside0.mk (Kd.R_mono (ok' := fun k_ => (P0_ k_ ∨ w.heap.size ≤ k_)) ho0 (fun k_ hk_ => Or.elim hk_ (fun hs_ => (HO290.out.1 k_ (hs_).symm)) (fun hn_ => (.inr (Nat.le_trans (by first | exact HK.out.1 | exact (show Kept w _ (fun k_ => P0_ k_) from by repeat (first | (with_reducible first | exact HK.out | apply Kept.alloc | apply Kept.drewN | apply Kept.drew | refine Kept.setCell ?_ (.inr GW275.out) _ | refine Kept.setCell ?_ (.inr GW277.out) _) | exact HK.out)).1) hn_))))); have n3_ := Aside0.mk (Kept.then_ (S := (fun k_ => P0_ k_)) (by repeat (first | (with_reducible first | exact HK.out | apply Kept.alloc | apply Kept.drewN | apply Kept.drew | refine Kept.setCell ?_ (.inr GW275.out) _ | refine Kept.setCell ?_ (.inr GW277.out) _) | exact HK.out)) hkp (fun k_ hs_ => (fun e_ => (HO290.out.1 k_ e_.symm)) hs_)); have n4_ := Aside0.mk (hb); clear BK275 BK277 HK HB HO290; have BK275 := n0_; have BK277 := n1_; have HO294 := n2_; have HK := n3_; have HB := n4_; clear n0_ n1_ n2_ n3_ n4_; (try clear hb); (try clear hkp); (try clear ho0)))
      go_ret
      exact ⟨_, by first | rfl | (simp [errW_none, errW_some] <;> rfl) | (simp [*, errW_none, errW_some] <;> rfl), by (with_reducible repeat (first | apply Kd.R_alloc | apply Kd.R_drewN | apply Kd.R_drew)); exact HO294.out, bw HB.out, by repeat (first | (with_reducible first | exact HK.out | apply Kept.alloc | apply Kept.drewN | apply Kept.drew | refine Kept.setCell ?_ (.inr GW275.out) _ | refine Kept.setCell ?_ (.inr GW277.out) _) | exact HK.out)⟩
     ·replace c23 := Bool.eq_false_iff.mpr c23
      subst c23
      have H1 : (some t288) = some r := by rw [if_neg (show ¬ (false = true) by decide)] at H; exact H
      clear H
      have H := H1
      clear H1
      obtain rfl := Option.some.inj H
      go_enter Try.func89, Try.ntmps89
      go_wp2_with (first | ((with_reducible refine gate_dst (N := 4) rfl ?_); refine box_event ?hg (N := 4) ?hd (cs := #[.slice A1_0 l1_0.length c1_0]) (t := 26) ?hr ?_; (case hd => rfl); (case hg => rfl); (case hr => first | (go_simp; done) | (go_simp; rfl)); intro gb275 hg w40 hbox hb; have n0_ := Aside0.mk (Kd.R_below (rl HO0.out) hb); have n1_ := Aside0.mk (Kept.below (S := (fun k_ => P0_ k_)) (by repeat (first | (with_reducible first | exact HK.out | apply Kept.alloc | apply Kept.drewN | apply Kept.drew) | exact HK.out)) hb); have n2_ := Aside0.mk (below_step (bw HB.out) hb); have n3_ := Aside0.mk (hbox); have n4_ := Aside0.mk ((by rw [hg]; exact (by first | exact HK.out.1 | exact (show Kept w _ (fun k_ => P0_ k_) from by repeat (first | (with_reducible first | exact HK.out | apply Kept.alloc | apply Kept.drewN | apply Kept.drew) | exact HK.out)).1) : w.heap.size ≤ gb275)); have n5_ := Aside0.mk ((by rw [hg]; exact (below_size (bw HB.out)) : w0.heap.size ≤ gb275)); clear HO0 HK HB; have HO0 := n0_; have HK := n1_; have HB := n2_; have BK275 := n3_; have GW275 := n4_; have GE275 := n5_; clear n0_ n1_ n2_ n3_ n4_ n5_ hb hbox hg; have hcz41_0 : w40.cell? ⟨gb275, 0, none⟩ = some (.slice A1_0 l1_0.length c1_0) := (blk_cell BK275.out 0).trans rfl; have hfz41_0 := blk_frozen BK275.out 0; have p276 : 0 ≤ (a2 : Int) := oda; have q276 : a2 < (l1_0.length : Int) := oda; obtain ⟨ad276, e276, hx276_0, hx276_1, hx276_2, hx276_3⟩ := at_T34 (Kd.C_kept_now HR1_0.out HK.out) a2 p276 q276; cases e276; replace p276 := eq_true p276; replace q276 := eq_true q276) | ((with_reducible refine gate_dst (N := 7) rfl ?_); refine box_event ?hg (N := 7) ?hd (cs := #[.int .i64 0, .int .i64 0, .int .i64 0, .int .i64 0]) (t := 34) ?hr ?_; (case hd => rfl); (case hg => rfl); (case hr => first | (go_simp; done) | (go_simp; rfl)); intro gb277 hg w42 hbox hb; have n0_ := Aside0.mk (Kd.R_below (rl HO0.out) hb); have n1_ := Aside0.mk (blk_below (g := gb275) (o := .cells #[.slice (some ad276) l1_0.length c1_0] 26 (0, 0)) (bl BK275.out) hb); have n2_ := Aside0.mk (Kept.below (S := (fun k_ => P0_ k_)) (by repeat (first | (with_reducible first | exact HK.out | apply Kept.alloc | apply Kept.drewN | apply Kept.drew | refine Kept.setCell ?_ (.inr GW275.out) _) | exact HK.out)) hb); have n3_ := Aside0.mk (below_step (bw HB.out) hb); have n4_ := Aside0.mk (hbox); have n5_ := Aside0.mk ((by rw [hg]; exact (by first | exact HK.out.1 | exact (show Kept w _ (fun k_ => P0_ k_) from by repeat (first | (with_reducible first | exact HK.out | apply Kept.alloc | apply Kept.drewN | apply Kept.drew | refine Kept.setCell ?_ (.inr GW275.out) _) | exact HK.out)).1) : w.heap.size ≤ gb277)); have n6_ := Aside0.mk ((by rw [hg]; exact (below_size (bw HB.out)) : w0.heap.size ≤ gb277)); have n7_ := Aside0.mk ((by rw [hg]; exact Nat.ne_of_lt (blk_lt (g := gb275) (o := .cells #[.slice (some ad276) l1_0.length c1_0] 26 (0, 0)) (bl BK275.out)) : gb275 ≠ gb277)); have n8_ := Aside0.mk ((by rw [hg]; exact Nat.ne_of_gt (blk_lt (g := gb275) (o := .cells #[.slice (some ad276) l1_0.length c1_0] 26 (0, 0)) (bl BK275.out)) : gb277 ≠ gb275)); clear HO0 BK275 HK HB; have HO0 := n0_; have BK275 := n1_; have HK := n2_; have HB := n3_; have BK277 := n4_; have GW277 := n5_; have GE277 := n6_; have NB275_277 := n7_; have NB277_275 := n8_; clear n0_ n1_ n2_ n3_ n4_ n5_ n6_ n7_ n8_ hb hbox hg; have hnb43 := NB277_275.out; have hnc43 := NB275_277.out; have hcz44_0 : w42.cell? ⟨gb277, 0, none⟩ = some (.int .i64 0) := (blk_cell BK277.out 0).trans rfl; have hcz44_1 : w42.cell? ⟨gb277, 1, none⟩ = some (.int .i64 0) := (blk_cell BK277.out 1).trans rfl; have hcz44_2 : w42.cell? ⟨gb277, 2, none⟩ = some (.int .i64 0) := (blk_cell BK277.out 2).trans rfl; have hcz44_3 : w42.cell? ⟨gb277, 3, none⟩ = some (.int .i64 0) := (blk_cell BK277.out 3).trans rfl; have hfz44_0 := blk_frozen BK277.out 0; have hfz44_1 := blk_frozen BK277.out 1; have hfz44_2 := blk_frozen BK277.out 2; have hfz44_3 := blk_frozen BK277.out 3) | ((with_reducible refine gate_callee (f := 124) rfl ?_); refine goesL_ (some 20) rfl rfl Try.func124 (by kernel_rfl) rfl #[.int .i64 ((rd_T34 l1_0 a2).f0)] rfl ar ?_; (with_reducible refine (impl_VarText.calls k ((rd_T34 l1_0 a2).f0) t278 t279 _ A6.out).mono ?_); rintro e w45 ⟨rfl, hb⟩; refine ⟨_, rfl, ?_⟩; have n0_ := Aside0.mk (Kd.R_below (by (with_reducible repeat (first | apply Kd.R_alloc | apply Kd.R_drewN | apply Kd.R_drew)); exact (Kd.R_mono (Kd.R_far (p := ⟨gb277, 3, none⟩) (Kd.R_far (p := ⟨gb277, 2, none⟩) (Kd.R_far (p := ⟨gb277, 1, none⟩) (Kd.R_far (p := ⟨gb277, 0, none⟩) (Kd.R_types HO0.out BK277.out (by decide)) (fun _ hk => hk.2) (.int .i64 ((rd_T34 l1_0 a2).f0))) (fun _ hk => hk.2) (.int .i64 ((rd_T34 l1_0 a2).f1))) (fun _ hk => hk.2) (.int .i64 ((rd_T34 l1_0 a2).f2))) (fun _ hk => hk.2) (.int .i64 ((rd_T34 l1_0 a2).f3))) (fun _ h_ => h_.1))) hb); have n1_ := Aside0.mk (blk_below (g := gb275) (o := .cells #[.slice (some ad276) l1_0.length c1_0] 26 (0, 0)) (by (with_reducible repeat (first | refine blk_drewN ?_ _ | refine blk_drew ?_ | refine blk_alloc ?_ _)); refine blk_far ?_ NB275_277.out _; (with_reducible repeat (first | refine blk_drewN ?_ _ | refine blk_drew ?_ | refine blk_alloc ?_ _)); refine blk_far ?_ NB275_277.out _; (with_reducible repeat (first | refine blk_drewN ?_ _ | refine blk_drew ?_ | refine blk_alloc ?_ _)); refine blk_far ?_ NB275_277.out _; (with_reducible repeat (first | refine blk_drewN ?_ _ | refine blk_drew ?_ | refine blk_alloc ?_ _)); refine blk_far ?_ NB275_277.out _; (with_reducible repeat (first | refine blk_drewN ?_ _ | refine blk_drew ?_ | refine blk_alloc ?_ _)); exact BK275.out) hb); have n2_ := Aside0.mk (blk_below (g := gb277) (o := .cells #[.int .i64 ((rd_T34 l1_0 a2).f0), .int .i64 ((rd_T34 l1_0 a2).f1), .int .i64 ((rd_T34 l1_0 a2).f2), .int .i64 ((rd_T34 l1_0 a2).f3)] 34 (0, 0)) (by (with_reducible repeat (first | refine blk_drewN ?_ _ | refine blk_drew ?_ | refine blk_alloc ?_ _)); refine blk_put (cs := #[.int .i64 ((rd_T34 l1_0 a2).f0), .int .i64 ((rd_T34 l1_0 a2).f1), .int .i64 ((rd_T34 l1_0 a2).f2), .int .i64 0]) ?_ 3 _ rfl; (with_reducible repeat (first | refine blk_drewN ?_ _ | refine blk_drew ?_ | refine blk_alloc ?_ _)); refine blk_put (cs := #[.int .i64 ((rd_T34 l1_0 a2).f0), .int .i64 ((rd_T34 l1_0 a2).f1), .int .i64 0, .int .i64 0]) ?_ 2 _ rfl; (with_reducible repeat (first | refine blk_drewN ?_ _ | refine blk_drew ?_ | refine blk_alloc ?_ _)); refine blk_put (cs := #[.int .i64 ((rd_T34 l1_0 a2).f0), .int .i64 0, .int .i64 0, .int .i64 0]) ?_ 1 _ rfl; (with_reducible repeat (first | refine blk_drewN ?_ _ | refine blk_drew ?_ | refine blk_alloc ?_ _)); refine blk_put (cs := #[.int .i64 0, .int .i64 0, .int .i64 0, .int .i64 0]) ?_ 0 _ rfl; (with_reducible repeat (first | refine blk_drewN ?_ _ | refine blk_drew ?_ | refine blk_alloc ?_ _)); exact BK277.out) hb); have n3_ := Aside0.mk (Kept.below (S := (fun k_ => P0_ k_)) (by repeat (first | (with_reducible first | exact HK.out | apply Kept.alloc | apply Kept.drewN | apply Kept.drew | refine Kept.setCell ?_ (.inr GW275.out) _ | refine Kept.setCell ?_ (.inr GW277.out) _) | exact HK.out)) hb); have n4_ := Aside0.mk (below_step (bw HB.out) hb); clear HO0 BK275 BK277 HK HB; have HO0 := n0_; have BK275 := n1_; have BK277 := n2_; have HK := n3_; have HB := n4_; clear n0_ n1_ n2_ n3_ n4_; (try clear hb); (try clear hb2); (try clear hk); (try clear hi)) | (at_builtin; refine Go.Proofs.Ytkckdibalopagaa.Base.print_append_str_at (w0 := w0) w0.heap.size rfl (.tmp 23) _ 22 9 5 rfl Try.underlying22 Try.underlying9 info5 u9000_ l0 t278 rfl rfl ?aO ?aB ?aS ?aL ?_; (case aB => exact (bw HB.out)); (case aO => exact (Kd.own_of_R (rl HO0.out))); (case aS => exact (below_size (bw HB.out))); (case aL => have := LMc7.out; omega); intro v281 w46 ho0 hb hg hat; have ho := Kd.R_of_own (h1 := fun _ => rfl) (ok := (fun k_ => (P0_ k_ ∨ w.heap.size ≤ k_))) ho0 (Go.Proofs.Ytkckdibalopagaa.Base.ok_at (S := (fun k_ => P0_ k_)) hat (by repeat (first | (with_reducible first | exact HK.out | apply Kept.alloc | apply Kept.drewN | apply Kept.drew | refine Kept.setCell ?_ (.inr GW275.out) _ | refine Kept.setCell ?_ (.inr GW277.out) _) | exact HK.out)) HO0.out.1); clear ho0; rw [← Ny280.out] at ho; change Kd.R (Kd.int .u8) 5 w46 w0.heap.size (fun k_ => (P0_ k_ ∨ w.heap.size ≤ k_)) v281 y280 at ho; have n0_ := Aside0.mk (blk_grown (g := gb275) (o := .cells #[.slice (some ad276) l1_0.length c1_0] 26 (0, 0)) (bl BK275.out) hg (Kd.R_ne HO0.out BK275.out (by decide))); have n1_ := Aside0.mk (blk_grown (g := gb277) (o := .cells #[.int .i64 ((rd_T34 l1_0 a2).f0), .int .i64 ((rd_T34 l1_0 a2).f1), .int .i64 ((rd_T34 l1_0 a2).f2), .int .i64 ((rd_T34 l1_0 a2).f3)] 34 (0, 0)) (bl BK277.out) hg (Kd.R_ne HO0.out BK277.out (by decide))); have n2_ := Aside0.mk (hb); have n3_ := Aside0.mk (Kept.of_grown (S := (fun k_ => P0_ k_)) hg (by repeat (first | (with_reducible first | exact HK.out | apply Kept.alloc | apply Kept.drewN | apply Kept.drew | refine Kept.setCell ?_ (.inr GW275.out) _ | refine Kept.setCell ?_ (.inr GW277.out) _) | exact HK.out)) (fun k_ e_ => (HO0.out.1 k_ e_))); have n4_ := Aside0.mk (ho); clear BK275 BK277 HB HK HO0; have BK275 := n0_; have BK277 := n1_; have HB := n2_; have HK := n3_; have HO282 := n4_; clear n0_ n1_ n2_ n3_ n4_ ho hb hg hat; have hcz47_0 : w46.cell? ⟨gb277, 0, none⟩ = some (.int .i64 ((rd_T34 l1_0 a2).f0)) := (blk_cell BK277.out 0).trans rfl; have hcz47_1 : w46.cell? ⟨gb277, 1, none⟩ = some (.int .i64 ((rd_T34 l1_0 a2).f1)) := (blk_cell BK277.out 1).trans rfl; have hcz47_2 : w46.cell? ⟨gb277, 2, none⟩ = some (.int .i64 ((rd_T34 l1_0 a2).f2)) := (blk_cell BK277.out 2).trans rfl; have hcz47_3 : w46.cell? ⟨gb277, 3, none⟩ = some (.int .i64 ((rd_T34 l1_0 a2).f3)) := (blk_cell BK277.out 3).trans rfl; have hfz47_0 := blk_frozen BK277.out 0; have hfz47_1 := blk_frozen BK277.out 1; have hfz47_2 := blk_frozen BK277.out 2; have hfz47_3 := blk_frozen BK277.out 3; have hcz48_0 : w46.cell? ⟨gb275, 0, none⟩ = some (.slice (some ad276) l1_0.length c1_0) := (blk_cell BK275.out 0).trans rfl; have hfz48_0 := blk_frozen BK275.out 0; obtain ⟨Ao49, co49, eo49⟩ := Kd.R_slice HO282.out; subst eo49) | ((with_reducible refine gate_callee (f := 89) rfl ?_); refine goesL_ (some 42) rfl rfl Try.func89 (by kernel_rfl) rfl #[.slice Ao49 y280.length co49, .agg #[.slice (some ad276) l1_0.length c1_0], .int .i64 ((rd_T34 l1_0 a2).f2)] rfl ar ?_; (with_reducible refine (ih k (by omega) (fun k_ => some k_ = (.slice Ao49 y280.length co49 : Value).ownBlock) (.slice Ao49 y280.length co49) y280 _ _ l1_0 ((rd_T34 l1_0 a2).f2) t288 w0 _ ?side1 ?side2 ?side3 ?side4 A21.out).mono ?_); (case side1 => exact bw HB.out); (case side2 => exact Kd.R_tight rfl HO282.out); (case side3 => exact Kd.C_kept_call HR1_0.out (by repeat (first | (with_reducible first | exact HK.out | apply Kept.alloc | apply Kept.drewN | apply Kept.drew | refine Kept.setCell ?_ (.inr GW275.out) _ | refine Kept.setCell ?_ (.inr GW277.out) _) | exact HK.out)) (fun k_ hs_ => (fun e_ => (HO282.out.1 k_ e_.symm)) hs_)); (case side4 => exact HC1_0.out); rintro e w50 ⟨v289, rfl, ho0, hb, hkp⟩; refine ⟨_, rfl, ?_⟩; have n0_ := Aside0.mk (blk_kept (bl BK275.out) hkp (fun hs_ => (fun e_ => (Kd.R_ne HO282.out BK275.out (by decide)) e_) hs_)); have n1_ := Aside0.mk (blk_kept (bl BK277.out) hkp (fun hs_ => (fun e_ => (Kd.R_ne HO282.out BK277.out (by decide)) e_) hs_)); have n2_ := Aside0.mk (Kd.R_mono (ok' := fun k_ => (P0_ k_ ∨ w.heap.size ≤ k_)) ho0 (fun k_ hk_ => Or.elim hk_ (fun hs_ => (HO282.out.1 k_ (hs_).symm)) (fun hn_ => (.inr (Nat.le_trans (by first | exact HK.out.1 | exact (show Kept w _ (fun k_ => P0_ k_) from by repeat (first | (with_reducible first | exact HK.out | apply Kept.alloc | apply Kept.drewN | apply Kept.drew | refine Kept.setCell ?_ (.inr GW275.out) _ | refine Kept.setCell ?_ (.inr GW277.out) _) | exact HK.out)).1) hn_))))); have n3_ := Aside0.mk (Kept.then_ (S := (fun k_ => P0_ k_)) (by repeat (first | (with_reducible first | exact HK.out | apply Kept.alloc | apply Kept.drewN | apply Kept.drew | refine Kept.setCell ?_ (.inr GW275.out) _ | refine Kept.setCell ?_ (.inr GW277.out) _) | exact HK.out)) hkp (fun k_ hs_ => (fun e_ => (HO282.out.1 k_ e_.symm)) hs_)); have n4_ := Aside0.mk (hb); clear BK275 BK277 HK HB HO282; have BK275 := n0_; have BK277 := n1_; have HO290 := n2_; have HK := n3_; have HB := n4_; clear n0_ n1_ n2_ n3_ n4_; (try clear hb); (try clear hkp); (try clear ho0); have hcz51_0 : w50.cell? ⟨gb277, 0, none⟩ = some (.int .i64 ((rd_T34 l1_0 a2).f0)) := (blk_cell BK277.out 0).trans rfl; have hcz51_1 : w50.cell? ⟨gb277, 1, none⟩ = some (.int .i64 ((rd_T34 l1_0 a2).f1)) := (blk_cell BK277.out 1).trans rfl; have hcz51_2 : w50.cell? ⟨gb277, 2, none⟩ = some (.int .i64 ((rd_T34 l1_0 a2).f2)) := (blk_cell BK277.out 2).trans rfl; have hcz51_3 : w50.cell? ⟨gb277, 3, none⟩ = some (.int .i64 ((rd_T34 l1_0 a2).f3)) := (blk_cell BK277.out 3).trans rfl; have hfz51_0 := blk_frozen BK277.out 0; have hfz51_1 := blk_frozen BK277.out 1; have hfz51_2 := blk_frozen BK277.out 2; have hfz51_3 := blk_frozen BK277.out 3) | ((with_reducible refine gate_callee (f := 87) rfl ?_); refine goesL_ (some 45) rfl rfl Try.func87 (by kernel_rfl) rfl #[.int .i64 ((rd_T34 l1_0 a2).f0)] rfl ar ?_; (with_reducible refine (impl_hasB.calls ((rd_T34 l1_0 a2).f0) false _ A22.out).mono ?_); rintro e w' ⟨rfl, ⟨nd, rfl⟩⟩; refine ⟨_, rfl, ?_⟩))
      go_ret
      exact ⟨_, by first | rfl | (simp [errW_none, errW_some] <;> rfl) | (simp [*, errW_none, errW_some] <;> rfl), by (with_reducible repeat (first | apply Kd.R_alloc | apply Kd.R_drewN | apply Kd.R_drew)); exact HO290.out, bw HB.out, by repeat (first | (with_reducible first | exact HK.out | apply Kept.alloc | apply Kept.drewN | apply Kept.drew | refine Kept.setCell ?_ (.inr GW275.out) _ | refine Kept.setCell ?_ (.inr GW277.out) _) | exact HK.out)⟩
   ·rw [if_neg c7] at H
    exact absurd H (by simp)
  ·rw [if_neg c5] at H
   exact absurd H (by simp)
 ·rw [if_neg c4] at H
  exact absurd H (by simp)

/-! ### impl_TermText: function 32 -/
def impl_TermText.f (k : Nat) (l0_0 : List (S34)) (a1 : Int) : Option (ByteArray × Bool) := (impl_SizeOf.f k l0_0 a1).bind fun t296 => ((impl_within.f t296 1 2000).bind fun t297 => (if t297 = true then ((impl_termBytes.f k ([] : List Int) l0_0 a1).bind fun t298 => (some (strOfNums t298, true))) else (some ((⟨#[]⟩ : ByteArray), false))))
set_option maxHeartbeats 8000000 in
set_option maxRecDepth 100000 in
theorem impl_TermText.calls (k : Nat) (A0_0 : Option Addr) (c0_0 : Nat) (l0_0 : List (S34)) (a1 : Int) (r1 : ByteArray) (r2 : Bool) (w : World) (hr0_0 : Kd.C k34 w A0_0 l0_0.length l0_0) (hc0_0 : l0_0.length ≤ c0_0) (h : impl_TermText.f k l0_0 a1 = some (r1, r2)) :
  Calls Try.prog 32 #[.agg #[.slice A0_0 l0_0.length c0_0], .int .i64 a1] w fun e w' => e = .returned (.tuple #[.string r1, .bool r2]) ∧ Below w.heap.size w w' := by
 have hu26 := Try.underlying26
 have HR0_0 := Aside0.mk hr0_0
 have HC0_0 := Aside0.mk hc0_0
 clear hr0_0 hc0_0
 have HB := Aside0.mk (Below.refl w.heap.size w)
 have H : ((impl_SizeOf.f k l0_0 a1).bind fun t296 => ((impl_within.f t296 1 2000).bind fun t297 => (if t297 = true then ((impl_termBytes.f k ([] : List Int) l0_0 a1).bind fun t298 => (some (strOfNums t298, true))) else (some ((⟨#[]⟩ : ByteArray), false))))) = some (r1, r2) := h
 clear h
 replace H := Option.bind_eq_some_iff.mp H
 obtain ⟨t296, A30, H⟩ := H
 replace H : ((impl_within.f t296 1 2000).bind fun t297 => (if t297 = true then ((impl_termBytes.f k ([] : List Int) l0_0 a1).bind fun t298 => (some (strOfNums t298, true))) else (some ((⟨#[]⟩ : ByteArray), false)))) = some (r1, r2) := H
 have A3 := Aside0.mk A30
 clear A30
 replace H := Option.bind_eq_some_iff.mp H
 obtain ⟨t297, A40, H⟩ := H
 replace H : (if t297 = true then ((impl_termBytes.f k ([] : List Int) l0_0 a1).bind fun t298 => (some (strOfNums t298, true))) else (some ((⟨#[]⟩ : ByteArray), false))) = some (r1, r2) := H
 have A4 := Aside0.mk A40
 clear A40
 by_cases c5 : t297 = true
 ·subst c5
  have H1 : ((impl_termBytes.f k ([] : List Int) l0_0 a1).bind fun t298 => (some (strOfNums t298, true))) = some (r1, r2) := by rw [if_pos rfl] at H; exact H
  clear H
  have H := H1
  clear H1
  replace H := Option.bind_eq_some_iff.mp H
  obtain ⟨t298, A60, H⟩ := H
  replace H : (some (strOfNums t298, true)) = some (r1, r2) := H
  have A6 := Aside0.mk A60
  clear A60
  simp only [Option.some.injEq, Prod.mk.injEq] at H
  obtain ⟨rfl, rfl⟩ := H
  go_enter Try.func32, Try.ntmps32
  go_wp2_with (first | ((with_reducible refine gate_dst (N := 2) rfl ?_); refine box_event ?hg (N := 2) ?hd (cs := #[.slice A0_0 l0_0.length c0_0]) (t := 26) ?hr ?_; (case hd => rfl); (case hg => rfl); (case hr => first | (go_simp; done) | (go_simp; rfl)); intro gb295 hg w7 hbox hb; have n0_ := Aside0.mk (below_step (bw HB.out) hb); have n1_ := Aside0.mk (hbox); have n2_ := Aside0.mk ((by rw [hg]; exact (below_size (bw HB.out)) : w.heap.size ≤ gb295)); have n3_ := Aside0.mk ((by rw [hg]; exact (below_size (bw HB.out)) : w.heap.size ≤ gb295)); clear HB; have HB := n0_; have BK295 := n1_; have GW295 := n2_; have GE295 := n3_; clear n0_ n1_ n2_ n3_ hb hbox hg; have hcz8_0 : w7.cell? ⟨gb295, 0, none⟩ = some (.slice A0_0 l0_0.length c0_0) := (blk_cell BK295.out 0).trans rfl; have hfz8_0 := blk_frozen BK295.out 0) | ((with_reducible refine gate_callee (f := 30) rfl ?_); refine goesL_ (some 8) rfl rfl Try.func30 (by kernel_rfl) rfl #[.agg #[.slice A0_0 l0_0.length c0_0], .int .i64 a1] rfl ar ?_; (with_reducible refine (impl_SizeOf.calls k _ _ l0_0 a1 t296 _ ?side1 ?side2 A3.out).mono ?_); (case side1 => exact cl (Kd.C_below HR0_0.out HB.out)); (case side2 => exact HC0_0.out); rintro e w9 ⟨rfl, hb⟩; refine ⟨_, rfl, ?_⟩; have n0_ := Aside0.mk (blk_below (g := gb295) (o := .cells #[.slice A0_0 l0_0.length c0_0] 26 (0, 0)) (bl BK295.out) hb); have n1_ := Aside0.mk (below_step (bw HB.out) hb); clear BK295 HB; have BK295 := n0_; have HB := n1_; clear n0_ n1_; (try clear hb); (try clear hb2); (try clear hk); (try clear hi)) | ((with_reducible refine gate_callee (f := 75) rfl ?_); refine goesL_ (some 9) rfl rfl Try.func75 (by kernel_rfl) rfl #[.int .i64 t296, .int .i64 1, .int .i64 2000] rfl ar ?_; (with_reducible refine (impl_within.calls t296 1 2000 true _ A4.out).mono ?_); rintro e w' ⟨rfl, ⟨nd, rfl⟩⟩; refine ⟨_, rfl, ?_⟩; have hcz10_0 : w9.cell? ⟨gb295, 0, none⟩ = some (.slice A0_0 l0_0.length c0_0) := (blk_cell BK295.out 0).trans rfl; have hfz10_0 := blk_frozen BK295.out 0) | ((with_reducible refine gate_callee (f := 89) rfl ?_); refine goesL_ (some 13) rfl rfl Try.func89 (by kernel_rfl) rfl #[.slice none 0 0, .agg #[.slice A0_0 l0_0.length c0_0], .int .i64 a1] rfl ar ?_; (refine (impl_termBytes.calls k (fun k_ => some k_ = (.slice none 0 0 : Value).ownBlock) (.slice none 0 0) ([] : List Int) _ _ l0_0 a1 t298 w _ ?side1 ?side2 ?side3 ?side4 A6.out).mono ?_); (case side1 => exact bw HB.out); (case side2 => exact Kd.R_nil _ _ _ _ _); (case side3 => exact Kd.C_kept_came k34_heap HR0_0.out (bw HB.out) (fun k_ hs_ => (fun e_ => by simp [Value.ownBlock] at e_) hs_)); (case side4 => exact HC0_0.out); rintro e w11 ⟨v299, rfl, ho0, hb, hkp⟩; refine ⟨_, rfl, ?_⟩; have n0_ := Aside0.mk (blk_kept (bl BK295.out) hkp (fun hs_ => (fun e_ => by simp [Value.ownBlock] at e_) hs_)); have n1_ := Aside0.mk (Kd.R_mono (ok' := fun k_ => True) ho0 (fun k_ hk_ => trivial)); have n2_ := Aside0.mk (hb); clear BK295 HB; have BK295 := n0_; have HO300 := n1_; have HB := n2_; clear n0_ n1_ n2_; (try clear hb); (try clear hkp); (try clear ho0); have hcv12 := own_string (P := Try.prog) Try.underlying22 Try.underlying5 Try.underlying9 (Kd.own_of_R HO300.out)))
  go_ret2
  exact ⟨by first | rfl | (simp [errW_none, errW_some] <;> rfl) | (simp [*, errW_none, errW_some] <;> rfl), bw HB.out⟩
 ·replace c5 := Bool.eq_false_iff.mpr c5
  subst c5
  have H1 : (some ((⟨#[]⟩ : ByteArray), false)) = some (r1, r2) := by rw [if_neg (show ¬ (false = true) by decide)] at H; exact H
  clear H
  have H := H1
  clear H1
  simp only [Option.some.injEq, Prod.mk.injEq] at H
  obtain ⟨rfl, rfl⟩ := H
  go_enter Try.func32, Try.ntmps32
  go_wp2_with (first | ((with_reducible refine gate_dst (N := 2) rfl ?_); refine box_event ?hg (N := 2) ?hd (cs := #[.slice A0_0 l0_0.length c0_0]) (t := 26) ?hr ?_; (case hd => rfl); (case hg => rfl); (case hr => first | (go_simp; done) | (go_simp; rfl)); intro gb295 hg w13 hbox hb; have n0_ := Aside0.mk (below_step (bw HB.out) hb); have n1_ := Aside0.mk (hbox); have n2_ := Aside0.mk ((by rw [hg]; exact (below_size (bw HB.out)) : w.heap.size ≤ gb295)); have n3_ := Aside0.mk ((by rw [hg]; exact (below_size (bw HB.out)) : w.heap.size ≤ gb295)); clear HB; have HB := n0_; have BK295 := n1_; have GW295 := n2_; have GE295 := n3_; clear n0_ n1_ n2_ n3_ hb hbox hg; have hcz14_0 : w13.cell? ⟨gb295, 0, none⟩ = some (.slice A0_0 l0_0.length c0_0) := (blk_cell BK295.out 0).trans rfl; have hfz14_0 := blk_frozen BK295.out 0) | ((with_reducible refine gate_callee (f := 30) rfl ?_); refine goesL_ (some 8) rfl rfl Try.func30 (by kernel_rfl) rfl #[.agg #[.slice A0_0 l0_0.length c0_0], .int .i64 a1] rfl ar ?_; (with_reducible refine (impl_SizeOf.calls k _ _ l0_0 a1 t296 _ ?side1 ?side2 A3.out).mono ?_); (case side1 => exact cl (Kd.C_below HR0_0.out HB.out)); (case side2 => exact HC0_0.out); rintro e w15 ⟨rfl, hb⟩; refine ⟨_, rfl, ?_⟩; have n0_ := Aside0.mk (blk_below (g := gb295) (o := .cells #[.slice A0_0 l0_0.length c0_0] 26 (0, 0)) (bl BK295.out) hb); have n1_ := Aside0.mk (below_step (bw HB.out) hb); clear BK295 HB; have BK295 := n0_; have HB := n1_; clear n0_ n1_; (try clear hb); (try clear hb2); (try clear hk); (try clear hi)) | ((with_reducible refine gate_callee (f := 75) rfl ?_); refine goesL_ (some 9) rfl rfl Try.func75 (by kernel_rfl) rfl #[.int .i64 t296, .int .i64 1, .int .i64 2000] rfl ar ?_; (with_reducible refine (impl_within.calls t296 1 2000 false _ A4.out).mono ?_); rintro e w' ⟨rfl, ⟨nd, rfl⟩⟩; refine ⟨_, rfl, ?_⟩))
  go_ret2
  exact ⟨by first | rfl | (simp [errW_none, errW_some] <;> rfl) | (simp [*, errW_none, errW_some] <;> rfl), bw HB.out⟩

/-! ### impl_NodeOk: function 59 -/
def impl_NodeOk.f (k : Nat) (l0_0 : List (S34)) (a1 : Int) : Option (Bool) := (impl_hasNode.f l0_0 a1).bind fun t302 => (if t302 = true then (if 0 ≤ a1 then (if a1 < (l0_0.length : Int) then ((impl_nodeRight.f k ((rd_T34 l0_0 a1).f0) ((rd_T34 l0_0 a1).f1) ((rd_T34 l0_0 a1).f2) ((rd_T34 l0_0 a1).f3) a1).bind fun t304 => (some t304)) else (none)) else (none)) else (some false))
set_option maxHeartbeats 8000000 in
set_option maxRecDepth 100000 in
theorem impl_NodeOk.calls (k : Nat) (A0_0 : Option Addr) (c0_0 : Nat) (l0_0 : List (S34)) (a1 : Int) (r : Bool) (w : World) (hr0_0 : Kd.C k34 w A0_0 l0_0.length l0_0) (hc0_0 : l0_0.length ≤ c0_0) (h : impl_NodeOk.f k l0_0 a1 = some r) :
  Calls Try.prog 59 #[.agg #[.slice A0_0 l0_0.length c0_0], .int .i64 a1] w fun e w' => e = .returned (.bool r) ∧ Below w.heap.size w w' := by
 have hu26 := Try.underlying26
 have hu34 := Try.underlying34
 have HR0_0 := Aside0.mk hr0_0
 have HC0_0 := Aside0.mk hc0_0
 clear hr0_0 hc0_0
 have HB := Aside0.mk (Below.refl w.heap.size w)
 have H : ((impl_hasNode.f l0_0 a1).bind fun t302 => (if t302 = true then (if 0 ≤ a1 then (if a1 < (l0_0.length : Int) then ((impl_nodeRight.f k ((rd_T34 l0_0 a1).f0) ((rd_T34 l0_0 a1).f1) ((rd_T34 l0_0 a1).f2) ((rd_T34 l0_0 a1).f3) a1).bind fun t304 => (some t304)) else (none)) else (none)) else (some false))) = some r := h
 clear h
 replace H := Option.bind_eq_some_iff.mp H
 obtain ⟨t302, A30, H⟩ := H
 replace H : (if t302 = true then (if 0 ≤ a1 then (if a1 < (l0_0.length : Int) then ((impl_nodeRight.f k ((rd_T34 l0_0 a1).f0) ((rd_T34 l0_0 a1).f1) ((rd_T34 l0_0 a1).f2) ((rd_T34 l0_0 a1).f3) a1).bind fun t304 => (some t304)) else (none)) else (none)) else (some false)) = some r := H
 have A3 := Aside0.mk A30
 clear A30
 by_cases c4 : t302 = true
 ·subst c4
  have H1 : (if 0 ≤ a1 then (if a1 < (l0_0.length : Int) then ((impl_nodeRight.f k ((rd_T34 l0_0 a1).f0) ((rd_T34 l0_0 a1).f1) ((rd_T34 l0_0 a1).f2) ((rd_T34 l0_0 a1).f3) a1).bind fun t304 => (some t304)) else (none)) else (none)) = some r := by rw [if_pos rfl] at H; exact H
  clear H
  have H := H1
  clear H1
  by_cases c5 : 0 ≤ a1
  ·rw [if_pos c5] at H
   have c5b0 : decide (0 ≤ a1) = true := decide_eq_true c5
   clear c5
   by_cases c6 : a1 < (l0_0.length : Int)
   ·rw [if_pos c6] at H
    have c6b0 : decide (a1 < (l0_0.length : Int)) = true := decide_eq_true c6
    clear c6
    replace H := Option.bind_eq_some_iff.mp H
    obtain ⟨t304, A70, H⟩ := H
    replace H : (some t304) = some r := H
    have A7 := Aside0.mk A70
    clear A70
    obtain rfl := Option.some.inj H
    go_enter Try.func59, Try.ntmps59
    go_wp2_with (first | ((with_reducible refine gate_dst (N := 2) rfl ?_); refine box_event ?hg (N := 2) ?hd (cs := #[.slice A0_0 l0_0.length c0_0]) (t := 26) ?hr ?_; (case hd => rfl); (case hg => rfl); (case hr => first | (go_simp; done) | (go_simp; rfl)); intro gb301 hg w8 hbox hb; have n0_ := Aside0.mk (below_step (bw HB.out) hb); have n1_ := Aside0.mk (hbox); have n2_ := Aside0.mk ((by rw [hg]; exact (below_size (bw HB.out)) : w.heap.size ≤ gb301)); have n3_ := Aside0.mk ((by rw [hg]; exact (below_size (bw HB.out)) : w.heap.size ≤ gb301)); clear HB; have HB := n0_; have BK301 := n1_; have GW301 := n2_; have GE301 := n3_; clear n0_ n1_ n2_ n3_ hb hbox hg; have hcz9_0 : w8.cell? ⟨gb301, 0, none⟩ = some (.slice A0_0 l0_0.length c0_0) := (blk_cell BK301.out 0).trans rfl; have hfz9_0 := blk_frozen BK301.out 0) | ((with_reducible refine gate_callee (f := 71) rfl ?_); refine goesL_ (some 7) rfl rfl Try.func71 (by kernel_rfl) rfl #[.agg #[.slice A0_0 l0_0.length c0_0], .int .i64 a1] rfl ar ?_; (with_reducible refine (impl_hasNode.calls _ _ l0_0 a1 true _ ?side1 ?side2 A3.out).mono ?_); (case side1 => exact cl (Kd.C_below HR0_0.out HB.out)); (case side2 => exact HC0_0.out); rintro e w10 ⟨rfl, hb⟩; refine ⟨_, rfl, ?_⟩; have n0_ := Aside0.mk (blk_below (g := gb301) (o := .cells #[.slice A0_0 l0_0.length c0_0] 26 (0, 0)) (bl BK301.out) hb); have n1_ := Aside0.mk (below_step (bw HB.out) hb); clear BK301 HB; have BK301 := n0_; have HB := n1_; clear n0_ n1_; (try clear hb); (try clear hb2); (try clear hk); (try clear hi); have hcz11_0 : w10.cell? ⟨gb301, 0, none⟩ = some (.slice A0_0 l0_0.length c0_0) := (blk_cell BK301.out 0).trans rfl; have hfz11_0 := blk_frozen BK301.out 0; have p303 : 0 ≤ (a1 : Int) := oda; have q303 : a1 < (l0_0.length : Int) := oda; obtain ⟨ad303, e303, hx303_0, hx303_1, hx303_2, hx303_3⟩ := at_T34 HR0_0.out a1 p303 q303; cases e303; replace hx303_0 := (HB.out.cell (World.block_lt_of_cell? w _ hx303_0)).trans hx303_0; replace hx303_1 := (HB.out.cell (World.block_lt_of_cell? w _ hx303_1)).trans hx303_1; replace hx303_2 := (HB.out.cell (World.block_lt_of_cell? w _ hx303_2)).trans hx303_2; replace hx303_3 := (HB.out.cell (World.block_lt_of_cell? w _ hx303_3)).trans hx303_3; replace p303 := eq_true p303; replace q303 := eq_true q303) | (go_at_call 84; (with_reducible refine (impl_nodeRight.calls k ((rd_T34 l0_0 a1).f0) ((rd_T34 l0_0 a1).f1) ((rd_T34 l0_0 a1).f2) ((rd_T34 l0_0 a1).f3) a1 t304 _ A7.out).mono ?_); rintro e w12 ⟨rfl, hb⟩; have n0_ := Aside0.mk (blk_below (g := gb301) (o := .cells #[.slice (some ad303) l0_0.length c0_0] 26 (0, 0)) (bl BK301.out) hb); have n1_ := Aside0.mk (below_step (bw HB.out) hb); clear BK301 HB; have BK301 := n0_; have HB := n1_; clear n0_ n1_; (try clear hb); (try clear hb2); (try clear hk); (try clear hi)))
    go_ret
    exact ⟨by first | rfl | (simp [errW_none, errW_some] <;> rfl) | (simp [*, errW_none, errW_some] <;> rfl), bw HB.out⟩
   ·rw [if_neg c6] at H
    exact absurd H (by simp)
  ·rw [if_neg c5] at H
   exact absurd H (by simp)
 ·replace c4 := Bool.eq_false_iff.mpr c4
  subst c4
  have H1 : (some false) = some r := by rw [if_neg (show ¬ (false = true) by decide)] at H; exact H
  clear H
  have H := H1
  clear H1
  obtain rfl := Option.some.inj H
  go_enter Try.func59, Try.ntmps59
  go_wp2_with (first | ((with_reducible refine gate_dst (N := 2) rfl ?_); refine box_event ?hg (N := 2) ?hd (cs := #[.slice A0_0 l0_0.length c0_0]) (t := 26) ?hr ?_; (case hd => rfl); (case hg => rfl); (case hr => first | (go_simp; done) | (go_simp; rfl)); intro gb301 hg w13 hbox hb; have n0_ := Aside0.mk (below_step (bw HB.out) hb); have n1_ := Aside0.mk (hbox); have n2_ := Aside0.mk ((by rw [hg]; exact (below_size (bw HB.out)) : w.heap.size ≤ gb301)); have n3_ := Aside0.mk ((by rw [hg]; exact (below_size (bw HB.out)) : w.heap.size ≤ gb301)); clear HB; have HB := n0_; have BK301 := n1_; have GW301 := n2_; have GE301 := n3_; clear n0_ n1_ n2_ n3_ hb hbox hg; have hcz14_0 : w13.cell? ⟨gb301, 0, none⟩ = some (.slice A0_0 l0_0.length c0_0) := (blk_cell BK301.out 0).trans rfl; have hfz14_0 := blk_frozen BK301.out 0) | ((with_reducible refine gate_callee (f := 71) rfl ?_); refine goesL_ (some 7) rfl rfl Try.func71 (by kernel_rfl) rfl #[.agg #[.slice A0_0 l0_0.length c0_0], .int .i64 a1] rfl ar ?_; (with_reducible refine (impl_hasNode.calls _ _ l0_0 a1 false _ ?side1 ?side2 A3.out).mono ?_); (case side1 => exact cl (Kd.C_below HR0_0.out HB.out)); (case side2 => exact HC0_0.out); rintro e w15 ⟨rfl, hb⟩; refine ⟨_, rfl, ?_⟩; have n0_ := Aside0.mk (blk_below (g := gb301) (o := .cells #[.slice A0_0 l0_0.length c0_0] 26 (0, 0)) (bl BK301.out) hb); have n1_ := Aside0.mk (below_step (bw HB.out) hb); clear BK301 HB; have BK301 := n0_; have HB := n1_; clear n0_ n1_; (try clear hb); (try clear hb2); (try clear hk); (try clear hi)))
  go_ret
  exact ⟨by first | rfl | (simp [errW_none, errW_some] <;> rfl) | (simp [*, errW_none, errW_some] <;> rfl), bw HB.out⟩

-- NOT PRINTED: function 106 (impl_bench_dh)

/-! ### impl_DhOf: OWN: function 50 -/
namespace Hand
open Go.Proofs.Ytkckdibalopagaa.Base
/-! a dh's node: its two secrets in the order of their texts -/
def dhPick (t1 t2 : ByteArray) (x y : Int) : Int × Int := if (Op.bytesLess t2.toList t1.toList || (t2.toList == t1.toList && decide (y < x))) = true then (y, x) else (x, y)
def dhB (l : List S34) (t1 t2 : ByteArray) (x y : Int) : List S34 × Bool × Int := ofB (l, false, 0) 7 (dhPick t1 t2 x y).1 (dhPick t1 t2 x y).2

theorem BnS.far {w : World} {base g : Nat} {ok : Nat → Prop} {l : List S34} {bad : Bool} (h : BnS w base g ok l bad) {p : Addr} (hg : g ≠ p.block) (hp : ¬ ok p.block) (u : Value) : BnS (w.setCell p u) base g ok l bad := by
 obtain ⟨⟨v, h1, h2, h3, hR⟩, h4, h5⟩ := h
 exact ⟨⟨v, blk_far h1 hg u, h2, h3, Kd.R_far hR (fun k hk e => hp (e ▸ hk)) u⟩, fun k hk => h4 k (by simpa [World.setCell] using hk), h5⟩
theorem BnS.without {w : World} {base g : Nat} {ok : Nat → Prop} {l : List S34} {bad : Bool} (h : BnS w base g ok l bad) (gn : Nat) (hn : w.heap.size ≤ gn) {w1 : World} (hb : Below w.heap.size w w1) (hlt : gn < w1.heap.size) : BnS w1 base g (fun k => ok k ∧ k ≠ gn) l bad := by
 obtain ⟨⟨v, h1, h2, h3, hR⟩, h4, h5⟩ := h
 exact ⟨⟨v, blk_below h1 hb, h2, fun hk => h3 hk.1, Kd.R_below (Kd.R_elderB hR gn hn) hb⟩, fun k hk => ⟨h4 k (Nat.le_trans hb.size hk), by omega⟩, h5⟩
theorem BPost.wider {w w1 : World} {base g gn : Nat} {ok : Nat → Prop} {r : List S34 × Bool × Int} {e : Ending} (hg : g ≠ gn) (h : BPost w base g (fun k => ok k ∧ k ≠ gn) r e w1) (hf : ∀ k, w1.heap.size ≤ k → ok k) : BPost w base g ok r e w1 := by
 obtain ⟨h1, ⟨⟨v, a1, a2, a3, a4⟩, a5, a6⟩, h3, h4⟩ := h
 exact ⟨h1, ⟨⟨v, a1, a2, fun hk => a3 ⟨hk, hg⟩, Kd.R_mono a4 (fun k hk => hk.1)⟩, hf, a6⟩, h3, h4.mono (fun k hk => hk.elim .inl (fun h => .inr h.1))⟩

set_option maxHeartbeats 8000000 in
set_option maxRecDepth 100000 in
theorem impl_dh (k : Nat) (l : List S34) (x p y : Int) (t1 t2 : ByteArray) (b1 b2 : Bool) (w : World) (base g : Nat) (ok : Nat → Prop) (h : BnS w base g ok l false) (hp : 0 ≤ p ∧ p < (l.length : Int)) (hk : impl_isKind.f l p 6 = some true) (hn : impl_NodeOk.f k l x = some true) (hy : (rd_T34 l p).f2 = y) (h1 : impl_TermText.f k l x = some (t1, b1)) (h2 : impl_TermText.f k l y = some (t2, b2)) :
  Calls Try.prog 106 #[.pointer (some ⟨g, 0, none⟩), .int .i64 x, .int .i64 p] w (BPost w base g ok (dhB l t1 t2 x y)) := by
 have hu26 := Try.underlying26
 have hu132 := Try.underlying132
 have HH := Aside0.mk h
 obtain ⟨⟨v, hblk, hbg, hno, hR⟩, hfr, _⟩ := h
 obtain ⟨Ag, c, rfl, hlg, _⟩ := Kd.R_reads hR
 have HG := Aside0.mk hblk
 have HR := Aside0.mk hR
 have HF := Aside0.mk hfr
 have HC := Aside0.mk hlg
 have HP := Aside0.mk hp
 have HK := Aside0.mk hk
 have HN := Aside0.mk hn
 have HY := Aside0.mk hy
 have H1 := Aside0.mk h1
 have H2 := Aside0.mk h2
 have hcg0 : w.cell? ⟨g, 0, none⟩ = some (.slice Ag l.length c) := (blk_cell HG.out 0).trans rfl
 have HBASE := Aside0.mk (show base ≤ w.heap.size by have := blk_lt hblk; omega)
 clear hblk hR hfr hbg hno hlg hp hk hn hy h1 h2
 go_enter Try.func106, Try.ntmps106
 go_wp2_with (first
  | ((with_reducible refine gate_dst (N := 7) rfl ?_); refine box_event ?hg (N := 7) ?hd (cs := #[.slice none 0 0]) (t := 26) ?hr ?_; (case hd => rfl); (case hg => rfl); (case hr => first | (go_simp; done) | (go_simp; rfl)); intro ga hg1 w1 hbox hb; have BKa := Aside0.mk hbox; have HB1 := Aside0.mk hb; have GA := Aside0.mk hg1; clear hg1 hbox hb; have BKg1 := Aside0.mk (blk_below HG.out HB1.out); have hcg1 : w1.cell? ⟨g, 0, none⟩ = some (.slice Ag l.length c) := (blk_cell BKg1.out 0).trans rfl; have hca1 : w1.cell? ⟨ga, 0, none⟩ = some (.slice none 0 0) := (blk_cell BKa.out 0).trans rfl; have hfa1 := blk_frozen BKa.out 0; have BKa2 : Aside0 ((w1.setCell ⟨ga, 0, none⟩ (.slice Ag l.length c)).heap[ga]? = some (.cells #[.slice Ag l.length c] 26 (0, 0))) := ⟨blk_put BKa.out 0 _ rfl⟩; have BKg2 : Aside0 ((w1.setCell ⟨ga, 0, none⟩ (.slice Ag l.length c)).heap[g]? = some (.cells #[.slice Ag l.length c, .bool false] 132 (0, 0))) := ⟨blk_far (p := ⟨ga, 0, none⟩) BKg1.out (show g ≠ ga by have h1 := blk_lt HG.out; have h2 := GA.out; omega) _⟩; have HB2 : Aside0 (Below w.heap.size w (w1.setCell ⟨ga, 0, none⟩ (.slice Ag l.length c))) := ⟨below_set HB1.out (by show w.heap.size ≤ ga; have h2 := GA.out; omega)⟩; have HC2 : Aside0 (Kd.C k34 (w1.setCell ⟨ga, 0, none⟩ (.slice Ag l.length c)) Ag l.length l) := ⟨Kd.C_below (Kd.R_reads' HR.out).2.2 HB2.out⟩; have hcg2 : (w1.setCell ⟨ga, 0, none⟩ (.slice Ag l.length c)).cell? ⟨g, 1, none⟩ = some (.bool false) := (blk_cell BKg2.out 1).trans rfl; have hca2 : (w1.setCell ⟨ga, 0, none⟩ (.slice Ag l.length c)).cell? ⟨ga, 0, none⟩ = some (.slice Ag l.length c) := (blk_cell BKa2.out 0).trans rfl)
  | (go_at_call 105; ((with_reducible refine (impl_isKind.calls Ag c l p 6 true _ HC2.out HC.out HK.out).mono ?_); rintro e w3 ⟨rfl, hb⟩); have HB3 := Aside0.mk hb; have hca3 : w3.cell? ⟨ga, 0, none⟩ = some (.slice Ag l.length c) := (blk_cell (blk_below BKa2.out HB3.out) 0).trans rfl; clear hb)
  | (go_at_call 59; ((with_reducible refine (impl_NodeOk.calls k Ag c l x true _ (Kd.C_below HC2.out HB3.out) HC.out HN.out).mono ?_); rintro e w4 ⟨rfl, hb⟩); have HB4 := Aside0.mk (below_step HB3.out hb); have hca4 : w4.cell? ⟨ga, 0, none⟩ = some (.slice Ag l.length c) := (blk_cell (blk_below BKa2.out HB4.out) 0).trans rfl; clear hb))
 have HS2 : Aside0 (BnS (w1.setCell ⟨ga, 0, none⟩ (.slice Ag l.length c)) base g (fun k => ok k ∧ k ≠ ga) l false) := ⟨BnS.far (BnS.without HH.out ga (by have h2 := GA.out; omega) HB1.out (blk_lt BKa.out)) (p := ⟨ga, 0, none⟩) (show g ≠ ga by have h1 := blk_lt HG.out; have h2 := GA.out; omega) (fun h => h.2 rfl) _⟩
 generalize w1.setCell ⟨ga, 0, none⟩ (.slice Ag l.length c) = w2 at HS2 BKa2 BKg2 HB2 HC2 HB3 HB4
 clear hcg1 hca1 hfa1 hcg0 hcg2 hca2 hca3
 have hp0 := HP.out.1
 have hp1 := HP.out.2
 obtain ⟨ad0, e0, _, _, hy4, _⟩ := at_T34 (Kd.C_below HC2.out HB4.out) p hp0 hp1
 rw [HY.out] at hy4
 cases e0
 have p5 : (0 ≤ (p : Int)) = True := eq_true hp0
 have q5 : ((p : Int) < (l.length : Int)) = True := eq_true hp1
 have hca5 := hca4
 have hy5 := hy4
 refine start_ (n := 9) (S := fun w' => w'.cell? ⟨ga, 0, none⟩ = some (.slice (some ad0) l.length c) ∧ w'.cell? ⟨(ad0.add (p.toNat * 4)).block, (ad0.add (p.toNat * 4)).off + 2, none⟩ = some (.int .i64 y)) (ds := []) #[false, false, false, false, false, false, false, false, false] (by kernel_rfl) rfl rfl ⟨hca5, hy5⟩ (fun hHeld => ?_)
 refine pure_ (i := 0) (N := some 38) (v := ?_) (a' := ?_) #[true, false, false, false, false, false, false, false, false] rfl rfl (by kernel_rfl) (fun _ _ _ h => h) (Or.inl ⟨by rfl, ?_⟩) ?_ ?_
 rotate_left
 ·intro w'
  go_simp
  with_reducible rfl
 rotate_left
 ·simp only [Act.put, List.setIfInBounds_toArray, List.set_cons_zero, List.set_cons_succ, i64_w, i32_w]
  rfl
 refine pure_ (i := 1) (N := some 39) (v := ?_) (a' := ?_) #[true, true, false, false, false, false, false, false, false] rfl rfl (by kernel_rfl) (fun _ _ _ h => h) (Or.inl ⟨by rfl, ?_⟩) ?_ ?_
 rotate_left
 ·intro w'
  go_simp
  with_reducible rfl
 rotate_left
 ·simp only [Act.put, List.setIfInBounds_toArray, List.set_cons_zero, List.set_cons_succ, i64_w, i32_w]
  rfl
 refine pure_ (i := 3) (N := some 41) (v := ?_) (a' := ?_) #[true, true, false, true, false, false, false, false, false] rfl rfl (by kernel_rfl) (fun _ _ _ h => h) (Or.inl ⟨by rfl, ?_⟩) ?_ ?_
 rotate_left
 ·intro w'
  go_simp
  with_reducible rfl
 rotate_left
 ·simp only [Act.put, List.setIfInBounds_toArray, List.set_cons_zero, List.set_cons_succ, i64_w, i32_w]
  rfl
 refine pure_ (i := 7) (N := some 8) (v := ?_) (a' := ?_) #[true, true, false, true, false, false, false, true, false] rfl rfl (by kernel_rfl) (fun _ _ _ h => h) (Or.inl ⟨by rfl, ?_⟩) ?_ ?_
 rotate_left
 ·intro w'
  go_simp
  with_reducible rfl
 rotate_left
 ·simp only [Act.put, List.setIfInBounds_toArray, List.set_cons_zero, List.set_cons_succ, i64_w, i32_w]
  rfl
 refine take_ (i := 2) (N := some 40) (v := ?_) (a' := ?_) #[true, true, true, true, false, false, false, true, false] rfl rfl (by kernel_rfl) (fun _ _ _ h => h) (Or.inl ⟨by rfl, ?_⟩) hHeld ?_ ?_
 rotate_left
 ·rintro w' ⟨s0, s1⟩
  go_simp
  with_reducible rfl
 rotate_left
 ·simp only [Act.put, List.setIfInBounds_toArray, List.set_cons_zero, List.set_cons_succ, i64_w, i32_w]
  rfl
 refine pure_ (i := 4) (N := some 42) (v := ?_) (a' := ?_) #[true, true, true, true, true, false, false, true, false] rfl rfl (by kernel_rfl) (fun _ _ _ h => h) (Or.inl ⟨by rfl, ?_⟩) ?_ ?_
 rotate_left
 ·intro w'
  go_simp
  with_reducible rfl
 rotate_left
 ·simp only [Act.put, List.setIfInBounds_toArray, List.set_cons_zero, List.set_cons_succ, i64_w, i32_w]
  rfl
 refine pure_ (i := 5) (N := some 43) (v := ?_) (a' := ?_) #[true, true, true, true, true, true, false, true, false] rfl rfl (by kernel_rfl) (fun _ _ _ h => h) (Or.inl ⟨by rfl, ?_⟩) ?_ ?_
 rotate_left
 ·intro w'
  go_simp
  with_reducible rfl
 rotate_left
 ·simp only [Act.put, List.setIfInBounds_toArray, List.set_cons_zero, List.set_cons_succ, i64_w, i32_w]
  rfl
 refine take_ (i := 6) (N := some 44) (v := ?_) (a' := ?_) #[true, true, true, true, true, true, true, true, false] rfl rfl (by kernel_rfl) (fun _ _ _ h => h) (Or.inl ⟨by rfl, ?_⟩) hHeld ?_ ?_
 rotate_left
 ·rintro w' ⟨s0, s1⟩
  go_simp
  with_reducible rfl
 rotate_left
 ·simp only [Act.put, List.setIfInBounds_toArray, List.set_cons_zero, List.set_cons_succ, i64_w, i32_w]
  rfl
 refine pure_ (i := 8) (N := some 9) (v := ?_) (a' := ?_) #[true, true, true, true, true, true, true, true, true] rfl rfl (by kernel_rfl) (fun _ _ _ h => h) (Or.inl ⟨by rfl, ?_⟩) ?_ ?_
 rotate_left
 ·intro w'
  go_simp
  with_reducible rfl
 rotate_left
 ·simp only [Act.put, List.setIfInBounds_toArray, List.set_cons_zero, List.set_cons_succ, i64_w, i32_w]
  rfl
 refine done_ (by kernel_rfl) ?_
 have HB5 : Aside0 (Below w2.heap.size w2 w4.drew) := ⟨below_drew1 HB4.out⟩
 have hca6 : w4.drew.cell? ⟨ga, 0, none⟩ = some (.slice (some ad0) l.length c) := hca5
 generalize w4.drew = w5 at HB5 hca6 hHeld ⊢
 clear hca4 hca5 hy4 hy5 hHeld
 go_wp2_with (first
  | (go_at_call 32; ((with_reducible refine (impl_TermText.calls k (some ad0) c l x t1 b1 _ (Kd.C_below HC2.out HB5.out) HC.out H1.out).mono ?_); rintro e w6 ⟨rfl, hb⟩); have HB6 := Aside0.mk (below_step HB5.out hb); have hca7 : w6.cell? ⟨ga, 0, none⟩ = some (.slice (some ad0) l.length c) := (blk_cell (blk_below BKa2.out HB6.out) 0).trans rfl; clear hb)
  | (go_at_call 32; ((with_reducible refine (impl_TermText.calls k (some ad0) c l y t2 b2 _ (Kd.C_below HC2.out HB6.out) HC.out H2.out).mono ?_); rintro e w7 ⟨rfl, hb⟩); have HB7 := Aside0.mk (below_step HB6.out hb); clear hb; have HW7 : Aside0 (BnS w7 base g (fun k => ok k ∧ k ≠ ga) l false) := ⟨HS2.out.keep HB7.out⟩; have HQ : Aside0 (Below w.heap.size w w7) := ⟨below_step HB2.out HB7.out⟩; obtain ⟨q1, hq1⟩ : ∃ q, Op.bytesLess t2.toList t1.toList = q := ⟨_, rfl⟩; obtain ⟨q2, hq2⟩ : ∃ q, (t2.toList == t1.toList) = q := ⟨_, rfl⟩; obtain ⟨q3, hq3⟩ : ∃ q, decide (y < x) = q := ⟨_, rfl⟩; have HE : Aside0 (dhB l t1 t2 x y = if (q1 || (q2 && q3)) = true then ofB (l, false, 0) 7 y x else ofB (l, false, 0) 7 x y) := ⟨by unfold dhB dhPick; rw [hq1, hq2, hq3]; split <;> rfl⟩; cases q1 <;> cases q2 <;> cases q3)
  | (go_at_call 104; ((with_reducible refine (impl_of (l, false, 0) 7 x y _ base g _ HW7.out).mono ?_); rintro e w8 hp); have HP8 := Aside0.mk hp; obtain ⟨rfl, _⟩ := hp; have hga : g ≠ ga := (by have h1 := blk_lt HG.out; have h2 := GA.out; omega))
  | (go_at_call 104; ((with_reducible refine (impl_of (l, false, 0) 7 y x _ base g _ HW7.out).mono ?_); rintro e w8 hp); have HP8 := Aside0.mk hp; obtain ⟨rfl, _⟩ := hp; have hga : g ≠ ga := (by have h1 := blk_lt HG.out; have h2 := GA.out; omega)))
 all_goals
  go_ret
  rw [HE.out]
  first
   | rw [if_pos (by rfl)]
   | rw [if_neg (by decide)]
  exact BPost.trans (HQ.out.mono HBASE.out) (Kept.of_below HQ.out _) (BPost.wider hga HP8.out (fun k hk => (HP8.out.2.1.2.1 k hk).1))
end Hand
open Hand in
def impl_DhOf.f (k : Nat) (l0_0 : List S34) (a1 : Int) (a2 : Int) : Option (List S34 × Int) := if l0_0.length ≤ 1048576 ∧ (0 ≤ a2 ∧ a2 < (l0_0.length : Int)) ∧ impl_isKind.f l0_0 a2 6 = some true ∧ impl_NodeOk.f k l0_0 a1 = some true then (impl_TermText.f k l0_0 a1).bind fun t1 => (impl_TermText.f k l0_0 (rd_T34 l0_0 a2).f2).bind fun t2 => some (endN l0_0 (dhB l0_0 t1.1 t2.1 a1 (rd_T34 l0_0 a2).f2)) else none
open Hand in
set_option maxHeartbeats 8000000 in
set_option maxRecDepth 100000 in
theorem impl_DhOf.calls (A0_0 : Option Addr) (c0_0 : Nat) (l0_0 : List (S34)) (a1 : Int) (a2 : Int) (r1 : List (S34)) (r2 : Int) (k : Nat) (w : World) (hr0_0 : Kd.C k34 w A0_0 l0_0.length l0_0) (hc0_0 : l0_0.length ≤ c0_0)  (h : impl_DhOf.f k l0_0 a1 a2 = some (r1, r2)) :
  Calls Try.prog 50 #[.agg #[.slice A0_0 l0_0.length c0_0], .int .i64 a1, .int .i64 a2] w fun e w' => ∃ v0_ : Value, e = .returned (.tuple #[.agg #[v0_], .int .i64 r2]) ∧ Kd.R k34 34 w' w.heap.size (fun _ => True) v0_ r1 ∧ Below w.heap.size w w' := by
 have hu26 := Try.underlying26
 unfold impl_DhOf.f at h
 by_cases hl0 : l0_0.length ≤ 1048576 ∧ (0 ≤ a2 ∧ a2 < (l0_0.length : Int)) ∧ impl_isKind.f l0_0 a2 6 = some true ∧ impl_NodeOk.f k l0_0 a1 = some true
 ·rw [if_pos hl0] at h
  obtain ⟨hl, hc1, hc2, hc3⟩ := hl0
  have HC1 := Aside0.mk hc1
  have HC2 := Aside0.mk hc2
  have HC3 := Aside0.mk hc3
  obtain ⟨u1, hu1, h⟩ := Option.bind_eq_some_iff.mp h
  obtain ⟨u2, hu2, h⟩ := Option.bind_eq_some_iff.mp h
  have HU1 : Aside0 (impl_TermText.f k l0_0 a1 = some (u1.1, u1.2)) := ⟨hu1⟩
  have HU2 : Aside0 (impl_TermText.f k l0_0 (rd_T34 l0_0 a2).f2 = some (u2.1, u2.2)) := ⟨hu2⟩
  clear hc1 hc2 hc3 hu1 hu2
  have HL := Aside0.mk hl
  have HR0 := Aside0.mk hr0_0
  have HC0 := Aside0.mk hc0_0
  clear hl hr0_0 hc0_0
  obtain ⟨s, hs⟩ : ∃ s, dhB l0_0 u1.1 u2.1 a1 (rd_T34 l0_0 a2).f2 = s := ⟨_, rfl⟩
  rw [hs] at h
  have HS := Aside0.mk hs
  have HE := Aside0.mk (Option.some.inj h)
  clear hs h
  go_enter Try.func50, Try.ntmps50
  go_wp2_with (first
   | ((with_reducible refine gate_dst (N := 3) rfl ?_); refine box_event ?hg (N := 3) ?hd (cs := #[.slice A0_0 l0_0.length c0_0]) (t := 26) ?hr ?_; (case hd => rfl); (case hg => rfl); (case hr => first | (go_simp; done) | (go_simp; rfl)); intro ga hg1 w3 hbox hb; have BKa := Aside0.mk hbox; have HB3 := Aside0.mk hb; have GA := Aside0.mk hg1; clear hg1 hbox hb)
   | ((with_reducible refine gate_dst (N := 6) rfl ?_); refine box_event ?hg (N := 6) ?hd (cs := #[.slice none 0 0]) (t := 26) ?hr ?_; (case hd => rfl); (case hg => rfl); (case hr => first | (go_simp; done) | (go_simp; rfl)); intro gr hg1 w4 hbox hb; have BKr := Aside0.mk hbox; have HB4 := Aside0.mk hb; have GR := Aside0.mk hg1; clear hg1 hbox hb; have HBw4 := Aside0.mk (below_step HB3.out HB4.out); have BKa4 := Aside0.mk (blk_below BKa.out HB4.out); have hca4 : w4.cell? ⟨ga, 0, none⟩ = some (.slice A0_0 l0_0.length c0_0) := (blk_cell BKa4.out 0).trans rfl)
   | (go_at_call 92; ((with_reducible refine (impl_benchOf A0_0 c0_0 l0_0 _ (Kd.C_below HR0.out HBw4.out) HC0.out HL.out).mono ?_); rintro e w5 hp); obtain ⟨g, rfl, hgs, hB5, hb5⟩ := hp; have HBN := Aside0.mk hB5; have HB5 := Aside0.mk hb5; clear hgs hB5 hb5)
   | (go_at_call 106; ((with_reducible refine (hs_post HS.out (impl_dh k l0_0 a1 a2 (rd_T34 l0_0 a2).f2 u1.1 u2.1 u1.2 u2.2 _ w4.heap.size g _ HBN.out HC1.out HC2.out HC3.out rfl HU1.out HU2.out)).mono ?_); rintro e w6 hp); have HP6 := Aside0.mk hp; obtain ⟨rfl, _⟩ := hp; have HB6 := Aside0.mk (below_step HBw4.out (HB5.out.trans HP6.out.2.2.1)); have BKa6 := Aside0.mk ((HP6.out.2.2.1.block ga (blk_lt BKa4.out)).trans (blk_below BKa4.out HB5.out)); have BKr6 := Aside0.mk ((HP6.out.2.2.1.block gr (blk_lt BKr.out)).trans (blk_below BKr.out HB5.out)); have hca6 : w6.cell? ⟨ga, 0, none⟩ = some (.slice A0_0 l0_0.length c0_0) := (blk_cell BKa6.out 0).trans rfl)
   | (go_at_call 94; ((with_reducible refine (impl_end' (s := s) HP6.out.bn HR0.out HC0.out HB6.out HB6.out.size HL.out HE.out).mono ?_); rintro e w7 hp); obtain ⟨v, rfl, hR7, hb7⟩ := hp; obtain ⟨A7, c7, rfl, hl7, _⟩ := Kd.R_reads hR7; have HR7 := Aside0.mk hR7; have HB7 := Aside0.mk hb7; clear hR7 hl7 hb7; have BKr7 := Aside0.mk (blk_below BKr6.out HB7.out); have hcr7 : w7.cell? ⟨gr, 0, none⟩ = some (.slice none 0 0) := (blk_cell BKr7.out 0).trans rfl; have hfr7 := blk_frozen BKr7.out 0))
  refine bodyPost_ret (results_ct rfl _ _ gr 26 #[.slice A7 r1.length c7] (0, 0) _ rfl (blk_put BKr7.out 0 _ rfl) Try.underlying26 rfl (by kernel_rfl)) rfl ?_
  exact ⟨_, rfl, top_own HR7.out HBw4.out.size (blk_lt BKr.out), below_set (below_step HB6.out HB7.out) (by rw [GR.out]; exact HB3.out.size)⟩
 ·rw [if_neg hl0] at h
  cases h
namespace Hand

end Hand

/-! ### impl_isAtom: function 107 -/
def impl_isAtom.f (l0_0 : List (S34)) (a1 : Int) (a2 : Int) : Option (Bool) := (impl_hasNode.f l0_0 a1).bind fun t319 => (if t319 = true then (if 0 ≤ a1 then (if a1 < (l0_0.length : Int) then (some (((rd_T34 l0_0 a1).f0) == 1 && (((rd_T34 l0_0 a1).f1) == a2 && (((rd_T34 l0_0 a1).f2) == 0 && (((rd_T34 l0_0 a1).f3) == 0))))) else (none)) else (none)) else (some false))
set_option maxHeartbeats 8000000 in
set_option maxRecDepth 100000 in
theorem impl_isAtom.calls (A0_0 : Option Addr) (c0_0 : Nat) (l0_0 : List (S34)) (a1 : Int) (a2 : Int) (r : Bool) (w : World) (hr0_0 : Kd.C k34 w A0_0 l0_0.length l0_0) (hc0_0 : l0_0.length ≤ c0_0) (h : impl_isAtom.f l0_0 a1 a2 = some r) :
  Calls Try.prog 107 #[.agg #[.slice A0_0 l0_0.length c0_0], .int .i64 a1, .int .i64 a2] w fun e w' => e = .returned (.bool r) ∧ Below w.heap.size w w' := by
 have hu26 := Try.underlying26
 have hu34 := Try.underlying34
 have HR0_0 := Aside0.mk hr0_0
 have HC0_0 := Aside0.mk hc0_0
 clear hr0_0 hc0_0
 have HB := Aside0.mk (Below.refl w.heap.size w)
 have H : ((impl_hasNode.f l0_0 a1).bind fun t319 => (if t319 = true then (if 0 ≤ a1 then (if a1 < (l0_0.length : Int) then (some (((rd_T34 l0_0 a1).f0) == 1 && (((rd_T34 l0_0 a1).f1) == a2 && (((rd_T34 l0_0 a1).f2) == 0 && (((rd_T34 l0_0 a1).f3) == 0))))) else (none)) else (none)) else (some false))) = some r := h
 clear h
 replace H := Option.bind_eq_some_iff.mp H
 obtain ⟨t319, A40, H⟩ := H
 replace H : (if t319 = true then (if 0 ≤ a1 then (if a1 < (l0_0.length : Int) then (some (((rd_T34 l0_0 a1).f0) == 1 && (((rd_T34 l0_0 a1).f1) == a2 && (((rd_T34 l0_0 a1).f2) == 0 && (((rd_T34 l0_0 a1).f3) == 0))))) else (none)) else (none)) else (some false)) = some r := H
 have A4 := Aside0.mk A40
 clear A40
 by_cases c5 : t319 = true
 ·subst c5
  have H1 : (if 0 ≤ a1 then (if a1 < (l0_0.length : Int) then (some (((rd_T34 l0_0 a1).f0) == 1 && (((rd_T34 l0_0 a1).f1) == a2 && (((rd_T34 l0_0 a1).f2) == 0 && (((rd_T34 l0_0 a1).f3) == 0))))) else (none)) else (none)) = some r := by rw [if_pos rfl] at H; exact H
  clear H
  have H := H1
  clear H1
  by_cases c6 : 0 ≤ a1
  ·rw [if_pos c6] at H
   have c6b0 : decide (0 ≤ a1) = true := decide_eq_true c6
   clear c6
   by_cases c7 : a1 < (l0_0.length : Int)
   ·rw [if_pos c7] at H
    have c7b0 : decide (a1 < (l0_0.length : Int)) = true := decide_eq_true c7
    clear c7
    obtain rfl := Option.some.inj H
    go_enter Try.func107, Try.ntmps107
    go_wp2_with (first | ((with_reducible refine gate_dst (N := 3) rfl ?_); refine box_event ?hg (N := 3) ?hd (cs := #[.slice A0_0 l0_0.length c0_0]) (t := 26) ?hr ?_; (case hd => rfl); (case hg => rfl); (case hr => first | (go_simp; done) | (go_simp; rfl)); intro gb318 hg w8 hbox hb; have n0_ := Aside0.mk (below_step (bw HB.out) hb); have n1_ := Aside0.mk (hbox); have n2_ := Aside0.mk ((by rw [hg]; exact (below_size (bw HB.out)) : w.heap.size ≤ gb318)); have n3_ := Aside0.mk ((by rw [hg]; exact (below_size (bw HB.out)) : w.heap.size ≤ gb318)); clear HB; have HB := n0_; have BK318 := n1_; have GW318 := n2_; have GE318 := n3_; clear n0_ n1_ n2_ n3_ hb hbox hg; have hcz9_0 : w8.cell? ⟨gb318, 0, none⟩ = some (.slice A0_0 l0_0.length c0_0) := (blk_cell BK318.out 0).trans rfl; have hfz9_0 := blk_frozen BK318.out 0) | ((with_reducible refine gate_callee (f := 71) rfl ?_); refine goesL_ (some 9) rfl rfl Try.func71 (by kernel_rfl) rfl #[.agg #[.slice A0_0 l0_0.length c0_0], .int .i64 a1] rfl ar ?_; (with_reducible refine (impl_hasNode.calls _ _ l0_0 a1 true _ ?side1 ?side2 A4.out).mono ?_); (case side1 => exact cl (Kd.C_below HR0_0.out HB.out)); (case side2 => exact HC0_0.out); rintro e w10 ⟨rfl, hb⟩; refine ⟨_, rfl, ?_⟩; have n0_ := Aside0.mk (blk_below (g := gb318) (o := .cells #[.slice A0_0 l0_0.length c0_0] 26 (0, 0)) (bl BK318.out) hb); have n1_ := Aside0.mk (below_step (bw HB.out) hb); clear BK318 HB; have BK318 := n0_; have HB := n1_; clear n0_ n1_; (try clear hb); (try clear hb2); (try clear hk); (try clear hi); have hcz11_0 : w10.cell? ⟨gb318, 0, none⟩ = some (.slice A0_0 l0_0.length c0_0) := (blk_cell BK318.out 0).trans rfl; have hfz11_0 := blk_frozen BK318.out 0; have p320 : 0 ≤ (a1 : Int) := oda; have q320 : a1 < (l0_0.length : Int) := oda; obtain ⟨ad320, e320, hx320_0, hx320_1, hx320_2, hx320_3⟩ := at_T34 HR0_0.out a1 p320 q320; cases e320; replace hx320_0 := (HB.out.cell (World.block_lt_of_cell? w _ hx320_0)).trans hx320_0; replace hx320_1 := (HB.out.cell (World.block_lt_of_cell? w _ hx320_1)).trans hx320_1; replace hx320_2 := (HB.out.cell (World.block_lt_of_cell? w _ hx320_2)).trans hx320_2; replace hx320_3 := (HB.out.cell (World.block_lt_of_cell? w _ hx320_3)).trans hx320_3; replace p320 := eq_true p320; replace q320 := eq_true q320))
    go_ret
    exact ⟨by first | rfl | (simp [errW_none, errW_some] <;> rfl) | (simp [*, errW_none, errW_some] <;> rfl), bw HB.out⟩
   ·rw [if_neg c7] at H
    exact absurd H (by simp)
  ·rw [if_neg c6] at H
   exact absurd H (by simp)
 ·replace c5 := Bool.eq_false_iff.mpr c5
  subst c5
  have H1 : (some false) = some r := by rw [if_neg (show ¬ (false = true) by decide)] at H; exact H
  clear H
  have H := H1
  clear H1
  obtain rfl := Option.some.inj H
  go_enter Try.func107, Try.ntmps107
  go_wp2_with (first | ((with_reducible refine gate_dst (N := 3) rfl ?_); refine box_event ?hg (N := 3) ?hd (cs := #[.slice A0_0 l0_0.length c0_0]) (t := 26) ?hr ?_; (case hd => rfl); (case hg => rfl); (case hr => first | (go_simp; done) | (go_simp; rfl)); intro gb318 hg w12 hbox hb; have n0_ := Aside0.mk (below_step (bw HB.out) hb); have n1_ := Aside0.mk (hbox); have n2_ := Aside0.mk ((by rw [hg]; exact (below_size (bw HB.out)) : w.heap.size ≤ gb318)); have n3_ := Aside0.mk ((by rw [hg]; exact (below_size (bw HB.out)) : w.heap.size ≤ gb318)); clear HB; have HB := n0_; have BK318 := n1_; have GW318 := n2_; have GE318 := n3_; clear n0_ n1_ n2_ n3_ hb hbox hg; have hcz13_0 : w12.cell? ⟨gb318, 0, none⟩ = some (.slice A0_0 l0_0.length c0_0) := (blk_cell BK318.out 0).trans rfl; have hfz13_0 := blk_frozen BK318.out 0) | ((with_reducible refine gate_callee (f := 71) rfl ?_); refine goesL_ (some 9) rfl rfl Try.func71 (by kernel_rfl) rfl #[.agg #[.slice A0_0 l0_0.length c0_0], .int .i64 a1] rfl ar ?_; (with_reducible refine (impl_hasNode.calls _ _ l0_0 a1 false _ ?side1 ?side2 A4.out).mono ?_); (case side1 => exact cl (Kd.C_below HR0_0.out HB.out)); (case side2 => exact HC0_0.out); rintro e w14 ⟨rfl, hb⟩; refine ⟨_, rfl, ?_⟩; have n0_ := Aside0.mk (blk_below (g := gb318) (o := .cells #[.slice A0_0 l0_0.length c0_0] 26 (0, 0)) (bl BK318.out) hb); have n1_ := Aside0.mk (below_step (bw HB.out) hb); clear BK318 HB; have BK318 := n0_; have HB := n1_; clear n0_ n1_; (try clear hb); (try clear hb2); (try clear hk); (try clear hi)))
  go_ret
  exact ⟨by first | rfl | (simp [errW_none, errW_some] <;> rfl) | (simp [*, errW_none, errW_some] <;> rfl), bw HB.out⟩

end Go.Proofs.Ytkckdibalopagaa.SFnMakes
