-- Began as a print of the kit over stubs (wip/stub.py); the sections that are named OWN are this session's.
import Derived.Test.YtkckdibalopagaaSFnTermsToldx0
import Derived.Test.YtkckdibalopagaaSFnTermsToldx3
import Derived.Test.YtkckdibalopagaaSFnTermsToldx5
import Derived.Test.YtkckdibalopagaaSFnTermsToldx6
import Derived.Test.YtkckdibalopagaaRAppendAt
import Derived.Test.YtkckdibalopagaaRBase
import Derived.Test.YtkckdibalopagaaRMapOnce
import Derived.RegionTactic
import Derived.BigRegion
import Derived.Carry
import Derived.DeepKeys4
import Derived.Test.YtkckdibalopagaaSFnTermsToldx2
import Derived.Test.YtkckdibalopagaaSFnTermsToldx4
import Derived.Test.YtkckdibalopagaaRShort
namespace Go.Proofs.Ytkckdibalopagaa.SFnTermsTold
open Go.RowKit Go.Proofs.YtkckdibalopagaaW.PrintWords Go.Proofs.YtkckdibalopagaaW.PrintLast Go.Proofs.YtkckdibalopagaaW.PrintMore Go.Proofs.Ytkckdibalopagaa.Short
attribute [local go_sem] max2_int min2_int max_two min_two max_three min_three max_four min_four   -- for this text's walks alone
set_option linter.unusedVariables false
set_option linter.unusedSimpArgs false

/-! ### impl_termBytes: OWN: function 89 -/
def impl_termBytes.f : Nat → List Int → List (S34) → Int → Option (List Int)
  | 0, _, _, _ => none
  | k + 1, l0, l1_0, a2 => if 0 ≤ a2 then (if a2 < (l1_0.length : Int) then ((impl_VarText.f k ((rd_T34 l1_0 a2).f0)).bind fun bt225 => (if l0.length + bt225.1.size < 140737488355328 then ((some (l0 ++ bytesOf bt225.1 : List Int)).bind fun y227 => (if ((rd_T34 l1_0 a2).f0) = 1 then ((impl_VarText.f k ((rd_T34 l1_0 a2).f1)).bind fun bt230 => (if y227.length + bt230.1.size < 140737488355328 then (some (y227 ++ bytesOf bt230.1)) else (none))) else ((impl_termBytes.f k y227 l1_0 ((rd_T34 l1_0 a2).f2)).bind fun t235 => ((impl_hasB.f ((rd_T34 l1_0 a2).f0)).bind fun t238 => (if t238 = true then ((impl_termBytes.f k t235 l1_0 ((rd_T34 l1_0 a2).f3)).bind fun t239 => (some t239)) else (some t235)))))) else (none))) else (none)) else (none)
set_option maxHeartbeats 8000000 in
set_option maxRecDepth 100000 in
theorem impl_termBytes.calls (k : Nat) : ∀ (P0_ : Nat → Prop) (u9000_ : Value) (l0 : List Int) (A1_0 : Option Addr) (c1_0 : Nat) (l1_0 : List (S34)) (a2 : Int) (r : List Int) (w0 w : World) (hB : Below w0.heap.size w0 w) (ho0 : Kd.R (Kd.int .u8) 5 w w0.heap.size P0_ u9000_ l0) (hr1_0 : ∀ W_, Kept w W_ (fun k_ => P0_ k_) → Kd.C k34 W_ A1_0 l1_0.length l1_0) (hc1_0 : l1_0.length ≤ c1_0) (h : impl_termBytes.f k l0 l1_0 a2 = some r),
  Calls Try.prog 89 #[u9000_, .agg #[.slice A1_0 l1_0.length c1_0], .int .i64 a2] w fun e w' => ∃ v0_ : Value, e = .returned (v0_) ∧ Kd.R (Kd.int .u8) 5 w' w0.heap.size (fun k_ => (P0_ k_ ∨ w.heap.size ≤ k_)) v0_ r ∧ Below w0.heap.size w0 w' ∧ Kept w w' (fun k_ => P0_ k_) := by
 induction k using Nat.strongRecOn with
 | _ k ih =>
 intro P0_ u9000_ l0 A1_0 c1_0 l1_0 a2 r w0 w hB ho0 hr1_0 hc1_0 h
 cases k with
 | zero => exact absurd h (by simp [impl_termBytes.f])
 | succ k =>
 simp only [impl_termBytes.f] at h
 have hu26 := Try.underlying26
 have hu34 := Try.underlying34
 have HO0 := Aside0.mk (show Kd.R (Kd.int .u8) 5 w w0.heap.size (fun k_ => (P0_ k_ ∨ w.heap.size ≤ k_)) u9000_ l0 from Kd.R_mono ho0 (fun k_ hk => (.inl hk)))
 have HR1_0 := Aside0.mk hr1_0
 have HC1_0 := Aside0.mk hc1_0
 clear hr1_0 hc1_0
 have HK := Aside0.mk (Kept.refl w (fun k_ => P0_ k_))
 have HW0 := Aside0.mk hB.size
 have HB := Aside0.mk hB
 clear hB
 have H : (if 0 ≤ a2 then (if a2 < (l1_0.length : Int) then ((impl_VarText.f k ((rd_T34 l1_0 a2).f0)).bind fun bt225 => (if l0.length + bt225.1.size < 140737488355328 then ((some (l0 ++ bytesOf bt225.1 : List Int)).bind fun y227 => (if ((rd_T34 l1_0 a2).f0) = 1 then ((impl_VarText.f k ((rd_T34 l1_0 a2).f1)).bind fun bt230 => (if y227.length + bt230.1.size < 140737488355328 then (some (y227 ++ bytesOf bt230.1)) else (none))) else ((impl_termBytes.f k y227 l1_0 ((rd_T34 l1_0 a2).f2)).bind fun t235 => ((impl_hasB.f ((rd_T34 l1_0 a2).f0)).bind fun t238 => (if t238 = true then ((impl_termBytes.f k t235 l1_0 ((rd_T34 l1_0 a2).f3)).bind fun t239 => (some t239)) else (some t235)))))) else (none))) else (none)) else (none)) = some r := h
 clear h
 by_cases c4 : 0 ≤ a2
 ·rw [if_pos c4] at H
  have c4b0 : decide (0 ≤ a2) = true := decide_eq_true c4
  clear c4
  by_cases c5 : a2 < (l1_0.length : Int)
  ·rw [if_pos c5] at H
   have c5b0 : decide (a2 < (l1_0.length : Int)) = true := decide_eq_true c5
   clear c5
   replace H := Option.bind_eq_some_iff.mp H
   obtain ⟨⟨t225, t226⟩, A60, H⟩ := H
   replace H : (if l0.length + t225.size < 140737488355328 then ((some (l0 ++ bytesOf t225 : List Int)).bind fun y227 => (if ((rd_T34 l1_0 a2).f0) = 1 then ((impl_VarText.f k ((rd_T34 l1_0 a2).f1)).bind fun bt230 => (if y227.length + bt230.1.size < 140737488355328 then (some (y227 ++ bytesOf bt230.1)) else (none))) else ((impl_termBytes.f k y227 l1_0 ((rd_T34 l1_0 a2).f2)).bind fun t235 => ((impl_hasB.f ((rd_T34 l1_0 a2).f0)).bind fun t238 => (if t238 = true then ((impl_termBytes.f k t235 l1_0 ((rd_T34 l1_0 a2).f3)).bind fun t239 => (some t239)) else (some t235)))))) else (none)) = some r := H
   have A6 := Aside0.mk A60
   clear A60
   by_cases c7 : l0.length + t225.size < 140737488355328
   ·rw [if_pos c7] at H
    have LMc7 := Aside0.mk c7
    clear c7
    obtain ⟨y227, hy227⟩ : ∃ y_ : List Int, y_ = (l0 ++ bytesOf t225) := ⟨_, rfl⟩
    replace H : (if ((rd_T34 l1_0 a2).f0) = 1 then ((impl_VarText.f k ((rd_T34 l1_0 a2).f1)).bind fun bt230 => (if y227.length + bt230.1.size < 140737488355328 then (some (y227 ++ bytesOf bt230.1)) else (none))) else ((impl_termBytes.f k y227 l1_0 ((rd_T34 l1_0 a2).f2)).bind fun t235 => ((impl_hasB.f ((rd_T34 l1_0 a2).f0)).bind fun t238 => (if t238 = true then ((impl_termBytes.f k t235 l1_0 ((rd_T34 l1_0 a2).f3)).bind fun t239 => (some t239)) else (some t235))))) = some r := by first | (rw [hy227]; with_reducible exact H) | (have H2_ := (Option.bind_some _ _).symm.trans H; rw [hy227]; with_reducible exact H2_) | (have H2_ := (Option.bind_some _ _).symm.trans H; with_reducible exact H2_) | with_reducible exact H | (rw [hy227]; exact H) | exact H
    have Ny227 := Aside0.mk hy227
    clear hy227
    by_cases c8 : ((rd_T34 l1_0 a2).f0) = 1
    ·rw [if_pos c8] at H
     have c8b0 : (((rd_T34 l1_0 a2).f0) == 1) = true := beq_iff_eq.mpr c8
     have c8b1 : (((rd_T34 l1_0 a2).f0) != 1) = false := bne_eq_false_iff_eq.mpr c8
     clear c8
     replace H := Option.bind_eq_some_iff.mp H
     obtain ⟨⟨t230, t231⟩, A90, H⟩ := H
     replace H : (if y227.length + t230.size < 140737488355328 then (some (y227 ++ bytesOf t230)) else (none)) = some r := H
     have A9 := Aside0.mk A90
     clear A90
     by_cases c10 : y227.length + t230.size < 140737488355328
     ·rw [if_pos c10] at H
      have LMc10 := Aside0.mk c10
      clear c10
      obtain ⟨y232, hy232⟩ : ∃ y_ : List Int, y_ = (y227 ++ bytesOf t230) := ⟨_, rfl⟩
      replace H : (some y232) = some r := by first | (rw [hy232]; with_reducible exact H) | (have H2_ := (Option.bind_some _ _).symm.trans H; rw [hy232]; with_reducible exact H2_) | (have H2_ := (Option.bind_some _ _).symm.trans H; with_reducible exact H2_) | with_reducible exact H | (rw [hy232]; exact H) | exact H
      have Ny232 := Aside0.mk hy232
      clear hy232
      obtain rfl := Option.some.inj H
      go_enter Try.func89, Try.ntmps89
      go_wp2_with (first | ((with_reducible refine gate_dst (N := 4) rfl ?_); refine box_event ?hg (N := 4) ?hd (cs := #[.slice A1_0 l1_0.length c1_0]) (t := 26) ?hr ?_; (case hd => rfl); (case hg => rfl); (case hr => first | (go_simp; done) | (go_simp; rfl)); intro gb222 hg w11 hbox hb; have n0_ := Aside0.mk (Kd.R_below (rl HO0.out) hb); have n1_ := Aside0.mk (Kept.below (S := (fun k_ => P0_ k_)) (by repeat (first | (with_reducible first | exact HK.out | apply Kept.alloc | apply Kept.drewN | apply Kept.drew) | exact HK.out)) hb); have n2_ := Aside0.mk (below_step (bw HB.out) hb); have n3_ := Aside0.mk (hbox); have n4_ := Aside0.mk ((by rw [hg]; exact (by first | exact HK.out.1 | exact (show Kept w _ (fun k_ => P0_ k_) from by repeat (first | (with_reducible first | exact HK.out | apply Kept.alloc | apply Kept.drewN | apply Kept.drew) | exact HK.out)).1) : w.heap.size ≤ gb222)); have n5_ := Aside0.mk ((by rw [hg]; exact (below_size (bw HB.out)) : w0.heap.size ≤ gb222)); clear HO0 HK HB; have HO0 := n0_; have HK := n1_; have HB := n2_; have BK222 := n3_; have GW222 := n4_; have GE222 := n5_; clear n0_ n1_ n2_ n3_ n4_ n5_ hb hbox hg; have hcz12_0 : w11.cell? ⟨gb222, 0, none⟩ = some (.slice A1_0 l1_0.length c1_0) := (blk_cell BK222.out 0).trans rfl; have hfz12_0 := blk_frozen BK222.out 0; have p223 : 0 ≤ (a2 : Int) := oda; have q223 : a2 < (l1_0.length : Int) := oda; obtain ⟨ad223, e223, hx223_0, hx223_1, hx223_2, hx223_3⟩ := at_T34 (Kd.C_kept_now HR1_0.out HK.out) a2 p223 q223; cases e223; replace p223 := eq_true p223; replace q223 := eq_true q223) | ((with_reducible refine gate_dst (N := 7) rfl ?_); refine box_event ?hg (N := 7) ?hd (cs := #[.int .i64 0, .int .i64 0, .int .i64 0, .int .i64 0]) (t := 34) ?hr ?_; (case hd => rfl); (case hg => rfl); (case hr => first | (go_simp; done) | (go_simp; rfl)); intro gb224 hg w13 hbox hb; have n0_ := Aside0.mk (Kd.R_below (rl HO0.out) hb); have n1_ := Aside0.mk (blk_below (g := gb222) (o := .cells #[.slice (some ad223) l1_0.length c1_0] 26 (0, 0)) (bl BK222.out) hb); have n2_ := Aside0.mk (Kept.below (S := (fun k_ => P0_ k_)) (by repeat (first | (with_reducible first | exact HK.out | apply Kept.alloc | apply Kept.drewN | apply Kept.drew | refine Kept.setCell ?_ (.inr GW222.out) _) | exact HK.out)) hb); have n3_ := Aside0.mk (below_step (bw HB.out) hb); have n4_ := Aside0.mk (hbox); have n5_ := Aside0.mk ((by rw [hg]; exact (by first | exact HK.out.1 | exact (show Kept w _ (fun k_ => P0_ k_) from by repeat (first | (with_reducible first | exact HK.out | apply Kept.alloc | apply Kept.drewN | apply Kept.drew | refine Kept.setCell ?_ (.inr GW222.out) _) | exact HK.out)).1) : w.heap.size ≤ gb224)); have n6_ := Aside0.mk ((by rw [hg]; exact (below_size (bw HB.out)) : w0.heap.size ≤ gb224)); have n7_ := Aside0.mk ((by rw [hg]; exact Nat.ne_of_lt (blk_lt (g := gb222) (o := .cells #[.slice (some ad223) l1_0.length c1_0] 26 (0, 0)) (bl BK222.out)) : gb222 ≠ gb224)); have n8_ := Aside0.mk ((by rw [hg]; exact Nat.ne_of_gt (blk_lt (g := gb222) (o := .cells #[.slice (some ad223) l1_0.length c1_0] 26 (0, 0)) (bl BK222.out)) : gb224 ≠ gb222)); clear HO0 BK222 HK HB; have HO0 := n0_; have BK222 := n1_; have HK := n2_; have HB := n3_; have BK224 := n4_; have GW224 := n5_; have GE224 := n6_; have NB222_224 := n7_; have NB224_222 := n8_; clear n0_ n1_ n2_ n3_ n4_ n5_ n6_ n7_ n8_ hb hbox hg; have hnb14 := NB224_222.out; have hnc14 := NB222_224.out; have hcz15_0 : w13.cell? ⟨gb224, 0, none⟩ = some (.int .i64 0) := (blk_cell BK224.out 0).trans rfl; have hcz15_1 : w13.cell? ⟨gb224, 1, none⟩ = some (.int .i64 0) := (blk_cell BK224.out 1).trans rfl; have hcz15_2 : w13.cell? ⟨gb224, 2, none⟩ = some (.int .i64 0) := (blk_cell BK224.out 2).trans rfl; have hcz15_3 : w13.cell? ⟨gb224, 3, none⟩ = some (.int .i64 0) := (blk_cell BK224.out 3).trans rfl; have hfz15_0 := blk_frozen BK224.out 0; have hfz15_1 := blk_frozen BK224.out 1; have hfz15_2 := blk_frozen BK224.out 2; have hfz15_3 := blk_frozen BK224.out 3) | ((with_reducible refine gate_callee (f := 124) rfl ?_); refine goesL_ (some 20) rfl rfl Try.func124 (by kernel_rfl) rfl #[.int .i64 ((rd_T34 l1_0 a2).f0)] rfl ar ?_; (with_reducible refine (impl_VarText.calls k ((rd_T34 l1_0 a2).f0) t225 t226 _ A6.out).mono ?_); rintro e w16 ⟨rfl, hb⟩; refine ⟨_, rfl, ?_⟩; have n0_ := Aside0.mk (Kd.R_below (by (with_reducible repeat (first | apply Kd.R_alloc | apply Kd.R_drewN | apply Kd.R_drew)); exact (Kd.R_mono (Kd.R_far (p := ⟨gb224, 3, none⟩) (Kd.R_far (p := ⟨gb224, 2, none⟩) (Kd.R_far (p := ⟨gb224, 1, none⟩) (Kd.R_far (p := ⟨gb224, 0, none⟩) (Kd.R_types HO0.out BK224.out (by decide)) (fun _ hk => hk.2) (.int .i64 ((rd_T34 l1_0 a2).f0))) (fun _ hk => hk.2) (.int .i64 ((rd_T34 l1_0 a2).f1))) (fun _ hk => hk.2) (.int .i64 ((rd_T34 l1_0 a2).f2))) (fun _ hk => hk.2) (.int .i64 ((rd_T34 l1_0 a2).f3))) (fun _ h_ => h_.1))) hb); have n1_ := Aside0.mk (blk_below (g := gb222) (o := .cells #[.slice (some ad223) l1_0.length c1_0] 26 (0, 0)) (by (with_reducible repeat (first | refine blk_drewN ?_ _ | refine blk_drew ?_ | refine blk_alloc ?_ _)); refine blk_far ?_ NB222_224.out _; (with_reducible repeat (first | refine blk_drewN ?_ _ | refine blk_drew ?_ | refine blk_alloc ?_ _)); refine blk_far ?_ NB222_224.out _; (with_reducible repeat (first | refine blk_drewN ?_ _ | refine blk_drew ?_ | refine blk_alloc ?_ _)); refine blk_far ?_ NB222_224.out _; (with_reducible repeat (first | refine blk_drewN ?_ _ | refine blk_drew ?_ | refine blk_alloc ?_ _)); refine blk_far ?_ NB222_224.out _; (with_reducible repeat (first | refine blk_drewN ?_ _ | refine blk_drew ?_ | refine blk_alloc ?_ _)); exact BK222.out) hb); have n2_ := Aside0.mk (blk_below (g := gb224) (o := .cells #[.int .i64 ((rd_T34 l1_0 a2).f0), .int .i64 ((rd_T34 l1_0 a2).f1), .int .i64 ((rd_T34 l1_0 a2).f2), .int .i64 ((rd_T34 l1_0 a2).f3)] 34 (0, 0)) (by (with_reducible repeat (first | refine blk_drewN ?_ _ | refine blk_drew ?_ | refine blk_alloc ?_ _)); refine blk_put (cs := #[.int .i64 ((rd_T34 l1_0 a2).f0), .int .i64 ((rd_T34 l1_0 a2).f1), .int .i64 ((rd_T34 l1_0 a2).f2), .int .i64 0]) ?_ 3 _ rfl; (with_reducible repeat (first | refine blk_drewN ?_ _ | refine blk_drew ?_ | refine blk_alloc ?_ _)); refine blk_put (cs := #[.int .i64 ((rd_T34 l1_0 a2).f0), .int .i64 ((rd_T34 l1_0 a2).f1), .int .i64 0, .int .i64 0]) ?_ 2 _ rfl; (with_reducible repeat (first | refine blk_drewN ?_ _ | refine blk_drew ?_ | refine blk_alloc ?_ _)); refine blk_put (cs := #[.int .i64 ((rd_T34 l1_0 a2).f0), .int .i64 0, .int .i64 0, .int .i64 0]) ?_ 1 _ rfl; (with_reducible repeat (first | refine blk_drewN ?_ _ | refine blk_drew ?_ | refine blk_alloc ?_ _)); refine blk_put (cs := #[.int .i64 0, .int .i64 0, .int .i64 0, .int .i64 0]) ?_ 0 _ rfl; (with_reducible repeat (first | refine blk_drewN ?_ _ | refine blk_drew ?_ | refine blk_alloc ?_ _)); exact BK224.out) hb); have n3_ := Aside0.mk (Kept.below (S := (fun k_ => P0_ k_)) (by repeat (first | (with_reducible first | exact HK.out | apply Kept.alloc | apply Kept.drewN | apply Kept.drew | refine Kept.setCell ?_ (.inr GW222.out) _ | refine Kept.setCell ?_ (.inr GW224.out) _) | exact HK.out)) hb); have n4_ := Aside0.mk (below_step (bw HB.out) hb); clear HO0 BK222 BK224 HK HB; have HO0 := n0_; have BK222 := n1_; have BK224 := n2_; have HK := n3_; have HB := n4_; clear n0_ n1_ n2_ n3_ n4_; (try clear hb); (try clear hb2); (try clear hk); (try clear hi)) | (at_builtin; refine Go.Proofs.Ytkckdibalopagaa.Base.print_append_str_at (w0 := w0) w0.heap.size rfl (.tmp 23) _ 22 9 5 rfl Try.underlying22 Try.underlying9 info5 u9000_ l0 t225 rfl rfl ?aO ?aB ?aS ?aL ?_; (case aB => exact (bw HB.out)); (case aO => exact (Kd.own_of_R (rl HO0.out))); (case aS => exact (below_size (bw HB.out))); (case aL => have := LMc7.out; omega); intro v228 w17 ho0 hb hg hat; have ho := Kd.R_of_own (h1 := fun _ => rfl) (ok := (fun k_ => (P0_ k_ ∨ w.heap.size ≤ k_))) ho0 (Go.Proofs.Ytkckdibalopagaa.Base.ok_at (S := (fun k_ => P0_ k_)) hat (by repeat (first | (with_reducible first | exact HK.out | apply Kept.alloc | apply Kept.drewN | apply Kept.drew | refine Kept.setCell ?_ (.inr GW222.out) _ | refine Kept.setCell ?_ (.inr GW224.out) _) | exact HK.out)) HO0.out.1); clear ho0; rw [← Ny227.out] at ho; change Kd.R (Kd.int .u8) 5 w17 w0.heap.size (fun k_ => (P0_ k_ ∨ w.heap.size ≤ k_)) v228 y227 at ho; have n0_ := Aside0.mk (blk_grown (g := gb222) (o := .cells #[.slice (some ad223) l1_0.length c1_0] 26 (0, 0)) (bl BK222.out) hg (Kd.R_ne HO0.out BK222.out (by decide))); have n1_ := Aside0.mk (blk_grown (g := gb224) (o := .cells #[.int .i64 ((rd_T34 l1_0 a2).f0), .int .i64 ((rd_T34 l1_0 a2).f1), .int .i64 ((rd_T34 l1_0 a2).f2), .int .i64 ((rd_T34 l1_0 a2).f3)] 34 (0, 0)) (bl BK224.out) hg (Kd.R_ne HO0.out BK224.out (by decide))); have n2_ := Aside0.mk (hb); have n3_ := Aside0.mk (Kept.of_grown (S := (fun k_ => P0_ k_)) hg (by repeat (first | (with_reducible first | exact HK.out | apply Kept.alloc | apply Kept.drewN | apply Kept.drew | refine Kept.setCell ?_ (.inr GW222.out) _ | refine Kept.setCell ?_ (.inr GW224.out) _) | exact HK.out)) (fun k_ e_ => (HO0.out.1 k_ e_))); have n4_ := Aside0.mk (ho); clear BK222 BK224 HB HK HO0; have BK222 := n0_; have BK224 := n1_; have HB := n2_; have HK := n3_; have HO229 := n4_; clear n0_ n1_ n2_ n3_ n4_ ho hb hg hat; have hcz18_0 : w17.cell? ⟨gb224, 0, none⟩ = some (.int .i64 ((rd_T34 l1_0 a2).f0)) := (blk_cell BK224.out 0).trans rfl; have hcz18_1 : w17.cell? ⟨gb224, 1, none⟩ = some (.int .i64 ((rd_T34 l1_0 a2).f1)) := (blk_cell BK224.out 1).trans rfl; have hcz18_2 : w17.cell? ⟨gb224, 2, none⟩ = some (.int .i64 ((rd_T34 l1_0 a2).f2)) := (blk_cell BK224.out 2).trans rfl; have hcz18_3 : w17.cell? ⟨gb224, 3, none⟩ = some (.int .i64 ((rd_T34 l1_0 a2).f3)) := (blk_cell BK224.out 3).trans rfl; have hfz18_0 := blk_frozen BK224.out 0; have hfz18_1 := blk_frozen BK224.out 1; have hfz18_2 := blk_frozen BK224.out 2; have hfz18_3 := blk_frozen BK224.out 3) | ((with_reducible refine gate_callee (f := 124) rfl ?_); refine goesL_ (some 32) rfl rfl Try.func124 (by kernel_rfl) rfl #[.int .i64 ((rd_T34 l1_0 a2).f1)] rfl ar ?_; (with_reducible refine (impl_VarText.calls k ((rd_T34 l1_0 a2).f1) t230 t231 _ A9.out).mono ?_); rintro e w19 ⟨rfl, hb⟩; refine ⟨_, rfl, ?_⟩; have n0_ := Aside0.mk (Kd.R_below (rl HO229.out) hb); have n1_ := Aside0.mk (blk_below (g := gb222) (o := .cells #[.slice (some ad223) l1_0.length c1_0] 26 (0, 0)) (bl BK222.out) hb); have n2_ := Aside0.mk (blk_below (g := gb224) (o := .cells #[.int .i64 ((rd_T34 l1_0 a2).f0), .int .i64 ((rd_T34 l1_0 a2).f1), .int .i64 ((rd_T34 l1_0 a2).f2), .int .i64 ((rd_T34 l1_0 a2).f3)] 34 (0, 0)) (bl BK224.out) hb); have n3_ := Aside0.mk (Kept.below (S := (fun k_ => P0_ k_)) (by repeat (first | (with_reducible first | exact HK.out | apply Kept.alloc | apply Kept.drewN | apply Kept.drew | refine Kept.setCell ?_ (.inr GW222.out) _ | refine Kept.setCell ?_ (.inr GW224.out) _) | exact HK.out)) hb); have n4_ := Aside0.mk (below_step (bw HB.out) hb); clear HO229 BK222 BK224 HK HB; have HO229 := n0_; have BK222 := n1_; have BK224 := n2_; have HK := n3_; have HB := n4_; clear n0_ n1_ n2_ n3_ n4_; (try clear hb); (try clear hb2); (try clear hk); (try clear hi)) | (at_builtin; refine Go.Proofs.Ytkckdibalopagaa.Base.print_append_str_at (w0 := w0) w0.heap.size rfl (.tmp 35) _ 22 9 5 rfl Try.underlying22 Try.underlying9 info5 v228 y227 t230 rfl rfl ?aO ?aB ?aS ?aL ?_; (case aB => exact (bw HB.out)); (case aO => exact (Kd.own_of_R (rl HO229.out))); (case aS => exact (below_size (bw HB.out))); (case aL => have := LMc10.out; omega); intro v233 w20 ho0 hb hg hat; have ho := Kd.R_of_own (h1 := fun _ => rfl) (ok := (fun k_ => (P0_ k_ ∨ w.heap.size ≤ k_))) ho0 (Go.Proofs.Ytkckdibalopagaa.Base.ok_at (S := (fun k_ => P0_ k_)) hat (by repeat (first | (with_reducible first | exact HK.out | apply Kept.alloc | apply Kept.drewN | apply Kept.drew | refine Kept.setCell ?_ (.inr GW222.out) _ | refine Kept.setCell ?_ (.inr GW224.out) _) | exact HK.out)) HO229.out.1); clear ho0; rw [← Ny232.out] at ho; change Kd.R (Kd.int .u8) 5 w20 w0.heap.size (fun k_ => (P0_ k_ ∨ w.heap.size ≤ k_)) v233 y232 at ho; have n0_ := Aside0.mk (blk_grown (g := gb222) (o := .cells #[.slice (some ad223) l1_0.length c1_0] 26 (0, 0)) (bl BK222.out) hg (Kd.R_ne HO229.out BK222.out (by decide))); have n1_ := Aside0.mk (blk_grown (g := gb224) (o := .cells #[.int .i64 ((rd_T34 l1_0 a2).f0), .int .i64 ((rd_T34 l1_0 a2).f1), .int .i64 ((rd_T34 l1_0 a2).f2), .int .i64 ((rd_T34 l1_0 a2).f3)] 34 (0, 0)) (bl BK224.out) hg (Kd.R_ne HO229.out BK224.out (by decide))); have n2_ := Aside0.mk (hb); have n3_ := Aside0.mk (Kept.of_grown (S := (fun k_ => P0_ k_)) hg (by repeat (first | (with_reducible first | exact HK.out | apply Kept.alloc | apply Kept.drewN | apply Kept.drew | refine Kept.setCell ?_ (.inr GW222.out) _ | refine Kept.setCell ?_ (.inr GW224.out) _) | exact HK.out)) (fun k_ e_ => (HO229.out.1 k_ e_))); have n4_ := Aside0.mk (ho); clear BK222 BK224 HB HK HO229; have BK222 := n0_; have BK224 := n1_; have HB := n2_; have HK := n3_; have HO234 := n4_; clear n0_ n1_ n2_ n3_ n4_ ho hb hg hat))
      go_ret
      exact ⟨_, by first | rfl | (simp [errW_none, errW_some] <;> rfl) | (simp [*, errW_none, errW_some] <;> rfl), by (with_reducible repeat (first | apply Kd.R_alloc | apply Kd.R_drewN | apply Kd.R_drew)); exact HO234.out, bw HB.out, by repeat (first | (with_reducible first | exact HK.out | apply Kept.alloc | apply Kept.drewN | apply Kept.drew | refine Kept.setCell ?_ (.inr GW222.out) _ | refine Kept.setCell ?_ (.inr GW224.out) _) | exact HK.out)⟩
     ·rw [if_neg c10] at H
      exact absurd H (by simp)
    ·rw [if_neg c8] at H
     have c8b0 : (((rd_T34 l1_0 a2).f0) == 1) = false := beq_eq_false_iff_ne.mpr c8
     have c8b1 : (((rd_T34 l1_0 a2).f0) != 1) = true := bne_iff_ne.mpr c8
     replace H := Option.bind_eq_some_iff.mp H
     obtain ⟨t235, A210, H⟩ := H
     replace H : ((impl_hasB.f ((rd_T34 l1_0 a2).f0)).bind fun t238 => (if t238 = true then ((impl_termBytes.f k t235 l1_0 ((rd_T34 l1_0 a2).f3)).bind fun t239 => (some t239)) else (some t235))) = some r := H
     have A21 := Aside0.mk A210
     clear A210
     replace H := Option.bind_eq_some_iff.mp H
     obtain ⟨t238, A220, H⟩ := H
     replace H : (if t238 = true then ((impl_termBytes.f k t235 l1_0 ((rd_T34 l1_0 a2).f3)).bind fun t239 => (some t239)) else (some t235)) = some r := H
     have A22 := Aside0.mk A220
     clear A220
     by_cases c23 : t238 = true
     ·subst c23
      have H1 : ((impl_termBytes.f k t235 l1_0 ((rd_T34 l1_0 a2).f3)).bind fun t239 => (some t239)) = some r := by rw [if_pos rfl] at H; exact H
      clear H
      have H := H1
      clear H1
      replace H := Option.bind_eq_some_iff.mp H
      obtain ⟨t239, A240, H⟩ := H
      replace H : (some t239) = some r := H
      have A24 := Aside0.mk A240
      clear A240
      obtain rfl := Option.some.inj H
      go_enter Try.func89, Try.ntmps89
      go_wp2_with (first | ((with_reducible refine gate_dst (N := 4) rfl ?_); refine box_event ?hg (N := 4) ?hd (cs := #[.slice A1_0 l1_0.length c1_0]) (t := 26) ?hr ?_; (case hd => rfl); (case hg => rfl); (case hr => first | (go_simp; done) | (go_simp; rfl)); intro gb222 hg w25 hbox hb; have n0_ := Aside0.mk (Kd.R_below (rl HO0.out) hb); have n1_ := Aside0.mk (Kept.below (S := (fun k_ => P0_ k_)) (by repeat (first | (with_reducible first | exact HK.out | apply Kept.alloc | apply Kept.drewN | apply Kept.drew) | exact HK.out)) hb); have n2_ := Aside0.mk (below_step (bw HB.out) hb); have n3_ := Aside0.mk (hbox); have n4_ := Aside0.mk ((by rw [hg]; exact (by first | exact HK.out.1 | exact (show Kept w _ (fun k_ => P0_ k_) from by repeat (first | (with_reducible first | exact HK.out | apply Kept.alloc | apply Kept.drewN | apply Kept.drew) | exact HK.out)).1) : w.heap.size ≤ gb222)); have n5_ := Aside0.mk ((by rw [hg]; exact (below_size (bw HB.out)) : w0.heap.size ≤ gb222)); clear HO0 HK HB; have HO0 := n0_; have HK := n1_; have HB := n2_; have BK222 := n3_; have GW222 := n4_; have GE222 := n5_; clear n0_ n1_ n2_ n3_ n4_ n5_ hb hbox hg; have hcz26_0 : w25.cell? ⟨gb222, 0, none⟩ = some (.slice A1_0 l1_0.length c1_0) := (blk_cell BK222.out 0).trans rfl; have hfz26_0 := blk_frozen BK222.out 0; have p223 : 0 ≤ (a2 : Int) := oda; have q223 : a2 < (l1_0.length : Int) := oda; obtain ⟨ad223, e223, hx223_0, hx223_1, hx223_2, hx223_3⟩ := at_T34 (Kd.C_kept_now HR1_0.out HK.out) a2 p223 q223; cases e223; replace p223 := eq_true p223; replace q223 := eq_true q223) | ((with_reducible refine gate_dst (N := 7) rfl ?_); refine box_event ?hg (N := 7) ?hd (cs := #[.int .i64 0, .int .i64 0, .int .i64 0, .int .i64 0]) (t := 34) ?hr ?_; (case hd => rfl); (case hg => rfl); (case hr => first | (go_simp; done) | (go_simp; rfl)); intro gb224 hg w27 hbox hb; have n0_ := Aside0.mk (Kd.R_below (rl HO0.out) hb); have n1_ := Aside0.mk (blk_below (g := gb222) (o := .cells #[.slice (some ad223) l1_0.length c1_0] 26 (0, 0)) (bl BK222.out) hb); have n2_ := Aside0.mk (Kept.below (S := (fun k_ => P0_ k_)) (by repeat (first | (with_reducible first | exact HK.out | apply Kept.alloc | apply Kept.drewN | apply Kept.drew | refine Kept.setCell ?_ (.inr GW222.out) _) | exact HK.out)) hb); have n3_ := Aside0.mk (below_step (bw HB.out) hb); have n4_ := Aside0.mk (hbox); have n5_ := Aside0.mk ((by rw [hg]; exact (by first | exact HK.out.1 | exact (show Kept w _ (fun k_ => P0_ k_) from by repeat (first | (with_reducible first | exact HK.out | apply Kept.alloc | apply Kept.drewN | apply Kept.drew | refine Kept.setCell ?_ (.inr GW222.out) _) | exact HK.out)).1) : w.heap.size ≤ gb224)); have n6_ := Aside0.mk ((by rw [hg]; exact (below_size (bw HB.out)) : w0.heap.size ≤ gb224)); have n7_ := Aside0.mk ((by rw [hg]; exact Nat.ne_of_lt (blk_lt (g := gb222) (o := .cells #[.slice (some ad223) l1_0.length c1_0] 26 (0, 0)) (bl BK222.out)) : gb222 ≠ gb224)); have n8_ := Aside0.mk ((by rw [hg]; exact Nat.ne_of_gt (blk_lt (g := gb222) (o := .cells #[.slice (some ad223) l1_0.length c1_0] 26 (0, 0)) (bl BK222.out)) : gb224 ≠ gb222)); clear HO0 BK222 HK HB; have HO0 := n0_; have BK222 := n1_; have HK := n2_; have HB := n3_; have BK224 := n4_; have GW224 := n5_; have GE224 := n6_; have NB222_224 := n7_; have NB224_222 := n8_; clear n0_ n1_ n2_ n3_ n4_ n5_ n6_ n7_ n8_ hb hbox hg; have hnb28 := NB224_222.out; have hnc28 := NB222_224.out; have hcz29_0 : w27.cell? ⟨gb224, 0, none⟩ = some (.int .i64 0) := (blk_cell BK224.out 0).trans rfl; have hcz29_1 : w27.cell? ⟨gb224, 1, none⟩ = some (.int .i64 0) := (blk_cell BK224.out 1).trans rfl; have hcz29_2 : w27.cell? ⟨gb224, 2, none⟩ = some (.int .i64 0) := (blk_cell BK224.out 2).trans rfl; have hcz29_3 : w27.cell? ⟨gb224, 3, none⟩ = some (.int .i64 0) := (blk_cell BK224.out 3).trans rfl; have hfz29_0 := blk_frozen BK224.out 0; have hfz29_1 := blk_frozen BK224.out 1; have hfz29_2 := blk_frozen BK224.out 2; have hfz29_3 := blk_frozen BK224.out 3) | ((with_reducible refine gate_callee (f := 124) rfl ?_); refine goesL_ (some 20) rfl rfl Try.func124 (by kernel_rfl) rfl #[.int .i64 ((rd_T34 l1_0 a2).f0)] rfl ar ?_; (with_reducible refine (impl_VarText.calls k ((rd_T34 l1_0 a2).f0) t225 t226 _ A6.out).mono ?_); rintro e w30 ⟨rfl, hb⟩; refine ⟨_, rfl, ?_⟩; have n0_ := Aside0.mk (Kd.R_below (by (with_reducible repeat (first | apply Kd.R_alloc | apply Kd.R_drewN | apply Kd.R_drew)); exact (Kd.R_mono (Kd.R_far (p := ⟨gb224, 3, none⟩) (Kd.R_far (p := ⟨gb224, 2, none⟩) (Kd.R_far (p := ⟨gb224, 1, none⟩) (Kd.R_far (p := ⟨gb224, 0, none⟩) (Kd.R_types HO0.out BK224.out (by decide)) (fun _ hk => hk.2) (.int .i64 ((rd_T34 l1_0 a2).f0))) (fun _ hk => hk.2) (.int .i64 ((rd_T34 l1_0 a2).f1))) (fun _ hk => hk.2) (.int .i64 ((rd_T34 l1_0 a2).f2))) (fun _ hk => hk.2) (.int .i64 ((rd_T34 l1_0 a2).f3))) (fun _ h_ => h_.1))) hb); have n1_ := Aside0.mk (blk_below (g := gb222) (o := .cells #[.slice (some ad223) l1_0.length c1_0] 26 (0, 0)) (by (with_reducible repeat (first | refine blk_drewN ?_ _ | refine blk_drew ?_ | refine blk_alloc ?_ _)); refine blk_far ?_ NB222_224.out _; (with_reducible repeat (first | refine blk_drewN ?_ _ | refine blk_drew ?_ | refine blk_alloc ?_ _)); refine blk_far ?_ NB222_224.out _; (with_reducible repeat (first | refine blk_drewN ?_ _ | refine blk_drew ?_ | refine blk_alloc ?_ _)); refine blk_far ?_ NB222_224.out _; (with_reducible repeat (first | refine blk_drewN ?_ _ | refine blk_drew ?_ | refine blk_alloc ?_ _)); refine blk_far ?_ NB222_224.out _; (with_reducible repeat (first | refine blk_drewN ?_ _ | refine blk_drew ?_ | refine blk_alloc ?_ _)); exact BK222.out) hb); have n2_ := Aside0.mk (blk_below (g := gb224) (o := .cells #[.int .i64 ((rd_T34 l1_0 a2).f0), .int .i64 ((rd_T34 l1_0 a2).f1), .int .i64 ((rd_T34 l1_0 a2).f2), .int .i64 ((rd_T34 l1_0 a2).f3)] 34 (0, 0)) (by (with_reducible repeat (first | refine blk_drewN ?_ _ | refine blk_drew ?_ | refine blk_alloc ?_ _)); refine blk_put (cs := #[.int .i64 ((rd_T34 l1_0 a2).f0), .int .i64 ((rd_T34 l1_0 a2).f1), .int .i64 ((rd_T34 l1_0 a2).f2), .int .i64 0]) ?_ 3 _ rfl; (with_reducible repeat (first | refine blk_drewN ?_ _ | refine blk_drew ?_ | refine blk_alloc ?_ _)); refine blk_put (cs := #[.int .i64 ((rd_T34 l1_0 a2).f0), .int .i64 ((rd_T34 l1_0 a2).f1), .int .i64 0, .int .i64 0]) ?_ 2 _ rfl; (with_reducible repeat (first | refine blk_drewN ?_ _ | refine blk_drew ?_ | refine blk_alloc ?_ _)); refine blk_put (cs := #[.int .i64 ((rd_T34 l1_0 a2).f0), .int .i64 0, .int .i64 0, .int .i64 0]) ?_ 1 _ rfl; (with_reducible repeat (first | refine blk_drewN ?_ _ | refine blk_drew ?_ | refine blk_alloc ?_ _)); refine blk_put (cs := #[.int .i64 0, .int .i64 0, .int .i64 0, .int .i64 0]) ?_ 0 _ rfl; (with_reducible repeat (first | refine blk_drewN ?_ _ | refine blk_drew ?_ | refine blk_alloc ?_ _)); exact BK224.out) hb); have n3_ := Aside0.mk (Kept.below (S := (fun k_ => P0_ k_)) (by repeat (first | (with_reducible first | exact HK.out | apply Kept.alloc | apply Kept.drewN | apply Kept.drew | refine Kept.setCell ?_ (.inr GW222.out) _ | refine Kept.setCell ?_ (.inr GW224.out) _) | exact HK.out)) hb); have n4_ := Aside0.mk (below_step (bw HB.out) hb); clear HO0 BK222 BK224 HK HB; have HO0 := n0_; have BK222 := n1_; have BK224 := n2_; have HK := n3_; have HB := n4_; clear n0_ n1_ n2_ n3_ n4_; (try clear hb); (try clear hb2); (try clear hk); (try clear hi)) | (at_builtin; refine Go.Proofs.Ytkckdibalopagaa.Base.print_append_str_at (w0 := w0) w0.heap.size rfl (.tmp 23) _ 22 9 5 rfl Try.underlying22 Try.underlying9 info5 u9000_ l0 t225 rfl rfl ?aO ?aB ?aS ?aL ?_; (case aB => exact (bw HB.out)); (case aO => exact (Kd.own_of_R (rl HO0.out))); (case aS => exact (below_size (bw HB.out))); (case aL => have := LMc7.out; omega); intro v228 w31 ho0 hb hg hat; have ho := Kd.R_of_own (h1 := fun _ => rfl) (ok := (fun k_ => (P0_ k_ ∨ w.heap.size ≤ k_))) ho0 (Go.Proofs.Ytkckdibalopagaa.Base.ok_at (S := (fun k_ => P0_ k_)) hat (by repeat (first | (with_reducible first | exact HK.out | apply Kept.alloc | apply Kept.drewN | apply Kept.drew | refine Kept.setCell ?_ (.inr GW222.out) _ | refine Kept.setCell ?_ (.inr GW224.out) _) | exact HK.out)) HO0.out.1); clear ho0; rw [← Ny227.out] at ho; change Kd.R (Kd.int .u8) 5 w31 w0.heap.size (fun k_ => (P0_ k_ ∨ w.heap.size ≤ k_)) v228 y227 at ho; have n0_ := Aside0.mk (blk_grown (g := gb222) (o := .cells #[.slice (some ad223) l1_0.length c1_0] 26 (0, 0)) (bl BK222.out) hg (Kd.R_ne HO0.out BK222.out (by decide))); have n1_ := Aside0.mk (blk_grown (g := gb224) (o := .cells #[.int .i64 ((rd_T34 l1_0 a2).f0), .int .i64 ((rd_T34 l1_0 a2).f1), .int .i64 ((rd_T34 l1_0 a2).f2), .int .i64 ((rd_T34 l1_0 a2).f3)] 34 (0, 0)) (bl BK224.out) hg (Kd.R_ne HO0.out BK224.out (by decide))); have n2_ := Aside0.mk (hb); have n3_ := Aside0.mk (Kept.of_grown (S := (fun k_ => P0_ k_)) hg (by repeat (first | (with_reducible first | exact HK.out | apply Kept.alloc | apply Kept.drewN | apply Kept.drew | refine Kept.setCell ?_ (.inr GW222.out) _ | refine Kept.setCell ?_ (.inr GW224.out) _) | exact HK.out)) (fun k_ e_ => (HO0.out.1 k_ e_))); have n4_ := Aside0.mk (ho); clear BK222 BK224 HB HK HO0; have BK222 := n0_; have BK224 := n1_; have HB := n2_; have HK := n3_; have HO229 := n4_; clear n0_ n1_ n2_ n3_ n4_ ho hb hg hat; have hcz32_0 : w31.cell? ⟨gb224, 0, none⟩ = some (.int .i64 ((rd_T34 l1_0 a2).f0)) := (blk_cell BK224.out 0).trans rfl; have hcz32_1 : w31.cell? ⟨gb224, 1, none⟩ = some (.int .i64 ((rd_T34 l1_0 a2).f1)) := (blk_cell BK224.out 1).trans rfl; have hcz32_2 : w31.cell? ⟨gb224, 2, none⟩ = some (.int .i64 ((rd_T34 l1_0 a2).f2)) := (blk_cell BK224.out 2).trans rfl; have hcz32_3 : w31.cell? ⟨gb224, 3, none⟩ = some (.int .i64 ((rd_T34 l1_0 a2).f3)) := (blk_cell BK224.out 3).trans rfl; have hfz32_0 := blk_frozen BK224.out 0; have hfz32_1 := blk_frozen BK224.out 1; have hfz32_2 := blk_frozen BK224.out 2; have hfz32_3 := blk_frozen BK224.out 3; have hcz33_0 : w31.cell? ⟨gb222, 0, none⟩ = some (.slice (some ad223) l1_0.length c1_0) := (blk_cell BK222.out 0).trans rfl; have hfz33_0 := blk_frozen BK222.out 0; obtain ⟨Ao34, co34, eo34⟩ := Kd.R_slice HO229.out; subst eo34) | ((with_reducible refine gate_callee (f := 89) rfl ?_); refine goesL_ (some 42) rfl rfl Try.func89 (by kernel_rfl) rfl #[.slice Ao34 y227.length co34, .agg #[.slice (some ad223) l1_0.length c1_0], .int .i64 ((rd_T34 l1_0 a2).f2)] rfl ar ?_; (with_reducible refine (ih k (by omega) (fun k_ => some k_ = (.slice Ao34 y227.length co34 : Value).ownBlock) (.slice Ao34 y227.length co34) y227 _ _ l1_0 ((rd_T34 l1_0 a2).f2) t235 w0 _ ?side1 ?side2 ?side3 ?side4 A21.out).mono ?_); (case side1 => exact bw HB.out); (case side2 => exact Kd.R_tight rfl HO229.out); (case side3 => exact Kd.C_kept_call HR1_0.out (by repeat (first | (with_reducible first | exact HK.out | apply Kept.alloc | apply Kept.drewN | apply Kept.drew | refine Kept.setCell ?_ (.inr GW222.out) _ | refine Kept.setCell ?_ (.inr GW224.out) _) | exact HK.out)) (fun k_ hs_ => (fun e_ => (HO229.out.1 k_ e_.symm)) hs_)); (case side4 => exact HC1_0.out); rintro e w35 ⟨v236, rfl, ho0, hb, hkp⟩; refine ⟨_, rfl, ?_⟩; have n0_ := Aside0.mk (blk_kept (bl BK222.out) hkp (fun hs_ => (fun e_ => (Kd.R_ne HO229.out BK222.out (by decide)) e_) hs_)); have n1_ := Aside0.mk (blk_kept (bl BK224.out) hkp (fun hs_ => (fun e_ => (Kd.R_ne HO229.out BK224.out (by decide)) e_) hs_)); have n2_ := Aside0.mk (Kd.R_mono (ok' := fun k_ => (P0_ k_ ∨ w.heap.size ≤ k_)) ho0 (fun k_ hk_ => Or.elim hk_ (fun hs_ => (HO229.out.1 k_ (hs_).symm)) (fun hn_ => (.inr (Nat.le_trans (by first | exact HK.out.1 | exact (show Kept w _ (fun k_ => P0_ k_) from by repeat (first | (with_reducible first | exact HK.out | apply Kept.alloc | apply Kept.drewN | apply Kept.drew | refine Kept.setCell ?_ (.inr GW222.out) _ | refine Kept.setCell ?_ (.inr GW224.out) _) | exact HK.out)).1) hn_))))); have n3_ := Aside0.mk (Kept.then_ (S := (fun k_ => P0_ k_)) (by repeat (first | (with_reducible first | exact HK.out | apply Kept.alloc | apply Kept.drewN | apply Kept.drew | refine Kept.setCell ?_ (.inr GW222.out) _ | refine Kept.setCell ?_ (.inr GW224.out) _) | exact HK.out)) hkp (fun k_ hs_ => (fun e_ => (HO229.out.1 k_ e_.symm)) hs_)); have n4_ := Aside0.mk (hb); clear BK222 BK224 HK HB HO229; have BK222 := n0_; have BK224 := n1_; have HO237 := n2_; have HK := n3_; have HB := n4_; clear n0_ n1_ n2_ n3_ n4_; (try clear hb); (try clear hkp); (try clear ho0); have hcz36_0 : w35.cell? ⟨gb224, 0, none⟩ = some (.int .i64 ((rd_T34 l1_0 a2).f0)) := (blk_cell BK224.out 0).trans rfl; have hcz36_1 : w35.cell? ⟨gb224, 1, none⟩ = some (.int .i64 ((rd_T34 l1_0 a2).f1)) := (blk_cell BK224.out 1).trans rfl; have hcz36_2 : w35.cell? ⟨gb224, 2, none⟩ = some (.int .i64 ((rd_T34 l1_0 a2).f2)) := (blk_cell BK224.out 2).trans rfl; have hcz36_3 : w35.cell? ⟨gb224, 3, none⟩ = some (.int .i64 ((rd_T34 l1_0 a2).f3)) := (blk_cell BK224.out 3).trans rfl; have hfz36_0 := blk_frozen BK224.out 0; have hfz36_1 := blk_frozen BK224.out 1; have hfz36_2 := blk_frozen BK224.out 2; have hfz36_3 := blk_frozen BK224.out 3) | ((with_reducible refine gate_callee (f := 87) rfl ?_); refine goesL_ (some 45) rfl rfl Try.func87 (by kernel_rfl) rfl #[.int .i64 ((rd_T34 l1_0 a2).f0)] rfl ar ?_; (with_reducible refine (impl_hasB.calls ((rd_T34 l1_0 a2).f0) true _ A22.out).mono ?_); rintro e w' ⟨rfl, ⟨nd, rfl⟩⟩; refine ⟨_, rfl, ?_⟩; have hcz37_0 : w35.cell? ⟨gb222, 0, none⟩ = some (.slice (some ad223) l1_0.length c1_0) := (blk_cell BK222.out 0).trans rfl; have hfz37_0 := blk_frozen BK222.out 0; obtain ⟨Ao38, co38, eo38⟩ := Kd.R_slice HO237.out; subst eo38) | ((with_reducible refine gate_callee (f := 89) rfl ?_); refine goesL_ (some 50) rfl rfl Try.func89 (by kernel_rfl) rfl #[.slice Ao38 t235.length co38, .agg #[.slice (some ad223) l1_0.length c1_0], .int .i64 ((rd_T34 l1_0 a2).f3)] rfl ar ?_; (with_reducible refine (ih k (by omega) (fun k_ => some k_ = (.slice Ao38 t235.length co38 : Value).ownBlock) (.slice Ao38 t235.length co38) t235 _ _ l1_0 ((rd_T34 l1_0 a2).f3) t239 w0 _ ?side1 ?side2 ?side3 ?side4 A24.out).mono ?_); (case side1 => exact bw HB.out); (case side2 => exact Kd.R_tight rfl HO237.out); (case side3 => exact Kd.C_kept_call HR1_0.out (by repeat (first | (with_reducible first | exact HK.out | apply Kept.alloc | apply Kept.drewN | apply Kept.drew | refine Kept.setCell ?_ (.inr GW222.out) _ | refine Kept.setCell ?_ (.inr GW224.out) _) | exact HK.out)) (fun k_ hs_ => (fun e_ => (HO237.out.1 k_ e_.symm)) hs_)); (case side4 => exact HC1_0.out); rintro e w39 ⟨v240, rfl, ho0, hb, hkp⟩; refine ⟨_, rfl, ?_⟩; have n0_ := Aside0.mk (blk_kept (bl BK222.out) hkp (fun hs_ => (fun e_ => (Kd.R_ne HO237.out BK222.out (by decide)) e_) hs_)); have n1_ := Aside0.mk (blk_kept (bl BK224.out) hkp (fun hs_ => (fun e_ => (Kd.R_ne HO237.out BK224.out (by decide)) e_) hs_)); have n2_ := Aside0.mk (Kd.R_mono (ok' := fun k_ => (P0_ k_ ∨ w.heap.size ≤ k_)) ho0 (fun k_ hk_ => Or.elim hk_ (fun hs_ => (HO237.out.1 k_ (hs_).symm)) (fun hn_ => (.inr (Nat.le_trans (by first | exact HK.out.1 | exact (show Kept w _ (fun k_ => P0_ k_) from by repeat (first | (with_reducible first | exact HK.out | apply Kept.alloc | apply Kept.drewN | apply Kept.drew | refine Kept.setCell ?_ (.inr GW222.out) _ | refine Kept.setCell ?_ (.inr GW224.out) _) | exact HK.out)).1) hn_))))); have n3_ := Aside0.mk (Kept.then_ (S := (fun k_ => P0_ k_)) (by repeat (first | (with_reducible first | exact HK.out | apply Kept.alloc | apply Kept.drewN | apply Kept.drew | refine Kept.setCell ?_ (.inr GW222.out) _ | refine Kept.setCell ?_ (.inr GW224.out) _) | exact HK.out)) hkp (fun k_ hs_ => (fun e_ => (HO237.out.1 k_ e_.symm)) hs_)); have n4_ := Aside0.mk (hb); clear BK222 BK224 HK HB HO237; have BK222 := n0_; have BK224 := n1_; have HO241 := n2_; have HK := n3_; have HB := n4_; clear n0_ n1_ n2_ n3_ n4_; (try clear hb); (try clear hkp); (try clear ho0)))
      go_ret
      exact ⟨_, by first | rfl | (simp [errW_none, errW_some] <;> rfl) | (simp [*, errW_none, errW_some] <;> rfl), by (with_reducible repeat (first | apply Kd.R_alloc | apply Kd.R_drewN | apply Kd.R_drew)); exact HO241.out, bw HB.out, by repeat (first | (with_reducible first | exact HK.out | apply Kept.alloc | apply Kept.drewN | apply Kept.drew | refine Kept.setCell ?_ (.inr GW222.out) _ | refine Kept.setCell ?_ (.inr GW224.out) _) | exact HK.out)⟩
     ·replace c23 := Bool.eq_false_iff.mpr c23
      subst c23
      have H1 : (some t235) = some r := by rw [if_neg (show ¬ (false = true) by decide)] at H; exact H
      clear H
      have H := H1
      clear H1
      obtain rfl := Option.some.inj H
      go_enter Try.func89, Try.ntmps89
      go_wp2_with (first | ((with_reducible refine gate_dst (N := 4) rfl ?_); refine box_event ?hg (N := 4) ?hd (cs := #[.slice A1_0 l1_0.length c1_0]) (t := 26) ?hr ?_; (case hd => rfl); (case hg => rfl); (case hr => first | (go_simp; done) | (go_simp; rfl)); intro gb222 hg w40 hbox hb; have n0_ := Aside0.mk (Kd.R_below (rl HO0.out) hb); have n1_ := Aside0.mk (Kept.below (S := (fun k_ => P0_ k_)) (by repeat (first | (with_reducible first | exact HK.out | apply Kept.alloc | apply Kept.drewN | apply Kept.drew) | exact HK.out)) hb); have n2_ := Aside0.mk (below_step (bw HB.out) hb); have n3_ := Aside0.mk (hbox); have n4_ := Aside0.mk ((by rw [hg]; exact (by first | exact HK.out.1 | exact (show Kept w _ (fun k_ => P0_ k_) from by repeat (first | (with_reducible first | exact HK.out | apply Kept.alloc | apply Kept.drewN | apply Kept.drew) | exact HK.out)).1) : w.heap.size ≤ gb222)); have n5_ := Aside0.mk ((by rw [hg]; exact (below_size (bw HB.out)) : w0.heap.size ≤ gb222)); clear HO0 HK HB; have HO0 := n0_; have HK := n1_; have HB := n2_; have BK222 := n3_; have GW222 := n4_; have GE222 := n5_; clear n0_ n1_ n2_ n3_ n4_ n5_ hb hbox hg; have hcz41_0 : w40.cell? ⟨gb222, 0, none⟩ = some (.slice A1_0 l1_0.length c1_0) := (blk_cell BK222.out 0).trans rfl; have hfz41_0 := blk_frozen BK222.out 0; have p223 : 0 ≤ (a2 : Int) := oda; have q223 : a2 < (l1_0.length : Int) := oda; obtain ⟨ad223, e223, hx223_0, hx223_1, hx223_2, hx223_3⟩ := at_T34 (Kd.C_kept_now HR1_0.out HK.out) a2 p223 q223; cases e223; replace p223 := eq_true p223; replace q223 := eq_true q223) | ((with_reducible refine gate_dst (N := 7) rfl ?_); refine box_event ?hg (N := 7) ?hd (cs := #[.int .i64 0, .int .i64 0, .int .i64 0, .int .i64 0]) (t := 34) ?hr ?_; (case hd => rfl); (case hg => rfl); (case hr => first | (go_simp; done) | (go_simp; rfl)); intro gb224 hg w42 hbox hb; have n0_ := Aside0.mk (Kd.R_below (rl HO0.out) hb); have n1_ := Aside0.mk (blk_below (g := gb222) (o := .cells #[.slice (some ad223) l1_0.length c1_0] 26 (0, 0)) (bl BK222.out) hb); have n2_ := Aside0.mk (Kept.below (S := (fun k_ => P0_ k_)) (by repeat (first | (with_reducible first | exact HK.out | apply Kept.alloc | apply Kept.drewN | apply Kept.drew | refine Kept.setCell ?_ (.inr GW222.out) _) | exact HK.out)) hb); have n3_ := Aside0.mk (below_step (bw HB.out) hb); have n4_ := Aside0.mk (hbox); have n5_ := Aside0.mk ((by rw [hg]; exact (by first | exact HK.out.1 | exact (show Kept w _ (fun k_ => P0_ k_) from by repeat (first | (with_reducible first | exact HK.out | apply Kept.alloc | apply Kept.drewN | apply Kept.drew | refine Kept.setCell ?_ (.inr GW222.out) _) | exact HK.out)).1) : w.heap.size ≤ gb224)); have n6_ := Aside0.mk ((by rw [hg]; exact (below_size (bw HB.out)) : w0.heap.size ≤ gb224)); have n7_ := Aside0.mk ((by rw [hg]; exact Nat.ne_of_lt (blk_lt (g := gb222) (o := .cells #[.slice (some ad223) l1_0.length c1_0] 26 (0, 0)) (bl BK222.out)) : gb222 ≠ gb224)); have n8_ := Aside0.mk ((by rw [hg]; exact Nat.ne_of_gt (blk_lt (g := gb222) (o := .cells #[.slice (some ad223) l1_0.length c1_0] 26 (0, 0)) (bl BK222.out)) : gb224 ≠ gb222)); clear HO0 BK222 HK HB; have HO0 := n0_; have BK222 := n1_; have HK := n2_; have HB := n3_; have BK224 := n4_; have GW224 := n5_; have GE224 := n6_; have NB222_224 := n7_; have NB224_222 := n8_; clear n0_ n1_ n2_ n3_ n4_ n5_ n6_ n7_ n8_ hb hbox hg; have hnb43 := NB224_222.out; have hnc43 := NB222_224.out; have hcz44_0 : w42.cell? ⟨gb224, 0, none⟩ = some (.int .i64 0) := (blk_cell BK224.out 0).trans rfl; have hcz44_1 : w42.cell? ⟨gb224, 1, none⟩ = some (.int .i64 0) := (blk_cell BK224.out 1).trans rfl; have hcz44_2 : w42.cell? ⟨gb224, 2, none⟩ = some (.int .i64 0) := (blk_cell BK224.out 2).trans rfl; have hcz44_3 : w42.cell? ⟨gb224, 3, none⟩ = some (.int .i64 0) := (blk_cell BK224.out 3).trans rfl; have hfz44_0 := blk_frozen BK224.out 0; have hfz44_1 := blk_frozen BK224.out 1; have hfz44_2 := blk_frozen BK224.out 2; have hfz44_3 := blk_frozen BK224.out 3) | ((with_reducible refine gate_callee (f := 124) rfl ?_); refine goesL_ (some 20) rfl rfl Try.func124 (by kernel_rfl) rfl #[.int .i64 ((rd_T34 l1_0 a2).f0)] rfl ar ?_; (with_reducible refine (impl_VarText.calls k ((rd_T34 l1_0 a2).f0) t225 t226 _ A6.out).mono ?_); rintro e w45 ⟨rfl, hb⟩; refine ⟨_, rfl, ?_⟩; have n0_ := Aside0.mk (Kd.R_below (by (with_reducible repeat (first | apply Kd.R_alloc | apply Kd.R_drewN | apply Kd.R_drew)); exact (Kd.R_mono (Kd.R_far (p := ⟨gb224, 3, none⟩) (Kd.R_far (p := ⟨gb224, 2, none⟩) (Kd.R_far (p := ⟨gb224, 1, none⟩) (Kd.R_far (p := ⟨gb224, 0, none⟩) (Kd.R_types HO0.out BK224.out (by decide)) (fun _ hk => hk.2) (.int .i64 ((rd_T34 l1_0 a2).f0))) (fun _ hk => hk.2) (.int .i64 ((rd_T34 l1_0 a2).f1))) (fun _ hk => hk.2) (.int .i64 ((rd_T34 l1_0 a2).f2))) (fun _ hk => hk.2) (.int .i64 ((rd_T34 l1_0 a2).f3))) (fun _ h_ => h_.1))) hb); have n1_ := Aside0.mk (blk_below (g := gb222) (o := .cells #[.slice (some ad223) l1_0.length c1_0] 26 (0, 0)) (by (with_reducible repeat (first | refine blk_drewN ?_ _ | refine blk_drew ?_ | refine blk_alloc ?_ _)); refine blk_far ?_ NB222_224.out _; (with_reducible repeat (first | refine blk_drewN ?_ _ | refine blk_drew ?_ | refine blk_alloc ?_ _)); refine blk_far ?_ NB222_224.out _; (with_reducible repeat (first | refine blk_drewN ?_ _ | refine blk_drew ?_ | refine blk_alloc ?_ _)); refine blk_far ?_ NB222_224.out _; (with_reducible repeat (first | refine blk_drewN ?_ _ | refine blk_drew ?_ | refine blk_alloc ?_ _)); refine blk_far ?_ NB222_224.out _; (with_reducible repeat (first | refine blk_drewN ?_ _ | refine blk_drew ?_ | refine blk_alloc ?_ _)); exact BK222.out) hb); have n2_ := Aside0.mk (blk_below (g := gb224) (o := .cells #[.int .i64 ((rd_T34 l1_0 a2).f0), .int .i64 ((rd_T34 l1_0 a2).f1), .int .i64 ((rd_T34 l1_0 a2).f2), .int .i64 ((rd_T34 l1_0 a2).f3)] 34 (0, 0)) (by (with_reducible repeat (first | refine blk_drewN ?_ _ | refine blk_drew ?_ | refine blk_alloc ?_ _)); refine blk_put (cs := #[.int .i64 ((rd_T34 l1_0 a2).f0), .int .i64 ((rd_T34 l1_0 a2).f1), .int .i64 ((rd_T34 l1_0 a2).f2), .int .i64 0]) ?_ 3 _ rfl; (with_reducible repeat (first | refine blk_drewN ?_ _ | refine blk_drew ?_ | refine blk_alloc ?_ _)); refine blk_put (cs := #[.int .i64 ((rd_T34 l1_0 a2).f0), .int .i64 ((rd_T34 l1_0 a2).f1), .int .i64 0, .int .i64 0]) ?_ 2 _ rfl; (with_reducible repeat (first | refine blk_drewN ?_ _ | refine blk_drew ?_ | refine blk_alloc ?_ _)); refine blk_put (cs := #[.int .i64 ((rd_T34 l1_0 a2).f0), .int .i64 0, .int .i64 0, .int .i64 0]) ?_ 1 _ rfl; (with_reducible repeat (first | refine blk_drewN ?_ _ | refine blk_drew ?_ | refine blk_alloc ?_ _)); refine blk_put (cs := #[.int .i64 0, .int .i64 0, .int .i64 0, .int .i64 0]) ?_ 0 _ rfl; (with_reducible repeat (first | refine blk_drewN ?_ _ | refine blk_drew ?_ | refine blk_alloc ?_ _)); exact BK224.out) hb); have n3_ := Aside0.mk (Kept.below (S := (fun k_ => P0_ k_)) (by repeat (first | (with_reducible first | exact HK.out | apply Kept.alloc | apply Kept.drewN | apply Kept.drew | refine Kept.setCell ?_ (.inr GW222.out) _ | refine Kept.setCell ?_ (.inr GW224.out) _) | exact HK.out)) hb); have n4_ := Aside0.mk (below_step (bw HB.out) hb); clear HO0 BK222 BK224 HK HB; have HO0 := n0_; have BK222 := n1_; have BK224 := n2_; have HK := n3_; have HB := n4_; clear n0_ n1_ n2_ n3_ n4_; (try clear hb); (try clear hb2); (try clear hk); (try clear hi)) | (at_builtin; refine Go.Proofs.Ytkckdibalopagaa.Base.print_append_str_at (w0 := w0) w0.heap.size rfl (.tmp 23) _ 22 9 5 rfl Try.underlying22 Try.underlying9 info5 u9000_ l0 t225 rfl rfl ?aO ?aB ?aS ?aL ?_; (case aB => exact (bw HB.out)); (case aO => exact (Kd.own_of_R (rl HO0.out))); (case aS => exact (below_size (bw HB.out))); (case aL => have := LMc7.out; omega); intro v228 w46 ho0 hb hg hat; have ho := Kd.R_of_own (h1 := fun _ => rfl) (ok := (fun k_ => (P0_ k_ ∨ w.heap.size ≤ k_))) ho0 (Go.Proofs.Ytkckdibalopagaa.Base.ok_at (S := (fun k_ => P0_ k_)) hat (by repeat (first | (with_reducible first | exact HK.out | apply Kept.alloc | apply Kept.drewN | apply Kept.drew | refine Kept.setCell ?_ (.inr GW222.out) _ | refine Kept.setCell ?_ (.inr GW224.out) _) | exact HK.out)) HO0.out.1); clear ho0; rw [← Ny227.out] at ho; change Kd.R (Kd.int .u8) 5 w46 w0.heap.size (fun k_ => (P0_ k_ ∨ w.heap.size ≤ k_)) v228 y227 at ho; have n0_ := Aside0.mk (blk_grown (g := gb222) (o := .cells #[.slice (some ad223) l1_0.length c1_0] 26 (0, 0)) (bl BK222.out) hg (Kd.R_ne HO0.out BK222.out (by decide))); have n1_ := Aside0.mk (blk_grown (g := gb224) (o := .cells #[.int .i64 ((rd_T34 l1_0 a2).f0), .int .i64 ((rd_T34 l1_0 a2).f1), .int .i64 ((rd_T34 l1_0 a2).f2), .int .i64 ((rd_T34 l1_0 a2).f3)] 34 (0, 0)) (bl BK224.out) hg (Kd.R_ne HO0.out BK224.out (by decide))); have n2_ := Aside0.mk (hb); have n3_ := Aside0.mk (Kept.of_grown (S := (fun k_ => P0_ k_)) hg (by repeat (first | (with_reducible first | exact HK.out | apply Kept.alloc | apply Kept.drewN | apply Kept.drew | refine Kept.setCell ?_ (.inr GW222.out) _ | refine Kept.setCell ?_ (.inr GW224.out) _) | exact HK.out)) (fun k_ e_ => (HO0.out.1 k_ e_))); have n4_ := Aside0.mk (ho); clear BK222 BK224 HB HK HO0; have BK222 := n0_; have BK224 := n1_; have HB := n2_; have HK := n3_; have HO229 := n4_; clear n0_ n1_ n2_ n3_ n4_ ho hb hg hat; have hcz47_0 : w46.cell? ⟨gb224, 0, none⟩ = some (.int .i64 ((rd_T34 l1_0 a2).f0)) := (blk_cell BK224.out 0).trans rfl; have hcz47_1 : w46.cell? ⟨gb224, 1, none⟩ = some (.int .i64 ((rd_T34 l1_0 a2).f1)) := (blk_cell BK224.out 1).trans rfl; have hcz47_2 : w46.cell? ⟨gb224, 2, none⟩ = some (.int .i64 ((rd_T34 l1_0 a2).f2)) := (blk_cell BK224.out 2).trans rfl; have hcz47_3 : w46.cell? ⟨gb224, 3, none⟩ = some (.int .i64 ((rd_T34 l1_0 a2).f3)) := (blk_cell BK224.out 3).trans rfl; have hfz47_0 := blk_frozen BK224.out 0; have hfz47_1 := blk_frozen BK224.out 1; have hfz47_2 := blk_frozen BK224.out 2; have hfz47_3 := blk_frozen BK224.out 3; have hcz48_0 : w46.cell? ⟨gb222, 0, none⟩ = some (.slice (some ad223) l1_0.length c1_0) := (blk_cell BK222.out 0).trans rfl; have hfz48_0 := blk_frozen BK222.out 0; obtain ⟨Ao49, co49, eo49⟩ := Kd.R_slice HO229.out; subst eo49) | ((with_reducible refine gate_callee (f := 89) rfl ?_); refine goesL_ (some 42) rfl rfl Try.func89 (by kernel_rfl) rfl #[.slice Ao49 y227.length co49, .agg #[.slice (some ad223) l1_0.length c1_0], .int .i64 ((rd_T34 l1_0 a2).f2)] rfl ar ?_; (with_reducible refine (ih k (by omega) (fun k_ => some k_ = (.slice Ao49 y227.length co49 : Value).ownBlock) (.slice Ao49 y227.length co49) y227 _ _ l1_0 ((rd_T34 l1_0 a2).f2) t235 w0 _ ?side1 ?side2 ?side3 ?side4 A21.out).mono ?_); (case side1 => exact bw HB.out); (case side2 => exact Kd.R_tight rfl HO229.out); (case side3 => exact Kd.C_kept_call HR1_0.out (by repeat (first | (with_reducible first | exact HK.out | apply Kept.alloc | apply Kept.drewN | apply Kept.drew | refine Kept.setCell ?_ (.inr GW222.out) _ | refine Kept.setCell ?_ (.inr GW224.out) _) | exact HK.out)) (fun k_ hs_ => (fun e_ => (HO229.out.1 k_ e_.symm)) hs_)); (case side4 => exact HC1_0.out); rintro e w50 ⟨v236, rfl, ho0, hb, hkp⟩; refine ⟨_, rfl, ?_⟩; have n0_ := Aside0.mk (blk_kept (bl BK222.out) hkp (fun hs_ => (fun e_ => (Kd.R_ne HO229.out BK222.out (by decide)) e_) hs_)); have n1_ := Aside0.mk (blk_kept (bl BK224.out) hkp (fun hs_ => (fun e_ => (Kd.R_ne HO229.out BK224.out (by decide)) e_) hs_)); have n2_ := Aside0.mk (Kd.R_mono (ok' := fun k_ => (P0_ k_ ∨ w.heap.size ≤ k_)) ho0 (fun k_ hk_ => Or.elim hk_ (fun hs_ => (HO229.out.1 k_ (hs_).symm)) (fun hn_ => (.inr (Nat.le_trans (by first | exact HK.out.1 | exact (show Kept w _ (fun k_ => P0_ k_) from by repeat (first | (with_reducible first | exact HK.out | apply Kept.alloc | apply Kept.drewN | apply Kept.drew | refine Kept.setCell ?_ (.inr GW222.out) _ | refine Kept.setCell ?_ (.inr GW224.out) _) | exact HK.out)).1) hn_))))); have n3_ := Aside0.mk (Kept.then_ (S := (fun k_ => P0_ k_)) (by repeat (first | (with_reducible first | exact HK.out | apply Kept.alloc | apply Kept.drewN | apply Kept.drew | refine Kept.setCell ?_ (.inr GW222.out) _ | refine Kept.setCell ?_ (.inr GW224.out) _) | exact HK.out)) hkp (fun k_ hs_ => (fun e_ => (HO229.out.1 k_ e_.symm)) hs_)); have n4_ := Aside0.mk (hb); clear BK222 BK224 HK HB HO229; have BK222 := n0_; have BK224 := n1_; have HO237 := n2_; have HK := n3_; have HB := n4_; clear n0_ n1_ n2_ n3_ n4_; (try clear hb); (try clear hkp); (try clear ho0); have hcz51_0 : w50.cell? ⟨gb224, 0, none⟩ = some (.int .i64 ((rd_T34 l1_0 a2).f0)) := (blk_cell BK224.out 0).trans rfl; have hcz51_1 : w50.cell? ⟨gb224, 1, none⟩ = some (.int .i64 ((rd_T34 l1_0 a2).f1)) := (blk_cell BK224.out 1).trans rfl; have hcz51_2 : w50.cell? ⟨gb224, 2, none⟩ = some (.int .i64 ((rd_T34 l1_0 a2).f2)) := (blk_cell BK224.out 2).trans rfl; have hcz51_3 : w50.cell? ⟨gb224, 3, none⟩ = some (.int .i64 ((rd_T34 l1_0 a2).f3)) := (blk_cell BK224.out 3).trans rfl; have hfz51_0 := blk_frozen BK224.out 0; have hfz51_1 := blk_frozen BK224.out 1; have hfz51_2 := blk_frozen BK224.out 2; have hfz51_3 := blk_frozen BK224.out 3) | ((with_reducible refine gate_callee (f := 87) rfl ?_); refine goesL_ (some 45) rfl rfl Try.func87 (by kernel_rfl) rfl #[.int .i64 ((rd_T34 l1_0 a2).f0)] rfl ar ?_; (with_reducible refine (impl_hasB.calls ((rd_T34 l1_0 a2).f0) false _ A22.out).mono ?_); rintro e w' ⟨rfl, ⟨nd, rfl⟩⟩; refine ⟨_, rfl, ?_⟩))
      go_ret
      exact ⟨_, by first | rfl | (simp [errW_none, errW_some] <;> rfl) | (simp [*, errW_none, errW_some] <;> rfl), by (with_reducible repeat (first | apply Kd.R_alloc | apply Kd.R_drewN | apply Kd.R_drew)); exact HO237.out, bw HB.out, by repeat (first | (with_reducible first | exact HK.out | apply Kept.alloc | apply Kept.drewN | apply Kept.drew | refine Kept.setCell ?_ (.inr GW222.out) _ | refine Kept.setCell ?_ (.inr GW224.out) _) | exact HK.out)⟩
   ·rw [if_neg c7] at H
    exact absurd H (by simp)
  ·rw [if_neg c5] at H
   exact absurd H (by simp)
 ·rw [if_neg c4] at H
  exact absurd H (by simp)

/-! ### impl_TermText: function 32 -/
def impl_TermText.f (k : Nat) (l0_0 : List (S34)) (a1 : Int) : Option (ByteArray × Bool) := (impl_SizeOf.f k l0_0 a1).bind fun t243 => ((impl_within.f t243 1 2000).bind fun t244 => (if t244 = true then ((impl_termBytes.f k ([] : List Int) l0_0 a1).bind fun t245 => (some (strOfNums t245, true))) else (some ((⟨#[]⟩ : ByteArray), false))))
set_option maxHeartbeats 8000000 in
set_option maxRecDepth 100000 in
theorem impl_TermText.calls (k : Nat) (A0_0 : Option Addr) (c0_0 : Nat) (l0_0 : List (S34)) (a1 : Int) (r1 : ByteArray) (r2 : Bool) (w : World) (hr0_0 : Kd.C k34 w A0_0 l0_0.length l0_0) (hc0_0 : l0_0.length ≤ c0_0) (h : impl_TermText.f k l0_0 a1 = some (r1, r2)) :
  Calls Try.prog 32 #[.agg #[.slice A0_0 l0_0.length c0_0], .int .i64 a1] w fun e w' => e = .returned (.tuple #[.string r1, .bool r2]) ∧ Below w.heap.size w w' := by
 have hu26 := Try.underlying26
 have HR0_0 := Aside0.mk hr0_0
 have HC0_0 := Aside0.mk hc0_0
 clear hr0_0 hc0_0
 have HB := Aside0.mk (Below.refl w.heap.size w)
 have H : ((impl_SizeOf.f k l0_0 a1).bind fun t243 => ((impl_within.f t243 1 2000).bind fun t244 => (if t244 = true then ((impl_termBytes.f k ([] : List Int) l0_0 a1).bind fun t245 => (some (strOfNums t245, true))) else (some ((⟨#[]⟩ : ByteArray), false))))) = some (r1, r2) := h
 clear h
 replace H := Option.bind_eq_some_iff.mp H
 obtain ⟨t243, A30, H⟩ := H
 replace H : ((impl_within.f t243 1 2000).bind fun t244 => (if t244 = true then ((impl_termBytes.f k ([] : List Int) l0_0 a1).bind fun t245 => (some (strOfNums t245, true))) else (some ((⟨#[]⟩ : ByteArray), false)))) = some (r1, r2) := H
 have A3 := Aside0.mk A30
 clear A30
 replace H := Option.bind_eq_some_iff.mp H
 obtain ⟨t244, A40, H⟩ := H
 replace H : (if t244 = true then ((impl_termBytes.f k ([] : List Int) l0_0 a1).bind fun t245 => (some (strOfNums t245, true))) else (some ((⟨#[]⟩ : ByteArray), false))) = some (r1, r2) := H
 have A4 := Aside0.mk A40
 clear A40
 by_cases c5 : t244 = true
 ·subst c5
  have H1 : ((impl_termBytes.f k ([] : List Int) l0_0 a1).bind fun t245 => (some (strOfNums t245, true))) = some (r1, r2) := by rw [if_pos rfl] at H; exact H
  clear H
  have H := H1
  clear H1
  replace H := Option.bind_eq_some_iff.mp H
  obtain ⟨t245, A60, H⟩ := H
  replace H : (some (strOfNums t245, true)) = some (r1, r2) := H
  have A6 := Aside0.mk A60
  clear A60
  simp only [Option.some.injEq, Prod.mk.injEq] at H
  obtain ⟨rfl, rfl⟩ := H
  go_enter Try.func32, Try.ntmps32
  go_wp2_with (first | ((with_reducible refine gate_dst (N := 2) rfl ?_); refine box_event ?hg (N := 2) ?hd (cs := #[.slice A0_0 l0_0.length c0_0]) (t := 26) ?hr ?_; (case hd => rfl); (case hg => rfl); (case hr => first | (go_simp; done) | (go_simp; rfl)); intro gb242 hg w7 hbox hb; have n0_ := Aside0.mk (below_step (bw HB.out) hb); have n1_ := Aside0.mk (hbox); have n2_ := Aside0.mk ((by rw [hg]; exact (below_size (bw HB.out)) : w.heap.size ≤ gb242)); have n3_ := Aside0.mk ((by rw [hg]; exact (below_size (bw HB.out)) : w.heap.size ≤ gb242)); clear HB; have HB := n0_; have BK242 := n1_; have GW242 := n2_; have GE242 := n3_; clear n0_ n1_ n2_ n3_ hb hbox hg; have hcz8_0 : w7.cell? ⟨gb242, 0, none⟩ = some (.slice A0_0 l0_0.length c0_0) := (blk_cell BK242.out 0).trans rfl; have hfz8_0 := blk_frozen BK242.out 0) | ((with_reducible refine gate_callee (f := 30) rfl ?_); refine goesL_ (some 8) rfl rfl Try.func30 (by kernel_rfl) rfl #[.agg #[.slice A0_0 l0_0.length c0_0], .int .i64 a1] rfl ar ?_; (with_reducible refine (impl_SizeOf.calls k _ _ l0_0 a1 t243 _ ?side1 ?side2 A3.out).mono ?_); (case side1 => exact cl (Kd.C_below HR0_0.out HB.out)); (case side2 => exact HC0_0.out); rintro e w9 ⟨rfl, hb⟩; refine ⟨_, rfl, ?_⟩; have n0_ := Aside0.mk (blk_below (g := gb242) (o := .cells #[.slice A0_0 l0_0.length c0_0] 26 (0, 0)) (bl BK242.out) hb); have n1_ := Aside0.mk (below_step (bw HB.out) hb); clear BK242 HB; have BK242 := n0_; have HB := n1_; clear n0_ n1_; (try clear hb); (try clear hb2); (try clear hk); (try clear hi)) | ((with_reducible refine gate_callee (f := 75) rfl ?_); refine goesL_ (some 9) rfl rfl Try.func75 (by kernel_rfl) rfl #[.int .i64 t243, .int .i64 1, .int .i64 2000] rfl ar ?_; (with_reducible refine (impl_within.calls t243 1 2000 true _ A4.out).mono ?_); rintro e w' ⟨rfl, ⟨nd, rfl⟩⟩; refine ⟨_, rfl, ?_⟩; have hcz10_0 : w9.cell? ⟨gb242, 0, none⟩ = some (.slice A0_0 l0_0.length c0_0) := (blk_cell BK242.out 0).trans rfl; have hfz10_0 := blk_frozen BK242.out 0) | ((with_reducible refine gate_callee (f := 89) rfl ?_); refine goesL_ (some 13) rfl rfl Try.func89 (by kernel_rfl) rfl #[.slice none 0 0, .agg #[.slice A0_0 l0_0.length c0_0], .int .i64 a1] rfl ar ?_; (refine (impl_termBytes.calls k (fun k_ => some k_ = (.slice none 0 0 : Value).ownBlock) (.slice none 0 0) ([] : List Int) _ _ l0_0 a1 t245 w _ ?side1 ?side2 ?side3 ?side4 A6.out).mono ?_); (case side1 => exact bw HB.out); (case side2 => exact Kd.R_nil _ _ _ _ _); (case side3 => exact Kd.C_kept_came k34_heap HR0_0.out (bw HB.out) (fun k_ hs_ => (fun e_ => by simp [Value.ownBlock] at e_) hs_)); (case side4 => exact HC0_0.out); rintro e w11 ⟨v246, rfl, ho0, hb, hkp⟩; refine ⟨_, rfl, ?_⟩; have n0_ := Aside0.mk (blk_kept (bl BK242.out) hkp (fun hs_ => (fun e_ => by simp [Value.ownBlock] at e_) hs_)); have n1_ := Aside0.mk (Kd.R_mono (ok' := fun k_ => True) ho0 (fun k_ hk_ => trivial)); have n2_ := Aside0.mk (hb); clear BK242 HB; have BK242 := n0_; have HO247 := n1_; have HB := n2_; clear n0_ n1_ n2_; (try clear hb); (try clear hkp); (try clear ho0); have hcv12 := own_string (P := Try.prog) Try.underlying22 Try.underlying5 Try.underlying9 (Kd.own_of_R HO247.out)))
  go_ret2
  exact ⟨by first | rfl | (simp [errW_none, errW_some] <;> rfl) | (simp [*, errW_none, errW_some] <;> rfl), bw HB.out⟩
 ·replace c5 := Bool.eq_false_iff.mpr c5
  subst c5
  have H1 : (some ((⟨#[]⟩ : ByteArray), false)) = some (r1, r2) := by rw [if_neg (show ¬ (false = true) by decide)] at H; exact H
  clear H
  have H := H1
  clear H1
  simp only [Option.some.injEq, Prod.mk.injEq] at H
  obtain ⟨rfl, rfl⟩ := H
  go_enter Try.func32, Try.ntmps32
  go_wp2_with (first | ((with_reducible refine gate_dst (N := 2) rfl ?_); refine box_event ?hg (N := 2) ?hd (cs := #[.slice A0_0 l0_0.length c0_0]) (t := 26) ?hr ?_; (case hd => rfl); (case hg => rfl); (case hr => first | (go_simp; done) | (go_simp; rfl)); intro gb242 hg w13 hbox hb; have n0_ := Aside0.mk (below_step (bw HB.out) hb); have n1_ := Aside0.mk (hbox); have n2_ := Aside0.mk ((by rw [hg]; exact (below_size (bw HB.out)) : w.heap.size ≤ gb242)); have n3_ := Aside0.mk ((by rw [hg]; exact (below_size (bw HB.out)) : w.heap.size ≤ gb242)); clear HB; have HB := n0_; have BK242 := n1_; have GW242 := n2_; have GE242 := n3_; clear n0_ n1_ n2_ n3_ hb hbox hg; have hcz14_0 : w13.cell? ⟨gb242, 0, none⟩ = some (.slice A0_0 l0_0.length c0_0) := (blk_cell BK242.out 0).trans rfl; have hfz14_0 := blk_frozen BK242.out 0) | ((with_reducible refine gate_callee (f := 30) rfl ?_); refine goesL_ (some 8) rfl rfl Try.func30 (by kernel_rfl) rfl #[.agg #[.slice A0_0 l0_0.length c0_0], .int .i64 a1] rfl ar ?_; (with_reducible refine (impl_SizeOf.calls k _ _ l0_0 a1 t243 _ ?side1 ?side2 A3.out).mono ?_); (case side1 => exact cl (Kd.C_below HR0_0.out HB.out)); (case side2 => exact HC0_0.out); rintro e w15 ⟨rfl, hb⟩; refine ⟨_, rfl, ?_⟩; have n0_ := Aside0.mk (blk_below (g := gb242) (o := .cells #[.slice A0_0 l0_0.length c0_0] 26 (0, 0)) (bl BK242.out) hb); have n1_ := Aside0.mk (below_step (bw HB.out) hb); clear BK242 HB; have BK242 := n0_; have HB := n1_; clear n0_ n1_; (try clear hb); (try clear hb2); (try clear hk); (try clear hi)) | ((with_reducible refine gate_callee (f := 75) rfl ?_); refine goesL_ (some 9) rfl rfl Try.func75 (by kernel_rfl) rfl #[.int .i64 t243, .int .i64 1, .int .i64 2000] rfl ar ?_; (with_reducible refine (impl_within.calls t243 1 2000 false _ A4.out).mono ?_); rintro e w' ⟨rfl, ⟨nd, rfl⟩⟩; refine ⟨_, rfl, ?_⟩))
  go_ret2
  exact ⟨by first | rfl | (simp [errW_none, errW_some] <;> rfl) | (simp [*, errW_none, errW_some] <;> rfl), bw HB.out⟩

/-- A state of type 119 at block g of W; what its slices lead to came in by w0. -/
def IsS119 (w0 W : World) (g : Nat) (f0 : List Int) (f1 : Int) (f2 : Int) : Prop := ∃ A0 c0, W.heap[g]? = some (.cells #[.slice A0 f0.length c0, .int .i64 f1, .int .i64 f2] 119 (0, 0)) ∧ w0.heap.size ≤ g ∧ Kd.C (Kd.int .u8) w0 A0 f0.length f0
theorem IsS119.grown {w0 W : World} {g : Nat} {f0 : List Int} {f1 : Int} {f2 : Int} {W1 : World} {row : Option Nat} (h : IsS119 w0 W g f0 f1 f2) (hw : W.grownBy W1 row) (hne : some g ≠ row) : IsS119 w0 W1 g f0 f1 f2 := by
 obtain ⟨A0, c0, hb, hg, hr0⟩ := h
 exact ⟨A0, c0, blk_grown hb hw hne, hg, hr0⟩
theorem IsS119.own_neN {w0 W : World} {g : Nat} {f0 : List Int} {f1 : Int} {f2 : Int} {α : Type} {d : Kd α} {e : Nat} {base : Nat} {ok : Nat → Prop} {v : Value} {xs : List α} (h : IsS119 w0 W g f0 f1 f2) (ho : Kd.N d e W base ok v xs) (ht : e ≠ 119) : some g ≠ v.ownBlock := by
 obtain ⟨A0, c0, hb, hg, hr0⟩ := h
 exact Kd.N_ne ho hb ht
theorem IsS119.fresh {w0 W : World} {g : Nat} {f0 : List Int} {f1 : Int} {f2 : Int} (h : IsS119 w0 W g f0 f1 f2) : ∀ k, W.heap.size ≤ k → k ≠ g := by
 obtain ⟨A0, c0, hb, hg, hr0⟩ := h
 exact Kd.freshB hb
theorem IsS119.kept {w0 W : World} {g : Nat} {f0 : List Int} {f1 : Int} {f2 : Int} {W1 : World} {S : Nat → Prop} (h : IsS119 w0 W g f0 f1 f2) (hk : Kept W W1 S) (hne : ¬ S g) : IsS119 w0 W1 g f0 f1 f2 := by
 obtain ⟨A0, c0, hb, hg, hr0⟩ := h
 exact ⟨A0, c0, blk_kept hb hk hne, hg, hr0⟩
theorem IsS119.below {w0 W : World} {g : Nat} {f0 : List Int} {f1 : Int} {f2 : Int} {W1 : World} (h : IsS119 w0 W g f0 f1 f2) (hw : Below W.heap.size W W1) : IsS119 w0 W1 g f0 f1 f2 := h.grown (grown_of_below hw none) (by simp)
theorem IsS119.alloc {w0 W : World} {g : Nat} {f0 : List Int} {f1 : Int} {f2 : Int} (h : IsS119 w0 W g f0 f1 f2) (o : Obj) : IsS119 w0 (W.alloc o) g f0 f1 f2 := h.below (below_alloc (Below.refl _ _) o)
theorem IsS119.drewN {w0 W : World} {g : Nat} {f0 : List Int} {f1 : Int} {f2 : Int} (h : IsS119 w0 W g f0 f1 f2) (m : Nat) : IsS119 w0 (W.drewN m) g f0 f1 f2 := h
theorem IsS119.drew {w0 W : World} {g : Nat} {f0 : List Int} {f1 : Int} {f2 : Int} (h : IsS119 w0 W g f0 f1 f2) : IsS119 w0 W.drew g f0 f1 f2 := h
theorem IsS119.at_ {w0 W : World} {g : Nat} {f0 : List Int} {f1 : Int} {f2 : Int} {w' : World} {m : Nat} (hq : W.drewN m = w') (h : IsS119 w0 W g f0 f1 f2) : IsS119 w0 w' g f0 f1 f2 := by subst hq; exact IsS119.drewN h m
theorem IsS119.apart {w0 W : World} {g : Nat} {f0 : List Int} {f1 : Int} {f2 : Int} {α : Type} {d : Kd α} {e : Nat} {base : Nat} {ok : Nat → Prop} {v : Value} {xs : List α} (h : IsS119 w0 W g f0 f1 f2) (ho : d.R e W base ok v xs) (ht : ∀ q, q ∈ e :: d.E → q ≠ 119) : d.R e W base (fun k => ok k ∧ k ≠ g) v xs := by
 obtain ⟨A0, c0, hb, hg, hr0⟩ := h
 exact Kd.R_types ho hb ht
theorem IsS119.own_ne {w0 W : World} {g : Nat} {f0 : List Int} {f1 : Int} {f2 : Int} {α : Type} {d : Kd α} {e : Nat} {base : Nat} {ok : Nat → Prop} {v : Value} {xs : List α} (h : IsS119 w0 W g f0 f1 f2) (ho : d.R e W base ok v xs) (ht : e ≠ 119) : some g ≠ v.ownBlock := by
 obtain ⟨A0, c0, hb, hg, hr0⟩ := h
 exact Kd.R_ne ho hb ht
theorem IsS119.apartQ {w0 W : World} {g : Nat} {f0 : List Int} {f1 : Int} {f2 : Int} {α : Type} {d : Kd α} {e : Nat} {base : Nat} {ok : Nat → Prop} {v : Value} {xs : List α} (h : IsS119 w0 W g f0 f1 f2) (ho : d.Q e W base ok v xs) (ht : ∀ q, q ∈ e :: d.E → q ≠ 119) : d.Q e W base (fun k => ok k ∧ k ≠ g) v xs := by
 obtain ⟨A0, c0, hb, hg, hr0⟩ := h
 exact Kd.Q_types ho hb ht
theorem IsS119.own_neQ {w0 W : World} {g : Nat} {f0 : List Int} {f1 : Int} {f2 : Int} {α : Type} {d : Kd α} {e : Nat} {base : Nat} {ok : Nat → Prop} {v : Value} {xs : List α} (h : IsS119 w0 W g f0 f1 f2) (ho : d.Q e W base ok v xs) (ht : e ≠ 119) : some g ≠ v.ownBlock := by
 obtain ⟨A0, c0, hb, hg, hr0⟩ := h
 exact Kd.Q_ne ho hb ht
theorem IsS119.apartS {w0 W : World} {g : Nat} {f0 : List Int} {f1 : Int} {f2 : Int} {α : Type} {d : Kd α} {e : Nat} {base : Nat} {ok : Nat → Prop} {v : Value} {xs : List α} (h : IsS119 w0 W g f0 f1 f2) (ho : d.S e W base ok v xs) (ht : ∀ q, q ∈ e :: d.E → q ≠ 119) : d.S e W base (fun k => ok k ∧ k ≠ g) v xs := by
 obtain ⟨A0, c0, hb, hg, hr0⟩ := h
 exact Kd.S_types ho hb ht
theorem IsS119.own_neS {w0 W : World} {g : Nat} {f0 : List Int} {f1 : Int} {f2 : Int} {α : Type} {d : Kd α} {e : Nat} {base : Nat} {ok : Nat → Prop} {v : Value} {xs : List α} (h : IsS119 w0 W g f0 f1 f2) (ho : d.S e W base ok v xs) (ht : e ≠ 119) : some g ≠ v.ownBlock := by
 obtain ⟨A0, c0, hb, hg, hr0⟩ := h
 exact Kd.S_ne ho hb ht
theorem IsS119.lt {w0 W : World} {g : Nat} {f0 : List Int} {f1 : Int} {f2 : Int} (h : IsS119 w0 W g f0 f1 f2) : g < W.heap.size := by
 obtain ⟨A0, c0, hb, hg, hr0⟩ := h
 exact blk_lt hb
theorem IsS119.ge {w0 W : World} {g : Nat} {f0 : List Int} {f1 : Int} {f2 : Int} (h : IsS119 w0 W g f0 f1 f2) : w0.heap.size ≤ g := by
 obtain ⟨A0, c0, hb, hg, hr0⟩ := h
 exact hg
theorem IsS119.ne_blk {w0 W : World} {g : Nat} {f0 : List Int} {f1 : Int} {f2 : Int} {a : Nat} {cs : Array Value} {t : TypeId} {fr : Nat × Nat} (h : IsS119 w0 W g f0 f1 f2) (hb2 : W.heap[a]? = some (.cells cs t fr)) (ht : t ≠ 119) : g ≠ a := by
 obtain ⟨A0, c0, hb, hg, hr0⟩ := h
 rintro rfl
 rw [hb] at hb2
 injection hb2 with hb2
 injection hb2 with _ ht2
 exact ht ht2.symm
theorem IsS119.far {w0 W : World} {g : Nat} {f0 : List Int} {f1 : Int} {f2 : Int} {p : Addr} (h : IsS119 w0 W g f0 f1 f2) (hne : g ≠ p.block) (u : Value) : IsS119 w0 (W.setCell p u) g f0 f1 f2 := by
 obtain ⟨A0, c0, hb, hg, hr0⟩ := h
 exact ⟨A0, c0, blk_far hb hne u, hg, hr0⟩
theorem cellS119_0 {W : World} {g : Nat} {A0 : Option Addr} {c0 : Nat} {f0 : List Int} {f1 : Int} {f2 : Int} (h : W.heap[g]? = some (.cells #[.slice A0 f0.length c0, .int .i64 f1, .int .i64 f2] 119 (0, 0))) : W.cell? ⟨g, 0, none⟩ = some (.slice A0 f0.length c0) := (blk_cell h 0).trans rfl
theorem cellS119_1 {W : World} {g : Nat} {A0 : Option Addr} {c0 : Nat} {f0 : List Int} {f1 : Int} {f2 : Int} (h : W.heap[g]? = some (.cells #[.slice A0 f0.length c0, .int .i64 f1, .int .i64 f2] 119 (0, 0))) : W.cell? ⟨g, 1, none⟩ = some (.int .i64 f1) := (blk_cell h 1).trans rfl
theorem IsS119.set_1 {w0 W : World} {g : Nat} {f0 : List Int} {f1 : Int} {f2 : Int} (h : IsS119 w0 W g f0 f1 f2) (x : Int) : IsS119 w0 (W.setCell ⟨g, 1, none⟩ (.int .i64 x)) g f0 x f2 := by
 obtain ⟨A0, c0, hb, hg, hr0⟩ := h
 exact ⟨A0, c0, by simpa using blk_set hb 1 (.int .i64 x), hg, hr0⟩
theorem cellS119_2 {W : World} {g : Nat} {A0 : Option Addr} {c0 : Nat} {f0 : List Int} {f1 : Int} {f2 : Int} (h : W.heap[g]? = some (.cells #[.slice A0 f0.length c0, .int .i64 f1, .int .i64 f2] 119 (0, 0))) : W.cell? ⟨g, 2, none⟩ = some (.int .i64 f2) := (blk_cell h 2).trans rfl
theorem IsS119.set_2 {w0 W : World} {g : Nat} {f0 : List Int} {f1 : Int} {f2 : Int} (h : IsS119 w0 W g f0 f1 f2) (x : Int) : IsS119 w0 (W.setCell ⟨g, 2, none⟩ (.int .i64 x)) g f0 f1 x := by
 obtain ⟨A0, c0, hb, hg, hr0⟩ := h
 exact ⟨A0, c0, by simpa using blk_set hb 2 (.int .i64 x), hg, hr0⟩
theorem IsS119.new (w0 W : World) (A0 : Option Addr) (c0 : Nat) (f0 : List Int) (f1 : Int) (f2 : Int) (hB : Below w0.heap.size w0 W) (hr0 : Kd.C (Kd.int .u8) w0 A0 f0.length f0) : IsS119 w0 (W.alloc (.cells #[.slice A0 f0.length c0, .int .i64 f1, .int .i64 f2] 119)) W.heap.size f0 f1 f2 := ⟨A0, c0, by simpa using heap_alloc_new W _, hB.size, hr0⟩

/-! ### spec_l01New: OWN: function 68 -/
def spec_l01New.l0 : Nat → List Int → Int → Int → Option (List Int × Int × Int)
  | 0, _, _, _ => none
  | k + 1, x0, x3, x4 => if x4 < (x0.length : Int) then (if x4 < 4000 then (if 0 ≤ x4 then (spec_l01New.l0 k x0 (Go.bits .and .i64 (wrap64 ((wrap64 ((wrap64 (x3 * 131)) + (wrap64 (rd x0 x4)))) + 7)) 1073741823) (wrap64 (x4 + 1))) else (none)) else (some (x0, 0, x3))) else (some (x0, 0, x3))
def spec_l01New.f (k : Nat) (l0 : List Int) : Option (List Int × Int × Int) := spec_l01New.l0 k l0 (wrap64 (94701 + (l0.length : Int))) 0
set_option maxHeartbeats 8000000 in
set_option maxRecDepth 100000 in
theorem spec_l01New.calls (k : Nat) (A0 : Option Addr) (c0 : Nat) (l0 : List Int) (r1 : List Int) (r2 : Int) (r3 : Int) (w0 w : World) (hB : Below w0.heap.size w0 w) (hr0 : Kd.C (Kd.int .u8) w0 A0 l0.length l0) (hc0 : l0.length ≤ c0) (h : spec_l01New.f k l0 = some (r1, r2, r3)) :
  Calls Try.prog 68 #[.slice A0 l0.length c0] w fun e w' => ∃ g_ : Nat, e = .returned (.pointer (some ⟨g_, 0, none⟩)) ∧ IsS119 w0 w' g_ r1 r2 r3 ∧ Below w0.heap.size w0 w' ∧ Below w.heap.size w w' := by
 have hu119 := Try.underlying119
 have HR0 := Aside0.mk hr0
 have HC0 := Aside0.mk hc0
 clear hr0 hc0
 have HBW := Aside0.mk (Below.refl w.heap.size w)
 have HW0 := Aside0.mk hB.size
 have HB := Aside0.mk hB
 clear hB
 have H : (spec_l01New.l0 k l0 (wrap64 (94701 + (l0.length : Int))) 0) = some (r1, r2, r3) := h
 clear h
 have H' := Aside0.mk H
 clear H
 go_enter Try.func68, Try.ntmps68
 go_wp2
 go_loopg [3, 4] k (fun kq v3 v4 w' => ∃ (x3_1 : Int) (x4_1 : Int), v3 = .int .i64 x3_1 ∧ v4 = .int .i64 x4_1 ∧ Aside0 (spec_l01New.l0 kq l0 x3_1 x4_1 = some (r1, r2, r3)) ∧ Aside0 (kq ≤ k) ∧ Aside0 (Below w0.heap.size w0 w') ∧ Aside0 (Below w.heap.size w w'))
 case atStart => exact ⟨(wrap64 (94701 + (l0.length : Int))), (0), (by first | rfl | (simp; done) | (simp [*]; done)), (by first | rfl | (simp; done) | (simp [*]; done)), H', ⟨Nat.le_refl _⟩, ⟨bw HB.out⟩, ⟨by repeat (first | (with_reducible first | exact HBW.out | apply below_alloc | apply pw_below_drewN | apply below_drew1) | exact HBW.out)⟩⟩
 case round =>
  clear H'
  clear HBW
  obtain ⟨x3_1, x4_1, rfl, rfl, HA, HK1, HB, HBW⟩ := hrel
  cases gk with
  | zero => exact absurd HA.out (by simp [spec_l01New.l0])
  | succ k1 =>
   have H := HA.out
   clear HA
   simp only [spec_l01New.l0] at H
   by_cases c2 : x4_1 < (l0.length : Int)
   ·rw [if_pos c2] at H
    have c2b0 : decide (x4_1 < (l0.length : Int)) = true := decide_eq_true c2
    clear c2
    by_cases c3 : x4_1 < 4000
    ·rw [if_pos c3] at H
     have c3b0 : decide (x4_1 < 4000) = true := decide_eq_true c3
     clear c3
     by_cases c4 : 0 ≤ x4_1
     ·rw [if_pos c4] at H
      have c4b0 : decide (0 ≤ x4_1) = true := decide_eq_true c4
      clear c4
      have H' := Aside0.mk H
      clear H
      have p248 : 0 ≤ (x4_1 : Int) := oda
      have q248 : x4_1 < (l0.length : Int) := oda
      obtain ⟨ad248, e248, hx248_0⟩ := Kd.at_int HR0.out x4_1 p248 q248
      cases e248
      replace hx248_0 := pw_cell_below HB.out hx248_0
      replace p248 := eq_true p248
      replace q248 := eq_true q248
      go_wp2
      go_roundg k1
      case measure => have := HK1.out; omega
      case rel => exact ⟨(Go.bits .and .i64 (wrap64 ((wrap64 ((wrap64 (x3_1 * 131)) + (wrap64 (rd l0 x4_1)))) + 7)) 1073741823), (wrap64 (x4_1 + 1)), (by first | rfl | (simp; done) | (simp [*]; done)), (by first | rfl | (simp; done) | (simp [*]; done)), H', ⟨by have := HK1.out; omega⟩, ⟨bw HB.out⟩, ⟨by repeat (first | (with_reducible first | exact HBW.out | apply below_alloc | apply pw_below_drewN | apply below_drew1) | exact HBW.out)⟩⟩
     ·rw [if_neg c4] at H
      exact absurd H (by simp)
    ·rw [if_neg c3] at H
     have c3b0 : decide (x4_1 < 4000) = false := decide_eq_false c3
     clear c3
     simp only [Option.some.injEq, Prod.mk.injEq] at H
     obtain ⟨rfl, rfl, rfl⟩ := H
     go_wp2_with (first | ((with_reducible refine gate_dst (N := 31) rfl ?_); refine box_event ?hg (N := 31) ?hd (cs := #[.slice A0 l0.length c0, .int .i64 0, .int .i64 x3_1]) (t := 119) ?hr ?_; (case hd => rfl); (case hg => rfl); (case hr => first | (go_simp; done) | (go_simp; rfl)); intro gb249 hg w5 hbox hb; have n0_ := Aside0.mk (below_step HBW.out hb); have n1_ := Aside0.mk (below_step (bw HB.out) hb); have n2_ := Aside0.mk (hbox); have n3_ := Aside0.mk ((by rw [hg]; exact (below_size (by repeat (first | (with_reducible first | exact HBW.out | apply below_alloc | apply pw_below_drewN | apply below_drew1) | exact HBW.out))) : w.heap.size ≤ gb249)); have n4_ := Aside0.mk ((Nat.le_trans HW0.out (by rw [hg]; exact (below_size (by repeat (first | (with_reducible first | exact HBW.out | apply below_alloc | apply pw_below_drewN | apply below_drew1) | exact HBW.out))) : w.heap.size ≤ gb249) : w0.heap.size ≤ gb249)); clear HBW HB; have HBW := n0_; have HB := n1_; have BK249 := n2_; have GW249 := n3_; have GE249 := n4_; clear n0_ n1_ n2_ n3_ n4_ hb hbox hg))
     go_ret
     exact ⟨_, rfl, (show IsS119 w0 _ gb249 l0 0 x3_1 from ⟨_, _, by (with_reducible repeat (first | refine blk_drewN ?_ _ | refine blk_drew ?_ | refine blk_alloc ?_ _)); exact BK249.out, GE249.out, HR0.out⟩), bw HB.out, by repeat (first | (with_reducible first | exact HBW.out | apply below_alloc | apply pw_below_drewN | apply below_drew1 | refine below_set ?_ GW249.out) | exact HBW.out)⟩
   ·rw [if_neg c2] at H
    have c2b0 : decide (x4_1 < (l0.length : Int)) = false := decide_eq_false c2
    clear c2
    simp only [Option.some.injEq, Prod.mk.injEq] at H
    obtain ⟨rfl, rfl, rfl⟩ := H
    go_wp2_with (first | ((with_reducible refine gate_dst (N := 31) rfl ?_); refine box_event ?hg (N := 31) ?hd (cs := #[.slice A0 l0.length c0, .int .i64 0, .int .i64 x3_1]) (t := 119) ?hr ?_; (case hd => rfl); (case hg => rfl); (case hr => first | (go_simp; done) | (go_simp; rfl)); intro gb250 hg w6 hbox hb; have n0_ := Aside0.mk (below_step HBW.out hb); have n1_ := Aside0.mk (below_step (bw HB.out) hb); have n2_ := Aside0.mk (hbox); have n3_ := Aside0.mk ((by rw [hg]; exact (below_size (by repeat (first | (with_reducible first | exact HBW.out | apply below_alloc | apply pw_below_drewN | apply below_drew1) | exact HBW.out))) : w.heap.size ≤ gb250)); have n4_ := Aside0.mk ((Nat.le_trans HW0.out (by rw [hg]; exact (below_size (by repeat (first | (with_reducible first | exact HBW.out | apply below_alloc | apply pw_below_drewN | apply below_drew1) | exact HBW.out))) : w.heap.size ≤ gb250) : w0.heap.size ≤ gb250)); clear HBW HB; have HBW := n0_; have HB := n1_; have BK250 := n2_; have GW250 := n3_; have GE250 := n4_; clear n0_ n1_ n2_ n3_ n4_ hb hbox hg))
    go_ret
    exact ⟨_, rfl, (show IsS119 w0 _ gb250 l0 0 x3_1 from ⟨_, _, by (with_reducible repeat (first | refine blk_drewN ?_ _ | refine blk_drew ?_ | refine blk_alloc ?_ _)); exact BK250.out, GE250.out, HR0.out⟩), bw HB.out, by repeat (first | (with_reducible first | exact HBW.out | apply below_alloc | apply pw_below_drewN | apply below_drew1 | refine below_set ?_ GW250.out) | exact HBW.out)⟩

/-! ### spec_l01Byte: function 74 -/
def spec_l01Byte.f (s0_0 : List Int) (s0_1 : Int) (s0_2 : Int) : Option (Int × Int × Int) := if s0_1 < (s0_0.length : Int) then (if 0 ≤ s0_1 then (some (Go.bits .and .i64 (wrap64 ((Go.bits .and .i64 (Go.bits .xor .i64 ((wrap64 ((wrap64 (s0_2 * 6364136223846793005)) + 1442695040888963407)) / 8589934592) ((wrap64 ((wrap64 (s0_2 * 6364136223846793005)) + 1442695040888963407)) / 35184372088832)) 255) + (wrap64 (rd s0_0 s0_1)))) 255, wrap64 (s0_1 + 1), wrap64 ((wrap64 (s0_2 * 6364136223846793005)) + 1442695040888963407))) else (none)) else (some (Go.bits .and .i64 (Go.bits .xor .i64 ((wrap64 ((wrap64 (s0_2 * 6364136223846793005)) + 1442695040888963407)) / 8589934592) ((wrap64 ((wrap64 (s0_2 * 6364136223846793005)) + 1442695040888963407)) / 35184372088832)) 255, s0_1, wrap64 ((wrap64 (s0_2 * 6364136223846793005)) + 1442695040888963407)))
set_option maxHeartbeats 8000000 in
set_option maxRecDepth 100000 in
theorem spec_l01Byte.calls (g : Nat) (s0_0 : List Int) (s0_1 : Int) (s0_2 : Int) (r1 : Int) (r2 : Int) (r3 : Int) (w0 w : World) (hI : IsS119 w0 w g s0_0 s0_1 s0_2) (hB : Below w0.heap.size w0 w) (h : spec_l01Byte.f s0_0 s0_1 s0_2 = some (r1, r2, r3)) :
  Calls Try.prog 74 #[.pointer (some ⟨g, 0, none⟩)] w fun e w' => e = .returned (.int .i64 r1) ∧ IsS119 w0 w' g s0_0 r2 r3 ∧ Below w0.heap.size w0 w' ∧ KeepBut w w' g none := by
 have HI0 := Aside0.mk hI
 have HK := Aside0.mk (KeepBut.refl w g none)
 have HL := Aside0.mk hB.size
 clear hI
 have HW0 := Aside0.mk hB.size
 have HB := Aside0.mk hB
 clear hB
 have H : (if s0_1 < (s0_0.length : Int) then (if 0 ≤ s0_1 then (some (Go.bits .and .i64 (wrap64 ((Go.bits .and .i64 (Go.bits .xor .i64 ((wrap64 ((wrap64 (s0_2 * 6364136223846793005)) + 1442695040888963407)) / 8589934592) ((wrap64 ((wrap64 (s0_2 * 6364136223846793005)) + 1442695040888963407)) / 35184372088832)) 255) + (wrap64 (rd s0_0 s0_1)))) 255, wrap64 (s0_1 + 1), wrap64 ((wrap64 (s0_2 * 6364136223846793005)) + 1442695040888963407))) else (none)) else (some (Go.bits .and .i64 (Go.bits .xor .i64 ((wrap64 ((wrap64 (s0_2 * 6364136223846793005)) + 1442695040888963407)) / 8589934592) ((wrap64 ((wrap64 (s0_2 * 6364136223846793005)) + 1442695040888963407)) / 35184372088832)) 255, s0_1, wrap64 ((wrap64 (s0_2 * 6364136223846793005)) + 1442695040888963407)))) = some (r1, r2, r3) := h
 clear h
 by_cases c2 : s0_1 < (s0_0.length : Int)
 ·rw [if_pos c2] at H
  have c2b0 : decide (s0_1 < (s0_0.length : Int)) = true := decide_eq_true c2
  clear c2
  by_cases c3 : 0 ≤ s0_1
  ·rw [if_pos c3] at H
   have c3b0 : decide (0 ≤ s0_1) = true := decide_eq_true c3
   clear c3
   simp only [Option.some.injEq, Prod.mk.injEq] at H
   obtain ⟨rfl, rfl, rfl⟩ := H
   obtain ⟨ASz4_0, cSz4_0, HGz4, hgz4, HSz4_0⟩ := HI0.out
   have hcz4_0 := cellS119_0 HGz4
   have hcz4_1 := cellS119_1 HGz4
   have hcz4_2 := cellS119_2 HGz4
   have hfz4_1 := blk_frozen HGz4 1
   have hfz4_2 := blk_frozen HGz4 2
   clear HGz4 hgz4
   have p251 : 0 ≤ (s0_1 : Int) := oda
   have q251 : s0_1 < (s0_0.length : Int) := oda
   obtain ⟨ad251, e251, hx251_0⟩ := Kd.at_int HSz4_0 s0_1 p251 q251
   cases e251
   have hn251_0 : ad251.block ≠ g := Nat.ne_of_lt (Nat.lt_of_lt_of_le (by have := World.block_lt_of_cell? _ _ hx251_0; first | rwa [add_block] at this | exact this) (IsS119.ge HI0.out))
   replace hx251_0 := pw_cell_below HB.out hx251_0
   replace hx251_0 := (cell_far (p := ⟨g, 2, none⟩) (by first | (rw [add_block]; exact hn251_0) | (show (Addr.add _ _).block ≠ _; rw [add_block]; exact hn251_0) | exact hn251_0) (.int .i64 (wrap64 ((wrap64 (s0_2 * 6364136223846793005)) + 1442695040888963407)))).trans hx251_0
   (try have hy251_0 := fun (n_ : Nat) => (show (((w.drewN n_).setCell ⟨g, 2, none⟩ (.int .i64 (wrap64 ((wrap64 (s0_2 * 6364136223846793005)) + 1442695040888963407))))).cell? _ = some _ from hx251_0))
   clear hn251_0
   replace p251 := eq_true p251
   replace q251 := eq_true q251
   go_enter Try.func74, Try.ntmps74
   go_wp2
   repeat (go_quiet (fail); try go_wp2)
   go_ret
   exact ⟨by first | rfl | (simp [errW_none, errW_some] <;> rfl) | (simp [*, errW_none, errW_some] <;> rfl), by repeat (first | (with_reducible first | exact HI0.out | apply IsS119.alloc | apply IsS119.drewN | apply IsS119.drew | apply IsS119.set_1 | apply IsS119.set_2) | exact HI0.out), by repeat (first | (with_reducible first | exact HB.out | apply below_alloc | apply pw_below_drewN | apply below_drew1 | refine below_set ?_ (IsS119.ge HI0.out)) | exact HB.out), by repeat (first | (with_reducible first | exact HK.out | apply KeepBut.set_ | apply keep_drewN | apply keep_drew | apply keep_alloc) | exact HK.out)⟩
  ·rw [if_neg c3] at H
   exact absurd H (by simp)
 ·rw [if_neg c2] at H
  have c2b0 : decide (s0_1 < (s0_0.length : Int)) = false := decide_eq_false c2
  clear c2
  simp only [Option.some.injEq, Prod.mk.injEq] at H
  obtain ⟨rfl, rfl, rfl⟩ := H
  obtain ⟨ASz5_0, cSz5_0, HGz5, hgz5, HSz5_0⟩ := HI0.out
  have hcz5_0 := cellS119_0 HGz5
  have hcz5_1 := cellS119_1 HGz5
  have hcz5_2 := cellS119_2 HGz5
  have hfz5_1 := blk_frozen HGz5 1
  have hfz5_2 := blk_frozen HGz5 2
  clear HGz5 hgz5
  go_enter Try.func74, Try.ntmps74
  go_wp2
  repeat (go_quiet (fail); try go_wp2)
  go_ret
  exact ⟨by first | rfl | (simp [errW_none, errW_some] <;> rfl) | (simp [*, errW_none, errW_some] <;> rfl), by repeat (first | (with_reducible first | exact HI0.out | apply IsS119.alloc | apply IsS119.drewN | apply IsS119.drew | apply IsS119.set_1 | apply IsS119.set_2) | exact HI0.out), by repeat (first | (with_reducible first | exact HB.out | apply below_alloc | apply pw_below_drewN | apply below_drew1 | refine below_set ?_ (IsS119.ge HI0.out)) | exact HB.out), by repeat (first | (with_reducible first | exact HK.out | apply KeepBut.set_ | apply keep_drewN | apply keep_drew | apply keep_alloc) | exact HK.out)⟩

/-! ### spec_l01Below: function 70 -/
def spec_l01Below.f (s0_0 : List Int) (s0_1 : Int) (s0_2 : Int) (a1 : Int) : Option (Int × Int × Int) := if a1 ≤ 0 then (some (0, s0_1, s0_2)) else (if a1 ≤ 256 then ((spec_l01Byte.f s0_0 s0_1 s0_2).bind fun bt252 => (if a1 = 0 then (none) else (some (Int.tmod bt252.1 a1, bt252.2.1, bt252.2.2)))) else ((spec_l01Byte.f s0_0 s0_1 s0_2).bind fun bt255 => ((spec_l01Byte.f s0_0 bt255.2.1 bt255.2.2).bind fun bt258 => ((spec_l01Byte.f s0_0 bt258.2.1 bt258.2.2).bind fun bt261 => ((spec_l01Byte.f s0_0 bt261.2.1 bt261.2.2).bind fun bt264 => (if a1 = 0 then (none) else (some (Int.tmod (wrap64 ((wrap64 ((wrap64 ((wrap64 (bt255.1 * 16777216)) + (wrap64 (bt258.1 * 65536)))) + (wrap64 (bt261.1 * 256)))) + bt264.1)) a1, bt264.2.1, bt264.2.2))))))))
set_option maxHeartbeats 8000000 in
set_option maxRecDepth 100000 in
theorem spec_l01Below.calls (g : Nat) (s0_0 : List Int) (s0_1 : Int) (s0_2 : Int) (a1 : Int) (r1 : Int) (r2 : Int) (r3 : Int) (w0 w : World) (hI : IsS119 w0 w g s0_0 s0_1 s0_2) (hB : Below w0.heap.size w0 w) (h : spec_l01Below.f s0_0 s0_1 s0_2 a1 = some (r1, r2, r3)) :
  Calls Try.prog 70 #[.pointer (some ⟨g, 0, none⟩), .int .i64 a1] w fun e w' => e = .returned (.int .i64 r1) ∧ IsS119 w0 w' g s0_0 r2 r3 ∧ Below w0.heap.size w0 w' ∧ KeepBut w w' g none := by
 have HI0 := Aside0.mk hI
 have HK := Aside0.mk (KeepBut.refl w g none)
 have HL := Aside0.mk hB.size
 clear hI
 have HW0 := Aside0.mk hB.size
 have HB := Aside0.mk hB
 clear hB
 have H : (if a1 ≤ 0 then (some (0, s0_1, s0_2)) else (if a1 ≤ 256 then ((spec_l01Byte.f s0_0 s0_1 s0_2).bind fun bt252 => (if a1 = 0 then (none) else (some (Int.tmod bt252.1 a1, bt252.2.1, bt252.2.2)))) else ((spec_l01Byte.f s0_0 s0_1 s0_2).bind fun bt255 => ((spec_l01Byte.f s0_0 bt255.2.1 bt255.2.2).bind fun bt258 => ((spec_l01Byte.f s0_0 bt258.2.1 bt258.2.2).bind fun bt261 => ((spec_l01Byte.f s0_0 bt261.2.1 bt261.2.2).bind fun bt264 => (if a1 = 0 then (none) else (some (Int.tmod (wrap64 ((wrap64 ((wrap64 ((wrap64 (bt255.1 * 16777216)) + (wrap64 (bt258.1 * 65536)))) + (wrap64 (bt261.1 * 256)))) + bt264.1)) a1, bt264.2.1, bt264.2.2))))))))) = some (r1, r2, r3) := h
 clear h
 by_cases c3 : a1 ≤ 0
 ·rw [if_pos c3] at H
  have c3b0 : decide (a1 ≤ 0) = true := decide_eq_true c3
  clear c3
  simp only [Option.some.injEq, Prod.mk.injEq] at H
  obtain ⟨rfl, rfl, rfl⟩ := H
  go_enter Try.func70, Try.ntmps70
  go_wp2
  go_ret
  exact ⟨by first | rfl | (simp [errW_none, errW_some] <;> rfl) | (simp [*, errW_none, errW_some] <;> rfl), by repeat (first | (with_reducible first | exact HI0.out | apply IsS119.alloc | apply IsS119.drewN | apply IsS119.drew | apply IsS119.set_1 | apply IsS119.set_2) | exact HI0.out), by repeat (first | (with_reducible first | exact HB.out | apply below_alloc | apply pw_below_drewN | apply below_drew1 | refine below_set ?_ (IsS119.ge HI0.out)) | exact HB.out), by repeat (first | (with_reducible first | exact HK.out | apply KeepBut.set_ | apply keep_drewN | apply keep_drew | apply keep_alloc) | exact HK.out)⟩
 ·rw [if_neg c3] at H
  have c3b0 : decide (a1 ≤ 0) = false := decide_eq_false c3
  clear c3
  by_cases c4 : a1 ≤ 256
  ·rw [if_pos c4] at H
   have c4b0 : decide (a1 ≤ 256) = true := decide_eq_true c4
   clear c4
   replace H := Option.bind_eq_some_iff.mp H
   obtain ⟨⟨t252, t253, t254⟩, A50, H⟩ := H
   replace H : (if a1 = 0 then (none) else (some (Int.tmod t252 a1, t253, t254))) = some (r1, r2, r3) := H
   have A5 := Aside0.mk A50
   clear A50
   by_cases c6 : a1 = 0
   ·rw [if_pos c6] at H
    exact absurd H (by simp)
   ·rw [if_neg c6] at H
    have c6b0 : (a1 == 0) = false := beq_eq_false_iff_ne.mpr c6
    have c6b1 : (a1 != 0) = true := bne_iff_ne.mpr c6
    simp only [Option.some.injEq, Prod.mk.injEq] at H
    obtain ⟨rfl, rfl, rfl⟩ := H
    go_enter Try.func70, Try.ntmps70
    go_wp2_with (first | ((with_reducible refine gate_callee (f := 74) rfl ?_); refine goesL_ (some 14) rfl rfl Try.func74 (by kernel_rfl) rfl #[.pointer (some ⟨g, 0, none⟩)] rfl ar ?_; (with_reducible refine (spec_l01Byte.calls g s0_0 s0_1 s0_2 t252 t253 t254 w0 _ ?side1 ?side2 A5.out).mono ?_); (case side1 => repeat (first | (with_reducible first | exact HI0.out | apply IsS119.alloc | apply IsS119.drewN | apply IsS119.drew | apply IsS119.set_1 | apply IsS119.set_2) | exact HI0.out)); (case side2 => repeat (first | (with_reducible first | exact HB.out | apply below_alloc | apply pw_below_drewN | apply below_drew1 | refine below_set ?_ (IsS119.ge HI0.out)) | exact HB.out)); rintro e w7 ⟨rfl, hi, hb, hk⟩; refine ⟨_, rfl, ?_⟩; have n0_ := Aside0.mk (KeepBut.trans (by repeat (first | (with_reducible first | exact HK.out | apply KeepBut.set_ | apply keep_drewN | apply keep_drew | apply keep_alloc) | exact HK.out)) hk (.inl rfl)); have n1_ := Aside0.mk (hb); have n2_ := Aside0.mk (hi); clear HK HB HI0; have HK := n0_; have HB := n1_; have HI0 := n2_; clear n0_ n1_ n2_; (try clear hb); (try clear hb2); (try clear hk); (try clear hi)))
    go_ret
    exact ⟨by first | rfl | (simp [errW_none, errW_some] <;> rfl) | (simp [*, errW_none, errW_some] <;> rfl), by repeat (first | (with_reducible first | exact HI0.out | apply IsS119.alloc | apply IsS119.drewN | apply IsS119.drew | apply IsS119.set_1 | apply IsS119.set_2) | exact HI0.out), by repeat (first | (with_reducible first | exact HB.out | apply below_alloc | apply pw_below_drewN | apply below_drew1 | refine below_set ?_ (IsS119.ge HI0.out)) | exact HB.out), by repeat (first | (with_reducible first | exact HK.out | apply KeepBut.set_ | apply keep_drewN | apply keep_drew | apply keep_alloc) | exact HK.out)⟩
  ·rw [if_neg c4] at H
   have c4b0 : decide (a1 ≤ 256) = false := decide_eq_false c4
   clear c4
   replace H := Option.bind_eq_some_iff.mp H
   obtain ⟨⟨t255, t256, t257⟩, A80, H⟩ := H
   replace H : ((spec_l01Byte.f s0_0 t256 t257).bind fun bt258 => ((spec_l01Byte.f s0_0 bt258.2.1 bt258.2.2).bind fun bt261 => ((spec_l01Byte.f s0_0 bt261.2.1 bt261.2.2).bind fun bt264 => (if a1 = 0 then (none) else (some (Int.tmod (wrap64 ((wrap64 ((wrap64 ((wrap64 (t255 * 16777216)) + (wrap64 (bt258.1 * 65536)))) + (wrap64 (bt261.1 * 256)))) + bt264.1)) a1, bt264.2.1, bt264.2.2)))))) = some (r1, r2, r3) := H
   have A8 := Aside0.mk A80
   clear A80
   replace H := Option.bind_eq_some_iff.mp H
   obtain ⟨⟨t258, t259, t260⟩, A90, H⟩ := H
   replace H : ((spec_l01Byte.f s0_0 t259 t260).bind fun bt261 => ((spec_l01Byte.f s0_0 bt261.2.1 bt261.2.2).bind fun bt264 => (if a1 = 0 then (none) else (some (Int.tmod (wrap64 ((wrap64 ((wrap64 ((wrap64 (t255 * 16777216)) + (wrap64 (t258 * 65536)))) + (wrap64 (bt261.1 * 256)))) + bt264.1)) a1, bt264.2.1, bt264.2.2))))) = some (r1, r2, r3) := H
   have A9 := Aside0.mk A90
   clear A90
   replace H := Option.bind_eq_some_iff.mp H
   obtain ⟨⟨t261, t262, t263⟩, A100, H⟩ := H
   replace H : ((spec_l01Byte.f s0_0 t262 t263).bind fun bt264 => (if a1 = 0 then (none) else (some (Int.tmod (wrap64 ((wrap64 ((wrap64 ((wrap64 (t255 * 16777216)) + (wrap64 (t258 * 65536)))) + (wrap64 (t261 * 256)))) + bt264.1)) a1, bt264.2.1, bt264.2.2)))) = some (r1, r2, r3) := H
   have A10 := Aside0.mk A100
   clear A100
   replace H := Option.bind_eq_some_iff.mp H
   obtain ⟨⟨t264, t265, t266⟩, A110, H⟩ := H
   replace H : (if a1 = 0 then (none) else (some (Int.tmod (wrap64 ((wrap64 ((wrap64 ((wrap64 (t255 * 16777216)) + (wrap64 (t258 * 65536)))) + (wrap64 (t261 * 256)))) + t264)) a1, t265, t266))) = some (r1, r2, r3) := H
   have A11 := Aside0.mk A110
   clear A110
   by_cases c12 : a1 = 0
   ·rw [if_pos c12] at H
    exact absurd H (by simp)
   ·rw [if_neg c12] at H
    have c12b0 : (a1 == 0) = false := beq_eq_false_iff_ne.mpr c12
    have c12b1 : (a1 != 0) = true := bne_iff_ne.mpr c12
    simp only [Option.some.injEq, Prod.mk.injEq] at H
    obtain ⟨rfl, rfl, rfl⟩ := H
    go_enter Try.func70, Try.ntmps70
    go_wp2_with (first | ((with_reducible refine gate_callee (f := 74) rfl ?_); refine goesL_ (some 18) rfl rfl Try.func74 (by kernel_rfl) rfl #[.pointer (some ⟨g, 0, none⟩)] rfl ar ?_; (with_reducible refine (spec_l01Byte.calls g s0_0 s0_1 s0_2 t255 t256 t257 w0 _ ?side1 ?side2 A8.out).mono ?_); (case side1 => repeat (first | (with_reducible first | exact HI0.out | apply IsS119.alloc | apply IsS119.drewN | apply IsS119.drew | apply IsS119.set_1 | apply IsS119.set_2) | exact HI0.out)); (case side2 => repeat (first | (with_reducible first | exact HB.out | apply below_alloc | apply pw_below_drewN | apply below_drew1 | refine below_set ?_ (IsS119.ge HI0.out)) | exact HB.out)); rintro e w13 ⟨rfl, hi, hb, hk⟩; refine ⟨_, rfl, ?_⟩; have n0_ := Aside0.mk (KeepBut.trans (by repeat (first | (with_reducible first | exact HK.out | apply KeepBut.set_ | apply keep_drewN | apply keep_drew | apply keep_alloc) | exact HK.out)) hk (.inl rfl)); have n1_ := Aside0.mk (hb); have n2_ := Aside0.mk (hi); clear HK HB HI0; have HK := n0_; have HB := n1_; have HI0 := n2_; clear n0_ n1_ n2_; (try clear hb); (try clear hb2); (try clear hk); (try clear hi)) | ((with_reducible refine gate_callee (f := 74) rfl ?_); refine goesL_ (some 20) rfl rfl Try.func74 (by kernel_rfl) rfl #[.pointer (some ⟨g, 0, none⟩)] rfl ar ?_; (with_reducible refine (spec_l01Byte.calls g s0_0 t256 t257 t258 t259 t260 w0 _ ?side1 ?side2 A9.out).mono ?_); (case side1 => repeat (first | (with_reducible first | exact HI0.out | apply IsS119.alloc | apply IsS119.drewN | apply IsS119.drew | apply IsS119.set_1 | apply IsS119.set_2) | exact HI0.out)); (case side2 => repeat (first | (with_reducible first | exact HB.out | apply below_alloc | apply pw_below_drewN | apply below_drew1 | refine below_set ?_ (IsS119.ge HI0.out)) | exact HB.out)); rintro e w14 ⟨rfl, hi, hb, hk⟩; refine ⟨_, rfl, ?_⟩; have n0_ := Aside0.mk (KeepBut.trans (by repeat (first | (with_reducible first | exact HK.out | apply KeepBut.set_ | apply keep_drewN | apply keep_drew | apply keep_alloc) | exact HK.out)) hk (.inl rfl)); have n1_ := Aside0.mk (hb); have n2_ := Aside0.mk (hi); clear HK HB HI0; have HK := n0_; have HB := n1_; have HI0 := n2_; clear n0_ n1_ n2_; (try clear hb); (try clear hb2); (try clear hk); (try clear hi)) | ((with_reducible refine gate_callee (f := 74) rfl ?_); refine goesL_ (some 22) rfl rfl Try.func74 (by kernel_rfl) rfl #[.pointer (some ⟨g, 0, none⟩)] rfl ar ?_; (with_reducible refine (spec_l01Byte.calls g s0_0 t259 t260 t261 t262 t263 w0 _ ?side1 ?side2 A10.out).mono ?_); (case side1 => repeat (first | (with_reducible first | exact HI0.out | apply IsS119.alloc | apply IsS119.drewN | apply IsS119.drew | apply IsS119.set_1 | apply IsS119.set_2) | exact HI0.out)); (case side2 => repeat (first | (with_reducible first | exact HB.out | apply below_alloc | apply pw_below_drewN | apply below_drew1 | refine below_set ?_ (IsS119.ge HI0.out)) | exact HB.out)); rintro e w15 ⟨rfl, hi, hb, hk⟩; refine ⟨_, rfl, ?_⟩; have n0_ := Aside0.mk (KeepBut.trans (by repeat (first | (with_reducible first | exact HK.out | apply KeepBut.set_ | apply keep_drewN | apply keep_drew | apply keep_alloc) | exact HK.out)) hk (.inl rfl)); have n1_ := Aside0.mk (hb); have n2_ := Aside0.mk (hi); clear HK HB HI0; have HK := n0_; have HB := n1_; have HI0 := n2_; clear n0_ n1_ n2_; (try clear hb); (try clear hb2); (try clear hk); (try clear hi)) | ((with_reducible refine gate_callee (f := 74) rfl ?_); refine goesL_ (some 24) rfl rfl Try.func74 (by kernel_rfl) rfl #[.pointer (some ⟨g, 0, none⟩)] rfl ar ?_; (with_reducible refine (spec_l01Byte.calls g s0_0 t262 t263 t264 t265 t266 w0 _ ?side1 ?side2 A11.out).mono ?_); (case side1 => repeat (first | (with_reducible first | exact HI0.out | apply IsS119.alloc | apply IsS119.drewN | apply IsS119.drew | apply IsS119.set_1 | apply IsS119.set_2) | exact HI0.out)); (case side2 => repeat (first | (with_reducible first | exact HB.out | apply below_alloc | apply pw_below_drewN | apply below_drew1 | refine below_set ?_ (IsS119.ge HI0.out)) | exact HB.out)); rintro e w16 ⟨rfl, hi, hb, hk⟩; refine ⟨_, rfl, ?_⟩; have n0_ := Aside0.mk (KeepBut.trans (by repeat (first | (with_reducible first | exact HK.out | apply KeepBut.set_ | apply keep_drewN | apply keep_drew | apply keep_alloc) | exact HK.out)) hk (.inl rfl)); have n1_ := Aside0.mk (hb); have n2_ := Aside0.mk (hi); clear HK HB HI0; have HK := n0_; have HB := n1_; have HI0 := n2_; clear n0_ n1_ n2_; (try clear hb); (try clear hb2); (try clear hk); (try clear hi)))
    go_ret
    exact ⟨by first | rfl | (simp [errW_none, errW_some] <;> rfl) | (simp [*, errW_none, errW_some] <;> rfl), by repeat (first | (with_reducible first | exact HI0.out | apply IsS119.alloc | apply IsS119.drewN | apply IsS119.drew | apply IsS119.set_1 | apply IsS119.set_2) | exact HI0.out), by repeat (first | (with_reducible first | exact HB.out | apply below_alloc | apply pw_below_drewN | apply below_drew1 | refine below_set ?_ (IsS119.ge HI0.out)) | exact HB.out), by repeat (first | (with_reducible first | exact HK.out | apply KeepBut.set_ | apply keep_drewN | apply keep_drew | apply keep_alloc) | exact HK.out)⟩

/-! ### spec_l01PickInt: function 110 -/
def spec_l01PickInt.f (s0_0 : List Int) (s0_1 : Int) (s0_2 : Int) (l1 : List Int) : Option (Int × Int × Int) := (spec_l01Below.f s0_0 s0_1 s0_2 (l1.length : Int)).bind fun bt267 => (if 0 ≤ bt267.1 then (if bt267.1 < (l1.length : Int) then (some (rd l1 bt267.1, bt267.2.1, bt267.2.2)) else (none)) else (none))
set_option maxHeartbeats 8000000 in
set_option maxRecDepth 100000 in
theorem spec_l01PickInt.calls (g : Nat) (s0_0 : List Int) (s0_1 : Int) (s0_2 : Int) (A1 : Option Addr) (c1 : Nat) (l1 : List Int) (r1 : Int) (r2 : Int) (r3 : Int) (w0 w : World) (hI : IsS119 w0 w g s0_0 s0_1 s0_2) (hB : Below w0.heap.size w0 w) (hr1 : Kd.C (Kd.int .i64) w A1 l1.length l1) (hc1 : l1.length ≤ c1) (hf1 : ∀ ad, A1 = some ad → 0 < l1.length → ad.block ≠ g) (h : spec_l01PickInt.f s0_0 s0_1 s0_2 l1 = some (r1, r2, r3)) :
  Calls Try.prog 110 #[.pointer (some ⟨g, 0, none⟩), .slice A1 l1.length c1] w fun e w' => e = .returned (.int .i64 r1) ∧ IsS119 w0 w' g s0_0 r2 r3 ∧ Below w0.heap.size w0 w' ∧ KeepBut w w' g none := by
 have HR1 := Aside0.mk hr1
 have HC1 := Aside0.mk hc1
 clear hr1 hc1
 have HI0 := Aside0.mk hI
 have HK := Aside0.mk (KeepBut.refl w g none)
 have HL := Aside0.mk hB.size
 clear hI
 have HW0 := Aside0.mk hB.size
 have HB := Aside0.mk hB
 clear hB
 have H : ((spec_l01Below.f s0_0 s0_1 s0_2 (l1.length : Int)).bind fun bt267 => (if 0 ≤ bt267.1 then (if bt267.1 < (l1.length : Int) then (some (rd l1 bt267.1, bt267.2.1, bt267.2.2)) else (none)) else (none))) = some (r1, r2, r3) := h
 clear h
 replace H := Option.bind_eq_some_iff.mp H
 obtain ⟨⟨t267, t268, t269⟩, A30, H⟩ := H
 replace H : (if 0 ≤ t267 then (if t267 < (l1.length : Int) then (some (rd l1 t267, t268, t269)) else (none)) else (none)) = some (r1, r2, r3) := H
 have A3 := Aside0.mk A30
 clear A30
 by_cases c4 : 0 ≤ t267
 ·rw [if_pos c4] at H
  have c4b0 : decide (0 ≤ t267) = true := decide_eq_true c4
  clear c4
  by_cases c5 : t267 < (l1.length : Int)
  ·rw [if_pos c5] at H
   have c5b0 : decide (t267 < (l1.length : Int)) = true := decide_eq_true c5
   clear c5
   simp only [Option.some.injEq, Prod.mk.injEq] at H
   obtain ⟨rfl, rfl, rfl⟩ := H
   go_enter Try.func110, Try.ntmps110
   go_wp2_with (first | ((with_reducible refine gate_callee (f := 70) rfl ?_); refine goesL_ (some 9) rfl rfl Try.func70 (by kernel_rfl) rfl #[.pointer (some ⟨g, 0, none⟩), .int .i64 (l1.length : Int)] rfl ar ?_; (with_reducible refine (spec_l01Below.calls g s0_0 s0_1 s0_2 (l1.length : Int) t267 t268 t269 w0 _ ?side1 ?side2 A3.out).mono ?_); (case side1 => repeat (first | (with_reducible first | exact HI0.out | apply IsS119.alloc | apply IsS119.drewN | apply IsS119.drew | apply IsS119.set_1 | apply IsS119.set_2) | exact HI0.out)); (case side2 => repeat (first | (with_reducible first | exact HB.out | apply below_alloc | apply pw_below_drewN | apply below_drew1 | refine below_set ?_ (IsS119.ge HI0.out)) | exact HB.out)); rintro e w6 ⟨rfl, hi, hb, hk⟩; refine ⟨_, rfl, ?_⟩; have n0_ := Aside0.mk (KeepBut.trans (by repeat (first | (with_reducible first | exact HK.out | apply KeepBut.set_ | apply keep_drewN | apply keep_drew | apply keep_alloc) | exact HK.out)) hk (.inl rfl)); have n1_ := Aside0.mk (hb); have n2_ := Aside0.mk (hi); clear HK HB HI0; have HK := n0_; have HB := n1_; have HI0 := n2_; clear n0_ n1_ n2_; (try clear hb); (try clear hb2); (try clear hk); (try clear hi); have p270 : 0 ≤ (t267 : Int) := oda; have q270 : t267 < (l1.length : Int) := oda; obtain ⟨ad270, e270, hx270_0⟩ := Kd.at_int HR1.out t267 p270 q270; cases e270; replace hx270_0 := keep_cell HK.out hx270_0 (by first | (rw [add_block]; exact hf1 _ rfl (by omega)) | exact hf1 _ rfl (by omega) | exact hf1 ad270 rfl (by omega)); replace p270 := eq_true p270; replace q270 := eq_true q270))
   go_ret
   exact ⟨by first | rfl | (simp [errW_none, errW_some] <;> rfl) | (simp [*, errW_none, errW_some] <;> rfl), by repeat (first | (with_reducible first | exact HI0.out | apply IsS119.alloc | apply IsS119.drewN | apply IsS119.drew | apply IsS119.set_1 | apply IsS119.set_2) | exact HI0.out), by repeat (first | (with_reducible first | exact HB.out | apply below_alloc | apply pw_below_drewN | apply below_drew1 | refine below_set ?_ (IsS119.ge HI0.out)) | exact HB.out), by repeat (first | (with_reducible first | exact HK.out | apply KeepBut.set_ | apply keep_drewN | apply keep_drew | apply keep_alloc) | exact HK.out)⟩
  ·rw [if_neg c5] at H
   exact absurd H (by simp)
 ·rw [if_neg c4] at H
  exact absurd H (by simp)

-- NOT PRINTED: function 113 (spec_l03Put)

/-! ### spec_l01Once: function 117 -/
def spec_l01Once.f (s0_0 : List Int) (s0_1 : Int) (s0_2 : Int) (a1 : Int) : Option (Bool × Int × Int) := (spec_l01Below.f s0_0 s0_1 s0_2 a1).bind fun bt274 => (some ((bt274.1 == 0), bt274.2.1, bt274.2.2))
set_option maxHeartbeats 8000000 in
set_option maxRecDepth 100000 in
theorem spec_l01Once.calls (g : Nat) (s0_0 : List Int) (s0_1 : Int) (s0_2 : Int) (a1 : Int) (r1 : Bool) (r2 : Int) (r3 : Int) (w0 w : World) (hI : IsS119 w0 w g s0_0 s0_1 s0_2) (hB : Below w0.heap.size w0 w) (h : spec_l01Once.f s0_0 s0_1 s0_2 a1 = some (r1, r2, r3)) :
  Calls Try.prog 117 #[.pointer (some ⟨g, 0, none⟩), .int .i64 a1] w fun e w' => e = .returned (.bool r1) ∧ IsS119 w0 w' g s0_0 r2 r3 ∧ Below w0.heap.size w0 w' ∧ KeepBut w w' g none := by
 have HI0 := Aside0.mk hI
 have HK := Aside0.mk (KeepBut.refl w g none)
 have HL := Aside0.mk hB.size
 clear hI
 have HW0 := Aside0.mk hB.size
 have HB := Aside0.mk hB
 clear hB
 have H : ((spec_l01Below.f s0_0 s0_1 s0_2 a1).bind fun bt274 => (some ((bt274.1 == 0), bt274.2.1, bt274.2.2))) = some (r1, r2, r3) := h
 clear h
 replace H := Option.bind_eq_some_iff.mp H
 obtain ⟨⟨t274, t275, t276⟩, A30, H⟩ := H
 replace H : (some ((t274 == 0), t275, t276)) = some (r1, r2, r3) := H
 have A3 := Aside0.mk A30
 clear A30
 simp only [Option.some.injEq, Prod.mk.injEq] at H
 obtain ⟨rfl, rfl, rfl⟩ := H
 go_enter Try.func117, Try.ntmps117
 go_wp2_with (first | ((with_reducible refine gate_callee (f := 70) rfl ?_); refine goesL_ (some 7) rfl rfl Try.func70 (by kernel_rfl) rfl #[.pointer (some ⟨g, 0, none⟩), .int .i64 a1] rfl ar ?_; (with_reducible refine (spec_l01Below.calls g s0_0 s0_1 s0_2 a1 t274 t275 t276 w0 _ ?side1 ?side2 A3.out).mono ?_); (case side1 => repeat (first | (with_reducible first | exact HI0.out | apply IsS119.alloc | apply IsS119.drewN | apply IsS119.drew | apply IsS119.set_1 | apply IsS119.set_2) | exact HI0.out)); (case side2 => repeat (first | (with_reducible first | exact HB.out | apply below_alloc | apply pw_below_drewN | apply below_drew1 | refine below_set ?_ (IsS119.ge HI0.out)) | exact HB.out)); rintro e w4 ⟨rfl, hi, hb, hk⟩; refine ⟨_, rfl, ?_⟩; have n0_ := Aside0.mk (KeepBut.trans (by repeat (first | (with_reducible first | exact HK.out | apply KeepBut.set_ | apply keep_drewN | apply keep_drew | apply keep_alloc) | exact HK.out)) hk (.inl rfl)); have n1_ := Aside0.mk (hb); have n2_ := Aside0.mk (hi); clear HK HB HI0; have HK := n0_; have HB := n1_; have HI0 := n2_; clear n0_ n1_ n2_; (try clear hb); (try clear hb2); (try clear hk); (try clear hi)))
 go_ret
 exact ⟨by first | rfl | (simp [errW_none, errW_some] <;> rfl) | (simp [*, errW_none, errW_some] <;> rfl), by repeat (first | (with_reducible first | exact HI0.out | apply IsS119.alloc | apply IsS119.drewN | apply IsS119.drew | apply IsS119.set_1 | apply IsS119.set_2) | exact HI0.out), by repeat (first | (with_reducible first | exact HB.out | apply below_alloc | apply pw_below_drewN | apply below_drew1 | refine below_set ?_ (IsS119.ge HI0.out)) | exact HB.out), by repeat (first | (with_reducible first | exact HK.out | apply KeepBut.set_ | apply keep_drewN | apply keep_drew | apply keep_alloc) | exact HK.out)⟩

/-! ### spec_l03Arena: OWN: function 69 -/
namespace Hand
open Go.Proofs.Ytkckdibalopagaa.Base
theorem spec_In_in {a b c : Int} (h : b ≤ a) (h' : a ≤ c) : spec_l01In.f a b c = some true := by
 unfold spec_l01In.f
 rw [if_pos h]
 simp [h']
theorem spec_In_out {a b c : Int} (h : a < b ∨ c < a) : spec_l01In.f a b c = some false := by
 unfold spec_l01In.f
 by_cases h0 : a ≥ b
 ·rw [if_pos h0]
  have : ¬ a ≤ c := by omega
  simp [this]
 ·rw [if_neg h0]

theorem spec_In_b (a b c : Int) : spec_l01In.f a b c = some (decide (b ≤ a) && decide (a ≤ c)) := by
 unfold spec_l01In.f
 by_cases h : a ≥ b
 ·rw [if_pos h]; simp [h]
 ·rw [if_neg h]
  have : ¬ b ≤ a := h
  simp [this]
theorem spec_One_f (k : Int) : spec_l03One.f k = some (decide (k = 3 ∨ k = 6)) := by
 unfold spec_l03One.f
 by_cases h : k = 3
 ·rw [if_pos h]; simp [h]
 ·rw [if_neg h]
  by_cases h6 : k = 6 <;> simp [h, h6]
theorem spec_l03Node_j0 (f0 f1 f2 f3 k : Int) (hk : 0 ≤ k ∧ k ≤ 9223372036854775807) (c : Bool) : Ev (fun n => spec_l03Node.j0 n k c f0 f1 f2 f3)
  (!c && (if f0 = 3 ∨ f0 = 6 then decide (f3 = 0) else (decide (0 ≤ f3) && decide (f3 ≤ k - 1)))) := by
 have e : wrap64 (k - 1) = k - 1 := w64 (by omega) (by omega)
 refine ev_end (fun n => ?_)
 rw [spec_l03Node.j0, e]
 simp only [spec_In_b, spec_One_f, Option.bind_some, beq_dec]
 cases c with
 | true => rw [if_pos rfl]; rfl
 | false =>
  rw [if_neg (by simp)]
  by_cases h : f0 = 3 ∨ f0 = 6
  ·rw [if_pos (by simpa using h), if_pos h]; simp
  ·rw [if_neg (by simpa using h), if_neg h]; simp
theorem spec_l03Node_f (f0 f1 f2 f3 k : Int) (hk : 0 ≤ k ∧ k ≤ 9223372036854775807) : Ev (fun n => spec_l03Node.f n f0 f1 f2 f3 k) (nodeB f0 f1 f2 f3 k) := by
 have e : wrap64 (k - 1) = k - 1 := w64 (by omega) (by omega)
 unfold spec_l03Node.f
 rw [e]
 simp only [spec_In_b, Option.bind_some, beq_dec]
 unfold nodeB
 by_cases h9 : (decide (1 ≤ f0) && decide (f0 ≤ 9)) = true
 ·refine evT h9 ?_
  simp only [Bool.and_eq_true, decide_eq_true_eq] at h9
  by_cases h1 : f0 = 1
  ·refine ev_cast (evT h1 (ev_some ?_)) (if_pos h1).symm
   by_cases h2 : (decide (0 ≤ f1) && decide (f1 ≤ 999999)) = true
   ·rw [if_pos h2, h2]
    by_cases h3 : f2 = 0
    ·rw [if_pos h3]; simp [h3]
    ·rw [if_neg h3]; simp [h3]
   ·rw [if_neg h2]; simp only [Bool.not_eq_true] at h2; rw [h2]; simp
  ·refine ev_cast (evF h1 ?_) (if_neg h1).symm
   by_cases hn : f1 = 0
   ·refine evT hn (ev_cast (spec_l03Node_j0 f0 f1 f2 f3 k hk _) ?_)
    rw [Bool.not_not]
    by_cases h : f0 = 3 ∨ f0 = 6
    ·rw [if_pos h, if_pos h]; simp [hn]
    ·rw [if_neg h, if_neg h]
     have h2 : 2 ≤ f0 := by omega
     simp [hn, h2, h9.2]
   ·refine evF hn (ev_cast (spec_l03Node_j0 f0 f1 f2 f3 k hk _) ?_)
    by_cases h : f0 = 3 ∨ f0 = 6
    ·rw [if_pos h, if_pos h]; simp [hn]
    ·rw [if_neg h, if_neg h]; simp [hn]
 ·refine ev_cast (evF h9 (Ev.now _)) ?_
  simp only [Bool.and_eq_true, decide_eq_true_eq] at h9
  rw [if_neg (by omega), if_neg (by omega)]
  by_cases h2 : 2 ≤ f0
  ·have : ¬ f0 ≤ 9 := by omega
   simp [this]
  ·simp [h2]

/-! the place of the first node that is one -/
def atV (l : List S34) (x : S34) : Int := match l.findIdx? (fun y => sameN y x) with
  | some i => (i : Int)
  | none => -1
theorem sameN_def (y x : S34) : (y.f0 == x.f0 && (y.f1 == x.f1 && (y.f2 == x.f2 && (y.f3 == x.f3)))) = sameN y x := by
 unfold sameN
 simp only [Bool.and_assoc]
theorem atV_hit {l : List S34} {x : S34} {i : Nat} (h : i < l.length) (hi : sameN l[i] x = true) (hno : ∀ j (hj : j < i), sameN (l[j]'(by omega)) x = false) : atV l x = (i : Int) := by
 have : l.findIdx? (fun y => sameN y x) = some i := by
  rw [List.findIdx?_eq_some_iff_getElem]
  exact ⟨h, hi, fun j hj => by simpa using hno j hj⟩
 unfold atV
 rw [this]
theorem atV_miss {l : List S34} {x : S34} (hno : ∀ j (hj : j < l.length), sameN l[j] x = false) : atV l x = -1 := by
 have : l.findIdx? (fun y => sameN y x) = none := by
  rw [List.findIdx?_eq_none_iff]
  intro y hy
  obtain ⟨j, hj, rfl⟩ := List.getElem_of_mem hy
  exact hno j hj
 unfold atV
 rw [this]
theorem spec_At_ev (l : List S34) (hl : l.length ≤ 1048576) (x : S34) : ∀ (d i : Nat), l.length - i = d → i ≤ l.length → (∀ j (hj : j < l.length), j < i → sameN l[j] x = false) → Ev (fun k => spec_l03At.l0 k l (i : Int) x.f0 x.f1 x.f2 x.f3) (atV l x) := by
 intro d
 induction d with
 | zero =>
  intro i hd hi hno
  rw [atV_miss (fun j hj => hno j hj (by omega))]
  exact ev_end (fun k => by rw [spec_l03At.l0, if_neg (by omega)])
 | succ d ih =>
  intro i hd hi hno
  have hlt : i < l.length := by omega
  refine Ev.step (fun k => by rw [spec_l03At.l0, if_pos (by omega), if_pos (by omega), rdI hlt, sameN_def, w64 (x := (i : Int) + 1) (by omega) (by omega)]) ?_
  by_cases hs : sameN l[i] x = true
  ·refine ev_cast (evT hs (Ev.now _)) ?_
   rw [atV_hit hlt hs (fun j hj => hno j (by omega) hj)]
  ·refine evF hs ?_
   refine ih (i + 1) (by omega) (by omega) (fun j hj hji => ?_)
   by_cases e : j = i
   ·subst e
    simpa using hs
   ·exact hno j hj (by omega)
theorem spec_At_f (l : List S34) (hl : l.length ≤ 1048576) (x : S34) : Ev (fun k => spec_l03At.f k l x.f0 x.f1 x.f2 x.f3) (atV l x) :=
  spec_At_ev l hl x l.length 0 (by omega) (by omega) (fun j _ h => by omega)
theorem sameN_refl (x : S34) : sameN x x = true := by simp [sameN]
theorem sameN_eq {x y : S34} (h : sameN x y = true) : x = y := by
 cases x
 cases y
 simp [sameN] at h
 simp [h]
theorem nodeOf_get {l : List S34} {j : Nat} (h : j < l.length) : nodeOf l j = l[j] := rdI h
/-- a node is the first of its kind just where it is no repeat -/
theorem atV_self {l : List S34} {j : Nat} (h : j < l.length) : atV l (nodeOf l j) = (j : Int) ↔ dupAt l j = false := by
 rw [nodeOf_get h]
 unfold dupAt
 rw [nodeOf_get h, List.any_eq_false]
 constructor
 ·intro he y hy hs
  obtain ⟨i, hi, rfl⟩ := List.getElem_of_mem hy
  have hi2 : i < j := by have h3 := hi; rw [List.length_take] at h3; omega
  rw [List.getElem_take] at hs
  unfold atV at he
  cases hf : l.findIdx? (fun y => sameN y l[j]) with
  | none => rw [hf] at he; have he2 : (-1 : Int) = (j : Int) := he; omega
  | some m =>
   rw [hf] at he
   have he2 : (m : Int) = (j : Int) := he
   rw [List.findIdx?_eq_some_iff_getElem] at hf
   obtain ⟨hm, _, hno⟩ := hf
   have := hno i (by omega)
   simp only [Bool.not_eq_true, Bool.not_eq_false'] at this
   simp [hs] at this
 ·intro hall
  refine atV_hit h (sameN_refl _) (fun i hi => ?_)
  have := hall (l[i]'(by omega)) (by
   rw [List.mem_iff_getElem]
   exact ⟨i, by rw [List.length_take]; omega, by rw [List.getElem_take]⟩)
  simpa using this

/-! Put: a node found, or put behind; -1: it can't be -/
def putN (l : List S34) (x : S34) : List S34 × Int :=
  if nodeB x.f0 x.f1 x.f2 x.f3 (l.length : Int) = true then
    (if 0 ≤ atV l x then (l, atV l x) else if 3000 ≤ l.length then (l, -1) else (l ++ [x], (l.length : Int)))
  else (l, -1)
/-- the same on a bench, which may be bad -/
def putB (l : List S34) (bad : Bool) (x : S34) : List S34 × Bool × Int :=
  if bad = true then (l, true, -1)
  else if (putN l x).2 < 0 then (l, true, -1) else ((putN l x).1, false, (putN l x).2)
theorem atV_cases (l : List S34) (x : S34) : atV l x = -1 ∨ (0 ≤ atV l x ∧ atV l x < (l.length : Int) ∧ nodeOf l (atV l x).toNat = x) := by
 unfold atV
 cases hf : l.findIdx? (fun y => sameN y x) with
 | none => exact .inl rfl
 | some m =>
  right
  rw [List.findIdx?_eq_some_iff_getElem] at hf
  obtain ⟨hm, hs, _⟩ := hf
  refine ⟨by simp only; omega, by simp only; omega, ?_⟩
  simp only [Int.toNat_natCast]
  rw [nodeOf_get hm]
  exact sameN_eq (by simpa using hs)
theorem putN_cases (l : List S34) (x : S34) : ((putN l x).1 = l ∧ (putN l x).2 = -1) ∨
  (nodeB x.f0 x.f1 x.f2 x.f3 (l.length : Int) = true ∧ 0 ≤ (putN l x).2 ∧ (((putN l x).1 = l ∧ (putN l x).2 < (l.length : Int) ∧ (putN l x).2 = atV l x) ∨ (atV l x = -1 ∧ l.length < 3000 ∧ (putN l x).1 = l ++ [x] ∧ (putN l x).2 = (l.length : Int)))) := by
 unfold putN
 by_cases h : nodeB x.f0 x.f1 x.f2 x.f3 (l.length : Int) = true
 ·rw [if_pos h]
  rcases atV_cases l x with ha | ⟨h0, h1, _⟩
  ·rw [if_neg (by omega)]
   by_cases h3 : 3000 ≤ l.length
   ·rw [if_pos h3]; exact .inl ⟨rfl, rfl⟩
   ·rw [if_neg h3]; exact .inr ⟨h, by simp only; omega, .inr ⟨ha, by omega, rfl, rfl⟩⟩
  ·rw [if_pos h0]
   exact .inr ⟨h, h0, .inl ⟨rfl, h1, rfl⟩⟩
 ·rw [if_neg h]; exact .inl ⟨rfl, rfl⟩

/-! an arena behind a pointer, and its row in the call's own memory -/
def ArAt (w : World) (base g : Nat) (ok : Nat → Prop) (l : List S34) : Prop :=
  ∃ v, w.heap[g]? = some (.cells #[v] 26 (0, 0)) ∧ base ≤ g ∧ ¬ ok g ∧ Kd.R k34 34 w base ok v l
def Mine (g : Nat) (ok : Nat → Prop) (k : Nat) : Prop := k = g ∨ ok k
theorem ArAt.len {w : World} {base g : Nat} {ok : Nat → Prop} {l : List S34} (h : ArAt w base g ok l) : l.length ≤ 9223372036854775807 := by
 obtain ⟨v, _, _, _, hR⟩ := h
 obtain ⟨A, c, _, _, hC⟩ := Kd.R_reads hR
 exact hC.2.1
/-- what came in and stays -/
theorem ArAt.keep {w w1 : World} {base g : Nat} {ok : Nat → Prop} {l : List S34} (h : ArAt w base g ok l) (hb : Below w.heap.size w w1) : ArAt w1 base g ok l := by
 obtain ⟨v, h1, h2, h3, hR⟩ := h
 exact ⟨v, (hb.block g (blk_lt h1)).trans h1, h2, h3, Kd.R_below hR hb⟩
/-! a bench behind a pointer -/
def BnAt (w : World) (base g : Nat) (ok : Nat → Prop) (l : List S34) (bad : Bool) : Prop :=
  ∃ v, w.heap[g]? = some (.cells #[v, .bool bad] 132 (0, 0)) ∧ base ≤ g ∧ ¬ ok g ∧ Kd.R k34 34 w base ok v l
theorem BnAt.keep {w w1 : World} {base g : Nat} {ok : Nat → Prop} {l : List S34} {bad : Bool} (h : BnAt w base g ok l bad) (hb : Below w.heap.size w w1) : BnAt w1 base g ok l bad := by
 obtain ⟨v, h1, h2, h3, hR⟩ := h
 exact ⟨v, (hb.block g (blk_lt h1)).trans h1, h2, h3, Kd.R_below hR hb⟩

/-! List: a chain of pairs -/
def pairN (l : List S34) (x k : Int) : List S34 × Int := if x < 0 ∨ k < 0 then (l, -1) else putN l ⟨2, 0, x, k⟩
def listN (l : List S34) (xs : List Int) : List S34 × Int := xs.foldr (fun x s => pairN s.1 x s.2) (putN l ⟨1, 0, 0, 0⟩)
/-- a bench's state and a place -/
def ofB (s : List S34 × Bool × Int) (kind x y : Int) : List S34 × Bool × Int := putB s.1 s.2.1 ⟨kind, 0, x, y⟩
def listB (l : List S34) (bad : Bool) (xs : List Int) : List S34 × Bool × Int := xs.foldr (fun x s => ofB s 2 x s.2.2) (putB l bad ⟨1, 0, 0, 0⟩)
def endN (l0 : List S34) (s : List S34 × Bool × Int) : List S34 × Int := if s.2.1 = true ∨ s.2.2 < 0 then (l0, -1) else (s.1, s.2.2)

def PutPost (w : World) (base g : Nat) (ok : Nat → Prop) (l : List S34) (n : Int) (e : Ending) (w' : World) : Prop := e = .returned (.int .i64 n) ∧ ArAt w' base g ok l ∧ Below base w w' ∧ Kept w w' (Mine g ok)
set_option maxHeartbeats 8000000 in
set_option maxRecDepth 100000 in
theorem spec_l03Put_at (l : List S34) (x : S34) (w : World) (base g : Nat) (ok : Nat → Prop) (hA : ArAt w base g ok l) (hbase : base ≤ w.heap.size) (hfresh : ∀ k, w.heap.size ≤ k → ok k) (hl : l.length ≤ 1048576) :
  Calls Try.prog 113 #[.pointer (some ⟨g, 0, none⟩), .agg #[.int .i64 x.f0, .int .i64 x.f1, .int .i64 x.f2, .int .i64 x.f3]] w (PutPost w base g ok (putN l x).1 (putN l x).2) := by
 have hu26 := Try.underlying26
 have hu34 := Try.underlying34
 obtain ⟨v, hblk, hbg, hno, hR⟩ := hA
 obtain ⟨A, c, rfl, hlc, hC⟩ := Kd.R_reads hR
 obtain ⟨kn, hK⟩ := spec_l03Node_f x.f0 x.f1 x.f2 x.f3 (l.length : Int) (by omega)
 have HK := Aside0.mk (hK kn (Nat.le_refl _))
 obtain ⟨ka, hK2⟩ := spec_At_f l hl x
 have HK2 := Aside0.mk (hK2 ka (Nat.le_refl _))
 have HG0 := Aside0.mk hblk
 have HR := Aside0.mk hR
 have HC := Aside0.mk hC
 have HL := Aside0.mk hl
 have HBG := Aside0.mk hbg
 have HNO := Aside0.mk hno
 have HBS := Aside0.mk hbase
 have HF := Aside0.mk hfresh
 have HLC := Aside0.mk hlc
 clear hK hK2 hblk hR hC hl hbg hno hbase hfresh hlc
 have hbl : base ≤ w.heap.size := HBS.out
 by_cases hb : nodeB x.f0 x.f1 x.f2 x.f3 (l.length : Int) = true
 ·rw [hb] at HK
  clear hbl
  rcases atV_cases l x with ha | ⟨ha, ha1, _⟩
  ·have ha0 : ¬ 0 ≤ atV l x := by omega
   rw [ha] at HK2
   by_cases h3 : 3000 ≤ l.length
   ·have he : putN l x = (l, -1) := by unfold putN; rw [if_pos hb, if_neg ha0, if_pos h3]
    have HE := Aside0.mk he
    have h30 : decide (3000 ≤ (l.length : Int)) = true := decide_eq_true (by omega)
    have h31 : decide (3000 ≤ l.length) = true := decide_eq_true h3
    clear he hb ha ha0 h3
    go_enter Try.func113, Try.ntmps113
    go_wp2_with (first | ((with_reducible refine gate_dst (N := 3) rfl ?_); refine box_event ?hg (N := 3) ?hd (cs := #[.int .i64 x.f0, .int .i64 x.f1, .int .i64 x.f2, .int .i64 x.f3]) (t := 34) ?hr ?_; (case hd => rfl); (case hg => rfl); (case hr => first | (go_simp; done) | (go_simp; rfl)); intro gb hg1 w3 hbox hb; have BK3 := Aside0.mk hbox; have HB3 := Aside0.mk hb; have GB3 := Aside0.mk hg1; clear hg1 hbox hb))
    have HG3 := Aside0.mk (blk_below HG0.out HB3.out)
    refine start_ (n := 8) (S := fun w' => w'.cell? ⟨g, 0, none⟩ = some (.slice A l.length c) ∧ w'.cell? ⟨gb, 0, none⟩ = some (.int .i64 x.f0) ∧ w'.cell? ⟨gb, 1, none⟩ = some (.int .i64 x.f1) ∧ w'.cell? ⟨gb, 2, none⟩ = some (.int .i64 x.f2) ∧ w'.cell? ⟨gb, 3, none⟩ = some (.int .i64 x.f3)) (ds := []) #[false, false, false, false, false, false, false, false] (by kernel_rfl) rfl rfl ⟨(blk_cell (blk_drew HG3.out) 0).trans rfl, (blk_cell (blk_drew BK3.out) 0).trans rfl, (blk_cell (blk_drew BK3.out) 1).trans rfl, (blk_cell (blk_drew BK3.out) 2).trans rfl, (blk_cell (blk_drew BK3.out) 3).trans rfl⟩ (fun hHeld => ?_)
    refine pure_ (i := 1) (N := some 7) (v := ?_) (a' := ?_) #[false, true, false, false, false, false, false, false] rfl rfl (by kernel_rfl) (fun _ _ _ h => h) (Or.inl ⟨by rfl, ?_⟩) ?_ ?_
    rotate_left
    ·intro w'
     go_simp
     with_reducible rfl
    rotate_left
    ·simp only [Act.put, List.setIfInBounds_toArray, List.set_cons_zero, List.set_cons_succ, i64_w, i32_w]
     rfl
    refine pure_ (i := 2) (N := some 8) (v := ?_) (a' := ?_) #[false, true, true, false, false, false, false, false] rfl rfl (by kernel_rfl) (fun _ _ _ h => h) (Or.inl ⟨by rfl, ?_⟩) ?_ ?_
    rotate_left
    ·intro w'
     go_simp
     with_reducible rfl
    rotate_left
    ·simp only [Act.put, List.setIfInBounds_toArray, List.set_cons_zero, List.set_cons_succ, i64_w, i32_w]
     rfl
    refine pure_ (i := 3) (N := some 9) (v := ?_) (a' := ?_) #[false, true, true, true, false, false, false, false] rfl rfl (by kernel_rfl) (fun _ _ _ h => h) (Or.inl ⟨by rfl, ?_⟩) ?_ ?_
    rotate_left
    ·intro w'
     go_simp
     with_reducible rfl
    rotate_left
    ·simp only [Act.put, List.setIfInBounds_toArray, List.set_cons_zero, List.set_cons_succ, i64_w, i32_w]
     rfl
    refine take_ (i := 0) (N := some 6) (v := ?_) (a' := ?_) #[true, true, true, true, false, false, false, false] rfl rfl (by kernel_rfl) (fun _ _ _ h => h) (Or.inl ⟨by rfl, ?_⟩) hHeld ?_ ?_
    rotate_left
    ·rintro w' ⟨s0, s1, s2, s3, s4⟩
     go_simp
     with_reducible rfl
    rotate_left
    ·simp only [Act.put, List.setIfInBounds_toArray, List.set_cons_zero, List.set_cons_succ, i64_w, i32_w]
     rfl
    refine take_ (i := 4) (N := some 10) (v := ?_) (a' := ?_) #[true, true, true, true, true, false, false, false] rfl rfl (by kernel_rfl) (fun _ _ _ h => h) (Or.inl ⟨by rfl, ?_⟩) hHeld ?_ ?_
    rotate_left
    ·rintro w' ⟨s0, s1, s2, s3, s4⟩
     go_simp
     with_reducible rfl
    rotate_left
    ·simp only [Act.put, List.setIfInBounds_toArray, List.set_cons_zero, List.set_cons_succ, i64_w, i32_w]
     rfl
    refine pure_ (i := 5) (N := some 11) (v := ?_) (a' := ?_) #[true, true, true, true, true, true, false, false] rfl rfl (by kernel_rfl) (fun _ _ _ h => h) (Or.inl ⟨by rfl, ?_⟩) ?_ ?_
    rotate_left
    ·intro w'
     go_simp
     with_reducible rfl
    rotate_left
    ·simp only [Act.put, List.setIfInBounds_toArray, List.set_cons_zero, List.set_cons_succ, i64_w, i32_w]
     rfl
    refine one_ (i := 6) (N := some 12) #[true, true, true, true, true, true, true, false] rfl rfl (by kernel_rfl) (by decide) (fun K hK => ?_)
    refine goes_ Try.func81 (by kernel_rfl) rfl #[.agg #[.int .i64 x.f0, .int .i64 x.f1, .int .i64 x.f2, .int .i64 x.f3], .int .i64 (l.length : Int)] (by rfl) rfl rfl (by simp only [List.map_toArray, List.map_cons, List.map_nil]; rfl) ?_
    with_reducible refine (spec_l03Node.calls kn x.f0 x.f1 x.f2 x.f3 (l.length : Int) true _ HK.out).mono ?_
    rintro e w4 ⟨rfl, hb4⟩
    refine ⟨_, rfl, ?_⟩
    have HG4 := Aside0.mk (blk_below (blk_drew HG3.out) hb4)
    have BK4 := Aside0.mk (blk_below (blk_drew BK3.out) hb4)
    have HB4 := Aside0.mk (below_step (below_drew1 HB3.out) hb4)
    clear hb4
    refine hK.out _ _ ⟨(blk_cell (HG4.out) 0).trans rfl, (blk_cell (BK4.out) 0).trans rfl, (blk_cell (BK4.out) 1).trans rfl, (blk_cell (BK4.out) 2).trans rfl, (blk_cell (BK4.out) 3).trans rfl⟩ (fun hHeld => ?_)
    clear hK K
    refine norm_ (a' := ?_) ?_ ?_
    rotate_left
    ·show Act.put _ (some 12) _ = _
     simp only [Act.put, List.setIfInBounds_toArray, List.set_cons_zero, List.set_cons_succ, i64_w, i32_w]
     rfl
    refine pure_ (i := 7) (N := some 13) (v := ?_) (a' := ?_) #[true, true, true, true, true, true, true, true] rfl rfl (by kernel_rfl) (fun _ _ _ h => h) (Or.inl ⟨by rfl, ?_⟩) ?_ ?_
    rotate_left
    ·intro w'
     go_simp
     with_reducible rfl
    rotate_left
    ·simp only [Act.put, List.setIfInBounds_toArray, List.set_cons_zero, List.set_cons_succ, i64_w, i32_w]
     rfl
    refine done_ (by kernel_rfl) ?_
    have hn0 : w4.cell? ⟨gb, 0, none⟩ = some (.int .i64 x.f0) := (blk_cell BK4.out 0).trans rfl
    have hn1 : w4.cell? ⟨gb, 1, none⟩ = some (.int .i64 x.f1) := (blk_cell BK4.out 1).trans rfl
    have hn2 : w4.cell? ⟨gb, 2, none⟩ = some (.int .i64 x.f2) := (blk_cell BK4.out 2).trans rfl
    have hn3 : w4.cell? ⟨gb, 3, none⟩ = some (.int .i64 x.f3) := (blk_cell BK4.out 3).trans rfl
    have hf0 := blk_frozen BK4.out 0
    have hf1 := blk_frozen BK4.out 1
    have hf2 := blk_frozen BK4.out 2
    have hf3 := blk_frozen BK4.out 3
    have hg0 : w4.cell? ⟨g, 0, none⟩ = some (.slice A l.length c) := (blk_cell HG4.out 0).trans rfl
    have hgf := blk_frozen HG4.out 0
    go_wp2
    refine start_ (n := 7) (S := fun w' => w'.cell? ⟨g, 0, none⟩ = some (.slice A l.length c) ∧ w'.cell? ⟨gb, 0, none⟩ = some (.int .i64 x.f0) ∧ w'.cell? ⟨gb, 1, none⟩ = some (.int .i64 x.f1) ∧ w'.cell? ⟨gb, 2, none⟩ = some (.int .i64 x.f2) ∧ w'.cell? ⟨gb, 3, none⟩ = some (.int .i64 x.f3)) (ds := []) #[false, false, false, false, false, false, false] (by kernel_rfl) rfl rfl ⟨(blk_cell (blk_drew HG4.out) 0).trans rfl, (blk_cell (blk_drew BK4.out) 0).trans rfl, (blk_cell (blk_drew BK4.out) 1).trans rfl, (blk_cell (blk_drew BK4.out) 2).trans rfl, (blk_cell (blk_drew BK4.out) 3).trans rfl⟩ (fun hHeld => ?_)
    refine pure_ (i := 0) (N := some 14) (v := ?_) (a' := ?_) #[true, false, false, false, false, false, false] rfl rfl (by kernel_rfl) (fun _ _ _ h => h) (Or.inl ⟨by rfl, ?_⟩) ?_ ?_
    rotate_left
    ·intro w'
     go_simp
     with_reducible rfl
    rotate_left
    ·simp only [Act.put, List.setIfInBounds_toArray, List.set_cons_zero, List.set_cons_succ, i64_w, i32_w]
     rfl
    refine pure_ (i := 1) (N := some 15) (v := ?_) (a' := ?_) #[true, true, false, false, false, false, false] rfl rfl (by kernel_rfl) (fun _ _ _ h => h) (Or.inl ⟨by rfl, ?_⟩) ?_ ?_
    rotate_left
    ·intro w'
     go_simp
     with_reducible rfl
    rotate_left
    ·simp only [Act.put, List.setIfInBounds_toArray, List.set_cons_zero, List.set_cons_succ, i64_w, i32_w]
     rfl
    refine pure_ (i := 2) (N := some 16) (v := ?_) (a' := ?_) #[true, true, true, false, false, false, false] rfl rfl (by kernel_rfl) (fun _ _ _ h => h) (Or.inl ⟨by rfl, ?_⟩) ?_ ?_
    rotate_left
    ·intro w'
     go_simp
     with_reducible rfl
    rotate_left
    ·simp only [Act.put, List.setIfInBounds_toArray, List.set_cons_zero, List.set_cons_succ, i64_w, i32_w]
     rfl
    refine take_ (i := 3) (N := some 17) (v := ?_) (a' := ?_) #[true, true, true, true, false, false, false] rfl rfl (by kernel_rfl) (fun _ _ _ h => h) (Or.inl ⟨by rfl, ?_⟩) hHeld ?_ ?_
    rotate_left
    ·rintro w' ⟨s0, s1, s2, s3, s4⟩
     go_simp
     with_reducible rfl
    rotate_left
    ·simp only [Act.put, List.setIfInBounds_toArray, List.set_cons_zero, List.set_cons_succ, i64_w, i32_w]
     rfl
    refine take_ (i := 4) (N := some 18) (v := ?_) (a' := ?_) #[true, true, true, true, true, false, false] rfl rfl (by kernel_rfl) (fun _ _ _ h => h) (Or.inl ⟨by rfl, ?_⟩) hHeld ?_ ?_
    rotate_left
    ·rintro w' ⟨s0, s1, s2, s3, s4⟩
     go_simp
     with_reducible rfl
    rotate_left
    ·simp only [Act.put, List.setIfInBounds_toArray, List.set_cons_zero, List.set_cons_succ, i64_w, i32_w]
     rfl
    refine one_ (i := 5) (N := some 19) #[true, true, true, true, true, true, false] rfl rfl (by kernel_rfl) (by decide) (fun K hK => ?_)
    refine goes_ Try.func82 (by kernel_rfl) rfl #[.slice A l.length c, .agg #[.int .i64 x.f0, .int .i64 x.f1, .int .i64 x.f2, .int .i64 x.f3]] (by rfl) rfl rfl (by simp only [List.map_toArray, List.map_cons, List.map_nil]; rfl) ?_
    with_reducible refine (spec_l03At.calls ka A c l x.f0 x.f1 x.f2 x.f3 (-1) _ (Kd.C_below HC.out (below_drew1 HB4.out)) HLC.out HK2.out).mono ?_
    rintro e w5 ⟨rfl, hb5⟩
    refine ⟨_, rfl, ?_⟩
    have HG5 := Aside0.mk (blk_below (blk_drew HG4.out) hb5)
    have BK5 := Aside0.mk (blk_below (blk_drew BK4.out) hb5)
    have HB5 := Aside0.mk (below_step (below_drew1 HB4.out) hb5)
    clear hb5
    refine hK.out _ _ ⟨(blk_cell (HG5.out) 0).trans rfl, (blk_cell (BK5.out) 0).trans rfl, (blk_cell (BK5.out) 1).trans rfl, (blk_cell (BK5.out) 2).trans rfl, (blk_cell (BK5.out) 3).trans rfl⟩ (fun hHeld => ?_)
    clear hK K
    refine norm_ (a' := ?_) ?_ ?_
    rotate_left
    ·show Act.put _ (some 19) _ = _
     simp only [Act.put, List.setIfInBounds_toArray, List.set_cons_zero, List.set_cons_succ, i64_w, i32_w]
     rfl
    refine pure_ (i := 6) (N := some 5) (v := ?_) (a' := ?_) #[true, true, true, true, true, true, true] rfl rfl (by kernel_rfl) (fun _ _ _ h => h) (Or.inl ⟨by rfl, ?_⟩) ?_ ?_
    rotate_left
    ·intro w'
     go_simp
     with_reducible rfl
    rotate_left
    ·simp only [Act.put, List.setIfInBounds_toArray, List.set_cons_zero, List.set_cons_succ, i64_w, i32_w]
     rfl
    refine done_ (by kernel_rfl) ?_
    have hn0 : w5.cell? ⟨gb, 0, none⟩ = some (.int .i64 x.f0) := (blk_cell BK5.out 0).trans rfl
    have hn1 : w5.cell? ⟨gb, 1, none⟩ = some (.int .i64 x.f1) := (blk_cell BK5.out 1).trans rfl
    have hn2 : w5.cell? ⟨gb, 2, none⟩ = some (.int .i64 x.f2) := (blk_cell BK5.out 2).trans rfl
    have hn3 : w5.cell? ⟨gb, 3, none⟩ = some (.int .i64 x.f3) := (blk_cell BK5.out 3).trans rfl
    have hf0 := blk_frozen BK5.out 0
    have hf1 := blk_frozen BK5.out 1
    have hf2 := blk_frozen BK5.out 2
    have hf3 := blk_frozen BK5.out 3
    have hg0 : w5.cell? ⟨g, 0, none⟩ = some (.slice A l.length c) := (blk_cell HG5.out 0).trans rfl
    have hgf := blk_frozen HG5.out 0
    go_wp2
    go_ret
    rw [HE.out]
    exact ⟨rfl, ⟨_, HG5.out, HBG.out, HNO.out, Kd.R_below HR.out HB5.out⟩, HB5.out.mono HBS.out, Kept.of_below HB5.out _⟩
   ·have he : putN l x = (l ++ [x], (l.length : Int)) := by unfold putN; rw [if_pos hb, if_neg ha0, if_neg h3]
    have HE := Aside0.mk he
    have h30 : decide (3000 ≤ (l.length : Int)) = false := decide_eq_false (by omega)
    have h31 : decide (3000 ≤ l.length) = false := decide_eq_false h3
    have H3 := Aside0.mk h3
    clear he hb ha ha0 h3
    go_enter Try.func113, Try.ntmps113
    go_wp2_with (first | ((with_reducible refine gate_dst (N := 3) rfl ?_); refine box_event ?hg (N := 3) ?hd (cs := #[.int .i64 x.f0, .int .i64 x.f1, .int .i64 x.f2, .int .i64 x.f3]) (t := 34) ?hr ?_; (case hd => rfl); (case hg => rfl); (case hr => first | (go_simp; done) | (go_simp; rfl)); intro gb hg1 w3 hbox hb; have BK3 := Aside0.mk hbox; have HB3 := Aside0.mk hb; have GB3 := Aside0.mk hg1; clear hg1 hbox hb))
    have HG3 := Aside0.mk (blk_below HG0.out HB3.out)
    refine start_ (n := 8) (S := fun w' => w'.cell? ⟨g, 0, none⟩ = some (.slice A l.length c) ∧ w'.cell? ⟨gb, 0, none⟩ = some (.int .i64 x.f0) ∧ w'.cell? ⟨gb, 1, none⟩ = some (.int .i64 x.f1) ∧ w'.cell? ⟨gb, 2, none⟩ = some (.int .i64 x.f2) ∧ w'.cell? ⟨gb, 3, none⟩ = some (.int .i64 x.f3)) (ds := []) #[false, false, false, false, false, false, false, false] (by kernel_rfl) rfl rfl ⟨(blk_cell (blk_drew HG3.out) 0).trans rfl, (blk_cell (blk_drew BK3.out) 0).trans rfl, (blk_cell (blk_drew BK3.out) 1).trans rfl, (blk_cell (blk_drew BK3.out) 2).trans rfl, (blk_cell (blk_drew BK3.out) 3).trans rfl⟩ (fun hHeld => ?_)
    refine pure_ (i := 1) (N := some 7) (v := ?_) (a' := ?_) #[false, true, false, false, false, false, false, false] rfl rfl (by kernel_rfl) (fun _ _ _ h => h) (Or.inl ⟨by rfl, ?_⟩) ?_ ?_
    rotate_left
    ·intro w'
     go_simp
     with_reducible rfl
    rotate_left
    ·simp only [Act.put, List.setIfInBounds_toArray, List.set_cons_zero, List.set_cons_succ, i64_w, i32_w]
     rfl
    refine pure_ (i := 2) (N := some 8) (v := ?_) (a' := ?_) #[false, true, true, false, false, false, false, false] rfl rfl (by kernel_rfl) (fun _ _ _ h => h) (Or.inl ⟨by rfl, ?_⟩) ?_ ?_
    rotate_left
    ·intro w'
     go_simp
     with_reducible rfl
    rotate_left
    ·simp only [Act.put, List.setIfInBounds_toArray, List.set_cons_zero, List.set_cons_succ, i64_w, i32_w]
     rfl
    refine pure_ (i := 3) (N := some 9) (v := ?_) (a' := ?_) #[false, true, true, true, false, false, false, false] rfl rfl (by kernel_rfl) (fun _ _ _ h => h) (Or.inl ⟨by rfl, ?_⟩) ?_ ?_
    rotate_left
    ·intro w'
     go_simp
     with_reducible rfl
    rotate_left
    ·simp only [Act.put, List.setIfInBounds_toArray, List.set_cons_zero, List.set_cons_succ, i64_w, i32_w]
     rfl
    refine take_ (i := 0) (N := some 6) (v := ?_) (a' := ?_) #[true, true, true, true, false, false, false, false] rfl rfl (by kernel_rfl) (fun _ _ _ h => h) (Or.inl ⟨by rfl, ?_⟩) hHeld ?_ ?_
    rotate_left
    ·rintro w' ⟨s0, s1, s2, s3, s4⟩
     go_simp
     with_reducible rfl
    rotate_left
    ·simp only [Act.put, List.setIfInBounds_toArray, List.set_cons_zero, List.set_cons_succ, i64_w, i32_w]
     rfl
    refine take_ (i := 4) (N := some 10) (v := ?_) (a' := ?_) #[true, true, true, true, true, false, false, false] rfl rfl (by kernel_rfl) (fun _ _ _ h => h) (Or.inl ⟨by rfl, ?_⟩) hHeld ?_ ?_
    rotate_left
    ·rintro w' ⟨s0, s1, s2, s3, s4⟩
     go_simp
     with_reducible rfl
    rotate_left
    ·simp only [Act.put, List.setIfInBounds_toArray, List.set_cons_zero, List.set_cons_succ, i64_w, i32_w]
     rfl
    refine pure_ (i := 5) (N := some 11) (v := ?_) (a' := ?_) #[true, true, true, true, true, true, false, false] rfl rfl (by kernel_rfl) (fun _ _ _ h => h) (Or.inl ⟨by rfl, ?_⟩) ?_ ?_
    rotate_left
    ·intro w'
     go_simp
     with_reducible rfl
    rotate_left
    ·simp only [Act.put, List.setIfInBounds_toArray, List.set_cons_zero, List.set_cons_succ, i64_w, i32_w]
     rfl
    refine one_ (i := 6) (N := some 12) #[true, true, true, true, true, true, true, false] rfl rfl (by kernel_rfl) (by decide) (fun K hK => ?_)
    refine goes_ Try.func81 (by kernel_rfl) rfl #[.agg #[.int .i64 x.f0, .int .i64 x.f1, .int .i64 x.f2, .int .i64 x.f3], .int .i64 (l.length : Int)] (by rfl) rfl rfl (by simp only [List.map_toArray, List.map_cons, List.map_nil]; rfl) ?_
    with_reducible refine (spec_l03Node.calls kn x.f0 x.f1 x.f2 x.f3 (l.length : Int) true _ HK.out).mono ?_
    rintro e w4 ⟨rfl, hb4⟩
    refine ⟨_, rfl, ?_⟩
    have HG4 := Aside0.mk (blk_below (blk_drew HG3.out) hb4)
    have BK4 := Aside0.mk (blk_below (blk_drew BK3.out) hb4)
    have HB4 := Aside0.mk (below_step (below_drew1 HB3.out) hb4)
    clear hb4
    refine hK.out _ _ ⟨(blk_cell (HG4.out) 0).trans rfl, (blk_cell (BK4.out) 0).trans rfl, (blk_cell (BK4.out) 1).trans rfl, (blk_cell (BK4.out) 2).trans rfl, (blk_cell (BK4.out) 3).trans rfl⟩ (fun hHeld => ?_)
    clear hK K
    refine norm_ (a' := ?_) ?_ ?_
    rotate_left
    ·show Act.put _ (some 12) _ = _
     simp only [Act.put, List.setIfInBounds_toArray, List.set_cons_zero, List.set_cons_succ, i64_w, i32_w]
     rfl
    refine pure_ (i := 7) (N := some 13) (v := ?_) (a' := ?_) #[true, true, true, true, true, true, true, true] rfl rfl (by kernel_rfl) (fun _ _ _ h => h) (Or.inl ⟨by rfl, ?_⟩) ?_ ?_
    rotate_left
    ·intro w'
     go_simp
     with_reducible rfl
    rotate_left
    ·simp only [Act.put, List.setIfInBounds_toArray, List.set_cons_zero, List.set_cons_succ, i64_w, i32_w]
     rfl
    refine done_ (by kernel_rfl) ?_
    have hn0 : w4.cell? ⟨gb, 0, none⟩ = some (.int .i64 x.f0) := (blk_cell BK4.out 0).trans rfl
    have hn1 : w4.cell? ⟨gb, 1, none⟩ = some (.int .i64 x.f1) := (blk_cell BK4.out 1).trans rfl
    have hn2 : w4.cell? ⟨gb, 2, none⟩ = some (.int .i64 x.f2) := (blk_cell BK4.out 2).trans rfl
    have hn3 : w4.cell? ⟨gb, 3, none⟩ = some (.int .i64 x.f3) := (blk_cell BK4.out 3).trans rfl
    have hf0 := blk_frozen BK4.out 0
    have hf1 := blk_frozen BK4.out 1
    have hf2 := blk_frozen BK4.out 2
    have hf3 := blk_frozen BK4.out 3
    have hg0 : w4.cell? ⟨g, 0, none⟩ = some (.slice A l.length c) := (blk_cell HG4.out 0).trans rfl
    have hgf := blk_frozen HG4.out 0
    go_wp2
    refine start_ (n := 7) (S := fun w' => w'.cell? ⟨g, 0, none⟩ = some (.slice A l.length c) ∧ w'.cell? ⟨gb, 0, none⟩ = some (.int .i64 x.f0) ∧ w'.cell? ⟨gb, 1, none⟩ = some (.int .i64 x.f1) ∧ w'.cell? ⟨gb, 2, none⟩ = some (.int .i64 x.f2) ∧ w'.cell? ⟨gb, 3, none⟩ = some (.int .i64 x.f3)) (ds := []) #[false, false, false, false, false, false, false] (by kernel_rfl) rfl rfl ⟨(blk_cell (blk_drew HG4.out) 0).trans rfl, (blk_cell (blk_drew BK4.out) 0).trans rfl, (blk_cell (blk_drew BK4.out) 1).trans rfl, (blk_cell (blk_drew BK4.out) 2).trans rfl, (blk_cell (blk_drew BK4.out) 3).trans rfl⟩ (fun hHeld => ?_)
    refine pure_ (i := 0) (N := some 14) (v := ?_) (a' := ?_) #[true, false, false, false, false, false, false] rfl rfl (by kernel_rfl) (fun _ _ _ h => h) (Or.inl ⟨by rfl, ?_⟩) ?_ ?_
    rotate_left
    ·intro w'
     go_simp
     with_reducible rfl
    rotate_left
    ·simp only [Act.put, List.setIfInBounds_toArray, List.set_cons_zero, List.set_cons_succ, i64_w, i32_w]
     rfl
    refine pure_ (i := 1) (N := some 15) (v := ?_) (a' := ?_) #[true, true, false, false, false, false, false] rfl rfl (by kernel_rfl) (fun _ _ _ h => h) (Or.inl ⟨by rfl, ?_⟩) ?_ ?_
    rotate_left
    ·intro w'
     go_simp
     with_reducible rfl
    rotate_left
    ·simp only [Act.put, List.setIfInBounds_toArray, List.set_cons_zero, List.set_cons_succ, i64_w, i32_w]
     rfl
    refine pure_ (i := 2) (N := some 16) (v := ?_) (a' := ?_) #[true, true, true, false, false, false, false] rfl rfl (by kernel_rfl) (fun _ _ _ h => h) (Or.inl ⟨by rfl, ?_⟩) ?_ ?_
    rotate_left
    ·intro w'
     go_simp
     with_reducible rfl
    rotate_left
    ·simp only [Act.put, List.setIfInBounds_toArray, List.set_cons_zero, List.set_cons_succ, i64_w, i32_w]
     rfl
    refine take_ (i := 3) (N := some 17) (v := ?_) (a' := ?_) #[true, true, true, true, false, false, false] rfl rfl (by kernel_rfl) (fun _ _ _ h => h) (Or.inl ⟨by rfl, ?_⟩) hHeld ?_ ?_
    rotate_left
    ·rintro w' ⟨s0, s1, s2, s3, s4⟩
     go_simp
     with_reducible rfl
    rotate_left
    ·simp only [Act.put, List.setIfInBounds_toArray, List.set_cons_zero, List.set_cons_succ, i64_w, i32_w]
     rfl
    refine take_ (i := 4) (N := some 18) (v := ?_) (a' := ?_) #[true, true, true, true, true, false, false] rfl rfl (by kernel_rfl) (fun _ _ _ h => h) (Or.inl ⟨by rfl, ?_⟩) hHeld ?_ ?_
    rotate_left
    ·rintro w' ⟨s0, s1, s2, s3, s4⟩
     go_simp
     with_reducible rfl
    rotate_left
    ·simp only [Act.put, List.setIfInBounds_toArray, List.set_cons_zero, List.set_cons_succ, i64_w, i32_w]
     rfl
    refine one_ (i := 5) (N := some 19) #[true, true, true, true, true, true, false] rfl rfl (by kernel_rfl) (by decide) (fun K hK => ?_)
    refine goes_ Try.func82 (by kernel_rfl) rfl #[.slice A l.length c, .agg #[.int .i64 x.f0, .int .i64 x.f1, .int .i64 x.f2, .int .i64 x.f3]] (by rfl) rfl rfl (by simp only [List.map_toArray, List.map_cons, List.map_nil]; rfl) ?_
    with_reducible refine (spec_l03At.calls ka A c l x.f0 x.f1 x.f2 x.f3 (-1) _ (Kd.C_below HC.out (below_drew1 HB4.out)) HLC.out HK2.out).mono ?_
    rintro e w5 ⟨rfl, hb5⟩
    refine ⟨_, rfl, ?_⟩
    have HG5 := Aside0.mk (blk_below (blk_drew HG4.out) hb5)
    have BK5 := Aside0.mk (blk_below (blk_drew BK4.out) hb5)
    have HB5 := Aside0.mk (below_step (below_drew1 HB4.out) hb5)
    clear hb5
    refine hK.out _ _ ⟨(blk_cell (HG5.out) 0).trans rfl, (blk_cell (BK5.out) 0).trans rfl, (blk_cell (BK5.out) 1).trans rfl, (blk_cell (BK5.out) 2).trans rfl, (blk_cell (BK5.out) 3).trans rfl⟩ (fun hHeld => ?_)
    clear hK K
    refine norm_ (a' := ?_) ?_ ?_
    rotate_left
    ·show Act.put _ (some 19) _ = _
     simp only [Act.put, List.setIfInBounds_toArray, List.set_cons_zero, List.set_cons_succ, i64_w, i32_w]
     rfl
    refine pure_ (i := 6) (N := some 5) (v := ?_) (a' := ?_) #[true, true, true, true, true, true, true] rfl rfl (by kernel_rfl) (fun _ _ _ h => h) (Or.inl ⟨by rfl, ?_⟩) ?_ ?_
    rotate_left
    ·intro w'
     go_simp
     with_reducible rfl
    rotate_left
    ·simp only [Act.put, List.setIfInBounds_toArray, List.set_cons_zero, List.set_cons_succ, i64_w, i32_w]
     rfl
    refine done_ (by kernel_rfl) ?_
    have hn0 : w5.cell? ⟨gb, 0, none⟩ = some (.int .i64 x.f0) := (blk_cell BK5.out 0).trans rfl
    have hn1 : w5.cell? ⟨gb, 1, none⟩ = some (.int .i64 x.f1) := (blk_cell BK5.out 1).trans rfl
    have hn2 : w5.cell? ⟨gb, 2, none⟩ = some (.int .i64 x.f2) := (blk_cell BK5.out 2).trans rfl
    have hn3 : w5.cell? ⟨gb, 3, none⟩ = some (.int .i64 x.f3) := (blk_cell BK5.out 3).trans rfl
    have hf0 := blk_frozen BK5.out 0
    have hf1 := blk_frozen BK5.out 1
    have hf2 := blk_frozen BK5.out 2
    have hf3 := blk_frozen BK5.out 3
    have hg0 : w5.cell? ⟨g, 0, none⟩ = some (.slice A l.length c) := (blk_cell HG5.out 0).trans rfl
    have hgf := blk_frozen HG5.out 0
    go_wp2
    have HRw := Aside0.mk (Kd.R_below (Kd.R_elderB HR.out gb (by rw [GB3.out]; exact Nat.le_refl _)) HB5.out)
    have HS5 := Aside0.mk (below_size HB5.out)
    have HGB := Aside0.mk (show gb < w5.heap.size from blk_lt BK5.out)
    refine start_ (n := 11) (S := fun w' => w'.cell? ⟨g, 0, none⟩ = some (.slice A l.length c) ∧ w'.cell? ⟨gb, 0, none⟩ = some (.int .i64 x.f0) ∧ w'.cell? ⟨gb, 1, none⟩ = some (.int .i64 x.f1) ∧ w'.cell? ⟨gb, 2, none⟩ = some (.int .i64 x.f2) ∧ w'.cell? ⟨gb, 3, none⟩ = some (.int .i64 x.f3)) (ds := [10]) #[false, false, false, false, false, false, false, false, false, false, false] (by kernel_rfl) rfl rfl ⟨(blk_cell (blk_drew HG5.out) 0).trans rfl, (blk_cell (blk_drew BK5.out) 0).trans rfl, (blk_cell (blk_drew BK5.out) 1).trans rfl, (blk_cell (blk_drew BK5.out) 2).trans rfl, (blk_cell (blk_drew BK5.out) 3).trans rfl⟩ (fun hHeld => ?_)
    refine pure_ (i := 0) (N := some 31) (v := ?_) (a' := ?_) #[true, false, false, false, false, false, false, false, false, false, false] rfl rfl (by kernel_rfl) (fun _ _ _ h => h) (Or.inl ⟨by rfl, ?_⟩) ?_ ?_
    rotate_left
    ·intro w'
     go_simp
     with_reducible rfl
    rotate_left
    ·simp only [Act.put, List.setIfInBounds_toArray, List.set_cons_zero, List.set_cons_succ, i64_w, i32_w]
     rfl
    refine pure_ (i := 1) (N := some 32) (v := ?_) (a' := ?_) #[true, true, false, false, false, false, false, false, false, false, false] rfl rfl (by kernel_rfl) (fun _ _ _ h => h) (Or.inl ⟨by rfl, ?_⟩) ?_ ?_
    rotate_left
    ·intro w'
     go_simp
     with_reducible rfl
    rotate_left
    ·simp only [Act.put, List.setIfInBounds_toArray, List.set_cons_zero, List.set_cons_succ, i64_w, i32_w]
     rfl
    refine pure_ (i := 2) (N := some 33) (v := ?_) (a' := ?_) #[true, true, true, false, false, false, false, false, false, false, false] rfl rfl (by kernel_rfl) (fun _ _ _ h => h) (Or.inl ⟨by rfl, ?_⟩) ?_ ?_
    rotate_left
    ·intro w'
     go_simp
     with_reducible rfl
    rotate_left
    ·simp only [Act.put, List.setIfInBounds_toArray, List.set_cons_zero, List.set_cons_succ, i64_w, i32_w]
     rfl
    refine pure_ (i := 3) (N := some 34) (v := ?_) (a' := ?_) #[true, true, true, true, false, false, false, false, false, false, false] rfl rfl (by kernel_rfl) (fun _ _ _ h => h) (Or.inl ⟨by rfl, ?_⟩) ?_ ?_
    rotate_left
    ·intro w'
     go_simp
     with_reducible rfl
    rotate_left
    ·simp only [Act.put, List.setIfInBounds_toArray, List.set_cons_zero, List.set_cons_succ, i64_w, i32_w]
     rfl
    refine take_ (i := 4) (N := some 35) (v := ?_) (a' := ?_) #[true, true, true, true, true, false, false, false, false, false, false] rfl rfl (by kernel_rfl) (fun _ _ _ h => h) (Or.inl ⟨by rfl, ?_⟩) hHeld ?_ ?_
    rotate_left
    ·rintro w' ⟨s0, s1, s2, s3, s4⟩
     go_simp
     with_reducible rfl
    rotate_left
    ·simp only [Act.put, List.setIfInBounds_toArray, List.set_cons_zero, List.set_cons_succ, i64_w, i32_w]
     rfl
    refine take_ (i := 5) (N := some 36) (v := ?_) (a' := ?_) #[true, true, true, true, true, true, false, false, false, false, false] rfl rfl (by kernel_rfl) (fun _ _ _ h => h) (Or.inl ⟨by rfl, ?_⟩) hHeld ?_ ?_
    rotate_left
    ·rintro w' ⟨s0, s1, s2, s3, s4⟩
     go_simp
     with_reducible rfl
    rotate_left
    ·simp only [Act.put, List.setIfInBounds_toArray, List.set_cons_zero, List.set_cons_succ, i64_w, i32_w]
     rfl
    refine one_ (i := 6) (N := some 37) #[true, true, true, true, true, true, true, false, false, false, false] rfl rfl (by kernel_rfl) (by decide) (fun K hK => ?_)
    refine value_ (w1 := ?_) (v := ?_) (by rfl) rfl ?_ ?_
    rotate_left 2
    ·go_simp
     constructor
     ·rfl
     ·rfl
    refine hK.out _ _ ⟨(blk_cell (blk_alloc (blk_drew HG5.out) _) 0).trans rfl, (blk_cell (blk_alloc (blk_drew BK5.out) _) 0).trans rfl, (blk_cell (blk_alloc (blk_drew BK5.out) _) 1).trans rfl, (blk_cell (blk_alloc (blk_drew BK5.out) _) 2).trans rfl, (blk_cell (blk_alloc (blk_drew BK5.out) _) 3).trans rfl⟩ (fun hHeld => ?_)
    clear hK K
    refine norm_ (a' := ?_) ?_ ?_
    rotate_left
    ·show Act.put _ (some 37) _ = _
     simp only [Act.put, List.setIfInBounds_toArray, List.set_cons_zero, List.set_cons_succ, i64_w, i32_w]
     rfl
    refine one_ (i := 7) (N := some 38) #[true, true, true, true, true, true, true, true, false, false, false] rfl rfl (by kernel_rfl) (by decide) (fun K hK => ?_)
    refine Kd.R_append_step k34 (w0 := w) (W := w5.drew) base (by rfl) (.tmp 35) (.tmp 37) 24 34 (.agg #[.int .i64 0, .int .i64 0, .int .i64 0, .int .i64 0]) 32 rfl Try.underlying24 info34 rfl (by decide) (by decide) (.slice A l.length c) l x [.int .i64 x.f0, .int .i64 x.f1, .int .i64 x.f2, .int .i64 x.f3] (fun k => ok k ∧ k ≠ gb) (fun _ => False) rfl rfl (k34_mkM _ _ _ x) (fun _ h => h.elim) (fun k hk => ⟨HF.out k (Nat.le_trans HS5.out hk), fun e => Nat.lt_irrefl _ (Nat.lt_of_lt_of_le HGB.out (e ▸ hk))⟩) (Kd.R_drew HRw.out) ((below_drew1 HB5.out).mono HBS.out) (Nat.le_trans HBS.out HS5.out) (Nat.le_trans (Nat.mul_le_mul_right 32 (Nat.lt_of_not_le H3.out)) (by decide)) ?_
    intro v1 w7 ho hb hg hat
    have hne : ∀ k, (Value.slice A l.length c).ownBlock = some k → ok k ∧ k ≠ gb := HRw.out.1
    have HG7 := Aside0.mk (blk_grown (blk_drew HG5.out) hg (fun e => HNO.out (hne _ e.symm).1))
    have BK7 := Aside0.mk (blk_grown (blk_drew BK5.out) hg (fun e => (hne _ e.symm).2 rfl))
    have HK7 := Aside0.mk (Kept.of_grown (S := Mine g ok) hg (Kept.drew (Kept.of_below HB5.out _)) (fun k hk => .inl (.inr (hne k hk).1)))
    have HB7 := Aside0.mk hb
    obtain ⟨A1, c1, rfl, hlc1, _⟩ := Kd.R_reads ho
    have HO7 := Aside0.mk ho
    have hg07 : w7.cell? ⟨g, 0, none⟩ = some (.slice A l.length c) := (blk_cell HG7.out 0).trans rfl
    have hgf7 := blk_frozen HG7.out 0
    clear ho hb hg hat hne hlc1
    refine hK.out _ _ ⟨(blk_cell HG7.out 0).trans rfl, (blk_cell BK7.out 0).trans rfl, (blk_cell BK7.out 1).trans rfl, (blk_cell BK7.out 2).trans rfl, (blk_cell BK7.out 3).trans rfl⟩ (fun hHeld => ?_)
    clear hK K
    refine norm_ (a' := ?_) ?_ ?_
    rotate_left
    ·show Act.put _ (some 38) _ = _
     simp only [Act.put, List.setIfInBounds_toArray, List.set_cons_zero, List.set_cons_succ, i64_w, i32_w]
     rfl
    refine pure_ (i := 8) (N := some 39) (v := ?_) (a' := ?_) #[true, true, true, true, true, true, true, true, true, false, false] rfl rfl (by kernel_rfl) (fun _ _ _ h => h) (Or.inl ⟨by rfl, ?_⟩) ?_ ?_
    rotate_left
    ·intro w'
     go_simp
     with_reducible rfl
    rotate_left
    ·simp only [Act.put, List.setIfInBounds_toArray, List.set_cons_zero, List.set_cons_succ, i64_w, i32_w]
     rfl
    refine pure_ (i := 9) (N := some 40) (v := ?_) (a' := ?_) #[true, true, true, true, true, true, true, true, true, true, false] rfl rfl (by kernel_rfl) (fun _ _ _ h => h) (Or.inl ⟨by rfl, ?_⟩) ?_ ?_
    rotate_left
    ·intro w'
     go_simp
     with_reducible rfl
    rotate_left
    ·simp only [Act.put, List.setIfInBounds_toArray, List.set_cons_zero, List.set_cons_succ, i64_w, i32_w]
     rfl
    refine last_ (i := 10) (N := none) #[true, true, true, true, true, true, true, true, true, true, true] rfl rfl (by kernel_rfl) (by decide) (fun K hK => ?_)
    refine skip_ (w1 := ?_) (by rfl) rfl ?_ ?_
    rotate_left
    ·go_simp
     rfl
    refine hK.out _ _ ?_
    clear hK K
    refine done_ (by kernel_rfl) ?_
    obtain ⟨w8, hw8⟩ : ∃ w8, w7.setCell ⟨g, 0, none⟩ (.slice A1 (l.length + 1) c1) = w8 := ⟨_, rfl⟩
    rw [hw8]
    have HG8 := Aside0.mk (show w8.heap[g]? = some (.cells #[.slice A1 (l.length + 1) c1] 26 (0, 0)) by rw [← hw8]; exact blk_put HG7.out 0 _ rfl)
    have HB8 := Aside0.mk (show Below base w w8 by rw [← hw8]; exact HB7.out.setCell HBG.out _)
    have HK8 := Aside0.mk (show Kept w w8 (Mine g ok) by rw [← hw8]; exact Kept.setCell HK7.out (.inl (.inl rfl)) _)
    have HO8 := Aside0.mk (show Kd.R k34 34 w8 base (fun k => ok k ∧ k ≠ gb) (.slice A1 (l ++ [x]).length c1) (l ++ [x]) by rw [← hw8]; exact Kd.R_far HO7.out (fun k hk e => HNO.out (by have h1 := hk.1; rwa [show k = g from e] at h1)) _)
    clear hw8
    have hg08 : w8.cell? ⟨g, 0, none⟩ = some (.slice A1 (l.length + 1) c1) := (blk_cell HG8.out 0).trans rfl
    have hgf8 := blk_frozen HG8.out 0
    have hlt8 : l.length ≤ 1048576 := HL.out
    go_wp2
    go_ret
    rw [HE.out]
    refine ⟨by first | rfl | (congr 2; omega) | (simp; omega), ⟨_, HG8.out, HBG.out, HNO.out, ?_⟩, HB8.out, HK8.out⟩
    have hO := Kd.R_mono HO8.out (fun _ hk => hk.1)
    rw [List.length_append] at hO
    exact hO
  ·have he : putN l x = (l, atV l x) := by unfold putN; rw [if_pos hb, if_pos ha]
   have HE := Aside0.mk he
   clear he hb
   generalize atV l x = q at ha ha1 HE HK2
   have hq0 : decide (0 ≤ q) = true := decide_eq_true ha
   clear ha ha1
   go_enter Try.func113, Try.ntmps113
   go_wp2_with (first | ((with_reducible refine gate_dst (N := 3) rfl ?_); refine box_event ?hg (N := 3) ?hd (cs := #[.int .i64 x.f0, .int .i64 x.f1, .int .i64 x.f2, .int .i64 x.f3]) (t := 34) ?hr ?_; (case hd => rfl); (case hg => rfl); (case hr => first | (go_simp; done) | (go_simp; rfl)); intro gb hg1 w3 hbox hb; have BK3 := Aside0.mk hbox; have HB3 := Aside0.mk hb; have GB3 := Aside0.mk hg1; clear hg1 hbox hb))
   have HG3 := Aside0.mk (blk_below HG0.out HB3.out)
   refine start_ (n := 8) (S := fun w' => w'.cell? ⟨g, 0, none⟩ = some (.slice A l.length c) ∧ w'.cell? ⟨gb, 0, none⟩ = some (.int .i64 x.f0) ∧ w'.cell? ⟨gb, 1, none⟩ = some (.int .i64 x.f1) ∧ w'.cell? ⟨gb, 2, none⟩ = some (.int .i64 x.f2) ∧ w'.cell? ⟨gb, 3, none⟩ = some (.int .i64 x.f3)) (ds := []) #[false, false, false, false, false, false, false, false] (by kernel_rfl) rfl rfl ⟨(blk_cell (blk_drew HG3.out) 0).trans rfl, (blk_cell (blk_drew BK3.out) 0).trans rfl, (blk_cell (blk_drew BK3.out) 1).trans rfl, (blk_cell (blk_drew BK3.out) 2).trans rfl, (blk_cell (blk_drew BK3.out) 3).trans rfl⟩ (fun hHeld => ?_)
   refine pure_ (i := 1) (N := some 7) (v := ?_) (a' := ?_) #[false, true, false, false, false, false, false, false] rfl rfl (by kernel_rfl) (fun _ _ _ h => h) (Or.inl ⟨by rfl, ?_⟩) ?_ ?_
   rotate_left
   ·intro w'
    go_simp
    with_reducible rfl
   rotate_left
   ·simp only [Act.put, List.setIfInBounds_toArray, List.set_cons_zero, List.set_cons_succ, i64_w, i32_w]
    rfl
   refine pure_ (i := 2) (N := some 8) (v := ?_) (a' := ?_) #[false, true, true, false, false, false, false, false] rfl rfl (by kernel_rfl) (fun _ _ _ h => h) (Or.inl ⟨by rfl, ?_⟩) ?_ ?_
   rotate_left
   ·intro w'
    go_simp
    with_reducible rfl
   rotate_left
   ·simp only [Act.put, List.setIfInBounds_toArray, List.set_cons_zero, List.set_cons_succ, i64_w, i32_w]
    rfl
   refine pure_ (i := 3) (N := some 9) (v := ?_) (a' := ?_) #[false, true, true, true, false, false, false, false] rfl rfl (by kernel_rfl) (fun _ _ _ h => h) (Or.inl ⟨by rfl, ?_⟩) ?_ ?_
   rotate_left
   ·intro w'
    go_simp
    with_reducible rfl
   rotate_left
   ·simp only [Act.put, List.setIfInBounds_toArray, List.set_cons_zero, List.set_cons_succ, i64_w, i32_w]
    rfl
   refine take_ (i := 0) (N := some 6) (v := ?_) (a' := ?_) #[true, true, true, true, false, false, false, false] rfl rfl (by kernel_rfl) (fun _ _ _ h => h) (Or.inl ⟨by rfl, ?_⟩) hHeld ?_ ?_
   rotate_left
   ·rintro w' ⟨s0, s1, s2, s3, s4⟩
    go_simp
    with_reducible rfl
   rotate_left
   ·simp only [Act.put, List.setIfInBounds_toArray, List.set_cons_zero, List.set_cons_succ, i64_w, i32_w]
    rfl
   refine take_ (i := 4) (N := some 10) (v := ?_) (a' := ?_) #[true, true, true, true, true, false, false, false] rfl rfl (by kernel_rfl) (fun _ _ _ h => h) (Or.inl ⟨by rfl, ?_⟩) hHeld ?_ ?_
   rotate_left
   ·rintro w' ⟨s0, s1, s2, s3, s4⟩
    go_simp
    with_reducible rfl
   rotate_left
   ·simp only [Act.put, List.setIfInBounds_toArray, List.set_cons_zero, List.set_cons_succ, i64_w, i32_w]
    rfl
   refine pure_ (i := 5) (N := some 11) (v := ?_) (a' := ?_) #[true, true, true, true, true, true, false, false] rfl rfl (by kernel_rfl) (fun _ _ _ h => h) (Or.inl ⟨by rfl, ?_⟩) ?_ ?_
   rotate_left
   ·intro w'
    go_simp
    with_reducible rfl
   rotate_left
   ·simp only [Act.put, List.setIfInBounds_toArray, List.set_cons_zero, List.set_cons_succ, i64_w, i32_w]
    rfl
   refine one_ (i := 6) (N := some 12) #[true, true, true, true, true, true, true, false] rfl rfl (by kernel_rfl) (by decide) (fun K hK => ?_)
   refine goes_ Try.func81 (by kernel_rfl) rfl #[.agg #[.int .i64 x.f0, .int .i64 x.f1, .int .i64 x.f2, .int .i64 x.f3], .int .i64 (l.length : Int)] (by rfl) rfl rfl (by simp only [List.map_toArray, List.map_cons, List.map_nil]; rfl) ?_
   with_reducible refine (spec_l03Node.calls kn x.f0 x.f1 x.f2 x.f3 (l.length : Int) true _ HK.out).mono ?_
   rintro e w4 ⟨rfl, hb4⟩
   refine ⟨_, rfl, ?_⟩
   have HG4 := Aside0.mk (blk_below (blk_drew HG3.out) hb4)
   have BK4 := Aside0.mk (blk_below (blk_drew BK3.out) hb4)
   have HB4 := Aside0.mk (below_step (below_drew1 HB3.out) hb4)
   clear hb4
   refine hK.out _ _ ⟨(blk_cell (HG4.out) 0).trans rfl, (blk_cell (BK4.out) 0).trans rfl, (blk_cell (BK4.out) 1).trans rfl, (blk_cell (BK4.out) 2).trans rfl, (blk_cell (BK4.out) 3).trans rfl⟩ (fun hHeld => ?_)
   clear hK K
   refine norm_ (a' := ?_) ?_ ?_
   rotate_left
   ·show Act.put _ (some 12) _ = _
    simp only [Act.put, List.setIfInBounds_toArray, List.set_cons_zero, List.set_cons_succ, i64_w, i32_w]
    rfl
   refine pure_ (i := 7) (N := some 13) (v := ?_) (a' := ?_) #[true, true, true, true, true, true, true, true] rfl rfl (by kernel_rfl) (fun _ _ _ h => h) (Or.inl ⟨by rfl, ?_⟩) ?_ ?_
   rotate_left
   ·intro w'
    go_simp
    with_reducible rfl
   rotate_left
   ·simp only [Act.put, List.setIfInBounds_toArray, List.set_cons_zero, List.set_cons_succ, i64_w, i32_w]
    rfl
   refine done_ (by kernel_rfl) ?_
   have hn0 : w4.cell? ⟨gb, 0, none⟩ = some (.int .i64 x.f0) := (blk_cell BK4.out 0).trans rfl
   have hn1 : w4.cell? ⟨gb, 1, none⟩ = some (.int .i64 x.f1) := (blk_cell BK4.out 1).trans rfl
   have hn2 : w4.cell? ⟨gb, 2, none⟩ = some (.int .i64 x.f2) := (blk_cell BK4.out 2).trans rfl
   have hn3 : w4.cell? ⟨gb, 3, none⟩ = some (.int .i64 x.f3) := (blk_cell BK4.out 3).trans rfl
   have hf0 := blk_frozen BK4.out 0
   have hf1 := blk_frozen BK4.out 1
   have hf2 := blk_frozen BK4.out 2
   have hf3 := blk_frozen BK4.out 3
   have hg0 : w4.cell? ⟨g, 0, none⟩ = some (.slice A l.length c) := (blk_cell HG4.out 0).trans rfl
   have hgf := blk_frozen HG4.out 0
   go_wp2
   refine start_ (n := 7) (S := fun w' => w'.cell? ⟨g, 0, none⟩ = some (.slice A l.length c) ∧ w'.cell? ⟨gb, 0, none⟩ = some (.int .i64 x.f0) ∧ w'.cell? ⟨gb, 1, none⟩ = some (.int .i64 x.f1) ∧ w'.cell? ⟨gb, 2, none⟩ = some (.int .i64 x.f2) ∧ w'.cell? ⟨gb, 3, none⟩ = some (.int .i64 x.f3)) (ds := []) #[false, false, false, false, false, false, false] (by kernel_rfl) rfl rfl ⟨(blk_cell (blk_drew HG4.out) 0).trans rfl, (blk_cell (blk_drew BK4.out) 0).trans rfl, (blk_cell (blk_drew BK4.out) 1).trans rfl, (blk_cell (blk_drew BK4.out) 2).trans rfl, (blk_cell (blk_drew BK4.out) 3).trans rfl⟩ (fun hHeld => ?_)
   refine pure_ (i := 0) (N := some 14) (v := ?_) (a' := ?_) #[true, false, false, false, false, false, false] rfl rfl (by kernel_rfl) (fun _ _ _ h => h) (Or.inl ⟨by rfl, ?_⟩) ?_ ?_
   rotate_left
   ·intro w'
    go_simp
    with_reducible rfl
   rotate_left
   ·simp only [Act.put, List.setIfInBounds_toArray, List.set_cons_zero, List.set_cons_succ, i64_w, i32_w]
    rfl
   refine pure_ (i := 1) (N := some 15) (v := ?_) (a' := ?_) #[true, true, false, false, false, false, false] rfl rfl (by kernel_rfl) (fun _ _ _ h => h) (Or.inl ⟨by rfl, ?_⟩) ?_ ?_
   rotate_left
   ·intro w'
    go_simp
    with_reducible rfl
   rotate_left
   ·simp only [Act.put, List.setIfInBounds_toArray, List.set_cons_zero, List.set_cons_succ, i64_w, i32_w]
    rfl
   refine pure_ (i := 2) (N := some 16) (v := ?_) (a' := ?_) #[true, true, true, false, false, false, false] rfl rfl (by kernel_rfl) (fun _ _ _ h => h) (Or.inl ⟨by rfl, ?_⟩) ?_ ?_
   rotate_left
   ·intro w'
    go_simp
    with_reducible rfl
   rotate_left
   ·simp only [Act.put, List.setIfInBounds_toArray, List.set_cons_zero, List.set_cons_succ, i64_w, i32_w]
    rfl
   refine take_ (i := 3) (N := some 17) (v := ?_) (a' := ?_) #[true, true, true, true, false, false, false] rfl rfl (by kernel_rfl) (fun _ _ _ h => h) (Or.inl ⟨by rfl, ?_⟩) hHeld ?_ ?_
   rotate_left
   ·rintro w' ⟨s0, s1, s2, s3, s4⟩
    go_simp
    with_reducible rfl
   rotate_left
   ·simp only [Act.put, List.setIfInBounds_toArray, List.set_cons_zero, List.set_cons_succ, i64_w, i32_w]
    rfl
   refine take_ (i := 4) (N := some 18) (v := ?_) (a' := ?_) #[true, true, true, true, true, false, false] rfl rfl (by kernel_rfl) (fun _ _ _ h => h) (Or.inl ⟨by rfl, ?_⟩) hHeld ?_ ?_
   rotate_left
   ·rintro w' ⟨s0, s1, s2, s3, s4⟩
    go_simp
    with_reducible rfl
   rotate_left
   ·simp only [Act.put, List.setIfInBounds_toArray, List.set_cons_zero, List.set_cons_succ, i64_w, i32_w]
    rfl
   refine one_ (i := 5) (N := some 19) #[true, true, true, true, true, true, false] rfl rfl (by kernel_rfl) (by decide) (fun K hK => ?_)
   refine goes_ Try.func82 (by kernel_rfl) rfl #[.slice A l.length c, .agg #[.int .i64 x.f0, .int .i64 x.f1, .int .i64 x.f2, .int .i64 x.f3]] (by rfl) rfl rfl (by simp only [List.map_toArray, List.map_cons, List.map_nil]; rfl) ?_
   with_reducible refine (spec_l03At.calls ka A c l x.f0 x.f1 x.f2 x.f3 q _ (Kd.C_below HC.out (below_drew1 HB4.out)) HLC.out HK2.out).mono ?_
   rintro e w5 ⟨rfl, hb5⟩
   refine ⟨_, rfl, ?_⟩
   have HG5 := Aside0.mk (blk_below (blk_drew HG4.out) hb5)
   have BK5 := Aside0.mk (blk_below (blk_drew BK4.out) hb5)
   have HB5 := Aside0.mk (below_step (below_drew1 HB4.out) hb5)
   clear hb5
   refine hK.out _ _ ⟨(blk_cell (HG5.out) 0).trans rfl, (blk_cell (BK5.out) 0).trans rfl, (blk_cell (BK5.out) 1).trans rfl, (blk_cell (BK5.out) 2).trans rfl, (blk_cell (BK5.out) 3).trans rfl⟩ (fun hHeld => ?_)
   clear hK K
   refine norm_ (a' := ?_) ?_ ?_
   rotate_left
   ·show Act.put _ (some 19) _ = _
    simp only [Act.put, List.setIfInBounds_toArray, List.set_cons_zero, List.set_cons_succ, i64_w, i32_w]
    rfl
   refine pure_ (i := 6) (N := some 5) (v := ?_) (a' := ?_) #[true, true, true, true, true, true, true] rfl rfl (by kernel_rfl) (fun _ _ _ h => h) (Or.inl ⟨by rfl, ?_⟩) ?_ ?_
   rotate_left
   ·intro w'
    go_simp
    with_reducible rfl
   rotate_left
   ·simp only [Act.put, List.setIfInBounds_toArray, List.set_cons_zero, List.set_cons_succ, i64_w, i32_w]
    rfl
   refine done_ (by kernel_rfl) ?_
   have hn0 : w5.cell? ⟨gb, 0, none⟩ = some (.int .i64 x.f0) := (blk_cell BK5.out 0).trans rfl
   have hn1 : w5.cell? ⟨gb, 1, none⟩ = some (.int .i64 x.f1) := (blk_cell BK5.out 1).trans rfl
   have hn2 : w5.cell? ⟨gb, 2, none⟩ = some (.int .i64 x.f2) := (blk_cell BK5.out 2).trans rfl
   have hn3 : w5.cell? ⟨gb, 3, none⟩ = some (.int .i64 x.f3) := (blk_cell BK5.out 3).trans rfl
   have hf0 := blk_frozen BK5.out 0
   have hf1 := blk_frozen BK5.out 1
   have hf2 := blk_frozen BK5.out 2
   have hf3 := blk_frozen BK5.out 3
   have hg0 : w5.cell? ⟨g, 0, none⟩ = some (.slice A l.length c) := (blk_cell HG5.out 0).trans rfl
   have hgf := blk_frozen HG5.out 0
   go_wp2
   go_ret
   rw [HE.out]
   exact ⟨rfl, ⟨_, HG5.out, HBG.out, HNO.out, Kd.R_below HR.out HB5.out⟩, HB5.out.mono HBS.out, Kept.of_below HB5.out _⟩
 ·have hb0 : nodeB x.f0 x.f1 x.f2 x.f3 (l.length : Int) = false := by simpa using hb
  rw [hb0] at HK
  have he : putN l x = (l, -1) := by unfold putN; rw [if_neg hb]
  have HE := Aside0.mk he
  clear he hb hb0 hbl
  go_enter Try.func113, Try.ntmps113
  go_wp2_with (first | ((with_reducible refine gate_dst (N := 3) rfl ?_); refine box_event ?hg (N := 3) ?hd (cs := #[.int .i64 x.f0, .int .i64 x.f1, .int .i64 x.f2, .int .i64 x.f3]) (t := 34) ?hr ?_; (case hd => rfl); (case hg => rfl); (case hr => first | (go_simp; done) | (go_simp; rfl)); intro gb hg1 w3 hbox hb; have BK3 := Aside0.mk hbox; have HB3 := Aside0.mk hb; have GB3 := Aside0.mk hg1; clear hg1 hbox hb))
  have HG3 := Aside0.mk (blk_below HG0.out HB3.out)
  refine start_ (n := 8) (S := fun w' => w'.cell? ⟨g, 0, none⟩ = some (.slice A l.length c) ∧ w'.cell? ⟨gb, 0, none⟩ = some (.int .i64 x.f0) ∧ w'.cell? ⟨gb, 1, none⟩ = some (.int .i64 x.f1) ∧ w'.cell? ⟨gb, 2, none⟩ = some (.int .i64 x.f2) ∧ w'.cell? ⟨gb, 3, none⟩ = some (.int .i64 x.f3)) (ds := []) #[false, false, false, false, false, false, false, false] (by kernel_rfl) rfl rfl ⟨(blk_cell (blk_drew HG3.out) 0).trans rfl, (blk_cell (blk_drew BK3.out) 0).trans rfl, (blk_cell (blk_drew BK3.out) 1).trans rfl, (blk_cell (blk_drew BK3.out) 2).trans rfl, (blk_cell (blk_drew BK3.out) 3).trans rfl⟩ (fun hHeld => ?_)
  refine pure_ (i := 1) (N := some 7) (v := ?_) (a' := ?_) #[false, true, false, false, false, false, false, false] rfl rfl (by kernel_rfl) (fun _ _ _ h => h) (Or.inl ⟨by rfl, ?_⟩) ?_ ?_
  rotate_left
  ·intro w'
   go_simp
   with_reducible rfl
  rotate_left
  ·simp only [Act.put, List.setIfInBounds_toArray, List.set_cons_zero, List.set_cons_succ, i64_w, i32_w]
   rfl
  refine pure_ (i := 2) (N := some 8) (v := ?_) (a' := ?_) #[false, true, true, false, false, false, false, false] rfl rfl (by kernel_rfl) (fun _ _ _ h => h) (Or.inl ⟨by rfl, ?_⟩) ?_ ?_
  rotate_left
  ·intro w'
   go_simp
   with_reducible rfl
  rotate_left
  ·simp only [Act.put, List.setIfInBounds_toArray, List.set_cons_zero, List.set_cons_succ, i64_w, i32_w]
   rfl
  refine pure_ (i := 3) (N := some 9) (v := ?_) (a' := ?_) #[false, true, true, true, false, false, false, false] rfl rfl (by kernel_rfl) (fun _ _ _ h => h) (Or.inl ⟨by rfl, ?_⟩) ?_ ?_
  rotate_left
  ·intro w'
   go_simp
   with_reducible rfl
  rotate_left
  ·simp only [Act.put, List.setIfInBounds_toArray, List.set_cons_zero, List.set_cons_succ, i64_w, i32_w]
   rfl
  refine take_ (i := 0) (N := some 6) (v := ?_) (a' := ?_) #[true, true, true, true, false, false, false, false] rfl rfl (by kernel_rfl) (fun _ _ _ h => h) (Or.inl ⟨by rfl, ?_⟩) hHeld ?_ ?_
  rotate_left
  ·rintro w' ⟨s0, s1, s2, s3, s4⟩
   go_simp
   with_reducible rfl
  rotate_left
  ·simp only [Act.put, List.setIfInBounds_toArray, List.set_cons_zero, List.set_cons_succ, i64_w, i32_w]
   rfl
  refine take_ (i := 4) (N := some 10) (v := ?_) (a' := ?_) #[true, true, true, true, true, false, false, false] rfl rfl (by kernel_rfl) (fun _ _ _ h => h) (Or.inl ⟨by rfl, ?_⟩) hHeld ?_ ?_
  rotate_left
  ·rintro w' ⟨s0, s1, s2, s3, s4⟩
   go_simp
   with_reducible rfl
  rotate_left
  ·simp only [Act.put, List.setIfInBounds_toArray, List.set_cons_zero, List.set_cons_succ, i64_w, i32_w]
   rfl
  refine pure_ (i := 5) (N := some 11) (v := ?_) (a' := ?_) #[true, true, true, true, true, true, false, false] rfl rfl (by kernel_rfl) (fun _ _ _ h => h) (Or.inl ⟨by rfl, ?_⟩) ?_ ?_
  rotate_left
  ·intro w'
   go_simp
   with_reducible rfl
  rotate_left
  ·simp only [Act.put, List.setIfInBounds_toArray, List.set_cons_zero, List.set_cons_succ, i64_w, i32_w]
   rfl
  refine one_ (i := 6) (N := some 12) #[true, true, true, true, true, true, true, false] rfl rfl (by kernel_rfl) (by decide) (fun K hK => ?_)
  refine goes_ Try.func81 (by kernel_rfl) rfl #[.agg #[.int .i64 x.f0, .int .i64 x.f1, .int .i64 x.f2, .int .i64 x.f3], .int .i64 (l.length : Int)] (by rfl) rfl rfl (by simp only [List.map_toArray, List.map_cons, List.map_nil]; rfl) ?_
  with_reducible refine (spec_l03Node.calls kn x.f0 x.f1 x.f2 x.f3 (l.length : Int) false _ HK.out).mono ?_
  rintro e w4 ⟨rfl, hb4⟩
  refine ⟨_, rfl, ?_⟩
  have HG4 := Aside0.mk (blk_below (blk_drew HG3.out) hb4)
  have BK4 := Aside0.mk (blk_below (blk_drew BK3.out) hb4)
  have HB4 := Aside0.mk (below_step (below_drew1 HB3.out) hb4)
  clear hb4
  refine hK.out _ _ ⟨(blk_cell (HG4.out) 0).trans rfl, (blk_cell (BK4.out) 0).trans rfl, (blk_cell (BK4.out) 1).trans rfl, (blk_cell (BK4.out) 2).trans rfl, (blk_cell (BK4.out) 3).trans rfl⟩ (fun hHeld => ?_)
  clear hK K
  refine norm_ (a' := ?_) ?_ ?_
  rotate_left
  ·show Act.put _ (some 12) _ = _
   simp only [Act.put, List.setIfInBounds_toArray, List.set_cons_zero, List.set_cons_succ, i64_w, i32_w]
   rfl
  refine pure_ (i := 7) (N := some 13) (v := ?_) (a' := ?_) #[true, true, true, true, true, true, true, true] rfl rfl (by kernel_rfl) (fun _ _ _ h => h) (Or.inl ⟨by rfl, ?_⟩) ?_ ?_
  rotate_left
  ·intro w'
   go_simp
   with_reducible rfl
  rotate_left
  ·simp only [Act.put, List.setIfInBounds_toArray, List.set_cons_zero, List.set_cons_succ, i64_w, i32_w]
   rfl
  refine done_ (by kernel_rfl) ?_
  have hn0 : w4.cell? ⟨gb, 0, none⟩ = some (.int .i64 x.f0) := (blk_cell BK4.out 0).trans rfl
  have hn1 : w4.cell? ⟨gb, 1, none⟩ = some (.int .i64 x.f1) := (blk_cell BK4.out 1).trans rfl
  have hn2 : w4.cell? ⟨gb, 2, none⟩ = some (.int .i64 x.f2) := (blk_cell BK4.out 2).trans rfl
  have hn3 : w4.cell? ⟨gb, 3, none⟩ = some (.int .i64 x.f3) := (blk_cell BK4.out 3).trans rfl
  have hf0 := blk_frozen BK4.out 0
  have hf1 := blk_frozen BK4.out 1
  have hf2 := blk_frozen BK4.out 2
  have hf3 := blk_frozen BK4.out 3
  have hg0 : w4.cell? ⟨g, 0, none⟩ = some (.slice A l.length c) := (blk_cell HG4.out 0).trans rfl
  have hgf := blk_frozen HG4.out 0
  go_wp2
  go_ret
  rw [HE.out]
  exact ⟨rfl, ⟨_, HG4.out, HBG.out, HNO.out, Kd.R_below HR.out HB4.out⟩, HB4.out.mono HBS.out, Kept.of_below HB4.out _⟩

/-! what l03Put wants and leaves, in one word -/
def ArS (w : World) (base g : Nat) (ok : Nat → Prop) (l : List S34) : Prop := ArAt w base g ok l ∧ (∀ k, w.heap.size ≤ k → ok k) ∧ l.length ≤ 1048576
theorem ArAt.size {w : World} {base g : Nat} {ok : Nat → Prop} {l : List S34} (h : ArAt w base g ok l) : base ≤ g ∧ g < w.heap.size := by
 obtain ⟨v, h1, h2, _, _⟩ := h
 exact ⟨h2, blk_lt h1⟩
theorem ArS.keep {w w1 : World} {base g : Nat} {ok : Nat → Prop} {l : List S34} (h : ArS w base g ok l) (hb : Below w.heap.size w w1) : ArS w1 base g ok l :=
  ⟨h.1.keep hb, fun k hk => h.2.1 k (Nat.le_trans hb.size hk), h.2.2⟩
def ArPost (w : World) (base g : Nat) (ok : Nat → Prop) (r : List S34 × Int) (e : Ending) (w' : World) : Prop := e = .returned (.int .i64 r.2) ∧ ArS w' base g ok r.1 ∧ Below base w w' ∧ Kept w w' (Mine g ok)
theorem putN_len {l : List S34} {x : S34} (h : l.length ≤ 1048576) : (putN l x).1.length ≤ 1048576 := by
 rcases putN_cases l x with ⟨h1, _⟩ | ⟨_, _, ⟨h1, _⟩ | ⟨_, h2, h1, _⟩⟩
 ·rw [h1]; exact h
 ·rw [h1]; exact h
 ·rw [h1, List.length_append, List.length_singleton]; omega
theorem spec_put (l : List S34) (x : S34) (w : World) (base g : Nat) (ok : Nat → Prop) (h : ArS w base g ok l) :
  Calls Try.prog 113 #[.pointer (some ⟨g, 0, none⟩), .agg #[.int .i64 x.f0, .int .i64 x.f1, .int .i64 x.f2, .int .i64 x.f3]] w (ArPost w base g ok (putN l x)) := by
 have hs := h.1.size
 refine (spec_l03Put_at l x w base g ok h.1 (by omega) h.2.1 h.2.2).mono ?_
 rintro e w' ⟨he, hA, hb, hk⟩
 exact ⟨he, ⟨hA, fun k hk' => h.2.1 k (Nat.le_trans hb.size hk'), putN_len h.2.2⟩, hb, hk⟩
theorem ArPost.trans {w w1 w2 : World} {base g : Nat} {ok : Nat → Prop} {r : List S34 × Int} {e : Ending} (hb : Below base w w1) (hk : Kept w w1 (Mine g ok)) (h : ArPost w1 base g ok r e w2) : ArPost w base g ok r e w2 :=
  ⟨h.1, h.2.1, hb.trans h.2.2.1, hk.then_ h.2.2.2 (fun _ h => .inl h)⟩
theorem spec_atom (l : List S34) (n : Int) (w : World) (base g : Nat) (ok : Nat → Prop) (h : ArS w base g ok l) :
  Calls Try.prog 97 #[.pointer (some ⟨g, 0, none⟩), .int .i64 n] w (ArPost w base g ok (putN l ⟨1, n, 0, 0⟩)) := by
 have HA := Aside0.mk h
 clear h
 go_enter Try.func97, Try.ntmps97
 go_wp2_with (go_at_call 113; refine (spec_put l ⟨1, n, 0, 0⟩ _ base g ok HA.out).mono ?_; rintro e w' ⟨rfl, hA, hb, hk⟩)
 go_ret
 exact ⟨rfl, hA, hb, hk⟩

/-! an arena that is drawn -/
def arenaBody (c : List Int) (ci ch : Int) (ns : List S34) : Option (List S34 × Int × Int) :=
  (if ns.length < 2 then some (true, ci, ch) else spec_l01Once.f c ci ch 3).bind fun o =>
    if o.1 = true then (spec_l01PickInt.f c o.2.1 o.2.2 ([0, 1, 5, 1000, 5000, 10000, 10001] : List Int)).bind fun p => some ((putN ns ⟨1, p.1, 0, 0⟩).1, p.2.1, p.2.2)
    else (spec_l01Below.f c o.2.1 o.2.2 8).bind fun q => if 0 ≤ q.1 ∧ q.1 ≤ 7 then (spec_l01Below.f c q.2.1 q.2.2 (ns.length : Int)).bind fun x => (spec_l01Below.f c x.2.1 x.2.2 (ns.length : Int)).bind fun y =>
      some ((putN ns ⟨2 + q.1, 0, x.1, if 2 + q.1 = 3 ∨ 2 + q.1 = 6 then 0 else y.1⟩).1, y.2.1, y.2.2) else none
def arenaLoop : Nat → List Int → Int → Int → Int → List S34 → Option (List S34 × Int × Int)
  | 0, _, _, _, _, _ => none
  | k + 1, c, ci, ch, j, ns => (spec_l01Below.f c ci ch 10).bind fun b => if 0 ≤ b.1 ∧ b.1 ≤ 9 then (if j < 3 + b.1 then (arenaBody c b.2.1 b.2.2 ns).bind fun s => arenaLoop k c s.2.1 s.2.2 (j + 1) s.1 else some (ns, b.2.1, b.2.2)) else none
/-- the world in the loop -/
def AInv (w0 w wr : World) (gc gr ga B : Nat) (c : List Int) (ns : List S34) (ci ch : Int) : Prop :=
  IsS119 w0 wr gc c ci ch ∧ ArS wr w.heap.size ga (fun k => B ≤ k) ns ∧ wr.heap[gr]? = some (.cells #[.slice none 0 0] 26 (0, 0)) ∧ Below w0.heap.size w0 wr ∧ KeepBut w wr gc none
def AFix (w0 w : World) (gc gr ga B : Nat) : Prop := w0.heap.size ≤ w.heap.size ∧ gc < w.heap.size ∧ w.heap.size ≤ gr ∧ w.heap.size ≤ ga ∧ gr < B ∧ ga < B ∧ gr ≠ ga
theorem AInv.draw {w0 w W W1 : World} {gc gr ga B : Nat} {c : List Int} {ns : List S34} {ci ch ci1 ch1 : Int} (hf : AFix w0 w gc gr ga B) (h : AInv w0 w W gc gr ga B c ns ci ch) (hi : IsS119 w0 W1 gc c ci1 ch1) (hb : Below w0.heap.size w0 W1) (hk : KeepBut W W1 gc none) : AInv w0 w W1 gc gr ga B c ns ci1 ch1 := by
 obtain ⟨_, f2, f3, f4, f5, f6, f7⟩ := hf
 obtain ⟨h1, ⟨⟨v, a1, a2, a3, a4⟩, a5, a6⟩, h3, h4, h5⟩ := h
 refine ⟨hi, ⟨⟨v, (hk.2 ga (blk_lt a1) (by omega) (by simp)).trans a1, a2, a3, ?_⟩, fun k hk' => a5 k (Nat.le_trans hk.1 hk'), a6⟩, (hk.2 gr (blk_lt h3) (by omega) (by simp)).trans h3, hb, h5.trans hk (.inl rfl)⟩
 exact Kd.R_keep a4 hk (fun k hk' => by omega)
theorem AInv.below {w0 w W W1 : World} {gc gr ga B : Nat} {c : List Int} {ns : List S34} {ci ch : Int} (h : AInv w0 w W gc gr ga B c ns ci ch) (hb : Below W.heap.size W W1) : AInv w0 w W1 gc gr ga B c ns ci ch := by
 obtain ⟨h1, h2, h3, h4, h5⟩ := h
 exact ⟨h1.below hb, h2.keep hb, blk_below h3 hb, below_step h4 hb, h5.trans (KeepBut.of_below hb gc none) (.inl rfl)⟩
theorem AInv.put {w0 w W W1 : World} {gc gr ga B : Nat} {c : List Int} {ns : List S34} {ci ch : Int} {r : List S34 × Int} {e : Ending} (hf : AFix w0 w gc gr ga B) (h : AInv w0 w W gc gr ga B c ns ci ch) (hp : ArPost W w.heap.size ga (fun k => B ≤ k) r e W1) : AInv w0 w W1 gc gr ga B c r.1 ci ch := by
 obtain ⟨f1, f2, f3, f4, f5, f6, f7⟩ := hf
 obtain ⟨h1, h2, h3, h4, h5⟩ := h
 obtain ⟨p1, p2, p3, p4⟩ := hp
 have hn : ∀ k, k < B → k ≠ ga → ¬ Mine ga (fun k => B ≤ k) k := fun k a b hm => by rcases hm with hm | hm <;> omega
 exact ⟨h1.kept p4 (hn gc (by omega) (by omega)), p2, blk_kept h3 p4 (hn gr f5 f7), h4.trans (p3.mono f1), Kept.keep h5 p4 (fun k hm => by rcases hm with hm | hm <;> omega)⟩
theorem AInv.setA {w0 w W : World} {gc gr ga B : Nat} {c : List Int} {ci ch : Int} (hf : AFix w0 w gc gr ga B) (h : AInv w0 w W gc gr ga B c [] ci ch) : AInv w0 w (W.setCell ⟨ga, 0, none⟩ (.slice none 0 0)) gc gr ga B c [] ci ch := by
 obtain ⟨f1, f2, f3, f4, f5, f6, f7⟩ := hf
 obtain ⟨h1, ⟨⟨v, a1, a2, a3, a4⟩, a5, a6⟩, h3, h4, h5⟩ := h
 refine ⟨h1.far (show gc ≠ ga by omega) _, ⟨⟨_, blk_put a1 0 _ rfl, a2, a3, Kd.R_nil _ _ _ _ _⟩, fun k hk => a5 k (by simpa [World.setCell] using hk), a6⟩, blk_far h3 f7 _, below_set h4 (by omega), keep_far h5 (by omega) _⟩
theorem AInv.cur {w0 w W : World} {gc gr ga B : Nat} {c : List Int} {ns : List S34} {ci ch : Int} (h : AInv w0 w W gc gr ga B c ns ci ch) : IsS119 w0 W gc c ci ch := h.1
theorem AInv.ars {w0 w W : World} {gc gr ga B : Nat} {c : List Int} {ns : List S34} {ci ch : Int} (h : AInv w0 w W gc gr ga B c ns ci ch) : ArS W w.heap.size ga (fun k => B ≤ k) ns := h.2.1
theorem AInv.bel {w0 w W : World} {gc gr ga B : Nat} {c : List Int} {ns : List S34} {ci ch : Int} (h : AInv w0 w W gc gr ga B c ns ci ch) : Below w0.heap.size w0 W := h.2.2.2.1
theorem lit_of {W : World} {base : Nat} {ok : Nat → Prop} {v : Value} {xs : List Int} (h : Kd.R (Kd.int .i64) 3 W base ok v xs) : ∃ A c, v = .slice A xs.length c ∧ xs.length ≤ c ∧ Kd.C (Kd.int .i64) W A xs.length xs := Kd.R_reads h
theorem lit_far {W0 W : World} {ok : Nat → Prop} {A : Option Addr} {n c : Nat} {xs : List Int} {gc : Nat} (h : Kd.R (Kd.int .i64) 3 W W0.heap.size ok (.slice A n c) xs) (hg : gc < W0.heap.size) : ∀ ad, A = some ad → 0 < xs.length → ad.block ≠ gc := by
 rintro ad rfl _ rfl
 have := Kd.R_base h ad.block (by simp [Value.ownBlock])
 omega
end Hand
open Hand in
def spec_l03Arena.f (s0_0 : List Int) (s0_1 : Int) (s0_2 : Int) : Option ((List (S34)) × Int × Int) := arenaLoop 13 s0_0 s0_1 s0_2 0 []
open Hand in
set_option maxHeartbeats 8000000 in
set_option maxRecDepth 100000 in
theorem spec_l03Arena.calls (g : Nat) (s0_0 : List Int) (s0_1 : Int) (s0_2 : Int) (r1 : List (S34)) (r2 : Int) (r3 : Int) (w0 w : World) (hI : IsS119 w0 w g s0_0 s0_1 s0_2) (hB : Below w0.heap.size w0 w) (h : spec_l03Arena.f s0_0 s0_1 s0_2 = some (r1, r2, r3)) :
  Calls Try.prog 69 #[.pointer (some ⟨g, 0, none⟩)] w fun e w' => ∃ v0_ : Value, e = .returned (.agg #[v0_]) ∧ Kd.R k34 34 w' w.heap.size (fun _ => True) v0_ r1 ∧ IsS119 w0 w' g s0_0 r2 r3 ∧ Below w0.heap.size w0 w' ∧ KeepBut w w' g none := by
 have hu26 := Try.underlying26
 unfold spec_l03Arena.f at h
 have HI := Aside0.mk hI
 have HB := Aside0.mk hB
 have H' := Aside0.mk h
 clear hI hB h
 go_enter Try.func69, Try.ntmps69
 go_wp2_with (first
  | ((with_reducible refine gate_dst (N := 2) rfl ?_); refine box_event ?hg (N := 2) ?hd (cs := #[.slice none 0 0]) (t := 26) ?hr ?_; (case hd => rfl); (case hg => rfl); (case hr => first | (go_simp; done) | (go_simp; rfl)); intro gr hg1 w3 hbox hb; have BKr := Aside0.mk hbox; have HB3 := Aside0.mk hb; have GR := Aside0.mk hg1; clear hg1 hbox hb)
  | ((with_reducible refine gate_dst (N := 3) rfl ?_); refine box_event ?hg (N := 3) ?hd (cs := #[.slice none 0 0]) (t := 26) ?hr ?_; (case hd => rfl); (case hg => rfl); (case hr => first | (go_simp; done) | (go_simp; rfl)); intro ga hg1 w4 hbox hb; have BKa := Aside0.mk hbox; have HB4 := Aside0.mk hb; have GA := Aside0.mk hg1; clear hg1 hbox hb; have hca4 : w4.cell? ⟨ga, 0, none⟩ = some (.slice none 0 0) := (blk_cell BKa.out 0).trans rfl; have hfa4 := blk_frozen BKa.out 0))
 have HF : Aside0 (AFix w0 w g gr ga w4.heap.size) := ⟨⟨HB.out.size, HI.out.lt, by rw [GR.out]; exact Nat.le_refl _, by rw [GA.out]; exact HB3.out.size, blk_lt (blk_below BKr.out HB4.out), blk_lt BKa.out, by rw [GA.out]; exact Nat.ne_of_lt (blk_lt BKr.out)⟩⟩
 have AI4 : Aside0 (AInv w0 w w4 g gr ga w4.heap.size s0_0 [] s0_1 s0_2) := ⟨⟨(HI.out.below HB3.out).below HB4.out, ⟨⟨_, BKa.out, HF.out.2.2.2.1, fun h => by have := HF.out.2.2.2.2.2.1; omega, Kd.R_nil _ _ _ _ _⟩, fun k hk => hk, by simp⟩, blk_below BKr.out HB4.out, below_step (below_step HB.out HB3.out) HB4.out, KeepBut.of_below (below_step HB3.out HB4.out) _ _⟩⟩
 clear HB3 HB4 BKa GA GR
 have AI4 := Aside0.mk (AInv.setA HF.out AI4.out)
 generalize w4.setCell ⟨ga, 0, none⟩ (.slice none 0 0) = w5 at AI4 ⊢
 go_loopg [4] 13 (fun kq v4 wr => ∃ (j ci ch : Int) (ns : List S34), v4 = .int .i64 j ∧ 0 ≤ j ∧ j ≤ 12 ∧ Aside0 (arenaLoop kq s0_0 ci ch j ns = some (r1, r2, r3)) ∧ Aside0 (AInv w0 w wr g gr ga w4.heap.size s0_0 ns ci ch))
 case atStart => exact ⟨0, s0_1, s0_2, [], rfl, by omega, by omega, H', AI4⟩
 case round =>
  clear H' AI4
  obtain ⟨j, ci, ch, ns, rfl, hj0, hj1, HA, AI5⟩ := hrel
  cases gk with
  | zero => exact absurd HA.out (by simp [arenaLoop])
  | succ k1 =>
   have H := HA.out
   clear HA
   simp only [arenaLoop] at H
   obtain ⟨⟨b1, b2, b3⟩, A6, H⟩ := Option.bind_eq_some_iff.1 H
   by_cases hb : 0 ≤ b1 ∧ b1 ≤ 9
   ·rw [if_pos hb] at H
    have A6 := Aside0.mk A6
    obtain ⟨hb0, hb9⟩ := hb
    by_cases hjb : j < 3 + b1
    ·rw [if_pos hjb] at H
     have hjd : decide (j < 3 + b1) = true := decide_eq_true hjb
     have hj11 : j ≤ 11 := by omega
     clear hjb
     obtain ⟨⟨s1, s2, s3⟩, AB, H⟩ := Option.bind_eq_some_iff.1 H
     have H' := Aside0.mk H
     clear H
     have HJ := Aside0.mk (show 0 ≤ j ∧ j ≤ 11 from ⟨hj0, hj11⟩)
     unfold arenaBody at AB
     obtain ⟨⟨o1, o2, o3⟩, AO, AB⟩ := Option.bind_eq_some_iff.1 AB
     by_cases hn : ns.length < 2
     ·rw [if_pos hn] at AO
      obtain ⟨rfl, rfl, rfl⟩ : true = o1 ∧ b2 = o2 ∧ b3 = o3 := by simpa using AO
      have hn0 : decide ((ns.length : Int) < 2) = true := decide_eq_true (by omega)
      have hn1 : decide (ns.length < 2) = true := decide_eq_true hn
      clear hn AO
      rw [if_pos rfl] at AB
      obtain ⟨⟨p1, p2, p3⟩, AP, AB⟩ := Option.bind_eq_some_iff.1 AB
      have AP := Aside0.mk AP
      obtain ⟨rfl, rfl, rfl⟩ : (putN ns ⟨1, p1, 0, 0⟩).1 = s1 ∧ p2 = s2 ∧ p3 = s3 := by simpa using AB
      clear AB
      go_wp2_with (first
       | (go_at_call 70; ((with_reducible refine (spec_l01Below.calls g s0_0 ci ch 10 b1 b2 b3 w0 _ AI5.out.cur AI5.out.bel A6.out).mono ?_); rintro e w6 ⟨rfl, hi, hb, hk⟩); have AI6 := Aside0.mk (AInv.draw HF.out AI5.out hi hb hk); clear hi hb hk; obtain ⟨v5, hv5, _, _, hr5⟩ := AI6.out.ars.1; obtain ⟨A5, c5, rfl, _, _⟩ := Kd.R_reads hr5; have HG5 := Aside0.mk hv5; clear hv5 hr5; have hcg5 : w6.cell? ⟨ga, 0, none⟩ = some (.slice A5 ns.length c5) := (blk_cell HG5.out 0).trans rfl)
       | ((with_reducible refine gate_dst (N := 27) rfl ?_); refine Kd.R_lit (Kd.int .i64) _ 3 ?hg (N := 27) ?hd (xs := ([0, 1, 5, 1000, 5000, 10000, 10001] : List Int)) (inner := [.int .i64 0, .int .i64 1, .int .i64 5, .int .i64 1000, .int .i64 5000, .int .i64 10000, .int .i64 10001]) (ok := fun _ => True) (okp := fun _ => True) ?hr ?hp (fun _ hk => hk) trivial (Below.refl _ _) (Nat.le_refl _) (by simp) ?_; (case hd => rfl); (case hg => rfl); (case hr => first | (go_simp; done) | (go_simp; rfl)); (case hp => exact (Reps.one (show Kd.M (Kd.int .i64) _ _ _ 0 [.int .i64 0] from rfl) (Reps.one (show Kd.M (Kd.int .i64) _ _ _ 1 [.int .i64 1] from rfl) (Reps.one (show Kd.M (Kd.int .i64) _ _ _ 5 [.int .i64 5] from rfl) (Reps.one (show Kd.M (Kd.int .i64) _ _ _ 1000 [.int .i64 1000] from rfl) (Reps.one (show Kd.M (Kd.int .i64) _ _ _ 5000 [.int .i64 5000] from rfl) (Reps.one (show Kd.M (Kd.int .i64) _ _ _ 10000 [.int .i64 10000] from rfl) (Reps.one (show Kd.M (Kd.int .i64) _ _ _ 10001 [.int .i64 10001] from rfl) (Reps.none _ _))))))))); intro vl wl hol hbl hgl hnl; obtain ⟨Al, cl, rfl, hcl, hCl⟩ := lit_of hol; have AIl := Aside0.mk (AInv.below AI6.out hbl); have HCl := Aside0.mk hCl; have HCc := Aside0.mk hcl; have HAl := Aside0.mk (lit_far (gc := g) hol AI6.out.cur.lt); clear hol hbl hgl hnl hcl hCl)
       | (go_at_call 110; ((refine (spec_l01PickInt.calls g s0_0 b2 b3 Al cl _ p1 p2 p3 w0 _ AIl.out.cur AIl.out.bel HCl.out HCc.out HAl.out AP.out).mono ?_); rintro e w8 ⟨rfl, hi, hb, hk⟩); have AI8 := Aside0.mk (AInv.draw HF.out AIl.out hi hb hk); clear hi hb hk)
       | (go_at_call 113; ((with_reducible refine (spec_put ns ⟨1, p1, 0, 0⟩ _ _ _ _ AI8.out.ars).mono ?_); rintro e w9 hp); have AI9 := Aside0.mk (AInv.put HF.out AI8.out hp); have HE9 := Aside0.mk hp.1; obtain ⟨rfl, _⟩ := hp))
      go_roundg k1
      case measure => exact Nat.lt_succ_self k1
      case rel => exact ⟨j + 1, p2, p3, _, by first | rfl | (simp only [Value.int.injEq, true_and]; exact w64 (by have := HJ.out; omega) (by have := HJ.out; omega)), by have := HJ.out; omega, by have := HJ.out; omega, H', AI9⟩
     ·rw [if_neg hn] at AO
      have hn0 : decide ((ns.length : Int) < 2) = false := decide_eq_false (by omega)
      have hn1 : decide (ns.length < 2) = false := decide_eq_false hn
      have AO := Aside0.mk AO
      clear hn
      by_cases ho : o1 = true
      ·subst ho
       rw [if_pos rfl] at AB
       obtain ⟨⟨p1, p2, p3⟩, AP, AB⟩ := Option.bind_eq_some_iff.1 AB
       have AP := Aside0.mk AP
       obtain ⟨rfl, rfl, rfl⟩ : (putN ns ⟨1, p1, 0, 0⟩).1 = s1 ∧ p2 = s2 ∧ p3 = s3 := by simpa using AB
       clear AB
       go_wp2_with (first
        | (go_at_call 70; ((with_reducible refine (spec_l01Below.calls g s0_0 ci ch 10 b1 b2 b3 w0 _ AI5.out.cur AI5.out.bel A6.out).mono ?_); rintro e w6 ⟨rfl, hi, hb, hk⟩); have AI6 := Aside0.mk (AInv.draw HF.out AI5.out hi hb hk); clear hi hb hk; obtain ⟨v5, hv5, _, _, hr5⟩ := AI6.out.ars.1; obtain ⟨A5, c5, rfl, _, _⟩ := Kd.R_reads hr5; have HG5 := Aside0.mk hv5; clear hv5 hr5; have hcg5 : w6.cell? ⟨ga, 0, none⟩ = some (.slice A5 ns.length c5) := (blk_cell HG5.out 0).trans rfl)
        | (go_at_call 117; ((with_reducible refine (spec_l01Once.calls g s0_0 b2 b3 3 true o2 o3 w0 _ AI6.out.cur AI6.out.bel AO.out).mono ?_); rintro e w7 ⟨rfl, hi, hb, hk⟩); have AI7 := Aside0.mk (AInv.draw HF.out AI6.out hi hb hk); clear hi hb hk)
        | ((with_reducible refine gate_dst (N := 27) rfl ?_); refine Kd.R_lit (Kd.int .i64) _ 3 ?hg (N := 27) ?hd (xs := ([0, 1, 5, 1000, 5000, 10000, 10001] : List Int)) (inner := [.int .i64 0, .int .i64 1, .int .i64 5, .int .i64 1000, .int .i64 5000, .int .i64 10000, .int .i64 10001]) (ok := fun _ => True) (okp := fun _ => True) ?hr ?hp (fun _ hk => hk) trivial (Below.refl _ _) (Nat.le_refl _) (by simp) ?_; (case hd => rfl); (case hg => rfl); (case hr => first | (go_simp; done) | (go_simp; rfl)); (case hp => exact (Reps.one (show Kd.M (Kd.int .i64) _ _ _ 0 [.int .i64 0] from rfl) (Reps.one (show Kd.M (Kd.int .i64) _ _ _ 1 [.int .i64 1] from rfl) (Reps.one (show Kd.M (Kd.int .i64) _ _ _ 5 [.int .i64 5] from rfl) (Reps.one (show Kd.M (Kd.int .i64) _ _ _ 1000 [.int .i64 1000] from rfl) (Reps.one (show Kd.M (Kd.int .i64) _ _ _ 5000 [.int .i64 5000] from rfl) (Reps.one (show Kd.M (Kd.int .i64) _ _ _ 10000 [.int .i64 10000] from rfl) (Reps.one (show Kd.M (Kd.int .i64) _ _ _ 10001 [.int .i64 10001] from rfl) (Reps.none _ _))))))))); intro vl wl hol hbl hgl hnl; obtain ⟨Al, cl, rfl, hcl, hCl⟩ := lit_of hol; have AIl := Aside0.mk (AInv.below AI7.out hbl); have HCl := Aside0.mk hCl; have HCc := Aside0.mk hcl; have HAl := Aside0.mk (lit_far (gc := g) hol AI7.out.cur.lt); clear hol hbl hgl hnl hcl hCl)
        | (go_at_call 110; ((refine (spec_l01PickInt.calls g s0_0 o2 o3 Al cl _ p1 p2 p3 w0 _ AIl.out.cur AIl.out.bel HCl.out HCc.out HAl.out AP.out).mono ?_); rintro e w8 ⟨rfl, hi, hb, hk⟩); have AI8 := Aside0.mk (AInv.draw HF.out AIl.out hi hb hk); clear hi hb hk)
        | (go_at_call 113; ((with_reducible refine (spec_put ns ⟨1, p1, 0, 0⟩ _ _ _ _ AI8.out.ars).mono ?_); rintro e w9 hp); have AI9 := Aside0.mk (AInv.put HF.out AI8.out hp); have HE9 := Aside0.mk hp.1; obtain ⟨rfl, _⟩ := hp))
       go_roundg k1
       case measure => exact Nat.lt_succ_self k1
       case rel => exact ⟨j + 1, p2, p3, _, by first | rfl | (simp only [Value.int.injEq, true_and]; exact w64 (by have := HJ.out; omega) (by have := HJ.out; omega)), by have := HJ.out; omega, by have := HJ.out; omega, H', AI9⟩
      ·have ho : o1 = false := by simpa using ho
       subst ho
       rw [if_neg (by simp)] at AB
       obtain ⟨⟨q1, q2, q3⟩, AQ, AB⟩ := Option.bind_eq_some_iff.1 AB
       by_cases hq : 0 ≤ q1 ∧ q1 ≤ 7
       ·rw [if_pos hq] at AB
        have AQ := Aside0.mk AQ
        obtain ⟨hq0, hq7⟩ := hq
        obtain ⟨⟨x1, x2, x3⟩, AX, AB⟩ := Option.bind_eq_some_iff.1 AB
        obtain ⟨⟨y1, y2, y3⟩, AY, AB⟩ := Option.bind_eq_some_iff.1 AB
        have AX := Aside0.mk AX
        have AY := Aside0.mk AY
        by_cases hone : 2 + q1 = 3 ∨ 2 + q1 = 6
        ·rw [if_pos hone] at AB
         have HO := Aside0.mk ((spec_One_f (2 + q1)).trans (congrArg some (decide_eq_true hone)))
         obtain ⟨rfl, rfl, rfl⟩ : (putN ns ⟨2 + q1, 0, x1, 0⟩).1 = s1 ∧ y2 = s2 ∧ y3 = s3 := by simpa using AB
         clear AB hone
         go_wp2_with (first
          | (go_at_call 70; ((with_reducible refine (spec_l01Below.calls g s0_0 ci ch 10 b1 b2 b3 w0 _ AI5.out.cur AI5.out.bel A6.out).mono ?_); rintro e w6 ⟨rfl, hi, hb, hk⟩); have AI6 := Aside0.mk (AInv.draw HF.out AI5.out hi hb hk); clear hi hb hk; obtain ⟨v5, hv5, _, _, hr5⟩ := AI6.out.ars.1; obtain ⟨A5, c5, rfl, _, _⟩ := Kd.R_reads hr5; have HG5 := Aside0.mk hv5; clear hv5 hr5; have hcg5 : w6.cell? ⟨ga, 0, none⟩ = some (.slice A5 ns.length c5) := (blk_cell HG5.out 0).trans rfl)
          | (go_at_call 117; ((with_reducible refine (spec_l01Once.calls g s0_0 b2 b3 3 false o2 o3 w0 _ AI6.out.cur AI6.out.bel AO.out).mono ?_); rintro e w7 ⟨rfl, hi, hb, hk⟩); have AI7 := Aside0.mk (AInv.draw HF.out AI6.out hi hb hk); clear hi hb hk)
          | (go_at_call 70; ((with_reducible refine (spec_l01Below.calls g s0_0 o2 o3 8 q1 q2 q3 w0 _ AI7.out.cur AI7.out.bel AQ.out).mono ?_); rintro e wa ⟨rfl, hi, hb, hk⟩); have AIa := Aside0.mk (AInv.draw HF.out AI7.out hi hb hk); clear hi hb hk)
          | (go_at_call 70; ((with_reducible refine (spec_l01Below.calls g s0_0 q2 q3 (ns.length : Int) x1 x2 x3 w0 _ AIa.out.cur AIa.out.bel AX.out).mono ?_); rintro e wb ⟨rfl, hi, hb, hk⟩); have AIb := Aside0.mk (AInv.draw HF.out AIa.out hi hb hk); clear hi hb hk)
          | (go_at_call 70; ((with_reducible refine (spec_l01Below.calls g s0_0 x2 x3 (ns.length : Int) y1 y2 y3 w0 _ AIb.out.cur AIb.out.bel AY.out).mono ?_); rintro e wc ⟨rfl, hi, hb, hk⟩); have AIc := Aside0.mk (AInv.draw HF.out AIb.out hi hb hk); clear hi hb hk)
          | (go_at_call 111; ((with_reducible refine (spec_l03One.calls (2 + q1) true _ HO.out).mono ?_); rintro e wd ⟨rfl, hd⟩); have AId := Aside0.mk (AInv.below AIc.out hd.below); clear hd)
          | (go_at_call 113; ((with_reducible refine (spec_put ns ⟨2 + q1, 0, x1, 0⟩ _ _ _ _ AId.out.ars).mono ?_); rintro e w9 hp); have AI9 := Aside0.mk (AInv.put HF.out AId.out hp); have HE9 := Aside0.mk hp.1; obtain ⟨rfl, _⟩ := hp))
         go_roundg k1
         case measure => exact Nat.lt_succ_self k1
         case rel => exact ⟨j + 1, y2, y3, _, by first | rfl | (simp only [Value.int.injEq, true_and]; exact w64 (by have := HJ.out; omega) (by have := HJ.out; omega)), by have := HJ.out; omega, by have := HJ.out; omega, H', AI9⟩
        ·rw [if_neg hone] at AB
         have HO := Aside0.mk ((spec_One_f (2 + q1)).trans (congrArg some (decide_eq_false hone)))
         obtain ⟨rfl, rfl, rfl⟩ : (putN ns ⟨2 + q1, 0, x1, y1⟩).1 = s1 ∧ y2 = s2 ∧ y3 = s3 := by simpa using AB
         clear AB hone
         go_wp2_with (first
          | (go_at_call 70; ((with_reducible refine (spec_l01Below.calls g s0_0 ci ch 10 b1 b2 b3 w0 _ AI5.out.cur AI5.out.bel A6.out).mono ?_); rintro e w6 ⟨rfl, hi, hb, hk⟩); have AI6 := Aside0.mk (AInv.draw HF.out AI5.out hi hb hk); clear hi hb hk; obtain ⟨v5, hv5, _, _, hr5⟩ := AI6.out.ars.1; obtain ⟨A5, c5, rfl, _, _⟩ := Kd.R_reads hr5; have HG5 := Aside0.mk hv5; clear hv5 hr5; have hcg5 : w6.cell? ⟨ga, 0, none⟩ = some (.slice A5 ns.length c5) := (blk_cell HG5.out 0).trans rfl)
          | (go_at_call 117; ((with_reducible refine (spec_l01Once.calls g s0_0 b2 b3 3 false o2 o3 w0 _ AI6.out.cur AI6.out.bel AO.out).mono ?_); rintro e w7 ⟨rfl, hi, hb, hk⟩); have AI7 := Aside0.mk (AInv.draw HF.out AI6.out hi hb hk); clear hi hb hk)
          | (go_at_call 70; ((with_reducible refine (spec_l01Below.calls g s0_0 o2 o3 8 q1 q2 q3 w0 _ AI7.out.cur AI7.out.bel AQ.out).mono ?_); rintro e wa ⟨rfl, hi, hb, hk⟩); have AIa := Aside0.mk (AInv.draw HF.out AI7.out hi hb hk); clear hi hb hk)
          | (go_at_call 70; ((with_reducible refine (spec_l01Below.calls g s0_0 q2 q3 (ns.length : Int) x1 x2 x3 w0 _ AIa.out.cur AIa.out.bel AX.out).mono ?_); rintro e wb ⟨rfl, hi, hb, hk⟩); have AIb := Aside0.mk (AInv.draw HF.out AIa.out hi hb hk); clear hi hb hk)
          | (go_at_call 70; ((with_reducible refine (spec_l01Below.calls g s0_0 x2 x3 (ns.length : Int) y1 y2 y3 w0 _ AIb.out.cur AIb.out.bel AY.out).mono ?_); rintro e wc ⟨rfl, hi, hb, hk⟩); have AIc := Aside0.mk (AInv.draw HF.out AIb.out hi hb hk); clear hi hb hk)
          | (go_at_call 111; ((with_reducible refine (spec_l03One.calls (2 + q1) false _ HO.out).mono ?_); rintro e wd ⟨rfl, hd⟩); have AId := Aside0.mk (AInv.below AIc.out hd.below); clear hd)
          | (go_at_call 113; ((with_reducible refine (spec_put ns ⟨2 + q1, 0, x1, y1⟩ _ _ _ _ AId.out.ars).mono ?_); rintro e w9 hp); have AI9 := Aside0.mk (AInv.put HF.out AId.out hp); have HE9 := Aside0.mk hp.1; obtain ⟨rfl, _⟩ := hp))
         go_roundg k1
         case measure => exact Nat.lt_succ_self k1
         case rel => exact ⟨j + 1, y2, y3, _, by first | rfl | (simp only [Value.int.injEq, true_and]; exact w64 (by have := HJ.out; omega) (by have := HJ.out; omega)), by have := HJ.out; omega, by have := HJ.out; omega, H', AI9⟩
       ·rw [if_neg hq] at AB
        cases AB
    ·rw [if_neg hjb] at H
     have hjd : decide (j < 3 + b1) = false := decide_eq_false hjb
     obtain ⟨rfl, rfl, rfl⟩ : ns = r1 ∧ b2 = r2 ∧ b3 = r3 := by simpa using H
     clear hjb H
     go_wp2_with (first
      | (go_at_call 70; ((with_reducible refine (spec_l01Below.calls g s0_0 ci ch 10 b1 b2 b3 w0 _ AI5.out.cur AI5.out.bel A6.out).mono ?_); rintro e w6 ⟨rfl, hi, hb, hk⟩); have AI6 := Aside0.mk (AInv.draw HF.out AI5.out hi hb hk); clear hi hb hk; obtain ⟨v5, hv5, _, _, hr5⟩ := AI6.out.ars.1; obtain ⟨A5, c5, rfl, _, _⟩ := Kd.R_reads hr5; have HG5 := Aside0.mk hv5; have HR5 := Aside0.mk hr5; clear hv5 hr5; have hcg5 : w6.cell? ⟨ga, 0, none⟩ = some (.slice A5 ns.length c5) := (blk_cell HG5.out 0).trans rfl; have hcr6 : w6.cell? ⟨gr, 0, none⟩ = some (.slice none 0 0) := (blk_cell AI6.out.2.2.1 0).trans rfl; have hfr6 := blk_frozen AI6.out.2.2.1 0))
     refine bodyPost_ret (results_cell_row rfl _ _ gr 26 #[.slice A5 ns.length c5] (0, 0) _ rfl (blk_put AI6.out.2.2.1 0 _ rfl) Try.underlying26 rfl (by kernel_rfl)) rfl ?_
     exact ⟨_, rfl, Kd.R_mono (Kd.R_far (p := ⟨gr, 0, none⟩) HR5.out (fun k hk e => by have e' : k = gr := e; have := HF.out.2.2.2.2.1; omega) _) (fun _ _ => trivial), AI6.out.1.far (show g ≠ gr by have := HF.out.2.1; have := HF.out.2.2.1; omega) _, below_set AI6.out.bel (show w0.heap.size ≤ gr by have := HF.out.1; have := HF.out.2.2.1; omega), keep_far AI6.out.2.2.2.2 (show w.heap.size ≤ gr from HF.out.2.2.1) _⟩
   ·rw [if_neg hb] at H
    cases H
namespace Hand

end Hand

/-! ### spec_l03Copy: function 90 -/
def spec_l03Copy.f (l0_0 : List (S34)) : Option ((List (S34))) := (some (([] : List (S34)) : List (S34))).bind fun y289 => (if y289.length + l0_0.length < 4398046511104 then (some (y289 ++ l0_0)) else (none))
set_option maxHeartbeats 8000000 in
set_option maxRecDepth 100000 in
theorem spec_l03Copy.calls (A0_0 : Option Addr) (c0_0 : Nat) (l0_0 : List (S34)) (r : List (S34)) (w : World) (hr0_0 : Kd.C k34 w A0_0 l0_0.length l0_0) (hc0_0 : l0_0.length ≤ c0_0) (h : spec_l03Copy.f l0_0 = some r) :
  Calls Try.prog 90 #[.agg #[.slice A0_0 l0_0.length c0_0]] w fun e w' => ∃ v0_ : Value, e = .returned (.agg #[v0_]) ∧ Kd.R k34 34 w' w.heap.size (fun _ => True) v0_ r ∧ Below w.heap.size w w' := by
 have hu26 := Try.underlying26
 have HR0_0 := Aside0.mk hr0_0
 have HC0_0 := Aside0.mk hc0_0
 clear hr0_0 hc0_0
 have HB := Aside0.mk (Below.refl w.heap.size w)
 have H : ((some (([] : List (S34)) : List (S34))).bind fun y289 => (if y289.length + l0_0.length < 4398046511104 then (some (y289 ++ l0_0)) else (none))) = some r := h
 clear h
 obtain ⟨y289, hy289⟩ : ∃ y_ : List (S34), y_ = (([] : List (S34))) := ⟨_, rfl⟩
 replace H : (if y289.length + l0_0.length < 4398046511104 then (some (y289 ++ l0_0)) else (none)) = some r := by first | (rw [hy289]; with_reducible exact H) | (have H2_ := (Option.bind_some _ _).symm.trans H; rw [hy289]; with_reducible exact H2_) | (have H2_ := (Option.bind_some _ _).symm.trans H; with_reducible exact H2_) | with_reducible exact H | (rw [hy289]; exact H) | exact H
 have Ny289 := Aside0.mk hy289
 clear hy289
 by_cases c2 : y289.length + l0_0.length < 4398046511104
 ·rw [if_pos c2] at H
  have LMc2 := Aside0.mk c2
  clear c2
  obtain ⟨y292, hy292⟩ : ∃ y_ : List (S34), y_ = (y289 ++ l0_0) := ⟨_, rfl⟩
  replace H : (some y292) = some r := by first | (rw [hy292]; with_reducible exact H) | (have H2_ := (Option.bind_some _ _).symm.trans H; rw [hy292]; with_reducible exact H2_) | (have H2_ := (Option.bind_some _ _).symm.trans H; with_reducible exact H2_) | with_reducible exact H | (rw [hy292]; exact H) | exact H
  have Ny292 := Aside0.mk hy292
  clear hy292
  obtain rfl := Option.some.inj H
  go_enter Try.func90, Try.ntmps90
  go_wp2_with (first | ((with_reducible refine gate_dst (N := 1) rfl ?_); refine box_event ?hg (N := 1) ?hd (cs := #[.slice A0_0 l0_0.length c0_0]) (t := 26) ?hr ?_; (case hd => rfl); (case hg => rfl); (case hr => first | (go_simp; done) | (go_simp; rfl)); intro gb287 hg w3 hbox hb; have n0_ := Aside0.mk (below_step (bw HB.out) hb); have n1_ := Aside0.mk (hbox); have n2_ := Aside0.mk ((by rw [hg]; exact (below_size (bw HB.out)) : w.heap.size ≤ gb287)); have n3_ := Aside0.mk ((by rw [hg]; exact (below_size (bw HB.out)) : w.heap.size ≤ gb287)); clear HB; have HB := n0_; have BK287 := n1_; have GW287 := n2_; have GE287 := n3_; clear n0_ n1_ n2_ n3_ hb hbox hg) | ((with_reducible refine gate_dst (N := 2) rfl ?_); refine box_event ?hg (N := 2) ?hd (cs := #[.slice none 0 0]) (t := 26) ?hr ?_; (case hd => rfl); (case hg => rfl); (case hr => first | (go_simp; done) | (go_simp; rfl)); intro gb288 hg w4 hbox hb; have n0_ := Aside0.mk (blk_below (g := gb287) (o := .cells #[.slice A0_0 l0_0.length c0_0] 26 (0, 0)) (bl BK287.out) hb); have n1_ := Aside0.mk (below_step (bw HB.out) hb); have n2_ := Aside0.mk (hbox); have n3_ := Aside0.mk ((by rw [hg]; exact (below_size (bw HB.out)) : w.heap.size ≤ gb288)); have n4_ := Aside0.mk ((by rw [hg]; exact (below_size (bw HB.out)) : w.heap.size ≤ gb288)); have n5_ := Aside0.mk ((by rw [hg]; exact Nat.ne_of_lt (blk_lt (g := gb287) (o := .cells #[.slice A0_0 l0_0.length c0_0] 26 (0, 0)) (bl BK287.out)) : gb287 ≠ gb288)); have n6_ := Aside0.mk ((by rw [hg]; exact Nat.ne_of_gt (blk_lt (g := gb287) (o := .cells #[.slice A0_0 l0_0.length c0_0] 26 (0, 0)) (bl BK287.out)) : gb288 ≠ gb287)); clear BK287 HB; have BK287 := n0_; have HB := n1_; have BK288 := n2_; have GW288 := n3_; have GE288 := n4_; have NB287_288 := n5_; have NB288_287 := n6_; clear n0_ n1_ n2_ n3_ n4_ n5_ n6_ hb hbox hg) | ((with_reducible refine gate_dst (N := 3) rfl ?_); refine Kd.R_lit k34 _ 34 ?hg (N := 3) ?hd (xs := ([] : List (S34))) (inner := []) (ok := fun _ => True) (okp := fun _ => True) ?hr ?hp (fun _ hk => hk) trivial (Below.refl _ _) (Nat.le_refl _) (by simp) ?_; (case hd => rfl); (case hg => rfl); (case hr => first | (go_simp; done) | (go_simp; rfl)); (case hp => exact (Reps.none _ _)); intro v290 w5 ho6 hb hg_ hnew_; clear hg_ hnew_; (first | rw [← Ny289.out] at ho6 | (simp only [Int.reduceToNat] at ho6; rw [← Ny289.out] at ho6)); have n0_ := Aside0.mk (Kd.R_lower ho6 (below_size (bw HB.out))); have n1_ := Aside0.mk (blk_below (g := gb287) (o := .cells #[.slice A0_0 l0_0.length c0_0] 26 (0, 0)) (bl BK287.out) hb); have n2_ := Aside0.mk (blk_below (g := gb288) (o := .cells #[.slice none 0 0] 26 (0, 0)) (bl BK288.out) hb); have n3_ := Aside0.mk (below_step (bw HB.out) hb); clear BK287 BK288 HB; have HO291 := n0_; have BK287 := n1_; have BK288 := n2_; have HB := n3_; clear n0_ n1_ n2_ n3_ hb ho6; have hnb7 := NB287_288.out; have hnc7 := NB288_287.out; have hcz8_0 : w5.cell? ⟨gb287, 0, none⟩ = some (.slice A0_0 l0_0.length c0_0) := (blk_cell BK287.out 0).trans rfl; have hfz8_0 := blk_frozen BK287.out 0) | ((with_reducible refine gate_builtin (b := .append) (xs := #[.tmp 3, .tmp 5]) rfl ?_); at_builtin; refine Kd.R_append_rows k34 (w0 := w) w.heap.size rfl (.tmp 3) (.tmp 5) 24 34 (.agg #[(.int .i64 0), (.int .i64 0), (.int .i64 0), (.int .i64 0)]) 32 rfl Try.underlying24 info34 rfl (by decide) (by omega) v290 y289 l0_0 _ _ _ (fun _ => True) (fun _ => False) rfl rfl ?aO ?aR (fun _ _ h => h) (fun _ h => h.elim) ?aF ?aB ?aS ?aL ?_; (case aR => repeat (first | exact (Kd.C_below HR0_0.out HB.out) | (with_reducible refine Kd.C_alloc ?_ _) | (with_reducible refine Kd.C_drewN ?_ _) | (with_reducible refine Kd.C_drew ?_))); (case aB => exact (bw HB.out)); (case aF => exact (fun _ _ => trivial)); (case aO => exact (rl HO291.out)); (case aS => exact (below_size (bw HB.out))); (case aL => have := LMc2.out; omega); intro v293 w9 ho hb hg hat; rw [← Ny292.out] at ho; have n0_ := Aside0.mk (blk_grown (g := gb287) (o := .cells #[.slice A0_0 l0_0.length c0_0] 26 (0, 0)) (bl BK287.out) hg (Kd.R_ne HO291.out BK287.out (by decide))); have n1_ := Aside0.mk (blk_grown (g := gb288) (o := .cells #[.slice none 0 0] 26 (0, 0)) (bl BK288.out) hg (Kd.R_ne HO291.out BK288.out (by decide))); have n2_ := Aside0.mk (hb); have n3_ := Aside0.mk (ho); clear BK287 BK288 HB HO291; have BK287 := n0_; have BK288 := n1_; have HB := n2_; have HO294 := n3_; clear n0_ n1_ n2_ n3_ ho hb hg hat; obtain ⟨Ao10, co10, eo10⟩ := Kd.R_slice HO294.out; subst eo10; have hcz11_0 : w9.cell? ⟨gb288, 0, none⟩ = some (.slice none 0 0) := (blk_cell BK288.out 0).trans rfl; have hfz11_0 := blk_frozen BK288.out 0))
  refine bodyPost_ret (results_cell_row rfl _ _ gb288 26 #[.slice Ao10 y292.length co10] (0, 0) _ rfl (by (with_reducible repeat (first | refine blk_drewN ?_ _ | refine blk_drew ?_ | refine blk_alloc ?_ _)); refine blk_put (cs := #[.slice none 0 0]) ?_ 0 _ rfl; (with_reducible repeat (first | refine blk_drewN ?_ _ | refine blk_drew ?_ | refine blk_alloc ?_ _)); exact BK288.out) Try.underlying26 rfl (by kernel_rfl)) rfl ?_
  exact ⟨_, by first | rfl | (simp [errW_none, errW_some] <;> rfl) | (simp [*, errW_none, errW_some] <;> rfl), by (with_reducible repeat (first | apply Kd.R_alloc | apply Kd.R_drewN | apply Kd.R_drew)); exact Kd.R_mono (Kd.R_far (p := ⟨gb288, 0, none⟩) (Kd.R_types HO294.out BK288.out (by decide)) (fun _ hk => hk.2) (.slice Ao10 y292.length co10)) (fun _ hk => trivial), bw HB.out⟩
 ·rw [if_neg c2] at H
  exact absurd H (by simp)

end Go.Proofs.Ytkckdibalopagaa.SFnTermsTold
