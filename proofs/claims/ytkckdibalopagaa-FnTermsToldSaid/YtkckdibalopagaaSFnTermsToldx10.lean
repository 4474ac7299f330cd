-- Began as a print of the kit over stubs (wip/stub.py); the sections that are named OWN are this session's.
import Derived.Test.YtkckdibalopagaaSFnTermsToldx0
import Derived.Test.YtkckdibalopagaaSFnTermsToldx1
import Derived.Test.YtkckdibalopagaaSFnTermsToldx2
import Derived.Test.YtkckdibalopagaaSFnTermsToldx4
import Derived.Test.YtkckdibalopagaaSFnTermsToldx5
import Derived.Test.YtkckdibalopagaaSFnTermsToldx7
import Derived.Test.YtkckdibalopagaaSFnTermsToldx8
import Derived.Test.YtkckdibalopagaaRBase
import Derived.Test.YtkckdibalopagaaRMapOnce
import Derived.RegionTactic
import Derived.BigRegion
import Derived.Carry
import Derived.DeepKeys4
import Derived.Test.YtkckdibalopagaaRShort
namespace Go.Proofs.Ytkckdibalopagaa.SFnTermsTold
open Go.RowKit Go.Proofs.YtkckdibalopagaaW.PrintWords Go.Proofs.YtkckdibalopagaaW.PrintLast Go.Proofs.YtkckdibalopagaaW.PrintMore Go.Proofs.Ytkckdibalopagaa.Short
attribute [local go_sem] max2_int min2_int max_two min_two max_three min_three max_four min_four   -- for this text's walks alone
set_option linter.unusedVariables false
set_option linter.unusedSimpArgs false

attribute [local go_sem high] eqA34
/-! ### impl_copyArena: function 103 -/
def impl_copyArena.f (l0_0 : List (S34)) : Option ((List (S34))) := (some (([] : List (S34)) : List (S34))).bind fun y380 => (if y380.length + l0_0.length < 4398046511104 then (some (y380 ++ l0_0)) else (none))
set_option maxHeartbeats 8000000 in
set_option maxRecDepth 100000 in
theorem impl_copyArena.calls (A0_0 : Option Addr) (c0_0 : Nat) (l0_0 : List (S34)) (r : List (S34)) (w : World) (hr0_0 : Kd.C k34 w A0_0 l0_0.length l0_0) (hc0_0 : l0_0.length ≤ c0_0) (h : impl_copyArena.f l0_0 = some r) :
  Calls Try.prog 103 #[.agg #[.slice A0_0 l0_0.length c0_0]] w fun e w' => ∃ v0_ : Value, e = .returned (.agg #[v0_]) ∧ Kd.R k34 34 w' w.heap.size (fun _ => True) v0_ r ∧ Below w.heap.size w w' := by
 have hu26 := Try.underlying26
 have HR0_0 := Aside0.mk hr0_0
 have HC0_0 := Aside0.mk hc0_0
 clear hr0_0 hc0_0
 have HB := Aside0.mk (Below.refl w.heap.size w)
 have H : ((some (([] : List (S34)) : List (S34))).bind fun y380 => (if y380.length + l0_0.length < 4398046511104 then (some (y380 ++ l0_0)) else (none))) = some r := h
 clear h
 obtain ⟨y380, hy380⟩ : ∃ y_ : List (S34), y_ = (([] : List (S34))) := ⟨_, rfl⟩
 replace H : (if y380.length + l0_0.length < 4398046511104 then (some (y380 ++ l0_0)) else (none)) = some r := by first | (rw [hy380]; with_reducible exact H) | (have H2_ := (Option.bind_some _ _).symm.trans H; rw [hy380]; with_reducible exact H2_) | (have H2_ := (Option.bind_some _ _).symm.trans H; with_reducible exact H2_) | with_reducible exact H | (rw [hy380]; exact H) | exact H
 have Ny380 := Aside0.mk hy380
 clear hy380
 by_cases c2 : y380.length + l0_0.length < 4398046511104
 ·rw [if_pos c2] at H
  have LMc2 := Aside0.mk c2
  clear c2
  obtain ⟨y383, hy383⟩ : ∃ y_ : List (S34), y_ = (y380 ++ l0_0) := ⟨_, rfl⟩
  replace H : (some y383) = some r := by first | (rw [hy383]; with_reducible exact H) | (have H2_ := (Option.bind_some _ _).symm.trans H; rw [hy383]; with_reducible exact H2_) | (have H2_ := (Option.bind_some _ _).symm.trans H; with_reducible exact H2_) | with_reducible exact H | (rw [hy383]; exact H) | exact H
  have Ny383 := Aside0.mk hy383
  clear hy383
  obtain rfl := Option.some.inj H
  go_enter Try.func103, Try.ntmps103
  go_wp2_with (first | ((with_reducible refine gate_dst (N := 1) rfl ?_); refine box_event ?hg (N := 1) ?hd (cs := #[.slice A0_0 l0_0.length c0_0]) (t := 26) ?hr ?_; (case hd => rfl); (case hg => rfl); (case hr => first | (go_simp; done) | (go_simp; rfl)); intro gb378 hg w3 hbox hb; have n0_ := Aside0.mk (below_step (bw HB.out) hb); have n1_ := Aside0.mk (hbox); have n2_ := Aside0.mk ((by rw [hg]; exact (below_size (bw HB.out)) : w.heap.size ≤ gb378)); have n3_ := Aside0.mk ((by rw [hg]; exact (below_size (bw HB.out)) : w.heap.size ≤ gb378)); clear HB; have HB := n0_; have BK378 := n1_; have GW378 := n2_; have GE378 := n3_; clear n0_ n1_ n2_ n3_ hb hbox hg) | ((with_reducible refine gate_dst (N := 2) rfl ?_); refine box_event ?hg (N := 2) ?hd (cs := #[.slice none 0 0]) (t := 26) ?hr ?_; (case hd => rfl); (case hg => rfl); (case hr => first | (go_simp; done) | (go_simp; rfl)); intro gb379 hg w4 hbox hb; have n0_ := Aside0.mk (blk_below (g := gb378) (o := .cells #[.slice A0_0 l0_0.length c0_0] 26 (0, 0)) (bl BK378.out) hb); have n1_ := Aside0.mk (below_step (bw HB.out) hb); have n2_ := Aside0.mk (hbox); have n3_ := Aside0.mk ((by rw [hg]; exact (below_size (bw HB.out)) : w.heap.size ≤ gb379)); have n4_ := Aside0.mk ((by rw [hg]; exact (below_size (bw HB.out)) : w.heap.size ≤ gb379)); have n5_ := Aside0.mk ((by rw [hg]; exact Nat.ne_of_lt (blk_lt (g := gb378) (o := .cells #[.slice A0_0 l0_0.length c0_0] 26 (0, 0)) (bl BK378.out)) : gb378 ≠ gb379)); have n6_ := Aside0.mk ((by rw [hg]; exact Nat.ne_of_gt (blk_lt (g := gb378) (o := .cells #[.slice A0_0 l0_0.length c0_0] 26 (0, 0)) (bl BK378.out)) : gb379 ≠ gb378)); clear BK378 HB; have BK378 := n0_; have HB := n1_; have BK379 := n2_; have GW379 := n3_; have GE379 := n4_; have NB378_379 := n5_; have NB379_378 := n6_; clear n0_ n1_ n2_ n3_ n4_ n5_ n6_ hb hbox hg) | ((with_reducible refine gate_dst (N := 3) rfl ?_); refine Kd.R_lit k34 _ 34 ?hg (N := 3) ?hd (xs := ([] : List (S34))) (inner := []) (ok := fun _ => True) (okp := fun _ => True) ?hr ?hp (fun _ hk => hk) trivial (Below.refl _ _) (Nat.le_refl _) (by simp) ?_; (case hd => rfl); (case hg => rfl); (case hr => first | (go_simp; done) | (go_simp; rfl)); (case hp => exact (Reps.none _ _)); intro v381 w5 ho6 hb hg_ hnew_; clear hg_ hnew_; (first | rw [← Ny380.out] at ho6 | (simp only [Int.reduceToNat] at ho6; rw [← Ny380.out] at ho6)); have n0_ := Aside0.mk (Kd.R_lower ho6 (below_size (bw HB.out))); have n1_ := Aside0.mk (blk_below (g := gb378) (o := .cells #[.slice A0_0 l0_0.length c0_0] 26 (0, 0)) (bl BK378.out) hb); have n2_ := Aside0.mk (blk_below (g := gb379) (o := .cells #[.slice none 0 0] 26 (0, 0)) (bl BK379.out) hb); have n3_ := Aside0.mk (below_step (bw HB.out) hb); clear BK378 BK379 HB; have HO382 := n0_; have BK378 := n1_; have BK379 := n2_; have HB := n3_; clear n0_ n1_ n2_ n3_ hb ho6; have hnb7 := NB378_379.out; have hnc7 := NB379_378.out; have hcz8_0 : w5.cell? ⟨gb378, 0, none⟩ = some (.slice A0_0 l0_0.length c0_0) := (blk_cell BK378.out 0).trans rfl; have hfz8_0 := blk_frozen BK378.out 0) | ((with_reducible refine gate_builtin (b := .append) (xs := #[.tmp 3, .tmp 5]) rfl ?_); at_builtin; refine Kd.R_append_rows k34 (w0 := w) w.heap.size rfl (.tmp 3) (.tmp 5) 24 34 (.agg #[(.int .i64 0), (.int .i64 0), (.int .i64 0), (.int .i64 0)]) 32 rfl Try.underlying24 info34 rfl (by decide) (by omega) v381 y380 l0_0 _ _ _ (fun _ => True) (fun _ => False) rfl rfl ?aO ?aR (fun _ _ h => h) (fun _ h => h.elim) ?aF ?aB ?aS ?aL ?_; (case aR => repeat (first | exact (Kd.C_below HR0_0.out HB.out) | (with_reducible refine Kd.C_alloc ?_ _) | (with_reducible refine Kd.C_drewN ?_ _) | (with_reducible refine Kd.C_drew ?_))); (case aB => exact (bw HB.out)); (case aF => exact (fun _ _ => trivial)); (case aO => exact (rl HO382.out)); (case aS => exact (below_size (bw HB.out))); (case aL => have := LMc2.out; omega); intro v384 w9 ho hb hg hat; rw [← Ny383.out] at ho; have n0_ := Aside0.mk (blk_grown (g := gb378) (o := .cells #[.slice A0_0 l0_0.length c0_0] 26 (0, 0)) (bl BK378.out) hg (Kd.R_ne HO382.out BK378.out (by decide))); have n1_ := Aside0.mk (blk_grown (g := gb379) (o := .cells #[.slice none 0 0] 26 (0, 0)) (bl BK379.out) hg (Kd.R_ne HO382.out BK379.out (by decide))); have n2_ := Aside0.mk (hb); have n3_ := Aside0.mk (ho); clear BK378 BK379 HB HO382; have BK378 := n0_; have BK379 := n1_; have HB := n2_; have HO385 := n3_; clear n0_ n1_ n2_ n3_ ho hb hg hat; obtain ⟨Ao10, co10, eo10⟩ := Kd.R_slice HO385.out; subst eo10; have hcz11_0 : w9.cell? ⟨gb379, 0, none⟩ = some (.slice none 0 0) := (blk_cell BK379.out 0).trans rfl; have hfz11_0 := blk_frozen BK379.out 0))
  refine bodyPost_ret (results_cell_row rfl _ _ gb379 26 #[.slice Ao10 y383.length co10] (0, 0) _ rfl (by (with_reducible repeat (first | refine blk_drewN ?_ _ | refine blk_drew ?_ | refine blk_alloc ?_ _)); refine blk_put (cs := #[.slice none 0 0]) ?_ 0 _ rfl; (with_reducible repeat (first | refine blk_drewN ?_ _ | refine blk_drew ?_ | refine blk_alloc ?_ _)); exact BK379.out) Try.underlying26 rfl (by kernel_rfl)) rfl ?_
  exact ⟨_, by first | rfl | (simp [errW_none, errW_some] <;> rfl) | (simp [*, errW_none, errW_some] <;> rfl), by (with_reducible repeat (first | apply Kd.R_alloc | apply Kd.R_drewN | apply Kd.R_drew)); exact Kd.R_mono (Kd.R_far (p := ⟨gb379, 0, none⟩) (Kd.R_types HO385.out BK379.out (by decide)) (fun _ hk => hk.2) (.slice Ao10 y383.length co10)) (fun _ hk => trivial), bw HB.out⟩
 ·rw [if_neg c2] at H
  exact absurd H (by simp)

-- NOT PRINTED: function 92 (impl_benchOf)

-- NOT PRINTED: function 94 (impl_bench_end)

-- NOT PRINTED: function 112 (impl_bench_put)

/-! ### impl_Put: OWN: function 56 -/
namespace Hand
open Go.Proofs.Ytkckdibalopagaa.Base
def BnPost (w : World) (base g : Nat) (ok : Nat → Prop) (r : List S34 × Bool × Int) (e : Ending) (w' : World) : Prop := e = .returned (.int .i64 r.2.2) ∧ BnAt w' base g ok r.1 r.2.1 ∧ Below base w w' ∧ Kept w w' (Mine g ok)
set_option maxHeartbeats 8000000 in
set_option maxRecDepth 100000 in
theorem impl_put_at (l : List S34) (bad : Bool) (x : S34) (w : World) (base g : Nat) (ok : Nat → Prop) (hA : BnAt w base g ok l bad) (hbase : base ≤ w.heap.size) (hfresh : ∀ k, w.heap.size ≤ k → ok k) (hl : l.length ≤ 1048576) :
  Calls Try.prog 112 #[.pointer (some ⟨g, 0, none⟩), .agg #[.int .i64 x.f0, .int .i64 x.f1, .int .i64 x.f2, .int .i64 x.f3]] w (BnPost w base g ok (putB l bad x)) := by
 have hu132 := Try.underlying132
 have hu34 := Try.underlying34
 obtain ⟨v, hblk, hbg, hno, hR⟩ := hA
 obtain ⟨A, c, rfl, hlc, hC⟩ := Kd.R_reads hR
 have HG0 := Aside0.mk hblk
 have HR := Aside0.mk hR
 have HC := Aside0.mk hC
 have HL := Aside0.mk hl
 have HBG := Aside0.mk hbg
 have HNO := Aside0.mk hno
 have HBS := Aside0.mk hbase
 have HF := Aside0.mk hfresh
 have HLC := Aside0.mk hlc
 clear hblk hR hC hl hbg hno hbase hfresh hlc
 have hbw : base ≤ w.heap.size := HBS.out
 cases bad with
 | true =>
  have he : putB l true x = (l, true, -1) := rfl
  have HE := Aside0.mk he
  clear he hbw
  go_enter Try.func112, Try.ntmps112
  go_wp2_with (first | ((with_reducible refine gate_dst (N := 3) rfl ?_); refine box_event ?hg (N := 3) ?hd (cs := #[.int .i64 x.f0, .int .i64 x.f1, .int .i64 x.f2, .int .i64 x.f3]) (t := 34) ?hr ?_; (case hd => rfl); (case hg => rfl); (case hr => first | (go_simp; done) | (go_simp; rfl)); intro gb hg1 w3 hbox hb; have BK3 := Aside0.mk hbox; have HB3 := Aside0.mk hb; have GB3 := Aside0.mk hg1; clear hg1 hbox hb))
  have HG3 := Aside0.mk (blk_below HG0.out HB3.out)
  refine start_ (n := 14) (S := fun w' => w'.cell? ⟨g, 0, none⟩ = some (.slice A l.length c) ∧ w'.cell? ⟨gb, 0, none⟩ = some (.int .i64 x.f0) ∧ w'.cell? ⟨gb, 1, none⟩ = some (.int .i64 x.f1) ∧ w'.cell? ⟨gb, 2, none⟩ = some (.int .i64 x.f2) ∧ w'.cell? ⟨gb, 3, none⟩ = some (.int .i64 x.f3) ∧ w'.cell? ⟨g, 1, none⟩ = some (.bool true)) (ds := []) #[false, false, false, false, false, false, false, false, false, false, false, false, false, false] (by kernel_rfl) rfl rfl ⟨(blk_cell (blk_drew HG3.out) 0).trans rfl, (blk_cell (blk_drew BK3.out) 0).trans rfl, (blk_cell (blk_drew BK3.out) 1).trans rfl, (blk_cell (blk_drew BK3.out) 2).trans rfl, (blk_cell (blk_drew BK3.out) 3).trans rfl, (blk_cell (blk_drew HG3.out) 1).trans rfl⟩ (fun hHeld => ?_)
  refine pure_ (i := 0) (N := some 7) (v := ?_) (a' := ?_) #[true, false, false, false, false, false, false, false, false, false, false, false, false, false] rfl rfl (by kernel_rfl) (fun _ _ _ h => h) (Or.inl ⟨by rfl, ?_⟩) ?_ ?_
  rotate_left
  ·intro w'
   go_simp
   with_reducible rfl
  rotate_left
  ·simp only [Act.put, List.setIfInBounds_toArray, List.set_cons_zero, List.set_cons_succ, i64_w, i32_w]
   rfl
  refine pure_ (i := 1) (N := some 8) (v := ?_) (a' := ?_) #[true, true, false, false, false, false, false, false, false, false, false, false, false, false] rfl rfl (by kernel_rfl) (fun _ _ _ h => h) (Or.inl ⟨by rfl, ?_⟩) ?_ ?_
  rotate_left
  ·intro w'
   go_simp
   with_reducible rfl
  rotate_left
  ·simp only [Act.put, List.setIfInBounds_toArray, List.set_cons_zero, List.set_cons_succ, i64_w, i32_w]
   rfl
  refine pure_ (i := 2) (N := some 9) (v := ?_) (a' := ?_) #[true, true, true, false, false, false, false, false, false, false, false, false, false, false] rfl rfl (by kernel_rfl) (fun _ _ _ h => h) (Or.inl ⟨by rfl, ?_⟩) ?_ ?_
  rotate_left
  ·intro w'
   go_simp
   with_reducible rfl
  rotate_left
  ·simp only [Act.put, List.setIfInBounds_toArray, List.set_cons_zero, List.set_cons_succ, i64_w, i32_w]
   rfl
  refine take_ (i := 3) (N := some 10) (v := ?_) (a' := ?_) #[true, true, true, true, false, false, false, false, false, false, false, false, false, false] rfl rfl (by kernel_rfl) (fun _ _ _ h => h) (Or.inl ⟨by rfl, ?_⟩) hHeld ?_ ?_
  rotate_left
  ·rintro w' ⟨s0, s1, s2, s3, s4, s5⟩
   go_simp
   with_reducible rfl
  rotate_left
  ·simp only [Act.put, List.setIfInBounds_toArray, List.set_cons_zero, List.set_cons_succ, i64_w, i32_w]
   rfl
  refine pure_ (i := 4) (N := some 11) (v := ?_) (a' := ?_) #[true, true, true, true, true, false, false, false, false, false, false, false, false, false] rfl rfl (by kernel_rfl) (fun _ _ _ h => h) (Or.inl ⟨by rfl, ?_⟩) ?_ ?_
  rotate_left
  ·intro w'
   go_simp
   with_reducible rfl
  rotate_left
  ·simp only [Act.put, List.setIfInBounds_toArray, List.set_cons_zero, List.set_cons_succ, i64_w, i32_w]
   rfl
  refine pure_ (i := 5) (N := some 12) (v := undef) (a' := ?_) #[true, true, true, true, true, true, false, false, false, false, false, false, false, false] rfl rfl (by kernel_rfl) (fun _ _ _ h => h) (Or.inr ⟨by rfl, rfl⟩) ?_ ?_
  rotate_left
  ·simp only [Act.put, List.setIfInBounds_toArray, List.set_cons_zero, List.set_cons_succ, i64_w, i32_w]
   rfl
  refine pure_ (i := 6) (N := some 13) (v := undef) (a' := ?_) #[true, true, true, true, true, true, true, false, false, false, false, false, false, false] rfl rfl (by kernel_rfl) (fun _ _ _ h => h) (Or.inr ⟨by rfl, rfl⟩) ?_ ?_
  rotate_left
  ·simp only [Act.put, List.setIfInBounds_toArray, List.set_cons_zero, List.set_cons_succ, i64_w, i32_w]
   rfl
  refine pure_ (i := 7) (N := some 14) (v := undef) (a' := ?_) #[true, true, true, true, true, true, true, true, false, false, false, false, false, false] rfl rfl (by kernel_rfl) (fun _ _ _ h => h) (Or.inr ⟨by rfl, rfl⟩) ?_ ?_
  rotate_left
  ·simp only [Act.put, List.setIfInBounds_toArray, List.set_cons_zero, List.set_cons_succ, i64_w, i32_w]
   rfl
  refine pure_ (i := 8) (N := some 15) (v := undef) (a' := ?_) #[true, true, true, true, true, true, true, true, true, false, false, false, false, false] rfl rfl (by kernel_rfl) (fun _ _ _ h => h) (Or.inr ⟨by rfl, rfl⟩) ?_ ?_
  rotate_left
  ·simp only [Act.put, List.setIfInBounds_toArray, List.set_cons_zero, List.set_cons_succ, i64_w, i32_w]
   rfl
  refine pure_ (i := 9) (N := some 16) (v := undef) (a' := ?_) #[true, true, true, true, true, true, true, true, true, true, false, false, false, false] rfl rfl (by kernel_rfl) (fun _ _ _ h => h) (Or.inr ⟨by rfl, rfl⟩) ?_ ?_
  rotate_left
  ·simp only [Act.put, List.setIfInBounds_toArray, List.set_cons_zero, List.set_cons_succ, i64_w, i32_w]
   rfl
  refine pure_ (i := 10) (N := some 17) (v := undef) (a' := ?_) #[true, true, true, true, true, true, true, true, true, true, true, false, false, false] rfl rfl (by kernel_rfl) (fun _ _ _ h => h) (Or.inr ⟨by rfl, rfl⟩) ?_ ?_
  rotate_left
  ·simp only [Act.put, List.setIfInBounds_toArray, List.set_cons_zero, List.set_cons_succ, i64_w, i32_w]
   rfl
  refine pure_ (i := 11) (N := some 18) (v := undef) (a' := ?_) #[true, true, true, true, true, true, true, true, true, true, true, true, false, false] rfl rfl (by kernel_rfl) (fun _ _ _ h => h) (Or.inr ⟨by rfl, rfl⟩) ?_ ?_
  rotate_left
  ·simp only [Act.put, List.setIfInBounds_toArray, List.set_cons_zero, List.set_cons_succ, i64_w, i32_w]
   rfl
  refine pure_ (i := 12) (N := some 19) (v := undef) (a' := ?_) #[true, true, true, true, true, true, true, true, true, true, true, true, true, false] rfl rfl (by kernel_rfl) (fun _ _ _ h => h) (Or.inr ⟨by rfl, rfl⟩) ?_ ?_
  rotate_left
  ·simp only [Act.put, List.setIfInBounds_toArray, List.set_cons_zero, List.set_cons_succ, i64_w, i32_w]
   rfl
  refine pure_ (i := 13) (N := some 20) (v := ?_) (a' := ?_) #[true, true, true, true, true, true, true, true, true, true, true, true, true, true] rfl rfl (by kernel_rfl) (fun _ _ _ h => h) (Or.inl ⟨by rfl, ?_⟩) ?_ ?_
  rotate_left
  ·intro w'
   go_simp
   with_reducible rfl
  rotate_left
  ·simp only [Act.put, List.setIfInBounds_toArray, List.set_cons_zero, List.set_cons_succ, i64_w, i32_w]
   rfl
  refine done_ (by kernel_rfl) ?_
  have HG4 := Aside0.mk (blk_drew HG3.out)
  have BK4 := Aside0.mk (blk_drew BK3.out)
  have HB4 := Aside0.mk (below_drew1 HB3.out)
  generalize w3.drew = w4 at HG4 BK4 HB4 ⊢
  have hn0 : w4.cell? ⟨gb, 0, none⟩ = some (.int .i64 x.f0) := (blk_cell BK4.out 0).trans rfl
  have hn1 : w4.cell? ⟨gb, 1, none⟩ = some (.int .i64 x.f1) := (blk_cell BK4.out 1).trans rfl
  have hn2 : w4.cell? ⟨gb, 2, none⟩ = some (.int .i64 x.f2) := (blk_cell BK4.out 2).trans rfl
  have hn3 : w4.cell? ⟨gb, 3, none⟩ = some (.int .i64 x.f3) := (blk_cell BK4.out 3).trans rfl
  have hf0 := blk_frozen BK4.out 0
  have hf1 := blk_frozen BK4.out 1
  have hf2 := blk_frozen BK4.out 2
  have hf3 := blk_frozen BK4.out 3
  have hg0 : w4.cell? ⟨g, 0, none⟩ = some (.slice A l.length c) := (blk_cell HG4.out 0).trans rfl
  have hgf := blk_frozen HG4.out 0
  have hg1 : w4.cell? ⟨g, 1, none⟩ = some (.bool true) := (blk_cell HG4.out 1).trans rfl
  have hgf1 := blk_frozen HG4.out 1
  go_wp2
  obtain ⟨w9, hw9⟩ : ∃ w9, w4.setCell ⟨g, 1, none⟩ (.bool true) = w9 := ⟨_, rfl⟩
  rw [hw9]
  have HG9 : w9.heap[g]? = some (.cells #[.slice A l.length c, .bool true] 132 (0, 0)) := by rw [← hw9]; exact blk_put (HG4.out) 1 _ rfl
  have HB9 : Below base w w9 := by rw [← hw9]; exact (HB4.out.mono HBS.out).setCell HBG.out _
  have HK9 : Kept w w9 (Mine g ok) := by rw [← hw9]; exact Kept.setCell (Kept.of_below HB4.out _) (.inl (.inl rfl)) _
  have HO9 : Kd.R k34 34 w9 base ok (.slice A l.length c) l := by rw [← hw9]; exact Kd.R_far (Kd.R_below HR.out HB4.out) (fun k hk e => HNO.out (by rwa [show k = g from e] at hk)) _
  clear hw9
  go_ret
  rw [HE.out]
  exact ⟨rfl, ⟨_, HG9, HBG.out, HNO.out, HO9⟩, HB9, HK9⟩
 | false =>
  obtain ⟨kn, hK⟩ := impl_nodeRight_f x.f0 x.f1 x.f2 x.f3 (l.length : Int) (by have := HL.out; omega)
  have HK := Aside0.mk (hK kn (Nat.le_refl _))
  clear hK
  by_cases hb : nodeB x.f0 x.f1 x.f2 x.f3 (l.length : Int) = true
  ·rw [hb] at HK
   have HN := Aside0.mk hb
   clear hb hbw
   go_enter Try.func112, Try.ntmps112
   go_wp2_with (first | ((with_reducible refine gate_dst (N := 3) rfl ?_); refine box_event ?hg (N := 3) ?hd (cs := #[.int .i64 x.f0, .int .i64 x.f1, .int .i64 x.f2, .int .i64 x.f3]) (t := 34) ?hr ?_; (case hd => rfl); (case hg => rfl); (case hr => first | (go_simp; done) | (go_simp; rfl)); intro gb hg1 w3 hbox hb; have BK3 := Aside0.mk hbox; have HB3 := Aside0.mk hb; have GB3 := Aside0.mk hg1; clear hg1 hbox hb))
   have HG3 := Aside0.mk (blk_below HG0.out HB3.out)
   refine start_ (n := 14) (S := fun w' => w'.cell? ⟨g, 0, none⟩ = some (.slice A l.length c) ∧ w'.cell? ⟨gb, 0, none⟩ = some (.int .i64 x.f0) ∧ w'.cell? ⟨gb, 1, none⟩ = some (.int .i64 x.f1) ∧ w'.cell? ⟨gb, 2, none⟩ = some (.int .i64 x.f2) ∧ w'.cell? ⟨gb, 3, none⟩ = some (.int .i64 x.f3) ∧ w'.cell? ⟨g, 1, none⟩ = some (.bool false)) (ds := []) #[false, false, false, false, false, false, false, false, false, false, false, false, false, false] (by kernel_rfl) rfl rfl ⟨(blk_cell (blk_drew HG3.out) 0).trans rfl, (blk_cell (blk_drew BK3.out) 0).trans rfl, (blk_cell (blk_drew BK3.out) 1).trans rfl, (blk_cell (blk_drew BK3.out) 2).trans rfl, (blk_cell (blk_drew BK3.out) 3).trans rfl, (blk_cell (blk_drew HG3.out) 1).trans rfl⟩ (fun hHeld => ?_)
   refine pure_ (i := 0) (N := some 7) (v := ?_) (a' := ?_) #[true, false, false, false, false, false, false, false, false, false, false, false, false, false] rfl rfl (by kernel_rfl) (fun _ _ _ h => h) (Or.inl ⟨by rfl, ?_⟩) ?_ ?_
   rotate_left
   ·intro w'
    go_simp
    with_reducible rfl
   rotate_left
   ·simp only [Act.put, List.setIfInBounds_toArray, List.set_cons_zero, List.set_cons_succ, i64_w, i32_w]
    rfl
   refine pure_ (i := 1) (N := some 8) (v := ?_) (a' := ?_) #[true, true, false, false, false, false, false, false, false, false, false, false, false, false] rfl rfl (by kernel_rfl) (fun _ _ _ h => h) (Or.inl ⟨by rfl, ?_⟩) ?_ ?_
   rotate_left
   ·intro w'
    go_simp
    with_reducible rfl
   rotate_left
   ·simp only [Act.put, List.setIfInBounds_toArray, List.set_cons_zero, List.set_cons_succ, i64_w, i32_w]
    rfl
   refine pure_ (i := 2) (N := some 9) (v := ?_) (a' := ?_) #[true, true, true, false, false, false, false, false, false, false, false, false, false, false] rfl rfl (by kernel_rfl) (fun _ _ _ h => h) (Or.inl ⟨by rfl, ?_⟩) ?_ ?_
   rotate_left
   ·intro w'
    go_simp
    with_reducible rfl
   rotate_left
   ·simp only [Act.put, List.setIfInBounds_toArray, List.set_cons_zero, List.set_cons_succ, i64_w, i32_w]
    rfl
   refine take_ (i := 3) (N := some 10) (v := ?_) (a' := ?_) #[true, true, true, true, false, false, false, false, false, false, false, false, false, false] rfl rfl (by kernel_rfl) (fun _ _ _ h => h) (Or.inl ⟨by rfl, ?_⟩) hHeld ?_ ?_
   rotate_left
   ·rintro w' ⟨s0, s1, s2, s3, s4, s5⟩
    go_simp
    with_reducible rfl
   rotate_left
   ·simp only [Act.put, List.setIfInBounds_toArray, List.set_cons_zero, List.set_cons_succ, i64_w, i32_w]
    rfl
   refine pure_ (i := 4) (N := some 11) (v := ?_) (a' := ?_) #[true, true, true, true, true, false, false, false, false, false, false, false, false, false] rfl rfl (by kernel_rfl) (fun _ _ _ h => h) (Or.inl ⟨by rfl, ?_⟩) ?_ ?_
   rotate_left
   ·intro w'
    go_simp
    with_reducible rfl
   rotate_left
   ·simp only [Act.put, List.setIfInBounds_toArray, List.set_cons_zero, List.set_cons_succ, i64_w, i32_w]
    rfl
   refine pure_ (i := 6) (N := some 13) (v := ?_) (a' := ?_) #[true, true, true, true, true, false, true, false, false, false, false, false, false, false] rfl rfl (by kernel_rfl) (fun _ _ _ h => h) (Or.inl ⟨by rfl, ?_⟩) ?_ ?_
   rotate_left
   ·intro w'
    go_simp
    with_reducible rfl
   rotate_left
   ·simp only [Act.put, List.setIfInBounds_toArray, List.set_cons_zero, List.set_cons_succ, i64_w, i32_w]
    rfl
   refine pure_ (i := 7) (N := some 14) (v := ?_) (a' := ?_) #[true, true, true, true, true, false, true, true, false, false, false, false, false, false] rfl rfl (by kernel_rfl) (fun _ _ _ h => h) (Or.inl ⟨by rfl, ?_⟩) ?_ ?_
   rotate_left
   ·intro w'
    go_simp
    with_reducible rfl
   rotate_left
   ·simp only [Act.put, List.setIfInBounds_toArray, List.set_cons_zero, List.set_cons_succ, i64_w, i32_w]
    rfl
   refine pure_ (i := 8) (N := some 15) (v := ?_) (a' := ?_) #[true, true, true, true, true, false, true, true, true, false, false, false, false, false] rfl rfl (by kernel_rfl) (fun _ _ _ h => h) (Or.inl ⟨by rfl, ?_⟩) ?_ ?_
   rotate_left
   ·intro w'
    go_simp
    with_reducible rfl
   rotate_left
   ·simp only [Act.put, List.setIfInBounds_toArray, List.set_cons_zero, List.set_cons_succ, i64_w, i32_w]
    rfl
   refine take_ (i := 5) (N := some 12) (v := ?_) (a' := ?_) #[true, true, true, true, true, true, true, true, true, false, false, false, false, false] rfl rfl (by kernel_rfl) (fun _ _ _ h => h) (Or.inl ⟨by rfl, ?_⟩) hHeld ?_ ?_
   rotate_left
   ·rintro w' ⟨s0, s1, s2, s3, s4, s5⟩
    go_simp
    with_reducible rfl
   rotate_left
   ·simp only [Act.put, List.setIfInBounds_toArray, List.set_cons_zero, List.set_cons_succ, i64_w, i32_w]
    rfl
   refine take_ (i := 9) (N := some 16) (v := ?_) (a' := ?_) #[true, true, true, true, true, true, true, true, true, true, false, false, false, false] rfl rfl (by kernel_rfl) (fun _ _ _ h => h) (Or.inl ⟨by rfl, ?_⟩) hHeld ?_ ?_
   rotate_left
   ·rintro w' ⟨s0, s1, s2, s3, s4, s5⟩
    go_simp
    with_reducible rfl
   rotate_left
   ·simp only [Act.put, List.setIfInBounds_toArray, List.set_cons_zero, List.set_cons_succ, i64_w, i32_w]
    rfl
   refine pure_ (i := 10) (N := some 17) (v := ?_) (a' := ?_) #[true, true, true, true, true, true, true, true, true, true, true, false, false, false] rfl rfl (by kernel_rfl) (fun _ _ _ h => h) (Or.inl ⟨by rfl, ?_⟩) ?_ ?_
   rotate_left
   ·intro w'
    go_simp
    with_reducible rfl
   rotate_left
   ·simp only [Act.put, List.setIfInBounds_toArray, List.set_cons_zero, List.set_cons_succ, i64_w, i32_w]
    rfl
   refine one_ (i := 11) (N := some 18) #[true, true, true, true, true, true, true, true, true, true, true, true, false, false] rfl rfl (by kernel_rfl) (by decide) (fun K hK => ?_)
   refine goes_ Try.func84 (by kernel_rfl) rfl #[.agg #[.int .i64 x.f0, .int .i64 x.f1, .int .i64 x.f2, .int .i64 x.f3], .int .i64 (l.length : Int)] (by rfl) rfl rfl (by simp only [List.map_toArray, List.map_cons, List.map_nil]; rfl) ?_
   with_reducible refine (impl_nodeRight.calls kn x.f0 x.f1 x.f2 x.f3 (l.length : Int) true _ HK.out).mono ?_
   rintro e w4 ⟨rfl, hb4⟩
   refine ⟨_, rfl, ?_⟩
   have HG4 := Aside0.mk (blk_below (blk_drew HG3.out) hb4)
   have BK4 := Aside0.mk (blk_below (blk_drew BK3.out) hb4)
   have HB4 := Aside0.mk (below_step (below_drew1 HB3.out) hb4)
   clear hb4
   refine hK.out _ _ ⟨(blk_cell (HG4.out) 0).trans rfl, (blk_cell (BK4.out) 0).trans rfl, (blk_cell (BK4.out) 1).trans rfl, (blk_cell (BK4.out) 2).trans rfl, (blk_cell (BK4.out) 3).trans rfl, (blk_cell HG4.out 1).trans rfl⟩ (fun hHeld => ?_)
   clear hK K
   refine norm_ (a' := ?_) ?_ ?_
   rotate_left
   ·show Act.put _ (some 18) _ = _
    simp only [Act.put, List.setIfInBounds_toArray, List.set_cons_zero, List.set_cons_succ, i64_w, i32_w]
    rfl
   refine pure_ (i := 12) (N := some 19) (v := ?_) (a' := ?_) #[true, true, true, true, true, true, true, true, true, true, true, true, true, false] rfl rfl (by kernel_rfl) (fun _ _ _ h => h) (Or.inl ⟨by rfl, ?_⟩) ?_ ?_
   rotate_left
   ·intro w'
    go_simp
    with_reducible rfl
   rotate_left
   ·simp only [Act.put, List.setIfInBounds_toArray, List.set_cons_zero, List.set_cons_succ, i64_w, i32_w]
    rfl
   refine pure_ (i := 13) (N := some 20) (v := ?_) (a' := ?_) #[true, true, true, true, true, true, true, true, true, true, true, true, true, true] rfl rfl (by kernel_rfl) (fun _ _ _ h => h) (Or.inl ⟨by rfl, ?_⟩) ?_ ?_
   rotate_left
   ·intro w'
    go_simp
    with_reducible rfl
   rotate_left
   ·simp only [Act.put, List.setIfInBounds_toArray, List.set_cons_zero, List.set_cons_succ, i64_w, i32_w]
    rfl
   refine done_ (by kernel_rfl) ?_
   have hn0 : w4.cell? ⟨gb, 0, none⟩ = some (.int .i64 x.f0) := (blk_cell BK4.out 0).trans rfl
   have hn1 : w4.cell? ⟨gb, 1, none⟩ = some (.int .i64 x.f1) := (blk_cell BK4.out 1).trans rfl
   have hn2 : w4.cell? ⟨gb, 2, none⟩ = some (.int .i64 x.f2) := (blk_cell BK4.out 2).trans rfl
   have hn3 : w4.cell? ⟨gb, 3, none⟩ = some (.int .i64 x.f3) := (blk_cell BK4.out 3).trans rfl
   have hf0 := blk_frozen BK4.out 0
   have hf1 := blk_frozen BK4.out 1
   have hf2 := blk_frozen BK4.out 2
   have hf3 := blk_frozen BK4.out 3
   have hg0 : w4.cell? ⟨g, 0, none⟩ = some (.slice A l.length c) := (blk_cell HG4.out 0).trans rfl
   have hgf := blk_frozen HG4.out 0
   have hg1 : w4.cell? ⟨g, 1, none⟩ = some (.bool false) := (blk_cell HG4.out 1).trans rfl
   have hgf1 := blk_frozen HG4.out 1
   go_wp2
   go_loopw [29] (fun v wr => ∃ i : Int, 0 ≤ i ∧ i ≤ l.length ∧ v = .int .i64 i ∧ Aside0 (∀ m (hm : m < l.length), m < i.toNat → sameN l[m] x = false) ∧ Aside0 (wr.heap[g]? = some (.cells #[.slice A l.length c, .bool false] 132 (0, 0))) ∧ Aside0 (wr.heap[gb]? = some (.cells #[.int .i64 x.f0, .int .i64 x.f1, .int .i64 x.f2, .int .i64 x.f3] 34 (0, 0))) ∧ Aside0 (Below w.heap.size w wr)) (fun i _ => l.length - (intOf i).toNat)
   case atStart => exact ⟨0, by omega, by omega, rfl, ⟨fun m _ hm => by simp at hm⟩, ⟨HG4.out⟩, ⟨BK4.out⟩, ⟨HB4.out⟩⟩
   case round =>
    clear hn0 hf0 hn1 hf1 hn2 hf2 hn3 hf3 hg0 hgf hg1 hgf1
    obtain ⟨i, h0, h1, rfl, HA, HG5, BK5, HB5⟩ := hrel
    have Hi := Aside0.mk h0
    have Hj := Aside0.mk h1
    have hn0 : wr.cell? ⟨gb, 0, none⟩ = some (.int .i64 x.f0) := (blk_cell BK5.out 0).trans rfl
    have hn1 : wr.cell? ⟨gb, 1, none⟩ = some (.int .i64 x.f1) := (blk_cell BK5.out 1).trans rfl
    have hn2 : wr.cell? ⟨gb, 2, none⟩ = some (.int .i64 x.f2) := (blk_cell BK5.out 2).trans rfl
    have hn3 : wr.cell? ⟨gb, 3, none⟩ = some (.int .i64 x.f3) := (blk_cell BK5.out 3).trans rfl
    have hf0 := blk_frozen BK5.out 0
    have hf1 := blk_frozen BK5.out 1
    have hf2 := blk_frozen BK5.out 2
    have hf3 := blk_frozen BK5.out 3
    have hg0 : wr.cell? ⟨g, 0, none⟩ = some (.slice A l.length c) := (blk_cell HG5.out 0).trans rfl
    have hgf := blk_frozen HG5.out 0
    have hg1 : wr.cell? ⟨g, 1, none⟩ = some (.bool false) := (blk_cell HG5.out 1).trans rfl
    have hgf1 := blk_frozen HG5.out 1
    have hm0 : ∀ o, (wr.alloc o).cell? ⟨gb, 0, none⟩ = some (.int .i64 x.f0) := fun o => (blk_cell (blk_alloc BK5.out o) 0).trans rfl
    have hm1 : ∀ o, (wr.alloc o).cell? ⟨gb, 1, none⟩ = some (.int .i64 x.f1) := fun o => (blk_cell (blk_alloc BK5.out o) 1).trans rfl
    have hm2 : ∀ o, (wr.alloc o).cell? ⟨gb, 2, none⟩ = some (.int .i64 x.f2) := fun o => (blk_cell (blk_alloc BK5.out o) 2).trans rfl
    have hm3 : ∀ o, (wr.alloc o).cell? ⟨gb, 3, none⟩ = some (.int .i64 x.f3) := fun o => (blk_cell (blk_alloc BK5.out o) 3).trans rfl
    by_cases hlt : i < (l.length : Int)
    ·obtain ⟨ad, e1, x0, x1, x2, x3⟩ := at_T34 HC.out i h0 hlt
     cases e1
     have Hlt := Aside0.mk hlt
     obtain ⟨nd, hnd⟩ : ∃ nd, rd_T34 l i = nd := ⟨_, rfl⟩
     rw [hnd] at x0 x1 x2 x3
     have enode : ∀ h : i.toNat < l.length, l[i.toNat]'h = nd := fun h => by rw [← hnd, ← rdI (l := l) (i := i.toNat) h, Int.toNat_of_nonneg h0]
     have EN := Aside0.mk enode
     replace x0 := (HB5.out.cell (World.block_lt_of_cell? w _ x0)).trans x0
     replace x1 := (HB5.out.cell (World.block_lt_of_cell? w _ x1)).trans x1
     replace x2 := (HB5.out.cell (World.block_lt_of_cell? w _ x2)).trans x2
     replace x3 := (HB5.out.cell (World.block_lt_of_cell? w _ x3)).trans x3
     have p0 : (0 ≤ i) = True := eq_true h0
     have p1 : (i < (l.length : Int)) = True := eq_true hlt
     have p2 : decide (i < (l.length : Int)) = true := decide_eq_true hlt
     by_cases hs : sameN nd x = true
     ·have he : putB l false x = (l, false, i) := by
       have ha : atV l x = i := by
        have := atV_hit (l := l) (x := x) (i := i.toNat) (by omega) (by rw [enode (by omega)]; exact hs) (fun j hj => HA.out j (by omega) hj)
        rw [this, Int.toNat_of_nonneg h0]
       have hp : putN l x = (l, i) := by unfold putN; rw [if_pos HN.out, ha, if_pos h0]
       unfold putB
       rw [if_neg (by simp), hp, if_neg (by simp only; omega)]
      have HE := Aside0.mk he
      clear he h0 h1 hlt hnd enode
      have hs2 := sameN_eq hs
      clear hs
      subst hs2
      go_wp2
      go_ret
      rw [HE.out]
      exact ⟨rfl, ⟨_, blk_alloc HG5.out _, HBG.out, HNO.out, Kd.R_alloc (Kd.R_below HR.out HB5.out) _⟩, (below_alloc HB5.out _).mono HBS.out, Kept.of_below (below_alloc HB5.out _) _⟩
     ·have hs0 : sameN nd x = false := by simpa using hs
      have HS0 := Aside0.mk hs0
      rw [← sameN_def] at hs0
      clear h0 h1 hlt hnd enode hs
      go_wp2
      all_goals first
       | (exfalso; simp_all; done)
       | skip
      all_goals
       go_roundw
       case rel =>
        have hll := HL.out
        have hii := Hi.out
        have hij := Hlt.out
        refine ⟨i + 1, by omega, by omega, by first | rfl | (simp only [Value.int.injEq, true_and]; exact w64 (by omega) (by omega)), ⟨fun m hm hmi => ?_⟩, ⟨blk_alloc HG5.out _⟩, ⟨blk_alloc BK5.out _⟩, ⟨below_alloc HB5.out _⟩⟩
        by_cases hmi2 : m = i.toNat
        ·subst hmi2
         rw [EN.out hm]; exact HS0.out
        ·exact HA.out m hm (by omega)
       case measure => have hii := Hi.out; have hij := Hlt.out; have hll := HL.out; have hw := w64 (x := i + 1) (by omega) (by omega); simp only [intOf]; simp; rw [hw]; omega
    ·obtain rfl : i = (l.length : Int) := by omega
     have ha : atV l x = -1 := atV_miss (fun j hj => HA.out j hj (by omega))
     clear h0 h1 hlt
     by_cases h3 : 3000 ≤ l.length
     ·have he : putB l false x = (l, true, -1) := by
       have hp : putN l x = (l, -1) := by unfold putN; rw [if_pos HN.out, if_neg (by omega), if_pos h3]
       unfold putB
       rw [if_neg (by simp), hp]
       rfl
      have HE := Aside0.mk he
      have h30 : decide (3000 ≤ (l.length : Int)) = true := decide_eq_true (by omega)
      have h31 : decide (3000 ≤ l.length) = true := decide_eq_true h3
      clear he ha h3
      go_wp2
      obtain ⟨w9, hw9⟩ : ∃ w9, wr.setCell ⟨g, 1, none⟩ (.bool true) = w9 := ⟨_, rfl⟩
      rw [hw9]
      have HG9 : w9.heap[g]? = some (.cells #[.slice A l.length c, .bool true] 132 (0, 0)) := by rw [← hw9]; exact blk_put (HG5.out) 1 _ rfl
      have HB9 : Below base w w9 := by rw [← hw9]; exact (HB5.out.mono HBS.out).setCell HBG.out _
      have HK9 : Kept w w9 (Mine g ok) := by rw [← hw9]; exact Kept.setCell (Kept.of_below HB5.out _) (.inl (.inl rfl)) _
      have HO9 : Kd.R k34 34 w9 base ok (.slice A l.length c) l := by rw [← hw9]; exact Kd.R_far (Kd.R_below HR.out HB5.out) (fun k hk e => HNO.out (by rwa [show k = g from e] at hk)) _
      clear hw9
      go_ret
      rw [HE.out]
      exact ⟨rfl, ⟨_, HG9, HBG.out, HNO.out, HO9⟩, HB9, HK9⟩
     ·have he : putB l false x = (l ++ [x], false, (l.length : Int)) := by
       have hp : putN l x = (l ++ [x], (l.length : Int)) := by unfold putN; rw [if_pos HN.out, if_neg (by omega), if_neg h3]
       unfold putB
       rw [if_neg (by simp), hp, if_neg (by simp only; omega)]
      have HE := Aside0.mk he
      have h30 : decide (3000 ≤ (l.length : Int)) = false := decide_eq_false (by omega)
      have h31 : decide (3000 ≤ l.length) = false := decide_eq_false h3
      have H3 := Aside0.mk h3
      clear he ha h3
      go_wp2
      have HRw := Aside0.mk (Kd.R_below (Kd.R_elderB HR.out gb (by rw [GB3.out]; exact Nat.le_refl _)) HB5.out)
      have HS5 := Aside0.mk (below_size HB5.out)
      have HGB := Aside0.mk (show gb < wr.heap.size from blk_lt BK5.out)
      refine start_ (n := 11) (S := fun w' => w'.cell? ⟨g, 0, none⟩ = some (.slice A l.length c) ∧ w'.cell? ⟨gb, 0, none⟩ = some (.int .i64 x.f0) ∧ w'.cell? ⟨gb, 1, none⟩ = some (.int .i64 x.f1) ∧ w'.cell? ⟨gb, 2, none⟩ = some (.int .i64 x.f2) ∧ w'.cell? ⟨gb, 3, none⟩ = some (.int .i64 x.f3)) (ds := [10]) #[false, false, false, false, false, false, false, false, false, false, false] (by kernel_rfl) rfl rfl ⟨(blk_cell (blk_drew HG5.out) 0).trans rfl, (blk_cell (blk_drew BK5.out) 0).trans rfl, (blk_cell (blk_drew BK5.out) 1).trans rfl, (blk_cell (blk_drew BK5.out) 2).trans rfl, (blk_cell (blk_drew BK5.out) 3).trans rfl⟩ (fun hHeld => ?_)
      refine pure_ (i := 0) (N := some 48) (v := ?_) (a' := ?_) #[true, false, false, false, false, false, false, false, false, false, false] rfl rfl (by kernel_rfl) (fun _ _ _ h => h) (Or.inl ⟨by rfl, ?_⟩) ?_ ?_
      rotate_left
      ·intro w'
       go_simp
       with_reducible rfl
      rotate_left
      ·simp only [Act.put, List.setIfInBounds_toArray, List.set_cons_zero, List.set_cons_succ, i64_w, i32_w]
       rfl
      refine pure_ (i := 1) (N := some 49) (v := ?_) (a' := ?_) #[true, true, false, false, false, false, false, false, false, false, false] rfl rfl (by kernel_rfl) (fun _ _ _ h => h) (Or.inl ⟨by rfl, ?_⟩) ?_ ?_
      rotate_left
      ·intro w'
       go_simp
       with_reducible rfl
      rotate_left
      ·simp only [Act.put, List.setIfInBounds_toArray, List.set_cons_zero, List.set_cons_succ, i64_w, i32_w]
       rfl
      refine pure_ (i := 2) (N := some 50) (v := ?_) (a' := ?_) #[true, true, true, false, false, false, false, false, false, false, false] rfl rfl (by kernel_rfl) (fun _ _ _ h => h) (Or.inl ⟨by rfl, ?_⟩) ?_ ?_
      rotate_left
      ·intro w'
       go_simp
       with_reducible rfl
      rotate_left
      ·simp only [Act.put, List.setIfInBounds_toArray, List.set_cons_zero, List.set_cons_succ, i64_w, i32_w]
       rfl
      refine pure_ (i := 3) (N := some 51) (v := ?_) (a' := ?_) #[true, true, true, true, false, false, false, false, false, false, false] rfl rfl (by kernel_rfl) (fun _ _ _ h => h) (Or.inl ⟨by rfl, ?_⟩) ?_ ?_
      rotate_left
      ·intro w'
       go_simp
       with_reducible rfl
      rotate_left
      ·simp only [Act.put, List.setIfInBounds_toArray, List.set_cons_zero, List.set_cons_succ, i64_w, i32_w]
       rfl
      refine take_ (i := 4) (N := some 52) (v := ?_) (a' := ?_) #[true, true, true, true, true, false, false, false, false, false, false] rfl rfl (by kernel_rfl) (fun _ _ _ h => h) (Or.inl ⟨by rfl, ?_⟩) hHeld ?_ ?_
      rotate_left
      ·rintro w' ⟨s0, s1, s2, s3, s4⟩
       go_simp
       with_reducible rfl
      rotate_left
      ·simp only [Act.put, List.setIfInBounds_toArray, List.set_cons_zero, List.set_cons_succ, i64_w, i32_w]
       rfl
      refine take_ (i := 5) (N := some 53) (v := ?_) (a' := ?_) #[true, true, true, true, true, true, false, false, false, false, false] rfl rfl (by kernel_rfl) (fun _ _ _ h => h) (Or.inl ⟨by rfl, ?_⟩) hHeld ?_ ?_
      rotate_left
      ·rintro w' ⟨s0, s1, s2, s3, s4⟩
       go_simp
       with_reducible rfl
      rotate_left
      ·simp only [Act.put, List.setIfInBounds_toArray, List.set_cons_zero, List.set_cons_succ, i64_w, i32_w]
       rfl
      refine one_ (i := 6) (N := some 54) #[true, true, true, true, true, true, true, false, false, false, false] rfl rfl (by kernel_rfl) (by decide) (fun K hK => ?_)
      refine value_ (w1 := ?_) (v := ?_) (by rfl) rfl ?_ ?_
      rotate_left 2
      ·go_simp
       constructor
       ·rfl
       ·rfl
      refine hK.out _ _ ⟨(blk_cell (blk_alloc (blk_drew HG5.out) _) 0).trans rfl, (blk_cell (blk_alloc (blk_drew BK5.out) _) 0).trans rfl, (blk_cell (blk_alloc (blk_drew BK5.out) _) 1).trans rfl, (blk_cell (blk_alloc (blk_drew BK5.out) _) 2).trans rfl, (blk_cell (blk_alloc (blk_drew BK5.out) _) 3).trans rfl⟩ (fun hHeld => ?_)
      clear hK K
      refine norm_ (a' := ?_) ?_ ?_
      rotate_left
      ·show Act.put _ (some 54) _ = _
       simp only [Act.put, List.setIfInBounds_toArray, List.set_cons_zero, List.set_cons_succ, i64_w, i32_w]
       rfl
      refine one_ (i := 7) (N := some 55) #[true, true, true, true, true, true, true, true, false, false, false] rfl rfl (by kernel_rfl) (by decide) (fun K hK => ?_)
      refine Kd.R_append_step k34 (w0 := w) (W := wr.drew) base (by rfl) (.tmp 52) (.tmp 54) 24 34 (.agg #[.int .i64 0, .int .i64 0, .int .i64 0, .int .i64 0]) 32 rfl Try.underlying24 info34 rfl (by decide) (by decide) (.slice A l.length c) l x [.int .i64 x.f0, .int .i64 x.f1, .int .i64 x.f2, .int .i64 x.f3] (fun k => ok k ∧ k ≠ gb) (fun _ => False) rfl rfl (k34_mkM _ _ _ x) (fun _ h => h.elim) (fun k hk => ⟨HF.out k (Nat.le_trans HS5.out hk), fun e => Nat.lt_irrefl _ (Nat.lt_of_lt_of_le HGB.out (e ▸ hk))⟩) (Kd.R_drew HRw.out) ((below_drew1 HB5.out).mono HBS.out) (Nat.le_trans HBS.out HS5.out) (Nat.le_trans (Nat.mul_le_mul_right 32 (Nat.lt_of_not_le H3.out)) (by decide)) ?_
      intro v1 w7 ho hb hg hat
      have hne : ∀ k, (Value.slice A l.length c).ownBlock = some k → ok k ∧ k ≠ gb := HRw.out.1
      have HG7 := Aside0.mk (blk_grown (blk_drew HG5.out) hg (fun e => HNO.out (hne _ e.symm).1))
      have BK7 := Aside0.mk (blk_grown (blk_drew BK5.out) hg (fun e => (hne _ e.symm).2 rfl))
      have HK7 := Aside0.mk (Kept.of_grown (S := Mine g ok) hg (Kept.drew (Kept.of_below HB5.out _)) (fun k hk => .inl (.inr (hne k hk).1)))
      have HB7 := Aside0.mk hb
      obtain ⟨A1, c1, rfl, hlc1, _⟩ := Kd.R_reads ho
      have HO7 := Aside0.mk ho
      have hg07 : w7.cell? ⟨g, 0, none⟩ = some (.slice A l.length c) := (blk_cell HG7.out 0).trans rfl
      have hgf7 := blk_frozen HG7.out 0
      clear ho hb hg hat hne hlc1
      refine hK.out _ _ ⟨(blk_cell HG7.out 0).trans rfl, (blk_cell BK7.out 0).trans rfl, (blk_cell BK7.out 1).trans rfl, (blk_cell BK7.out 2).trans rfl, (blk_cell BK7.out 3).trans rfl⟩ (fun hHeld => ?_)
      clear hK K
      refine norm_ (a' := ?_) ?_ ?_
      rotate_left
      ·show Act.put _ (some 55) _ = _
       simp only [Act.put, List.setIfInBounds_toArray, List.set_cons_zero, List.set_cons_succ, i64_w, i32_w]
       rfl
      refine pure_ (i := 8) (N := some 56) (v := ?_) (a' := ?_) #[true, true, true, true, true, true, true, true, true, false, false] rfl rfl (by kernel_rfl) (fun _ _ _ h => h) (Or.inl ⟨by rfl, ?_⟩) ?_ ?_
      rotate_left
      ·intro w'
       go_simp
       with_reducible rfl
      rotate_left
      ·simp only [Act.put, List.setIfInBounds_toArray, List.set_cons_zero, List.set_cons_succ, i64_w, i32_w]
       rfl
      refine pure_ (i := 9) (N := some 57) (v := ?_) (a' := ?_) #[true, true, true, true, true, true, true, true, true, true, false] rfl rfl (by kernel_rfl) (fun _ _ _ h => h) (Or.inl ⟨by rfl, ?_⟩) ?_ ?_
      rotate_left
      ·intro w'
       go_simp
       with_reducible rfl
      rotate_left
      ·simp only [Act.put, List.setIfInBounds_toArray, List.set_cons_zero, List.set_cons_succ, i64_w, i32_w]
       rfl
      refine last_ (i := 10) (N := none) #[true, true, true, true, true, true, true, true, true, true, true] rfl rfl (by kernel_rfl) (by decide) (fun K hK => ?_)
      refine skip_ (w1 := ?_) (by rfl) rfl ?_ ?_
      rotate_left
      ·go_simp
       rfl
      refine hK.out _ _ ?_
      clear hK K
      refine done_ (by kernel_rfl) ?_
      obtain ⟨w8, hw8⟩ : ∃ w8, w7.setCell ⟨g, 0, none⟩ (.slice A1 (l.length + 1) c1) = w8 := ⟨_, rfl⟩
      rw [hw8]
      have HG8 := Aside0.mk (show w8.heap[g]? = some (.cells #[.slice A1 (l.length + 1) c1, .bool false] 132 (0, 0)) by rw [← hw8]; exact blk_put HG7.out 0 _ rfl)
      have HB8 := Aside0.mk (show Below base w w8 by rw [← hw8]; exact HB7.out.setCell HBG.out _)
      have HK8 := Aside0.mk (show Kept w w8 (Mine g ok) by rw [← hw8]; exact Kept.setCell HK7.out (.inl (.inl rfl)) _)
      have HO8 := Aside0.mk (show Kd.R k34 34 w8 base (fun k => ok k ∧ k ≠ gb) (.slice A1 (l ++ [x]).length c1) (l ++ [x]) by rw [← hw8]; exact Kd.R_far HO7.out (fun k hk e => HNO.out (by have h1 := hk.1; rwa [show k = g from e] at h1)) _)
      clear hw8
      have hg08 : w8.cell? ⟨g, 0, none⟩ = some (.slice A1 (l.length + 1) c1) := (blk_cell HG8.out 0).trans rfl
      have hgf8 := blk_frozen HG8.out 0
      have hlt8 : l.length ≤ 1048576 := HL.out
      go_wp2
      go_ret
      rw [HE.out]
      refine ⟨by first | rfl | (congr 2; omega) | (simp; omega), ⟨_, HG8.out, HBG.out, HNO.out, ?_⟩, HB8.out, HK8.out⟩
      have hO := Kd.R_mono HO8.out (fun _ hk => hk.1)
      rw [List.length_append] at hO
      exact hO
  ·have hb0 : nodeB x.f0 x.f1 x.f2 x.f3 (l.length : Int) = false := by simpa using hb
   rw [hb0] at HK
   have he : putB l false x = (l, true, -1) := by unfold putB putN; rw [if_neg (by simp), if_neg hb]; rfl
   have HE := Aside0.mk he
   clear he hb hb0 hbw
   go_enter Try.func112, Try.ntmps112
   go_wp2_with (first | ((with_reducible refine gate_dst (N := 3) rfl ?_); refine box_event ?hg (N := 3) ?hd (cs := #[.int .i64 x.f0, .int .i64 x.f1, .int .i64 x.f2, .int .i64 x.f3]) (t := 34) ?hr ?_; (case hd => rfl); (case hg => rfl); (case hr => first | (go_simp; done) | (go_simp; rfl)); intro gb hg1 w3 hbox hb; have BK3 := Aside0.mk hbox; have HB3 := Aside0.mk hb; have GB3 := Aside0.mk hg1; clear hg1 hbox hb))
   have HG3 := Aside0.mk (blk_below HG0.out HB3.out)
   refine start_ (n := 14) (S := fun w' => w'.cell? ⟨g, 0, none⟩ = some (.slice A l.length c) ∧ w'.cell? ⟨gb, 0, none⟩ = some (.int .i64 x.f0) ∧ w'.cell? ⟨gb, 1, none⟩ = some (.int .i64 x.f1) ∧ w'.cell? ⟨gb, 2, none⟩ = some (.int .i64 x.f2) ∧ w'.cell? ⟨gb, 3, none⟩ = some (.int .i64 x.f3) ∧ w'.cell? ⟨g, 1, none⟩ = some (.bool false)) (ds := []) #[false, false, false, false, false, false, false, false, false, false, false, false, false, false] (by kernel_rfl) rfl rfl ⟨(blk_cell (blk_drew HG3.out) 0).trans rfl, (blk_cell (blk_drew BK3.out) 0).trans rfl, (blk_cell (blk_drew BK3.out) 1).trans rfl, (blk_cell (blk_drew BK3.out) 2).trans rfl, (blk_cell (blk_drew BK3.out) 3).trans rfl, (blk_cell (blk_drew HG3.out) 1).trans rfl⟩ (fun hHeld => ?_)
   refine pure_ (i := 0) (N := some 7) (v := ?_) (a' := ?_) #[true, false, false, false, false, false, false, false, false, false, false, false, false, false] rfl rfl (by kernel_rfl) (fun _ _ _ h => h) (Or.inl ⟨by rfl, ?_⟩) ?_ ?_
   rotate_left
   ·intro w'
    go_simp
    with_reducible rfl
   rotate_left
   ·simp only [Act.put, List.setIfInBounds_toArray, List.set_cons_zero, List.set_cons_succ, i64_w, i32_w]
    rfl
   refine pure_ (i := 1) (N := some 8) (v := ?_) (a' := ?_) #[true, true, false, false, false, false, false, false, false, false, false, false, false, false] rfl rfl (by kernel_rfl) (fun _ _ _ h => h) (Or.inl ⟨by rfl, ?_⟩) ?_ ?_
   rotate_left
   ·intro w'
    go_simp
    with_reducible rfl
   rotate_left
   ·simp only [Act.put, List.setIfInBounds_toArray, List.set_cons_zero, List.set_cons_succ, i64_w, i32_w]
    rfl
   refine pure_ (i := 2) (N := some 9) (v := ?_) (a' := ?_) #[true, true, true, false, false, false, false, false, false, false, false, false, false, false] rfl rfl (by kernel_rfl) (fun _ _ _ h => h) (Or.inl ⟨by rfl, ?_⟩) ?_ ?_
   rotate_left
   ·intro w'
    go_simp
    with_reducible rfl
   rotate_left
   ·simp only [Act.put, List.setIfInBounds_toArray, List.set_cons_zero, List.set_cons_succ, i64_w, i32_w]
    rfl
   refine take_ (i := 3) (N := some 10) (v := ?_) (a' := ?_) #[true, true, true, true, false, false, false, false, false, false, false, false, false, false] rfl rfl (by kernel_rfl) (fun _ _ _ h => h) (Or.inl ⟨by rfl, ?_⟩) hHeld ?_ ?_
   rotate_left
   ·rintro w' ⟨s0, s1, s2, s3, s4, s5⟩
    go_simp
    with_reducible rfl
   rotate_left
   ·simp only [Act.put, List.setIfInBounds_toArray, List.set_cons_zero, List.set_cons_succ, i64_w, i32_w]
    rfl
   refine pure_ (i := 4) (N := some 11) (v := ?_) (a' := ?_) #[true, true, true, true, true, false, false, false, false, false, false, false, false, false] rfl rfl (by kernel_rfl) (fun _ _ _ h => h) (Or.inl ⟨by rfl, ?_⟩) ?_ ?_
   rotate_left
   ·intro w'
    go_simp
    with_reducible rfl
   rotate_left
   ·simp only [Act.put, List.setIfInBounds_toArray, List.set_cons_zero, List.set_cons_succ, i64_w, i32_w]
    rfl
   refine pure_ (i := 6) (N := some 13) (v := ?_) (a' := ?_) #[true, true, true, true, true, false, true, false, false, false, false, false, false, false] rfl rfl (by kernel_rfl) (fun _ _ _ h => h) (Or.inl ⟨by rfl, ?_⟩) ?_ ?_
   rotate_left
   ·intro w'
    go_simp
    with_reducible rfl
   rotate_left
   ·simp only [Act.put, List.setIfInBounds_toArray, List.set_cons_zero, List.set_cons_succ, i64_w, i32_w]
    rfl
   refine pure_ (i := 7) (N := some 14) (v := ?_) (a' := ?_) #[true, true, true, true, true, false, true, true, false, false, false, false, false, false] rfl rfl (by kernel_rfl) (fun _ _ _ h => h) (Or.inl ⟨by rfl, ?_⟩) ?_ ?_
   rotate_left
   ·intro w'
    go_simp
    with_reducible rfl
   rotate_left
   ·simp only [Act.put, List.setIfInBounds_toArray, List.set_cons_zero, List.set_cons_succ, i64_w, i32_w]
    rfl
   refine pure_ (i := 8) (N := some 15) (v := ?_) (a' := ?_) #[true, true, true, true, true, false, true, true, true, false, false, false, false, false] rfl rfl (by kernel_rfl) (fun _ _ _ h => h) (Or.inl ⟨by rfl, ?_⟩) ?_ ?_
   rotate_left
   ·intro w'
    go_simp
    with_reducible rfl
   rotate_left
   ·simp only [Act.put, List.setIfInBounds_toArray, List.set_cons_zero, List.set_cons_succ, i64_w, i32_w]
    rfl
   refine take_ (i := 5) (N := some 12) (v := ?_) (a' := ?_) #[true, true, true, true, true, true, true, true, true, false, false, false, false, false] rfl rfl (by kernel_rfl) (fun _ _ _ h => h) (Or.inl ⟨by rfl, ?_⟩) hHeld ?_ ?_
   rotate_left
   ·rintro w' ⟨s0, s1, s2, s3, s4, s5⟩
    go_simp
    with_reducible rfl
   rotate_left
   ·simp only [Act.put, List.setIfInBounds_toArray, List.set_cons_zero, List.set_cons_succ, i64_w, i32_w]
    rfl
   refine take_ (i := 9) (N := some 16) (v := ?_) (a' := ?_) #[true, true, true, true, true, true, true, true, true, true, false, false, false, false] rfl rfl (by kernel_rfl) (fun _ _ _ h => h) (Or.inl ⟨by rfl, ?_⟩) hHeld ?_ ?_
   rotate_left
   ·rintro w' ⟨s0, s1, s2, s3, s4, s5⟩
    go_simp
    with_reducible rfl
   rotate_left
   ·simp only [Act.put, List.setIfInBounds_toArray, List.set_cons_zero, List.set_cons_succ, i64_w, i32_w]
    rfl
   refine pure_ (i := 10) (N := some 17) (v := ?_) (a' := ?_) #[true, true, true, true, true, true, true, true, true, true, true, false, false, false] rfl rfl (by kernel_rfl) (fun _ _ _ h => h) (Or.inl ⟨by rfl, ?_⟩) ?_ ?_
   rotate_left
   ·intro w'
    go_simp
    with_reducible rfl
   rotate_left
   ·simp only [Act.put, List.setIfInBounds_toArray, List.set_cons_zero, List.set_cons_succ, i64_w, i32_w]
    rfl
   refine one_ (i := 11) (N := some 18) #[true, true, true, true, true, true, true, true, true, true, true, true, false, false] rfl rfl (by kernel_rfl) (by decide) (fun K hK => ?_)
   refine goes_ Try.func84 (by kernel_rfl) rfl #[.agg #[.int .i64 x.f0, .int .i64 x.f1, .int .i64 x.f2, .int .i64 x.f3], .int .i64 (l.length : Int)] (by rfl) rfl rfl (by simp only [List.map_toArray, List.map_cons, List.map_nil]; rfl) ?_
   with_reducible refine (impl_nodeRight.calls kn x.f0 x.f1 x.f2 x.f3 (l.length : Int) false _ HK.out).mono ?_
   rintro e w4 ⟨rfl, hb4⟩
   refine ⟨_, rfl, ?_⟩
   have HG4 := Aside0.mk (blk_below (blk_drew HG3.out) hb4)
   have BK4 := Aside0.mk (blk_below (blk_drew BK3.out) hb4)
   have HB4 := Aside0.mk (below_step (below_drew1 HB3.out) hb4)
   clear hb4
   refine hK.out _ _ ⟨(blk_cell (HG4.out) 0).trans rfl, (blk_cell (BK4.out) 0).trans rfl, (blk_cell (BK4.out) 1).trans rfl, (blk_cell (BK4.out) 2).trans rfl, (blk_cell (BK4.out) 3).trans rfl, (blk_cell HG4.out 1).trans rfl⟩ (fun hHeld => ?_)
   clear hK K
   refine norm_ (a' := ?_) ?_ ?_
   rotate_left
   ·show Act.put _ (some 18) _ = _
    simp only [Act.put, List.setIfInBounds_toArray, List.set_cons_zero, List.set_cons_succ, i64_w, i32_w]
    rfl
   refine pure_ (i := 12) (N := some 19) (v := ?_) (a' := ?_) #[true, true, true, true, true, true, true, true, true, true, true, true, true, false] rfl rfl (by kernel_rfl) (fun _ _ _ h => h) (Or.inl ⟨by rfl, ?_⟩) ?_ ?_
   rotate_left
   ·intro w'
    go_simp
    with_reducible rfl
   rotate_left
   ·simp only [Act.put, List.setIfInBounds_toArray, List.set_cons_zero, List.set_cons_succ, i64_w, i32_w]
    rfl
   refine pure_ (i := 13) (N := some 20) (v := ?_) (a' := ?_) #[true, true, true, true, true, true, true, true, true, true, true, true, true, true] rfl rfl (by kernel_rfl) (fun _ _ _ h => h) (Or.inl ⟨by rfl, ?_⟩) ?_ ?_
   rotate_left
   ·intro w'
    go_simp
    with_reducible rfl
   rotate_left
   ·simp only [Act.put, List.setIfInBounds_toArray, List.set_cons_zero, List.set_cons_succ, i64_w, i32_w]
    rfl
   refine done_ (by kernel_rfl) ?_
   have hn0 : w4.cell? ⟨gb, 0, none⟩ = some (.int .i64 x.f0) := (blk_cell BK4.out 0).trans rfl
   have hn1 : w4.cell? ⟨gb, 1, none⟩ = some (.int .i64 x.f1) := (blk_cell BK4.out 1).trans rfl
   have hn2 : w4.cell? ⟨gb, 2, none⟩ = some (.int .i64 x.f2) := (blk_cell BK4.out 2).trans rfl
   have hn3 : w4.cell? ⟨gb, 3, none⟩ = some (.int .i64 x.f3) := (blk_cell BK4.out 3).trans rfl
   have hf0 := blk_frozen BK4.out 0
   have hf1 := blk_frozen BK4.out 1
   have hf2 := blk_frozen BK4.out 2
   have hf3 := blk_frozen BK4.out 3
   have hg0 : w4.cell? ⟨g, 0, none⟩ = some (.slice A l.length c) := (blk_cell HG4.out 0).trans rfl
   have hgf := blk_frozen HG4.out 0
   have hg1 : w4.cell? ⟨g, 1, none⟩ = some (.bool false) := (blk_cell HG4.out 1).trans rfl
   have hgf1 := blk_frozen HG4.out 1
   go_wp2
   obtain ⟨w9, hw9⟩ : ∃ w9, w4.setCell ⟨g, 1, none⟩ (.bool true) = w9 := ⟨_, rfl⟩
   rw [hw9]
   have HG9 : w9.heap[g]? = some (.cells #[.slice A l.length c, .bool true] 132 (0, 0)) := by rw [← hw9]; exact blk_put (HG4.out) 1 _ rfl
   have HB9 : Below base w w9 := by rw [← hw9]; exact (HB4.out.mono HBS.out).setCell HBG.out _
   have HK9 : Kept w w9 (Mine g ok) := by rw [← hw9]; exact Kept.setCell (Kept.of_below HB4.out _) (.inl (.inl rfl)) _
   have HO9 : Kd.R k34 34 w9 base ok (.slice A l.length c) l := by rw [← hw9]; exact Kd.R_far (Kd.R_below HR.out HB4.out) (fun k hk e => HNO.out (by rwa [show k = g from e] at hk)) _
   clear hw9
   go_ret
   rw [HE.out]
   exact ⟨rfl, ⟨_, HG9, HBG.out, HNO.out, HO9⟩, HB9, HK9⟩

/-! what put wants and leaves, in one word -/
def BnS (w : World) (base g : Nat) (ok : Nat → Prop) (l : List S34) (bad : Bool) : Prop := BnAt w base g ok l bad ∧ (∀ k, w.heap.size ≤ k → ok k) ∧ l.length ≤ 1048576
theorem BnAt.size {w : World} {base g : Nat} {ok : Nat → Prop} {l : List S34} {bad : Bool} (h : BnAt w base g ok l bad) : base ≤ g ∧ g < w.heap.size := by
 obtain ⟨v, h1, h2, _, _⟩ := h
 exact ⟨h2, blk_lt h1⟩
theorem BnS.keep {w w1 : World} {base g : Nat} {ok : Nat → Prop} {l : List S34} {bad : Bool} (h : BnS w base g ok l bad) (hb : Below w.heap.size w w1) : BnS w1 base g ok l bad :=
  ⟨h.1.keep hb, fun k hk => h.2.1 k (Nat.le_trans hb.size hk), h.2.2⟩
def BPost (w : World) (base g : Nat) (ok : Nat → Prop) (r : List S34 × Bool × Int) (e : Ending) (w' : World) : Prop := e = .returned (.int .i64 r.2.2) ∧ BnS w' base g ok r.1 r.2.1 ∧ Below base w w' ∧ Kept w w' (Mine g ok)
theorem putN_lenB {l : List S34} {x : S34} (h : l.length ≤ 1048576) : (putN l x).1.length ≤ 1048576 := by
 rcases putN_cases l x with ⟨h1, _⟩ | ⟨_, _, ⟨h1, _⟩ | ⟨_, h2, h1, _⟩⟩
 ·rw [h1]; exact h
 ·rw [h1]; exact h
 ·rw [h1, List.length_append, List.length_singleton]; omega
theorem putB_len {l : List S34} {bad : Bool} {x : S34} (h : l.length ≤ 1048576) : (putB l bad x).1.length ≤ 1048576 := by
 unfold putB
 split
 ·exact h
 ·split
  ·exact h
  ·exact putN_lenB h
theorem impl_put (l : List S34) (bad : Bool) (x : S34) (w : World) (base g : Nat) (ok : Nat → Prop) (h : BnS w base g ok l bad) :
  Calls Try.prog 112 #[.pointer (some ⟨g, 0, none⟩), .agg #[.int .i64 x.f0, .int .i64 x.f1, .int .i64 x.f2, .int .i64 x.f3]] w (BPost w base g ok (putB l bad x)) := by
 have hs := h.1.size
 refine (impl_put_at l bad x w base g ok h.1 (by omega) h.2.1 h.2.2).mono ?_
 rintro e w' ⟨he, hA, hb, hk⟩
 exact ⟨he, ⟨hA, fun k hk' => h.2.1 k (Nat.le_trans hb.size hk'), putB_len h.2.2⟩, hb, hk⟩
theorem BPost.trans {w w1 w2 : World} {base g : Nat} {ok : Nat → Prop} {r : List S34 × Bool × Int} {e : Ending} (hb : Below base w w1) (hk : Kept w w1 (Mine g ok)) (h : BPost w1 base g ok r e w2) : BPost w base g ok r e w2 :=
  ⟨h.1, h.2.1, hb.trans h.2.2.1, hk.then_ h.2.2.2 (fun _ h => .inl h)⟩
theorem BPost.before {w w1 w2 : World} {base g : Nat} {ok : Nat → Prop} {r : List S34 × Bool × Int} {e : Ending} (hs : base ≤ w.heap.size) (hb : Below w.heap.size w w1) (h : BPost w1 base g ok r e w2) : BPost w base g ok r e w2 :=
  h.trans (hb.mono hs) (Kept.of_below hb _)
theorem impl_atom (l : List S34) (bad : Bool) (n : Int) (w : World) (base g : Nat) (ok : Nat → Prop) (h : BnS w base g ok l bad) :
  Calls Try.prog 108 #[.pointer (some ⟨g, 0, none⟩), .int .i64 n] w (BPost w base g ok (putB l bad ⟨1, n, 0, 0⟩)) := by
 have HA := Aside0.mk h
 clear h
 go_enter Try.func108, Try.ntmps108
 go_wp2_with (go_at_call 112; refine (impl_put l bad ⟨1, n, 0, 0⟩ _ base g ok HA.out).mono ?_; rintro e w' ⟨rfl, hA, hb, hk⟩)
 go_ret
 exact ⟨rfl, hA, hb, hk⟩
theorem impl_of (s : List S34 × Bool × Int) (kind x y : Int) (w : World) (base g : Nat) (ok : Nat → Prop) (h : BnS w base g ok s.1 s.2.1) :
  Calls Try.prog 104 #[.pointer (some ⟨g, 0, none⟩), .int .i64 kind, .int .i64 x, .int .i64 y] w (BPost w base g ok (ofB s kind x y)) := by
 have HA := Aside0.mk h
 clear h
 go_enter Try.func104, Try.ntmps104
 go_wp2_with (go_at_call 112; refine (impl_put s.1 s.2.1 ⟨kind, 0, x, y⟩ _ base g ok HA.out).mono ?_; rintro e w' ⟨rfl, hA, hb, hk⟩)
 go_ret
 exact ⟨rfl, hA, hb, hk⟩
theorem BPost.bn {w w1 : World} {base g : Nat} {ok : Nat → Prop} {r : List S34 × Bool × Int} {e : Ending} (h : BPost w base g ok r e w1) : BnS w1 base g ok r.1 r.2.1 := h.2.1
theorem BPost.bel {w w1 : World} {base g : Nat} {ok : Nat → Prop} {r : List S34 × Bool × Int} {e : Ending} (h : BPost w base g ok r e w1) : Below base w w1 := h.2.2.1
theorem BPost.kept {w w1 : World} {base g : Nat} {ok : Nat → Prop} {r : List S34 × Bool × Int} {e : Ending} (h : BPost w base g ok r e w1) : Kept w w1 (Mine g ok) := h.2.2.2

theorem copyI_f {l : List S34} (h : l.length ≤ 1048576) : impl_copyArena.f l = some l := by
 unfold impl_copyArena.f
 simp only [Option.bind_some, List.length_nil, List.nil_append]
 rw [if_pos (by omega)]
def BenchOfPost (w : World) (l : List S34) (e : Ending) (w' : World) : Prop := ∃ g, e = .returned (.pointer (some ⟨g, 0, none⟩)) ∧ w.heap.size ≤ g ∧ BnS w' w.heap.size g (fun k => w.heap.size ≤ k ∧ k ≠ g) l false ∧ Below w.heap.size w w'
set_option maxHeartbeats 8000000 in
set_option maxRecDepth 100000 in
theorem impl_benchOf (A : Option Addr) (c : Nat) (l : List S34) (w : World) (hr : Kd.C k34 w A l.length l) (hc : l.length ≤ c) (hl : l.length ≤ 1048576) :
  Calls Try.prog 92 #[.agg #[.slice A l.length c]] w (BenchOfPost w l) := by
 have hu26 := Try.underlying26
 have hu132 := Try.underlying132
 have HR := Aside0.mk hr
 have HC := Aside0.mk hc
 have HCF := Aside0.mk (copyI_f hl)
 have HL := Aside0.mk hl
 clear hr hc hl
 have hfd : ∀ (A : Option Addr) (n c : Nat) (w : World), (Instr.field 26 (.agg #[.slice A n c]) 0).run Try.prog w = .ok (.slice A n c) w := fun _ _ _ _ => by kernel_rfl
 go_enter Try.func92, Try.ntmps92
 go_wp2_with (first
  | ((with_reducible refine gate_dst (N := 1) rfl ?_); refine box_event ?hg (N := 1) ?hd (cs := #[.slice A l.length c]) (t := 26) ?hr ?_; (case hd => rfl); (case hg => rfl); (case hr => first | (go_simp; done) | (go_simp; rfl)); intro ga hg1 w3 hbox hb; have BKa := Aside0.mk hbox; have HB3 := Aside0.mk hb; have GA := Aside0.mk hg1; clear hg1 hbox hb; have hca : w3.cell? ⟨ga, 0, none⟩ = some (.slice A l.length c) := (blk_cell BKa.out 0).trans rfl)
  | (go_at_call 103; ((with_reducible refine (impl_copyArena.calls A c l l _ (Kd.C_below HR.out HB3.out) HC.out HCF.out).mono ?_); rintro e w4 ⟨v0, rfl, ho, hb⟩); have HO4 := Aside0.mk ho; have HB4 := Aside0.mk hb; obtain ⟨Ao, co, rfl, hlo, _⟩ := Kd.R_reads ho; clear ho hb hlo)
  | ((with_reducible refine gate_dst (N := 7) rfl ?_); refine box_event ?hg (N := 7) ?hd (cs := #[.slice Ao l.length co, .bool false]) (t := 132) ?hr ?_; (case hd => rfl); (case hg => rfl); (case hr => first | (go_simp; done) | (go_simp; rfl)); intro g hg1 w5 hbox hb; have BK5 := Aside0.mk hbox; have HB5 := Aside0.mk hb; have GB5 := Aside0.mk hg1; clear hg1 hbox hb))
 go_ret
 refine ⟨g, rfl, by rw [GB5.out]; exact Nat.le_trans HB3.out.size HB4.out.size, ⟨⟨_, BK5.out, by rw [GB5.out]; exact Nat.le_trans HB3.out.size HB4.out.size, fun h => h.2 rfl, ?_⟩, fun k hk => ⟨?_, ?_⟩, HL.out⟩, below_step (below_step HB3.out HB4.out) HB5.out⟩
 ·refine Kd.R_below (Kd.R_lower (Kd.R_mono (Kd.R_bound HO4.out) (fun k hk => ⟨Nat.le_trans HB3.out.size hk.2.1, ?_⟩)) HB3.out.size) HB5.out
  have h1 := hk.2.2.1
  have h2 := GB5.out
  omega
 ·exact Nat.le_trans (Nat.le_trans HB3.out.size (Nat.le_trans HB4.out.size HB5.out.size)) hk
 ·have h1 := blk_lt BK5.out
  omega
def EndPost (w : World) (base : Nat) (ok : Nat → Prop) (r : List S34 × Int) (e : Ending) (w' : World) : Prop := ∃ v, e = .returned (.tuple #[.agg #[v], .int .i64 r.2]) ∧ Kd.R k34 34 w' base ok v r.1 ∧ Below w.heap.size w w'
theorem end_copy {w w4 w5 : World} {base gr : Nat} {ok : Nat → Prop} {A : Option Addr} {c : Nat} {l : List S34} {u : Value} (ho : Kd.R k34 34 w5 w4.heap.size (fun _ => True) (.slice A l.length c) l) (hb : base ≤ w.heap.size) (h4 : w.heap.size ≤ w4.heap.size) (hg : gr < w4.heap.size) (hf : ∀ k, w.heap.size ≤ k → ok k) : Kd.R k34 34 (w5.setCell ⟨gr, 0, none⟩ u) base ok (.slice A l.length c) l :=
  Kd.R_lower (Kd.R_mono (Kd.R_far (p := ⟨gr, 0, none⟩) (Kd.R_mono (Kd.R_bound ho) (fun k hk => (show w4.heap.size ≤ k from hk.2.1))) (fun k hk e => by have e' : k = gr := e; omega) _) (fun k hk => hf k (Nat.le_trans h4 hk))) (Nat.le_trans hb h4)
theorem end_own {w w4 : World} {base gr : Nat} {ok : Nat → Prop} {A : Option Addr} {c : Nat} {l : List S34} {u : Value} (ho : Kd.R k34 34 w base ok (.slice A l.length c) l) (h4 : Below w.heap.size w w4) (hg : w.heap.size ≤ gr) : Kd.R k34 34 (w4.setCell ⟨gr, 0, none⟩ u) base ok (.slice A l.length c) l :=
  Kd.R_mono (Kd.R_far (p := ⟨gr, 0, none⟩) (Kd.R_below (Kd.R_elderB ho gr hg) h4) (fun k hk => hk.2) _) (fun k hk => hk.1)
set_option maxHeartbeats 8000000 in
set_option maxRecDepth 100000 in
theorem impl_end (A : Option Addr) (c : Nat) (l0 : List S34) (s : List S34 × Bool × Int) (w w0 : World) (base g : Nat) (ok : Nat → Prop) (h : BnS w base g ok s.1 s.2.1) (hr : Kd.C k34 w0 A l0.length l0) (hc : l0.length ≤ c) (h0 : Below w0.heap.size w0 w) (hw0 : w0.heap.size ≤ w.heap.size) (hl : l0.length ≤ 1048576) :
  Calls Try.prog 94 #[.pointer (some ⟨g, 0, none⟩), .agg #[.slice A l0.length c], .int .i64 s.2.2] w (EndPost w base ok (endN l0 s)) := by
 have hu26 := Try.underlying26
 have hu132 := Try.underlying132
 have HBS := Aside0.mk (show base ≤ w.heap.size by have := h.1.size; omega)
 obtain ⟨⟨v, hblk, hbg, hno, hR⟩, hfr, _⟩ := h
 obtain ⟨Ag, cg, rfl, hlg, _⟩ := Kd.R_reads hR
 have HG := Aside0.mk hblk
 have HRG := Aside0.mk hR
 have HF := Aside0.mk hfr
 have HR0 := Aside0.mk hr
 have HC0 := Aside0.mk hc
 have H0 := Aside0.mk h0
 have HCF := Aside0.mk (copyI_f hl)
 clear hblk hR hfr hbg hno hlg hr hc h0 hl
 by_cases hb : s.2.1 = true
 ·have he : endN l0 s = (l0, -1) := by unfold endN; rw [if_pos (.inl hb)]
  have HE := Aside0.mk he
  rw [hb] at HG
  clear he
  go_enter Try.func94, Try.ntmps94
  go_wp2_with (first
   | ((with_reducible refine gate_dst (N := 4) rfl ?_); refine box_event ?hg (N := 4) ?hd (cs := #[.slice A l0.length c]) (t := 26) ?hr ?_; (case hd => rfl); (case hg => rfl); (case hr => first | (go_simp; done) | (go_simp; rfl)); intro ga hg1 w3 hbox hb; have BKa := Aside0.mk hbox; have HB3 := Aside0.mk hb; have GA := Aside0.mk hg1; clear hg1 hbox hb)
   | ((with_reducible refine gate_dst (N := 6) rfl ?_); refine box_event ?hg (N := 6) ?hd (cs := #[.slice none 0 0]) (t := 26) ?hr ?_; (case hd => rfl); (case hg => rfl); (case hr => first | (go_simp; done) | (go_simp; rfl)); intro gr hg1 w4 hbox hb; have BKr := Aside0.mk hbox; have HB4 := Aside0.mk hb; have GR := Aside0.mk hg1; clear hg1 hbox hb; have HBw4 := Aside0.mk (below_step HB3.out HB4.out); have BKa4 := Aside0.mk (blk_below BKa.out HB4.out); have BKg4 := Aside0.mk (blk_below HG.out HBw4.out); have hca4 : w4.cell? ⟨ga, 0, none⟩ = some (.slice A l0.length c) := (blk_cell BKa4.out 0).trans rfl; have hcr4 : w4.cell? ⟨gr, 0, none⟩ = some (.slice none 0 0) := (blk_cell BKr.out 0).trans rfl; have hfr4 := blk_frozen BKr.out 0; have hcg4 : w4.cell? ⟨g, 0, none⟩ = some (.slice Ag s.1.length cg) := (blk_cell BKg4.out 0).trans rfl; have hcb4 : w4.cell? ⟨g, 1, none⟩ = some (.bool true) := (blk_cell BKg4.out 1).trans rfl)
   | (go_at_call 103; ((with_reducible refine (impl_copyArena.calls A c l0 l0 _ (Kd.C_below HR0.out (below_step H0.out HBw4.out)) HC0.out HCF.out).mono ?_); rintro e w5 ⟨v0, rfl, ho, hb⟩); have HO5 := Aside0.mk ho; have HB5 := Aside0.mk hb; obtain ⟨Ao, co, rfl, hlo, _⟩ := Kd.R_reads ho; clear ho hb hlo; have BKr5 := Aside0.mk (blk_below BKr.out HB5.out); have hcr5 : w5.cell? ⟨gr, 0, none⟩ = some (.slice none 0 0) := (blk_cell BKr5.out 0).trans rfl; have hfr5 := blk_frozen BKr5.out 0))
  rw [HE.out]
  refine bodyPost_ret (results_ct rfl _ _ gr 26 #[.slice Ao l0.length co] (0, 0) _ rfl (blk_put BKr5.out 0 _ rfl) Try.underlying26 rfl (by kernel_rfl)) rfl ?_
  exact ⟨_, rfl, end_copy HO5.out HBS.out HBw4.out.size (blk_lt BKr.out) HF.out, below_set (below_step HBw4.out HB5.out) (by rw [GR.out]; exact HB3.out.size)⟩
 ·have hb0 : s.2.1 = false := by simpa using hb
  rw [hb0] at HG
  by_cases hk : s.2.2 < 0
  ·have he : endN l0 s = (l0, -1) := by unfold endN; rw [if_pos (.inr hk)]
   have HE := Aside0.mk he
   have hkd : decide (s.2.2 < 0) = true := decide_eq_true hk
   clear he hk hb
   go_enter Try.func94, Try.ntmps94
   go_wp2_with (first
    | ((with_reducible refine gate_dst (N := 4) rfl ?_); refine box_event ?hg (N := 4) ?hd (cs := #[.slice A l0.length c]) (t := 26) ?hr ?_; (case hd => rfl); (case hg => rfl); (case hr => first | (go_simp; done) | (go_simp; rfl)); intro ga hg1 w3 hbox hb; have BKa := Aside0.mk hbox; have HB3 := Aside0.mk hb; have GA := Aside0.mk hg1; clear hg1 hbox hb)
    | ((with_reducible refine gate_dst (N := 6) rfl ?_); refine box_event ?hg (N := 6) ?hd (cs := #[.slice none 0 0]) (t := 26) ?hr ?_; (case hd => rfl); (case hg => rfl); (case hr => first | (go_simp; done) | (go_simp; rfl)); intro gr hg1 w4 hbox hb; have BKr := Aside0.mk hbox; have HB4 := Aside0.mk hb; have GR := Aside0.mk hg1; clear hg1 hbox hb; have HBw4 := Aside0.mk (below_step HB3.out HB4.out); have BKa4 := Aside0.mk (blk_below BKa.out HB4.out); have BKg4 := Aside0.mk (blk_below HG.out HBw4.out); have hca4 : w4.cell? ⟨ga, 0, none⟩ = some (.slice A l0.length c) := (blk_cell BKa4.out 0).trans rfl; have hcr4 : w4.cell? ⟨gr, 0, none⟩ = some (.slice none 0 0) := (blk_cell BKr.out 0).trans rfl; have hfr4 := blk_frozen BKr.out 0; have hcg4 : w4.cell? ⟨g, 0, none⟩ = some (.slice Ag s.1.length cg) := (blk_cell BKg4.out 0).trans rfl; have hcb4 : w4.cell? ⟨g, 1, none⟩ = some (.bool false) := (blk_cell BKg4.out 1).trans rfl)
    | (go_at_call 103; ((with_reducible refine (impl_copyArena.calls A c l0 l0 _ (Kd.C_below HR0.out (below_step H0.out HBw4.out)) HC0.out HCF.out).mono ?_); rintro e w5 ⟨v0, rfl, ho, hb⟩); have HO5 := Aside0.mk ho; have HB5 := Aside0.mk hb; obtain ⟨Ao, co, rfl, hlo, _⟩ := Kd.R_reads ho; clear ho hb hlo; have BKr5 := Aside0.mk (blk_below BKr.out HB5.out); have hcr5 : w5.cell? ⟨gr, 0, none⟩ = some (.slice none 0 0) := (blk_cell BKr5.out 0).trans rfl; have hfr5 := blk_frozen BKr5.out 0))
   rw [HE.out]
   refine bodyPost_ret (results_ct rfl _ _ gr 26 #[.slice Ao l0.length co] (0, 0) _ rfl (blk_put BKr5.out 0 _ rfl) Try.underlying26 rfl (by kernel_rfl)) rfl ?_
   exact ⟨_, rfl, end_copy HO5.out HBS.out HBw4.out.size (blk_lt BKr.out) HF.out, below_set (below_step HBw4.out HB5.out) (by rw [GR.out]; exact HB3.out.size)⟩
  ·have he : endN l0 s = (s.1, s.2.2) := by unfold endN; rw [if_neg (by rw [hb0]; simp; omega)]
   have HE := Aside0.mk he
   have hkd : decide (s.2.2 < 0) = false := decide_eq_false hk
   clear he hk hb
   go_enter Try.func94, Try.ntmps94
   go_wp2_with (first
    | ((with_reducible refine gate_dst (N := 4) rfl ?_); refine box_event ?hg (N := 4) ?hd (cs := #[.slice A l0.length c]) (t := 26) ?hr ?_; (case hd => rfl); (case hg => rfl); (case hr => first | (go_simp; done) | (go_simp; rfl)); intro ga hg1 w3 hbox hb; have BKa := Aside0.mk hbox; have HB3 := Aside0.mk hb; have GA := Aside0.mk hg1; clear hg1 hbox hb)
    | ((with_reducible refine gate_dst (N := 6) rfl ?_); refine box_event ?hg (N := 6) ?hd (cs := #[.slice none 0 0]) (t := 26) ?hr ?_; (case hd => rfl); (case hg => rfl); (case hr => first | (go_simp; done) | (go_simp; rfl)); intro gr hg1 w4 hbox hb; have BKr := Aside0.mk hbox; have HB4 := Aside0.mk hb; have GR := Aside0.mk hg1; clear hg1 hbox hb; have HBw4 := Aside0.mk (below_step HB3.out HB4.out); have BKa4 := Aside0.mk (blk_below BKa.out HB4.out); have BKg4 := Aside0.mk (blk_below HG.out HBw4.out); have hca4 : w4.cell? ⟨ga, 0, none⟩ = some (.slice A l0.length c) := (blk_cell BKa4.out 0).trans rfl; have hcr4 : w4.cell? ⟨gr, 0, none⟩ = some (.slice none 0 0) := (blk_cell BKr.out 0).trans rfl; have hfr4 := blk_frozen BKr.out 0; have hcg4 : w4.cell? ⟨g, 0, none⟩ = some (.slice Ag s.1.length cg) := (blk_cell BKg4.out 0).trans rfl; have hcb4 : w4.cell? ⟨g, 1, none⟩ = some (.bool false) := (blk_cell BKg4.out 1).trans rfl)
    | (go_at_call 103; ((with_reducible refine (impl_copyArena.calls A c l0 l0 _ (Kd.C_below HR0.out (below_step H0.out HBw4.out)) HC0.out HCF.out).mono ?_); rintro e w5 ⟨v0, rfl, ho, hb⟩); have HO5 := Aside0.mk ho; have HB5 := Aside0.mk hb; obtain ⟨Ao, co, rfl, hlo, _⟩ := Kd.R_reads ho; clear ho hb hlo; have BKr5 := Aside0.mk (blk_below BKr.out HB5.out); have hcr5 : w5.cell? ⟨gr, 0, none⟩ = some (.slice none 0 0) := (blk_cell BKr5.out 0).trans rfl; have hfr5 := blk_frozen BKr5.out 0))
   rw [HE.out]
   refine bodyPost_ret (results_ct rfl _ _ gr 26 #[.slice Ag s.1.length cg] (0, 0) _ rfl (blk_put BKr.out 0 _ rfl) Try.underlying26 rfl (by kernel_rfl)) rfl ?_
   exact ⟨_, rfl, end_own HRG.out HBw4.out (by rw [GR.out]; exact HB3.out.size), below_set HBw4.out (by rw [GR.out]; exact HB3.out.size)⟩

theorem impl_end' {A : Option Addr} {c : Nat} {l0 : List S34} {s : List S34 × Bool × Int} {w w0 : World} {base g : Nat} {ok : Nat → Prop} {r : List S34 × Int} (h : BnS w base g ok s.1 s.2.1) (hr : Kd.C k34 w0 A l0.length l0) (hc : l0.length ≤ c) (h0 : Below w0.heap.size w0 w) (hw0 : w0.heap.size ≤ w.heap.size) (hl : l0.length ≤ 1048576) (he : endN l0 s = r) :
    Calls Try.prog 94 #[.pointer (some ⟨g, 0, none⟩), .agg #[.slice A l0.length c], .int .i64 s.2.2] w (EndPost w base ok r) := he ▸ impl_end A c l0 s w w0 base g ok h hr hc h0 hw0 hl

theorem top_own {w w4 w7 : World} {g gr : Nat} {A : Option Addr} {c : Nat} {l : List S34} {u : Value} (ho : Kd.R k34 34 w7 w4.heap.size (fun k => w4.heap.size ≤ k ∧ k ≠ g) (.slice A l.length c) l) (hs : w.heap.size ≤ w4.heap.size) (hg : gr < w4.heap.size) : Kd.R k34 34 (w7.setCell ⟨gr, 0, none⟩ u) w.heap.size (fun _ => True) (.slice A l.length c) l :=
  Kd.R_lower (Kd.R_mono (Kd.R_far (p := ⟨gr, 0, none⟩) ho (fun k hk e => by have e' : k = gr := e; have := hk.1; omega) _) (fun _ _ => trivial)) hs

theorem hs_post {P : Program} {f : Nat} {args : Array Value} {w : World} {base g : Nat} {ok : Nat → Prop} {u s : List S34 × Bool × Int} (h : u = s) (hc : Calls P f args w (BPost w base g ok u)) : Calls P f args w (BPost w base g ok s) := h ▸ hc

end Hand
open Hand in
def impl_Put.f (l0_0 : List S34) (a1_0 : Int) (a1_1 : Int) (a1_2 : Int) (a1_3 : Int) : Option (List S34 × Int) := if l0_0.length ≤ 1048576 then some (endN l0_0 (putB l0_0 false ⟨a1_0, a1_1, a1_2, a1_3⟩)) else none
open Hand in
set_option maxHeartbeats 8000000 in
set_option maxRecDepth 100000 in
theorem impl_Put.calls (A0_0 : Option Addr) (c0_0 : Nat) (l0_0 : List (S34)) (a1_0 : Int) (a1_1 : Int) (a1_2 : Int) (a1_3 : Int) (r1 : List (S34)) (r2 : Int) (w : World) (hr0_0 : Kd.C k34 w A0_0 l0_0.length l0_0) (hc0_0 : l0_0.length ≤ c0_0)  (h : impl_Put.f l0_0 a1_0 a1_1 a1_2 a1_3 = some (r1, r2)) :
  Calls Try.prog 56 #[.agg #[.slice A0_0 l0_0.length c0_0], .agg #[.int .i64 a1_0, .int .i64 a1_1, .int .i64 a1_2, .int .i64 a1_3]] w fun e w' => ∃ v0_ : Value, e = .returned (.tuple #[.agg #[v0_], .int .i64 r2]) ∧ Kd.R k34 34 w' w.heap.size (fun _ => True) v0_ r1 ∧ Below w.heap.size w w' := by
 have hu26 := Try.underlying26
 unfold impl_Put.f at h
 by_cases hl0 : l0_0.length ≤ 1048576
 ·rw [if_pos hl0] at h
  have hl : l0_0.length ≤ 1048576 := hl0
  have HL := Aside0.mk hl
  have HL0 := Aside0.mk hl0
  have HR0 := Aside0.mk hr0_0
  have HC0 := Aside0.mk hc0_0
  clear hl hl0 hr0_0 hc0_0
  obtain ⟨s, hs⟩ : ∃ s, putB l0_0 false ⟨a1_0, a1_1, a1_2, a1_3⟩ = s := ⟨_, rfl⟩
  rw [hs] at h
  have HS := Aside0.mk hs
  have HE := Aside0.mk (Option.some.inj h)
  clear hs h
  go_enter Try.func56, Try.ntmps56
  go_wp2_with (first
   | ((with_reducible refine gate_dst (N := 2) rfl ?_); refine box_event ?hg (N := 2) ?hd (cs := #[.slice A0_0 l0_0.length c0_0]) (t := 26) ?hr ?_; (case hd => rfl); (case hg => rfl); (case hr => first | (go_simp; done) | (go_simp; rfl)); intro ga hg1 w3 hbox hb; have BKa := Aside0.mk hbox; have HB3 := Aside0.mk hb; have GA := Aside0.mk hg1; clear hg1 hbox hb)
   | ((with_reducible refine gate_dst (N := 3) rfl ?_); refine box_event ?hg (N := 3) ?hd (cs := #[.int .i64 a1_0, .int .i64 a1_1, .int .i64 a1_2, .int .i64 a1_3]) (t := 34) ?hr ?_; (case hd => rfl); (case hg => rfl); (case hr => first | (go_simp; done) | (go_simp; rfl)); intro gn hg1 w3n hbox hb; have BKn := Aside0.mk hbox; have HBn := Aside0.mk hb; have GN := Aside0.mk hg1; clear hg1 hbox hb; have HB3n := Aside0.mk (below_step HB3.out HBn.out); have BKan := Aside0.mk (blk_below BKa.out HBn.out))
   | ((with_reducible refine gate_dst (N := 4) rfl ?_); refine box_event ?hg (N := 4) ?hd (cs := #[.slice none 0 0]) (t := 26) ?hr ?_; (case hd => rfl); (case hg => rfl); (case hr => first | (go_simp; done) | (go_simp; rfl)); intro gr hg1 w4 hbox hb; have BKr := Aside0.mk hbox; have HB4 := Aside0.mk hb; have GR := Aside0.mk hg1; clear hg1 hbox hb; have HBw4 := Aside0.mk (below_step HB3n.out HB4.out); have BKa4 := Aside0.mk (blk_below BKan.out HB4.out); have hca4 : w4.cell? ⟨ga, 0, none⟩ = some (.slice A0_0 l0_0.length c0_0) := (blk_cell BKa4.out 0).trans rfl; have BKn4 := Aside0.mk (blk_below BKn.out HB4.out))
   | (go_at_call 92; ((with_reducible refine (impl_benchOf A0_0 c0_0 l0_0 _ (Kd.C_below HR0.out HBw4.out) HC0.out HL.out).mono ?_); rintro e w5 hp); obtain ⟨g, rfl, hgs, hB5, hb5⟩ := hp; have HBN := Aside0.mk hB5; have HB5 := Aside0.mk hb5; clear hgs hB5 hb5; have BKn5 := Aside0.mk (blk_below BKn4.out HB5.out); have hn0 : w5.cell? ⟨gn, 0, none⟩ = some (.int .i64 a1_0) := (blk_cell BKn5.out 0).trans rfl; have hn1 : w5.cell? ⟨gn, 1, none⟩ = some (.int .i64 a1_1) := (blk_cell BKn5.out 1).trans rfl; have hn2 : w5.cell? ⟨gn, 2, none⟩ = some (.int .i64 a1_2) := (blk_cell BKn5.out 2).trans rfl; have hn3 : w5.cell? ⟨gn, 3, none⟩ = some (.int .i64 a1_3) := (blk_cell BKn5.out 3).trans rfl)
   | (go_at_call 112; ((with_reducible refine (hs_post HS.out (impl_put l0_0 false ⟨a1_0, a1_1, a1_2, a1_3⟩ _ w4.heap.size g _ HBN.out)).mono ?_); rintro e w6 hp); have HP6 := Aside0.mk hp; obtain ⟨rfl, _⟩ := hp; have HB6 := Aside0.mk (below_step HBw4.out (HB5.out.trans HP6.out.2.2.1)); have BKa6 := Aside0.mk ((HP6.out.2.2.1.block ga (blk_lt BKa4.out)).trans (blk_below BKa4.out HB5.out)); have BKr6 := Aside0.mk ((HP6.out.2.2.1.block gr (blk_lt BKr.out)).trans (blk_below BKr.out HB5.out)); have hca6 : w6.cell? ⟨ga, 0, none⟩ = some (.slice A0_0 l0_0.length c0_0) := (blk_cell BKa6.out 0).trans rfl)
   | (go_at_call 94; ((with_reducible refine (impl_end' (s := s) HP6.out.bn HR0.out HC0.out HB6.out HB6.out.size HL.out HE.out).mono ?_); rintro e w7 hp); obtain ⟨v, rfl, hR7, hb7⟩ := hp; obtain ⟨A7, c7, rfl, hl7, _⟩ := Kd.R_reads hR7; have HR7 := Aside0.mk hR7; have HB7 := Aside0.mk hb7; clear hR7 hl7 hb7; have BKr7 := Aside0.mk (blk_below BKr6.out HB7.out); have hcr7 : w7.cell? ⟨gr, 0, none⟩ = some (.slice none 0 0) := (blk_cell BKr7.out 0).trans rfl; have hfr7 := blk_frozen BKr7.out 0))
  refine bodyPost_ret (results_ct rfl _ _ gr 26 #[.slice A7 r1.length c7] (0, 0) _ rfl (blk_put BKr7.out 0 _ rfl) Try.underlying26 rfl (by kernel_rfl)) rfl ?_
  exact ⟨_, rfl, top_own HR7.out HBw4.out.size (blk_lt BKr.out), below_set (below_step HB6.out HB7.out) (by rw [GR.out]; exact HB3n.out.size)⟩
 ·rw [if_neg hl0] at h
  cases h
namespace Hand

end Hand

/-! ### spec_Put: OWN: function 57 -/
namespace Hand
open Go.Proofs.Ytkckdibalopagaa.Base
theorem copyS_f {l : List S34} (h : l.length ≤ 1048576) : spec_l03Copy.f l = some l := by
 unfold spec_l03Copy.f
 simp only [Option.bind_some, List.length_nil, List.nil_append]
 rw [if_pos (by omega)]
theorem ArS.made {w4 w5 w6 : World} {g : Nat} {A : Option Addr} {c : Nat} {l : List S34} (ho : Kd.R k34 34 w5 w4.heap.size (fun _ => True) (.slice A l.length c) l) (h45 : w4.heap.size ≤ w5.heap.size) (hg : g = w5.heap.size) (h6 : Below w5.heap.size w5 w6)
  (hbk : w6.heap[g]? = some (.cells #[.slice none 0 0] 26 (0, 0))) (hl : l.length ≤ 1048576) : ArS (w6.setCell ⟨g, 0, none⟩ (.slice A l.length c)) w4.heap.size g (fun k => w4.heap.size ≤ k ∧ k ≠ g) l := by
 have hlt : g < w6.heap.size := blk_lt hbk
 refine ⟨⟨_, blk_put hbk 0 _ rfl, by omega, fun h => h.2 rfl, ?_⟩, fun k hk => ?_, hl⟩
 ·exact Kd.R_far (p := ⟨g, 0, none⟩) (Kd.R_below (Kd.R_mono (Kd.R_bound ho) (fun k hk => ⟨hk.2.1, by have := hk.2.2.1; omega⟩)) h6) (fun k hk => hk.2) _
 ·have hs : (w6.setCell ⟨g, 0, none⟩ (.slice A l.length c)).heap.size = w6.heap.size := by simp [World.setCell]
  rw [hs] at hk
  exact ⟨by have := h6.size; omega, by omega⟩
theorem top_below {w w4 w5 w6 w7 : World} {g : Nat} {u : Value} (h4 : Below w.heap.size w w4) (h5 : Below w4.heap.size w4 w5) (h6 : Below w5.heap.size w5 w6) (hg : g = w5.heap.size) (h7 : Below w4.heap.size (w6.setCell ⟨g, 0, none⟩ u) w7) : Below w.heap.size w w7 :=
  (below_set (below_step (below_step h4 h5) h6) (by rw [hg]; have := h4.size; have := h5.size; omega)).trans (h7.mono h4.size)
theorem top_blk {w6 w7 : World} {b : Nat} {g k : Nat} {u : Value} {o : Obj} (hb : w6.heap[k]? = some o) (hk : k < b) (hne : k ≠ g) (h7 : Below b (w6.setCell ⟨g, 0, none⟩ u) w7) : w7.heap[k]? = some o :=
  (h7.block k hk).trans ((Below.heap_setCell w6 ⟨g, 0, none⟩ u k hne).trans hb)
theorem top_copy {w w7 w8 : World} {gr : Nat} {A : Option Addr} {c : Nat} {l : List S34} {u : Value} (ho : Kd.R k34 34 w8 w7.heap.size (fun _ => True) (.slice A l.length c) l) (hs : w.heap.size ≤ w7.heap.size) (hg : gr < w7.heap.size) : Kd.R k34 34 (w8.setCell ⟨gr, 0, none⟩ u) w.heap.size (fun _ => True) (.slice A l.length c) l :=
  Kd.R_lower (Kd.R_mono (Kd.R_far (p := ⟨gr, 0, none⟩) (Kd.R_mono (Kd.R_bound ho) (fun k hk => (show w7.heap.size ≤ k from hk.2.1))) (fun k hk e => by have e' : k = gr := e; omega) _) (fun _ _ => trivial)) hs

theorem as_post {P : Program} {f : Nat} {args : Array Value} {w : World} {base g : Nat} {ok : Nat → Prop} {u s : List S34 × Int} (h : u = s) (hc : Calls P f args w (ArPost w base g ok u)) : Calls P f args w (ArPost w base g ok s) := h ▸ hc

end Hand
open Hand in
def spec_Put.f (l0_0 : List S34) (a1_0 : Int) (a1_1 : Int) (a1_2 : Int) (a1_3 : Int) : Option (List S34 × Int) := if l0_0.length ≤ 1048576 then some (putN l0_0 ⟨a1_0, a1_1, a1_2, a1_3⟩) else none
open Hand in
set_option maxHeartbeats 8000000 in
set_option maxRecDepth 100000 in
theorem spec_Put.calls (A0_0 : Option Addr) (c0_0 : Nat) (l0_0 : List (S34)) (a1_0 : Int) (a1_1 : Int) (a1_2 : Int) (a1_3 : Int) (r1 : List (S34)) (r2 : Int) (w : World) (hr0_0 : Kd.C k34 w A0_0 l0_0.length l0_0) (hc0_0 : l0_0.length ≤ c0_0)  (h : spec_Put.f l0_0 a1_0 a1_1 a1_2 a1_3 = some (r1, r2)) :
  Calls Try.prog 57 #[.agg #[.slice A0_0 l0_0.length c0_0], .agg #[.int .i64 a1_0, .int .i64 a1_1, .int .i64 a1_2, .int .i64 a1_3]] w fun e w' => ∃ v0_ : Value, e = .returned (.tuple #[.agg #[v0_], .int .i64 r2]) ∧ Kd.R k34 34 w' w.heap.size (fun _ => True) v0_ r1 ∧ Below w.heap.size w w' := by
 have hu26 := Try.underlying26
 unfold spec_Put.f at h
 by_cases hl : l0_0.length ≤ 1048576
 ·rw [if_pos hl] at h
  have HCF := Aside0.mk (copyS_f hl)
  have HL := Aside0.mk hl
  have HR0 := Aside0.mk hr0_0
  have HC0 := Aside0.mk hc0_0
  clear hl hr0_0 hc0_0
  obtain ⟨s, hs⟩ : ∃ s, putN l0_0 ⟨a1_0, a1_1, a1_2, a1_3⟩ = s := ⟨_, rfl⟩
  rw [hs] at h
  have HS := Aside0.mk hs
  clear hs
  obtain rfl := Option.some.inj h
  clear h
  go_enter Try.func57, Try.ntmps57
  go_wp2_with (first
   | ((with_reducible refine gate_dst (N := 2) rfl ?_); refine box_event ?hg (N := 2) ?hd (cs := #[.slice A0_0 l0_0.length c0_0]) (t := 26) ?hr ?_; (case hd => rfl); (case hg => rfl); (case hr => first | (go_simp; done) | (go_simp; rfl)); intro ga hg1 w3 hbox hb; have BKa := Aside0.mk hbox; have HB3 := Aside0.mk hb; have GA := Aside0.mk hg1; clear hg1 hbox hb)
   | ((with_reducible refine gate_dst (N := 3) rfl ?_); refine box_event ?hg (N := 3) ?hd (cs := #[.int .i64 a1_0, .int .i64 a1_1, .int .i64 a1_2, .int .i64 a1_3]) (t := 34) ?hr ?_; (case hd => rfl); (case hg => rfl); (case hr => first | (go_simp; done) | (go_simp; rfl)); intro gn hg1 w3n hbox hb; have BKn := Aside0.mk hbox; have HBn := Aside0.mk hb; have GN := Aside0.mk hg1; clear hg1 hbox hb; have HB3n := Aside0.mk (below_step HB3.out HBn.out); have BKan := Aside0.mk (blk_below BKa.out HBn.out))
   | ((with_reducible refine gate_dst (N := 4) rfl ?_); refine box_event ?hg (N := 4) ?hd (cs := #[.slice none 0 0]) (t := 26) ?hr ?_; (case hd => rfl); (case hg => rfl); (case hr => first | (go_simp; done) | (go_simp; rfl)); intro gr hg1 w4 hbox hb; have BKr := Aside0.mk hbox; have HB4 := Aside0.mk hb; have GR := Aside0.mk hg1; clear hg1 hbox hb; have HBw4 := Aside0.mk (below_step HB3n.out HB4.out); have BKa4 := Aside0.mk (blk_below BKan.out HB4.out); have hca4 : w4.cell? ⟨ga, 0, none⟩ = some (.slice A0_0 l0_0.length c0_0) := (blk_cell BKa4.out 0).trans rfl; have BKn4 := Aside0.mk (blk_below BKn.out HB4.out))
   | (go_at_call 90; ((with_reducible refine (spec_l03Copy.calls A0_0 c0_0 l0_0 l0_0 _ (Kd.C_below HR0.out HBw4.out) HC0.out HCF.out).mono ?_); rintro e w5 ⟨v0, rfl, ho, hb⟩); have HO5 := Aside0.mk ho; have HB5 := Aside0.mk hb; obtain ⟨Ao, co, rfl, hlo, _⟩ := Kd.R_reads ho; clear ho hb hlo)
   | ((with_reducible refine gate_dst (N := 6) rfl ?_); refine box_event ?hg (N := 6) ?hd (cs := #[.slice none 0 0]) (t := 26) ?hr ?_; (case hd => rfl); (case hg => rfl); (case hr => first | (go_simp; done) | (go_simp; rfl)); intro g hg1 w6 hbox hb; have BK6 := Aside0.mk hbox; have HB6 := Aside0.mk hb; have GB6 := Aside0.mk hg1; clear hg1 hbox hb; have hcg6 : w6.cell? ⟨g, 0, none⟩ = some (.slice none 0 0) := (blk_cell BK6.out 0).trans rfl; have hfg6 := blk_frozen BK6.out 0; have HA6 := Aside0.mk (ArS.made HO5.out HB5.out.size GB6.out HB6.out BK6.out HL.out); have BKn6 := Aside0.mk (blk_far (p := ⟨g, 0, none⟩) (blk_below (blk_below BKn4.out HB5.out) HB6.out) (show gn ≠ g by have h1 := blk_lt BKn4.out; have h2 := GB6.out; have h3 := HB5.out.size; omega) (.slice Ao l0_0.length co)); have hn0 : (w6.setCell ⟨g, 0, none⟩ (.slice Ao l0_0.length co)).cell? ⟨gn, 0, none⟩ = some (.int .i64 a1_0) := (blk_cell BKn6.out 0).trans rfl; have hn1 : (w6.setCell ⟨g, 0, none⟩ (.slice Ao l0_0.length co)).cell? ⟨gn, 1, none⟩ = some (.int .i64 a1_1) := (blk_cell BKn6.out 1).trans rfl; have hn2 : (w6.setCell ⟨g, 0, none⟩ (.slice Ao l0_0.length co)).cell? ⟨gn, 2, none⟩ = some (.int .i64 a1_2) := (blk_cell BKn6.out 2).trans rfl; have hn3 : (w6.setCell ⟨g, 0, none⟩ (.slice Ao l0_0.length co)).cell? ⟨gn, 3, none⟩ = some (.int .i64 a1_3) := (blk_cell BKn6.out 3).trans rfl)
   | (go_at_call 113; ((with_reducible refine (as_post HS.out (spec_put l0_0 ⟨a1_0, a1_1, a1_2, a1_3⟩ _ w4.heap.size g _ HA6.out)).mono ?_); rintro e w7 hp); have HP7 := Aside0.mk hp; obtain ⟨rfl, _, _⟩ := hp; obtain ⟨v7, hv7, _, _, hr7⟩ := HP7.out.2.1.1; obtain ⟨A7, c7, rfl, hl7, _⟩ := Kd.R_reads hr7; have HR7 := Aside0.mk hr7; have HG7 := Aside0.mk hv7; have HB7 := Aside0.mk (top_below HBw4.out HB5.out HB6.out GB6.out HP7.out.2.2.1); have BKr7 := Aside0.mk (top_blk (blk_below (blk_below BKr.out HB5.out) HB6.out) (blk_lt BKr.out) (by rw [GB6.out]; exact Nat.ne_of_lt (Nat.lt_of_lt_of_le (blk_lt BKr.out) HB5.out.size)) HP7.out.2.2.1); have BKa7 := Aside0.mk (top_blk (blk_below (blk_below BKa4.out HB5.out) HB6.out) (blk_lt BKa4.out) (by rw [GB6.out]; exact Nat.ne_of_lt (Nat.lt_of_lt_of_le (blk_lt BKa4.out) HB5.out.size)) HP7.out.2.2.1); clear hr7 hv7 hl7; have hcg7 : w7.cell? ⟨g, 0, none⟩ = some (.slice A7 r1.length c7) := (blk_cell HG7.out 0).trans rfl; have hcr7 : w7.cell? ⟨gr, 0, none⟩ = some (.slice none 0 0) := (blk_cell BKr7.out 0).trans rfl; have hfr7 := blk_frozen BKr7.out 0; have hca7 : w7.cell? ⟨ga, 0, none⟩ = some (.slice A0_0 l0_0.length c0_0) := (blk_cell BKa7.out 0).trans rfl))
  refine bodyPost_ret (results_ct rfl _ _ gr 26 #[.slice A7 r1.length c7] (0, 0) _ rfl (blk_put BKr7.out 0 _ rfl) Try.underlying26 rfl (by kernel_rfl)) rfl ?_
  exact ⟨_, rfl, top_own HR7.out HBw4.out.size (blk_lt BKr.out), below_set HB7.out (by rw [GR.out]; exact HB3n.out.size)⟩
 ·rw [if_neg hl] at h
  cases h
namespace Hand

end Hand

/-! ### spec_DrawArenaOk: function 58 -/
def spec_DrawArenaOk.f (k : Nat) (l0 : List Int) : Option ((List (S34))) := (spec_l01New.f k l0).bind fun bt414 => ((spec_l03Any.f bt414.1 bt414.2.1 bt414.2.2).bind fun bt418 => (some bt418.1))
set_option maxHeartbeats 8000000 in
set_option maxRecDepth 100000 in
theorem spec_DrawArenaOk.calls (k : Nat) (A0 : Option Addr) (c0 : Nat) (l0 : List Int) (r : List (S34)) (w : World) (hr0 : Kd.C (Kd.int .u8) w A0 l0.length l0) (hc0 : l0.length ≤ c0) (h : spec_DrawArenaOk.f k l0 = some r) :
  Calls Try.prog 58 #[.slice A0 l0.length c0] w fun e w' => ∃ v0_ : Value, e = .returned (.agg #[v0_]) ∧ Kd.R k34 34 w' w.heap.size (fun _ => True) v0_ r ∧ Below w.heap.size w w' := by
 have hu26 := Try.underlying26
 have HR0 := Aside0.mk hr0
 have HC0 := Aside0.mk hc0
 clear hr0 hc0
 have HB := Aside0.mk (Below.refl w.heap.size w)
 have H : ((spec_l01New.f k l0).bind fun bt414 => ((spec_l03Any.f bt414.1 bt414.2.1 bt414.2.2).bind fun bt418 => (some bt418.1))) = some r := h
 clear h
 replace H := Option.bind_eq_some_iff.mp H
 obtain ⟨⟨t414, t415, t416⟩, A20, H⟩ := H
 replace H : ((spec_l03Any.f t414 t415 t416).bind fun bt418 => (some bt418.1)) = some r := H
 have A2 := Aside0.mk A20
 clear A20
 replace H := Option.bind_eq_some_iff.mp H
 obtain ⟨⟨t418, t421, t422⟩, A30, H⟩ := H
 replace H : (some t418) = some r := H
 have A3 := Aside0.mk A30
 clear A30
 obtain rfl := Option.some.inj H
 go_enter Try.func58, Try.ntmps58
 go_wp2_with (first | ((with_reducible refine gate_dst (N := 2) rfl ?_); refine box_event ?hg (N := 2) ?hd (cs := #[.slice none 0 0]) (t := 26) ?hr ?_; (case hd => rfl); (case hg => rfl); (case hr => first | (go_simp; done) | (go_simp; rfl)); intro gb413 hg w4 hbox hb; have n0_ := Aside0.mk (below_step (bw HB.out) hb); have n1_ := Aside0.mk (hbox); have n2_ := Aside0.mk ((by rw [hg]; exact (below_size (bw HB.out)) : w.heap.size ≤ gb413)); have n3_ := Aside0.mk ((by rw [hg]; exact (below_size (bw HB.out)) : w.heap.size ≤ gb413)); clear HB; have HB := n0_; have BK413 := n1_; have GW413 := n2_; have GE413 := n3_; clear n0_ n1_ n2_ n3_ hb hbox hg) | ((with_reducible refine gate_callee (f := 68) rfl ?_); refine goesL_ (some 4) rfl rfl Try.func68 (by kernel_rfl) rfl #[.slice A0 l0.length c0] rfl ar ?_; (with_reducible refine (spec_l01New.calls k _ _ l0 t414 t415 t416 w _ ?side1 ?side2 ?side3 A2.out).mono ?_); (case side1 => exact bw HB.out); (case side2 => exact HR0.out); (case side3 => exact HC0.out); rintro e w5 ⟨g417, rfl, hi, hb, hb2⟩; refine ⟨_, rfl, ?_⟩; have n0_ := Aside0.mk (blk_below (g := gb413) (o := .cells #[.slice none 0 0] 26 (0, 0)) (bl BK413.out) hb2); have n1_ := Aside0.mk (hb); have n2_ := Aside0.mk (hi); have n3_ := Aside0.mk (IsS119.ne_blk hi (blk_below (g := gb413) (o := .cells #[.slice none 0 0] 26 (0, 0)) (bl BK413.out) hb2) (by decide)); have n4_ := Aside0.mk (Ne.symm (IsS119.ne_blk hi (blk_below (g := gb413) (o := .cells #[.slice none 0 0] 26 (0, 0)) (bl BK413.out) hb2) (by decide))); clear BK413 HB; have BK413 := n0_; have HB := n1_; have HI417 := n2_; have NB417_413 := n3_; have NB413_417 := n4_; clear n0_ n1_ n2_ n3_ n4_; (try clear hb); (try clear hb2); (try clear hk); (try clear hi)) | ((with_reducible refine gate_callee (f := 76) rfl ?_); refine goesL_ (some 5) rfl rfl Try.func76 (by kernel_rfl) rfl #[.pointer (some ⟨g417, 0, none⟩)] rfl ar ?_; (with_reducible refine (spec_l03Any.calls g417 t414 t415 t416 t418 t421 t422 w _ ?side1 ?side2 A3.out).mono ?_); (case side1 => repeat (first | (with_reducible first | exact HI417.out | apply IsS119.alloc | apply IsS119.drewN | apply IsS119.drew | apply IsS119.set_1 | apply IsS119.set_2 | refine IsS119.far ?_ NB417_413.out _) | exact HI417.out)); (case side2 => repeat (first | (with_reducible first | exact HB.out | apply below_alloc | apply pw_below_drewN | apply below_drew1 | refine below_set ?_ (IsS119.ge HI417.out) | refine below_set ?_ GE413.out) | exact HB.out)); rintro e w6 ⟨v419, rfl, ho0, hi, hb, hk⟩; refine ⟨_, rfl, ?_⟩; have n0_ := Aside0.mk (KeepBut.blk hk (g' := gb413) (o := .cells #[.slice none 0 0] 26 (0, 0)) (bl BK413.out) NB413_417.out (by simp)); have n1_ := Aside0.mk (Kd.R_lower ho0 (below_size (by repeat (first | (with_reducible first | exact HB.out | apply below_alloc | apply pw_below_drewN | apply below_drew1 | refine below_set ?_ (IsS119.ge HI417.out) | refine below_set ?_ GE413.out) | exact HB.out)))); have n2_ := Aside0.mk (hb); have n3_ := Aside0.mk (hi); clear BK413 HB HI417; have BK413 := n0_; have HO420 := n1_; have HB := n2_; have HI417 := n3_; clear n0_ n1_ n2_ n3_; (try clear hb); (try clear hb2); (try clear hk); (try clear hi); (try clear ho0); obtain ⟨Ao7, co7, eo7⟩ := Kd.R_slice HO420.out; subst eo7; have hnb8 := NB413_417.out; have hnc8 := NB417_413.out; have hcz9_0 : w6.cell? ⟨gb413, 0, none⟩ = some (.slice none 0 0) := (blk_cell BK413.out 0).trans rfl; have hfz9_0 := blk_frozen BK413.out 0))
 refine bodyPost_ret (results_cell_row rfl _ _ gb413 26 #[.slice Ao7 t418.length co7] (0, 0) _ rfl (by (with_reducible repeat (first | refine blk_drewN ?_ _ | refine blk_drew ?_ | refine blk_alloc ?_ _)); refine blk_put (cs := #[.slice none 0 0]) ?_ 0 _ rfl; (with_reducible repeat (first | refine blk_drewN ?_ _ | refine blk_drew ?_ | refine blk_alloc ?_ _)); exact BK413.out) Try.underlying26 rfl (by kernel_rfl)) rfl ?_
 exact ⟨_, by first | rfl | (simp [errW_none, errW_some] <;> rfl) | (simp [*, errW_none, errW_some] <;> rfl), by (with_reducible repeat (first | apply Kd.R_alloc | apply Kd.R_drewN | apply Kd.R_drew)); exact Kd.R_mono (Kd.R_far (p := ⟨gb413, 0, none⟩) (Kd.R_types HO420.out BK413.out (by decide)) (fun _ hk => hk.2) (.slice Ao7 t418.length co7)) (fun _ hk => trivial), by repeat (first | (with_reducible first | exact HB.out | apply below_alloc | apply pw_below_drewN | apply below_drew1 | refine below_set ?_ (IsS119.ge HI417.out) | refine below_set ?_ GE413.out) | exact HB.out)⟩

/-! ### impl_NodeOk: function 59 -/
def impl_NodeOk.f (k : Nat) (l0_0 : List (S34)) (a1 : Int) : Option (Bool) := (impl_hasNode.f l0_0 a1).bind fun t424 => (if t424 = true then (if 0 ≤ a1 then (if a1 < (l0_0.length : Int) then ((impl_nodeRight.f k ((rd_T34 l0_0 a1).f0) ((rd_T34 l0_0 a1).f1) ((rd_T34 l0_0 a1).f2) ((rd_T34 l0_0 a1).f3) a1).bind fun t426 => (some t426)) else (none)) else (none)) else (some false))
set_option maxHeartbeats 8000000 in
set_option maxRecDepth 100000 in
theorem impl_NodeOk.calls (k : Nat) (A0_0 : Option Addr) (c0_0 : Nat) (l0_0 : List (S34)) (a1 : Int) (r : Bool) (w : World) (hr0_0 : Kd.C k34 w A0_0 l0_0.length l0_0) (hc0_0 : l0_0.length ≤ c0_0) (h : impl_NodeOk.f k l0_0 a1 = some r) :
  Calls Try.prog 59 #[.agg #[.slice A0_0 l0_0.length c0_0], .int .i64 a1] w fun e w' => e = .returned (.bool r) ∧ Below w.heap.size w w' := by
 have hu26 := Try.underlying26
 have hu34 := Try.underlying34
 have HR0_0 := Aside0.mk hr0_0
 have HC0_0 := Aside0.mk hc0_0
 clear hr0_0 hc0_0
 have HB := Aside0.mk (Below.refl w.heap.size w)
 have H : ((impl_hasNode.f l0_0 a1).bind fun t424 => (if t424 = true then (if 0 ≤ a1 then (if a1 < (l0_0.length : Int) then ((impl_nodeRight.f k ((rd_T34 l0_0 a1).f0) ((rd_T34 l0_0 a1).f1) ((rd_T34 l0_0 a1).f2) ((rd_T34 l0_0 a1).f3) a1).bind fun t426 => (some t426)) else (none)) else (none)) else (some false))) = some r := h
 clear h
 replace H := Option.bind_eq_some_iff.mp H
 obtain ⟨t424, A30, H⟩ := H
 replace H : (if t424 = true then (if 0 ≤ a1 then (if a1 < (l0_0.length : Int) then ((impl_nodeRight.f k ((rd_T34 l0_0 a1).f0) ((rd_T34 l0_0 a1).f1) ((rd_T34 l0_0 a1).f2) ((rd_T34 l0_0 a1).f3) a1).bind fun t426 => (some t426)) else (none)) else (none)) else (some false)) = some r := H
 have A3 := Aside0.mk A30
 clear A30
 by_cases c4 : t424 = true
 ·subst c4
  have H1 : (if 0 ≤ a1 then (if a1 < (l0_0.length : Int) then ((impl_nodeRight.f k ((rd_T34 l0_0 a1).f0) ((rd_T34 l0_0 a1).f1) ((rd_T34 l0_0 a1).f2) ((rd_T34 l0_0 a1).f3) a1).bind fun t426 => (some t426)) else (none)) else (none)) = some r := by rw [if_pos rfl] at H; exact H
  clear H
  have H := H1
  clear H1
  by_cases c5 : 0 ≤ a1
  ·rw [if_pos c5] at H
   have c5b0 : decide (0 ≤ a1) = true := decide_eq_true c5
   clear c5
   by_cases c6 : a1 < (l0_0.length : Int)
   ·rw [if_pos c6] at H
    have c6b0 : decide (a1 < (l0_0.length : Int)) = true := decide_eq_true c6
    clear c6
    replace H := Option.bind_eq_some_iff.mp H
    obtain ⟨t426, A70, H⟩ := H
    replace H : (some t426) = some r := H
    have A7 := Aside0.mk A70
    clear A70
    obtain rfl := Option.some.inj H
    go_enter Try.func59, Try.ntmps59
    go_wp2_with (first | ((with_reducible refine gate_dst (N := 2) rfl ?_); refine box_event ?hg (N := 2) ?hd (cs := #[.slice A0_0 l0_0.length c0_0]) (t := 26) ?hr ?_; (case hd => rfl); (case hg => rfl); (case hr => first | (go_simp; done) | (go_simp; rfl)); intro gb423 hg w8 hbox hb; have n0_ := Aside0.mk (below_step (bw HB.out) hb); have n1_ := Aside0.mk (hbox); have n2_ := Aside0.mk ((by rw [hg]; exact (below_size (bw HB.out)) : w.heap.size ≤ gb423)); have n3_ := Aside0.mk ((by rw [hg]; exact (below_size (bw HB.out)) : w.heap.size ≤ gb423)); clear HB; have HB := n0_; have BK423 := n1_; have GW423 := n2_; have GE423 := n3_; clear n0_ n1_ n2_ n3_ hb hbox hg; have hcz9_0 : w8.cell? ⟨gb423, 0, none⟩ = some (.slice A0_0 l0_0.length c0_0) := (blk_cell BK423.out 0).trans rfl; have hfz9_0 := blk_frozen BK423.out 0) | ((with_reducible refine gate_callee (f := 71) rfl ?_); refine goesL_ (some 7) rfl rfl Try.func71 (by kernel_rfl) rfl #[.agg #[.slice A0_0 l0_0.length c0_0], .int .i64 a1] rfl ar ?_; (with_reducible refine (impl_hasNode.calls _ _ l0_0 a1 true _ ?side1 ?side2 A3.out).mono ?_); (case side1 => exact cl (Kd.C_below HR0_0.out HB.out)); (case side2 => exact HC0_0.out); rintro e w10 ⟨rfl, hb⟩; refine ⟨_, rfl, ?_⟩; have n0_ := Aside0.mk (blk_below (g := gb423) (o := .cells #[.slice A0_0 l0_0.length c0_0] 26 (0, 0)) (bl BK423.out) hb); have n1_ := Aside0.mk (below_step (bw HB.out) hb); clear BK423 HB; have BK423 := n0_; have HB := n1_; clear n0_ n1_; (try clear hb); (try clear hb2); (try clear hk); (try clear hi); have hcz11_0 : w10.cell? ⟨gb423, 0, none⟩ = some (.slice A0_0 l0_0.length c0_0) := (blk_cell BK423.out 0).trans rfl; have hfz11_0 := blk_frozen BK423.out 0; have p425 : 0 ≤ (a1 : Int) := oda; have q425 : a1 < (l0_0.length : Int) := oda; obtain ⟨ad425, e425, hx425_0, hx425_1, hx425_2, hx425_3⟩ := at_T34 HR0_0.out a1 p425 q425; cases e425; replace hx425_0 := (HB.out.cell (World.block_lt_of_cell? w _ hx425_0)).trans hx425_0; replace hx425_1 := (HB.out.cell (World.block_lt_of_cell? w _ hx425_1)).trans hx425_1; replace hx425_2 := (HB.out.cell (World.block_lt_of_cell? w _ hx425_2)).trans hx425_2; replace hx425_3 := (HB.out.cell (World.block_lt_of_cell? w _ hx425_3)).trans hx425_3; replace p425 := eq_true p425; replace q425 := eq_true q425) | (go_at_call 84; (with_reducible refine (impl_nodeRight.calls k ((rd_T34 l0_0 a1).f0) ((rd_T34 l0_0 a1).f1) ((rd_T34 l0_0 a1).f2) ((rd_T34 l0_0 a1).f3) a1 t426 _ A7.out).mono ?_); rintro e w12 ⟨rfl, hb⟩; have n0_ := Aside0.mk (blk_below (g := gb423) (o := .cells #[.slice (some ad425) l0_0.length c0_0] 26 (0, 0)) (bl BK423.out) hb); have n1_ := Aside0.mk (below_step (bw HB.out) hb); clear BK423 HB; have BK423 := n0_; have HB := n1_; clear n0_ n1_; (try clear hb); (try clear hb2); (try clear hk); (try clear hi)))
    go_ret
    exact ⟨by first | rfl | (simp [errW_none, errW_some] <;> rfl) | (simp [*, errW_none, errW_some] <;> rfl), bw HB.out⟩
   ·rw [if_neg c6] at H
    exact absurd H (by simp)
  ·rw [if_neg c5] at H
   exact absurd H (by simp)
 ·replace c4 := Bool.eq_false_iff.mpr c4
  subst c4
  have H1 : (some false) = some r := by rw [if_neg (show ¬ (false = true) by decide)] at H; exact H
  clear H
  have H := H1
  clear H1
  obtain rfl := Option.some.inj H
  go_enter Try.func59, Try.ntmps59
  go_wp2_with (first | ((with_reducible refine gate_dst (N := 2) rfl ?_); refine box_event ?hg (N := 2) ?hd (cs := #[.slice A0_0 l0_0.length c0_0]) (t := 26) ?hr ?_; (case hd => rfl); (case hg => rfl); (case hr => first | (go_simp; done) | (go_simp; rfl)); intro gb423 hg w13 hbox hb; have n0_ := Aside0.mk (below_step (bw HB.out) hb); have n1_ := Aside0.mk (hbox); have n2_ := Aside0.mk ((by rw [hg]; exact (below_size (bw HB.out)) : w.heap.size ≤ gb423)); have n3_ := Aside0.mk ((by rw [hg]; exact (below_size (bw HB.out)) : w.heap.size ≤ gb423)); clear HB; have HB := n0_; have BK423 := n1_; have GW423 := n2_; have GE423 := n3_; clear n0_ n1_ n2_ n3_ hb hbox hg; have hcz14_0 : w13.cell? ⟨gb423, 0, none⟩ = some (.slice A0_0 l0_0.length c0_0) := (blk_cell BK423.out 0).trans rfl; have hfz14_0 := blk_frozen BK423.out 0) | ((with_reducible refine gate_callee (f := 71) rfl ?_); refine goesL_ (some 7) rfl rfl Try.func71 (by kernel_rfl) rfl #[.agg #[.slice A0_0 l0_0.length c0_0], .int .i64 a1] rfl ar ?_; (with_reducible refine (impl_hasNode.calls _ _ l0_0 a1 false _ ?side1 ?side2 A3.out).mono ?_); (case side1 => exact cl (Kd.C_below HR0_0.out HB.out)); (case side2 => exact HC0_0.out); rintro e w15 ⟨rfl, hb⟩; refine ⟨_, rfl, ?_⟩; have n0_ := Aside0.mk (blk_below (g := gb423) (o := .cells #[.slice A0_0 l0_0.length c0_0] 26 (0, 0)) (bl BK423.out) hb); have n1_ := Aside0.mk (below_step (bw HB.out) hb); clear BK423 HB; have BK423 := n0_; have HB := n1_; clear n0_ n1_; (try clear hb); (try clear hb2); (try clear hk); (try clear hi)))
  go_ret
  exact ⟨by first | rfl | (simp [errW_none, errW_some] <;> rfl) | (simp [*, errW_none, errW_some] <;> rfl), bw HB.out⟩

/-! ### spec_NodeOk: function 60 -/
def spec_NodeOk.f (k : Nat) (l0_0 : List (S34)) (a1 : Int) : Option (Bool) := (spec_l01In.f a1 0 (wrap64 ((l0_0.length : Int) - 1))).bind fun t428 => (if t428 = true then (if 0 ≤ a1 then (if a1 < (l0_0.length : Int) then ((spec_l03Node.f k ((rd_T34 l0_0 a1).f0) ((rd_T34 l0_0 a1).f1) ((rd_T34 l0_0 a1).f2) ((rd_T34 l0_0 a1).f3) a1).bind fun t430 => (some t430)) else (none)) else (none)) else (some false))
set_option maxHeartbeats 8000000 in
set_option maxRecDepth 100000 in
theorem spec_NodeOk.calls (k : Nat) (A0_0 : Option Addr) (c0_0 : Nat) (l0_0 : List (S34)) (a1 : Int) (r : Bool) (w : World) (hr0_0 : Kd.C k34 w A0_0 l0_0.length l0_0) (hc0_0 : l0_0.length ≤ c0_0) (h : spec_NodeOk.f k l0_0 a1 = some r) :
  Calls Try.prog 60 #[.agg #[.slice A0_0 l0_0.length c0_0], .int .i64 a1] w fun e w' => e = .returned (.bool r) ∧ Below w.heap.size w w' := by
 have hu26 := Try.underlying26
 have hu34 := Try.underlying34
 have HR0_0 := Aside0.mk hr0_0
 have HC0_0 := Aside0.mk hc0_0
 clear hr0_0 hc0_0
 have HB := Aside0.mk (Below.refl w.heap.size w)
 have H : ((spec_l01In.f a1 0 (wrap64 ((l0_0.length : Int) - 1))).bind fun t428 => (if t428 = true then (if 0 ≤ a1 then (if a1 < (l0_0.length : Int) then ((spec_l03Node.f k ((rd_T34 l0_0 a1).f0) ((rd_T34 l0_0 a1).f1) ((rd_T34 l0_0 a1).f2) ((rd_T34 l0_0 a1).f3) a1).bind fun t430 => (some t430)) else (none)) else (none)) else (some false))) = some r := h
 clear h
 replace H := Option.bind_eq_some_iff.mp H
 obtain ⟨t428, A30, H⟩ := H
 replace H : (if t428 = true then (if 0 ≤ a1 then (if a1 < (l0_0.length : Int) then ((spec_l03Node.f k ((rd_T34 l0_0 a1).f0) ((rd_T34 l0_0 a1).f1) ((rd_T34 l0_0 a1).f2) ((rd_T34 l0_0 a1).f3) a1).bind fun t430 => (some t430)) else (none)) else (none)) else (some false)) = some r := H
 have A3 := Aside0.mk A30
 clear A30
 by_cases c4 : t428 = true
 ·subst c4
  have H1 : (if 0 ≤ a1 then (if a1 < (l0_0.length : Int) then ((spec_l03Node.f k ((rd_T34 l0_0 a1).f0) ((rd_T34 l0_0 a1).f1) ((rd_T34 l0_0 a1).f2) ((rd_T34 l0_0 a1).f3) a1).bind fun t430 => (some t430)) else (none)) else (none)) = some r := by rw [if_pos rfl] at H; exact H
  clear H
  have H := H1
  clear H1
  by_cases c5 : 0 ≤ a1
  ·rw [if_pos c5] at H
   have c5b0 : decide (0 ≤ a1) = true := decide_eq_true c5
   clear c5
   by_cases c6 : a1 < (l0_0.length : Int)
   ·rw [if_pos c6] at H
    have c6b0 : decide (a1 < (l0_0.length : Int)) = true := decide_eq_true c6
    clear c6
    replace H := Option.bind_eq_some_iff.mp H
    obtain ⟨t430, A70, H⟩ := H
    replace H : (some t430) = some r := H
    have A7 := Aside0.mk A70
    clear A70
    obtain rfl := Option.some.inj H
    go_enter Try.func60, Try.ntmps60
    go_wp2_with (first | ((with_reducible refine gate_dst (N := 2) rfl ?_); refine box_event ?hg (N := 2) ?hd (cs := #[.slice A0_0 l0_0.length c0_0]) (t := 26) ?hr ?_; (case hd => rfl); (case hg => rfl); (case hr => first | (go_simp; done) | (go_simp; rfl)); intro gb427 hg w8 hbox hb; have n0_ := Aside0.mk (below_step (bw HB.out) hb); have n1_ := Aside0.mk (hbox); have n2_ := Aside0.mk ((by rw [hg]; exact (below_size (bw HB.out)) : w.heap.size ≤ gb427)); have n3_ := Aside0.mk ((by rw [hg]; exact (below_size (bw HB.out)) : w.heap.size ≤ gb427)); clear HB; have HB := n0_; have BK427 := n1_; have GW427 := n2_; have GE427 := n3_; clear n0_ n1_ n2_ n3_ hb hbox hg; have hcz9_0 : w8.cell? ⟨gb427, 0, none⟩ = some (.slice A0_0 l0_0.length c0_0) := (blk_cell BK427.out 0).trans rfl; have hfz9_0 := blk_frozen BK427.out 0) | ((with_reducible refine gate_callee (f := 79) rfl ?_); refine goesL_ (some 10) rfl rfl Try.func79 (by kernel_rfl) rfl #[.int .i64 a1, .int .i64 0, .int .i64 (wrap64 ((l0_0.length : Int) - 1))] rfl ar ?_; (with_reducible refine (spec_l01In.calls a1 0 (wrap64 ((l0_0.length : Int) - 1)) true _ A3.out).mono ?_); rintro e w' ⟨rfl, ⟨nd, rfl⟩⟩; refine ⟨_, rfl, ?_⟩; have p429 : 0 ≤ (a1 : Int) := oda; have q429 : a1 < (l0_0.length : Int) := oda; obtain ⟨ad429, e429, hx429_0, hx429_1, hx429_2, hx429_3⟩ := at_T34 HR0_0.out a1 p429 q429; cases e429; replace hx429_0 := (HB.out.cell (World.block_lt_of_cell? w _ hx429_0)).trans hx429_0; replace hx429_1 := (HB.out.cell (World.block_lt_of_cell? w _ hx429_1)).trans hx429_1; replace hx429_2 := (HB.out.cell (World.block_lt_of_cell? w _ hx429_2)).trans hx429_2; replace hx429_3 := (HB.out.cell (World.block_lt_of_cell? w _ hx429_3)).trans hx429_3; replace p429 := eq_true p429; replace q429 := eq_true q429) | (go_at_call 81; (with_reducible refine (spec_l03Node.calls k ((rd_T34 l0_0 a1).f0) ((rd_T34 l0_0 a1).f1) ((rd_T34 l0_0 a1).f2) ((rd_T34 l0_0 a1).f3) a1 t430 _ A7.out).mono ?_); rintro e w10 ⟨rfl, hb⟩; have n0_ := Aside0.mk (blk_below (g := gb427) (o := .cells #[.slice (some ad429) l0_0.length c0_0] 26 (0, 0)) (bl BK427.out) hb); have n1_ := Aside0.mk (below_step (bw HB.out) hb); clear BK427 HB; have BK427 := n0_; have HB := n1_; clear n0_ n1_; (try clear hb); (try clear hb2); (try clear hk); (try clear hi)))
    go_ret
    exact ⟨by first | rfl | (simp [errW_none, errW_some] <;> rfl) | (simp [*, errW_none, errW_some] <;> rfl), bw HB.out⟩
   ·rw [if_neg c6] at H
    exact absurd H (by simp)
  ·rw [if_neg c5] at H
   exact absurd H (by simp)
 ·replace c4 := Bool.eq_false_iff.mpr c4
  subst c4
  have H1 : (some false) = some r := by rw [if_neg (show ¬ (false = true) by decide)] at H; exact H
  clear H
  have H := H1
  clear H1
  obtain rfl := Option.some.inj H
  go_enter Try.func60, Try.ntmps60
  go_wp2_with (first | ((with_reducible refine gate_dst (N := 2) rfl ?_); refine box_event ?hg (N := 2) ?hd (cs := #[.slice A0_0 l0_0.length c0_0]) (t := 26) ?hr ?_; (case hd => rfl); (case hg => rfl); (case hr => first | (go_simp; done) | (go_simp; rfl)); intro gb427 hg w11 hbox hb; have n0_ := Aside0.mk (below_step (bw HB.out) hb); have n1_ := Aside0.mk (hbox); have n2_ := Aside0.mk ((by rw [hg]; exact (below_size (bw HB.out)) : w.heap.size ≤ gb427)); have n3_ := Aside0.mk ((by rw [hg]; exact (below_size (bw HB.out)) : w.heap.size ≤ gb427)); clear HB; have HB := n0_; have BK427 := n1_; have GW427 := n2_; have GE427 := n3_; clear n0_ n1_ n2_ n3_ hb hbox hg; have hcz12_0 : w11.cell? ⟨gb427, 0, none⟩ = some (.slice A0_0 l0_0.length c0_0) := (blk_cell BK427.out 0).trans rfl; have hfz12_0 := blk_frozen BK427.out 0) | ((with_reducible refine gate_callee (f := 79) rfl ?_); refine goesL_ (some 10) rfl rfl Try.func79 (by kernel_rfl) rfl #[.int .i64 a1, .int .i64 0, .int .i64 (wrap64 ((l0_0.length : Int) - 1))] rfl ar ?_; (with_reducible refine (spec_l01In.calls a1 0 (wrap64 ((l0_0.length : Int) - 1)) false _ A3.out).mono ?_); rintro e w' ⟨rfl, ⟨nd, rfl⟩⟩; refine ⟨_, rfl, ?_⟩))
  go_ret
  exact ⟨by first | rfl | (simp [errW_none, errW_some] <;> rfl) | (simp [*, errW_none, errW_some] <;> rfl), bw HB.out⟩

/-! ### laws_sameArena: function 61 -/
def laws_sameArena.l0 : Nat → Int → List (S34) → List (S34) → Option (Bool)
  | 0, _, _, _ => none
  | k + 1, x5, x432000, x433000 => if x5 < (x432000.length : Int) then (if 0 ≤ x5 then (if x5 < (x433000.length : Int) then (if (!(((rd_T34 x432000 x5).f0) == ((rd_T34 x433000 x5).f0)) || (!(((rd_T34 x432000 x5).f1) == ((rd_T34 x433000 x5).f1)) || (!(((rd_T34 x432000 x5).f2) == ((rd_T34 x433000 x5).f2)) || (!(((rd_T34 x432000 x5).f3) == ((rd_T34 x433000 x5).f3)))))) = true then (some false) else (laws_sameArena.l0 k (wrap64 (x5 + 1)) x432000 x433000)) else (none)) else (none)) else (some true)
def laws_sameArena.f (k : Nat) (l0_0 : List (S34)) (l1_0 : List (S34)) : Option (Bool) := if (l0_0.length : Int) = (l1_0.length : Int) then (laws_sameArena.l0 k 0 l0_0 l1_0) else (some false)
set_option maxHeartbeats 8000000 in
set_option maxRecDepth 100000 in
theorem laws_sameArena.calls (k : Nat) (A0_0 : Option Addr) (c0_0 : Nat) (l0_0 : List (S34)) (A1_0 : Option Addr) (c1_0 : Nat) (l1_0 : List (S34)) (r : Bool) (w : World) (hr0_0 : Kd.C k34 w A0_0 l0_0.length l0_0) (hc0_0 : l0_0.length ≤ c0_0) (hr1_0 : Kd.C k34 w A1_0 l1_0.length l1_0) (hc1_0 : l1_0.length ≤ c1_0) (h : laws_sameArena.f k l0_0 l1_0 = some r) :
  Calls Try.prog 61 #[.agg #[.slice A0_0 l0_0.length c0_0], .agg #[.slice A1_0 l1_0.length c1_0]] w fun e w' => e = .returned (.bool r) ∧ Below w.heap.size w w' := by
 have hu26 := Try.underlying26
 have hu34 := Try.underlying34
 have HR0_0 := Aside0.mk hr0_0
 have HC0_0 := Aside0.mk hc0_0
 clear hr0_0 hc0_0
 have HR1_0 := Aside0.mk hr1_0
 have HC1_0 := Aside0.mk hc1_0
 clear hr1_0 hc1_0
 have HB := Aside0.mk (Below.refl w.heap.size w)
 have H : (if (l0_0.length : Int) = (l1_0.length : Int) then (laws_sameArena.l0 k 0 l0_0 l1_0) else (some false)) = some r := h
 clear h
 by_cases c3 : (l0_0.length : Int) = (l1_0.length : Int)
 ·rw [if_pos c3] at H
  have c3b0 : ((l0_0.length : Int) == (l1_0.length : Int)) = true := beq_iff_eq.mpr c3
  have c3b1 : ((l0_0.length : Int) != (l1_0.length : Int)) = false := bne_eq_false_iff_eq.mpr c3
  have c3b2 : (l0_0.length == l1_0.length) = true := by first | simpa using c3 | (simp at c3 ⊢; omega)
  clear c3
  have H' := Aside0.mk H
  clear H
  go_enter Try.func61, Try.ntmps61
  go_wp2_with (first | ((with_reducible refine gate_dst (N := 2) rfl ?_); refine box_event ?hg (N := 2) ?hd (cs := #[.slice A0_0 l0_0.length c0_0]) (t := 26) ?hr ?_; (case hd => rfl); (case hg => rfl); (case hr => first | (go_simp; done) | (go_simp; rfl)); intro gb431 hg w4 hbox hb; have n0_ := Aside0.mk (below_step (bw HB.out) hb); have n1_ := Aside0.mk (hbox); have n2_ := Aside0.mk ((by rw [hg]; exact (below_size (bw HB.out)) : w.heap.size ≤ gb431)); have n3_ := Aside0.mk ((by rw [hg]; exact (below_size (bw HB.out)) : w.heap.size ≤ gb431)); clear HB; have HB := n0_; have BK431 := n1_; have GW431 := n2_; have GE431 := n3_; clear n0_ n1_ n2_ n3_ hb hbox hg) | ((with_reducible refine gate_dst (N := 3) rfl ?_); refine box_event ?hg (N := 3) ?hd (cs := #[.slice A1_0 l1_0.length c1_0]) (t := 26) ?hr ?_; (case hd => rfl); (case hg => rfl); (case hr => first | (go_simp; done) | (go_simp; rfl)); intro gb432 hg w5 hbox hb; have n0_ := Aside0.mk (blk_below (g := gb431) (o := .cells #[.slice A0_0 l0_0.length c0_0] 26 (0, 0)) (bl BK431.out) hb); have n1_ := Aside0.mk (below_step (bw HB.out) hb); have n2_ := Aside0.mk (hbox); have n3_ := Aside0.mk ((by rw [hg]; exact (below_size (bw HB.out)) : w.heap.size ≤ gb432)); have n4_ := Aside0.mk ((by rw [hg]; exact (below_size (bw HB.out)) : w.heap.size ≤ gb432)); have n5_ := Aside0.mk ((by rw [hg]; exact Nat.ne_of_lt (blk_lt (g := gb431) (o := .cells #[.slice A0_0 l0_0.length c0_0] 26 (0, 0)) (bl BK431.out)) : gb431 ≠ gb432)); have n6_ := Aside0.mk ((by rw [hg]; exact Nat.ne_of_gt (blk_lt (g := gb431) (o := .cells #[.slice A0_0 l0_0.length c0_0] 26 (0, 0)) (bl BK431.out)) : gb432 ≠ gb431)); clear BK431 HB; have BK431 := n0_; have HB := n1_; have BK432 := n2_; have GW432 := n3_; have GE432 := n4_; have NB431_432 := n5_; have NB432_431 := n6_; clear n0_ n1_ n2_ n3_ n4_ n5_ n6_ hb hbox hg; have hnb6 := NB431_432.out; have hnc6 := NB432_431.out; have hcz7_0 : w5.cell? ⟨gb431, 0, none⟩ = some (.slice A0_0 l0_0.length c0_0) := (blk_cell BK431.out 0).trans rfl; have hfz7_0 := blk_frozen BK431.out 0; have hcz8_0 : w5.cell? ⟨gb432, 0, none⟩ = some (.slice A1_0 l1_0.length c1_0) := (blk_cell BK432.out 0).trans rfl; have hfz8_0 := blk_frozen BK432.out 0))
  repeat (go_quiet (first | ((with_reducible refine gate_dst (N := 2) rfl ?_); refine box_event ?hg (N := 2) ?hd (cs := #[.slice A0_0 l0_0.length c0_0]) (t := 26) ?hr ?_; (case hd => rfl); (case hg => rfl); (case hr => first | (go_simp; done) | (go_simp; rfl)); intro gb431 hg w4 hbox hb; have n0_ := Aside0.mk (below_step (bw HB.out) hb); have n1_ := Aside0.mk (hbox); have n2_ := Aside0.mk ((by rw [hg]; exact (below_size (bw HB.out)) : w.heap.size ≤ gb431)); have n3_ := Aside0.mk ((by rw [hg]; exact (below_size (bw HB.out)) : w.heap.size ≤ gb431)); clear HB; have HB := n0_; have BK431 := n1_; have GW431 := n2_; have GE431 := n3_; clear n0_ n1_ n2_ n3_ hb hbox hg) | ((with_reducible refine gate_dst (N := 3) rfl ?_); refine box_event ?hg (N := 3) ?hd (cs := #[.slice A1_0 l1_0.length c1_0]) (t := 26) ?hr ?_; (case hd => rfl); (case hg => rfl); (case hr => first | (go_simp; done) | (go_simp; rfl)); intro gb432 hg w5 hbox hb; have n0_ := Aside0.mk (blk_below (g := gb431) (o := .cells #[.slice A0_0 l0_0.length c0_0] 26 (0, 0)) (bl BK431.out) hb); have n1_ := Aside0.mk (below_step (bw HB.out) hb); have n2_ := Aside0.mk (hbox); have n3_ := Aside0.mk ((by rw [hg]; exact (below_size (bw HB.out)) : w.heap.size ≤ gb432)); have n4_ := Aside0.mk ((by rw [hg]; exact (below_size (bw HB.out)) : w.heap.size ≤ gb432)); have n5_ := Aside0.mk ((by rw [hg]; exact Nat.ne_of_lt (blk_lt (g := gb431) (o := .cells #[.slice A0_0 l0_0.length c0_0] 26 (0, 0)) (bl BK431.out)) : gb431 ≠ gb432)); have n6_ := Aside0.mk ((by rw [hg]; exact Nat.ne_of_gt (blk_lt (g := gb431) (o := .cells #[.slice A0_0 l0_0.length c0_0] 26 (0, 0)) (bl BK431.out)) : gb432 ≠ gb431)); clear BK431 HB; have BK431 := n0_; have HB := n1_; have BK432 := n2_; have GW432 := n3_; have GE432 := n4_; have NB431_432 := n5_; have NB432_431 := n6_; clear n0_ n1_ n2_ n3_ n4_ n5_ n6_ hb hbox hg; have hnb6 := NB431_432.out; have hnc6 := NB432_431.out; have hcz7_0 : w5.cell? ⟨gb431, 0, none⟩ = some (.slice A0_0 l0_0.length c0_0) := (blk_cell BK431.out 0).trans rfl; have hfz7_0 := blk_frozen BK431.out 0; have hcz8_0 : w5.cell? ⟨gb432, 0, none⟩ = some (.slice A1_0 l1_0.length c1_0) := (blk_cell BK432.out 0).trans rfl; have hfz8_0 := blk_frozen BK432.out 0)); try go_wp2_with (first | ((with_reducible refine gate_dst (N := 2) rfl ?_); refine box_event ?hg (N := 2) ?hd (cs := #[.slice A0_0 l0_0.length c0_0]) (t := 26) ?hr ?_; (case hd => rfl); (case hg => rfl); (case hr => first | (go_simp; done) | (go_simp; rfl)); intro gb431 hg w4 hbox hb; have n0_ := Aside0.mk (below_step (bw HB.out) hb); have n1_ := Aside0.mk (hbox); have n2_ := Aside0.mk ((by rw [hg]; exact (below_size (bw HB.out)) : w.heap.size ≤ gb431)); have n3_ := Aside0.mk ((by rw [hg]; exact (below_size (bw HB.out)) : w.heap.size ≤ gb431)); clear HB; have HB := n0_; have BK431 := n1_; have GW431 := n2_; have GE431 := n3_; clear n0_ n1_ n2_ n3_ hb hbox hg) | ((with_reducible refine gate_dst (N := 3) rfl ?_); refine box_event ?hg (N := 3) ?hd (cs := #[.slice A1_0 l1_0.length c1_0]) (t := 26) ?hr ?_; (case hd => rfl); (case hg => rfl); (case hr => first | (go_simp; done) | (go_simp; rfl)); intro gb432 hg w5 hbox hb; have n0_ := Aside0.mk (blk_below (g := gb431) (o := .cells #[.slice A0_0 l0_0.length c0_0] 26 (0, 0)) (bl BK431.out) hb); have n1_ := Aside0.mk (below_step (bw HB.out) hb); have n2_ := Aside0.mk (hbox); have n3_ := Aside0.mk ((by rw [hg]; exact (below_size (bw HB.out)) : w.heap.size ≤ gb432)); have n4_ := Aside0.mk ((by rw [hg]; exact (below_size (bw HB.out)) : w.heap.size ≤ gb432)); have n5_ := Aside0.mk ((by rw [hg]; exact Nat.ne_of_lt (blk_lt (g := gb431) (o := .cells #[.slice A0_0 l0_0.length c0_0] 26 (0, 0)) (bl BK431.out)) : gb431 ≠ gb432)); have n6_ := Aside0.mk ((by rw [hg]; exact Nat.ne_of_gt (blk_lt (g := gb431) (o := .cells #[.slice A0_0 l0_0.length c0_0] 26 (0, 0)) (bl BK431.out)) : gb432 ≠ gb431)); clear BK431 HB; have BK431 := n0_; have HB := n1_; have BK432 := n2_; have GW432 := n3_; have GE432 := n4_; have NB431_432 := n5_; have NB432_431 := n6_; clear n0_ n1_ n2_ n3_ n4_ n5_ n6_ hb hbox hg; have hnb6 := NB431_432.out; have hnc6 := NB432_431.out; have hcz7_0 : w5.cell? ⟨gb431, 0, none⟩ = some (.slice A0_0 l0_0.length c0_0) := (blk_cell BK431.out 0).trans rfl; have hfz7_0 := blk_frozen BK431.out 0; have hcz8_0 : w5.cell? ⟨gb432, 0, none⟩ = some (.slice A1_0 l1_0.length c1_0) := (blk_cell BK432.out 0).trans rfl; have hfz8_0 := blk_frozen BK432.out 0)))
  go_loopg [5] k (fun kq v5 w' => ∃ (x5_1 : Int), v5 = .int .i64 x5_1 ∧ Aside0 (laws_sameArena.l0 kq x5_1 l0_0 l1_0 = some r) ∧ Aside0 (kq ≤ k) ∧ Aside0 (w'.heap[gb431]? = some (.cells #[(.slice A0_0 l0_0.length c0_0)] 26 (0, 0))) ∧ Aside0 (w'.heap[gb432]? = some (.cells #[(.slice A1_0 l1_0.length c1_0)] 26 (0, 0))) ∧ Aside0 (Below w.heap.size w w'))
  case atStart => exact ⟨(0), (by first | rfl | (simp; done) | (simp [*]; done)), H', ⟨Nat.le_refl _⟩, ⟨bl BK431.out⟩, ⟨bl BK432.out⟩, ⟨bw HB.out⟩⟩
  case round =>
   clear H'
   try clear c1
   try clear p2
   try clear c3
   try clear c3b0
   try clear c3b1
   try clear c3b2
   try clear c6
   try clear hcz7_0
   try clear hcz8_0
   try clear hfz7_0
   try clear hfz8_0
   obtain ⟨x5_1, rfl, HA, HK1, BK431, BK432, HB⟩ := hrel
   cases gk with
   | zero => exact absurd HA.out (by simp [laws_sameArena.l0])
   | succ k1 =>
    have H := HA.out
    clear HA
    simp only [laws_sameArena.l0] at H
    by_cases c9 : x5_1 < (l0_0.length : Int)
    ·rw [if_pos c9] at H
     have c9b0 : decide (x5_1 < (l0_0.length : Int)) = true := decide_eq_true c9
     clear c9
     by_cases c10 : 0 ≤ x5_1
     ·rw [if_pos c10] at H
      have c10b0 : decide (0 ≤ x5_1) = true := decide_eq_true c10
      clear c10
      by_cases c11 : x5_1 < (l1_0.length : Int)
      ·rw [if_pos c11] at H
       have c11b0 : decide (x5_1 < (l1_0.length : Int)) = true := decide_eq_true c11
       clear c11
       by_cases c12 : (!(((rd_T34 l0_0 x5_1).f0) == ((rd_T34 l1_0 x5_1).f0)) || (!(((rd_T34 l0_0 x5_1).f1) == ((rd_T34 l1_0 x5_1).f1)) || (!(((rd_T34 l0_0 x5_1).f2) == ((rd_T34 l1_0 x5_1).f2)) || (!(((rd_T34 l0_0 x5_1).f3) == ((rd_T34 l1_0 x5_1).f3)))))) = true
       ·rw [if_pos c12] at H
        have c12b0 : (!(((rd_T34 l0_0 x5_1).f0) == ((rd_T34 l1_0 x5_1).f0)) || (!(((rd_T34 l0_0 x5_1).f1) == ((rd_T34 l1_0 x5_1).f1)) || (!(((rd_T34 l0_0 x5_1).f2) == ((rd_T34 l1_0 x5_1).f2)) || (!(((rd_T34 l0_0 x5_1).f3) == ((rd_T34 l1_0 x5_1).f3)))))) = true := c12
        clear c12
        obtain rfl := Option.some.inj H
        have hnb13 := NB431_432.out
        have hnc13 := NB432_431.out
        have hcz14_0 : wr.cell? ⟨gb431, 0, none⟩ = some (.slice A0_0 l0_0.length c0_0) := (blk_cell BK431.out 0).trans rfl
        have hfz14_0 := blk_frozen BK431.out 0
        have p433 : 0 ≤ (x5_1 : Int) := oda
        have q433 : x5_1 < (l0_0.length : Int) := oda
        obtain ⟨ad433, e433, hx433_0, hx433_1, hx433_2, hx433_3⟩ := at_T34 HR0_0.out x5_1 p433 q433
        cases e433
        replace hx433_0 := (HB.out.cell (World.block_lt_of_cell? w _ hx433_0)).trans hx433_0
        replace hx433_1 := (HB.out.cell (World.block_lt_of_cell? w _ hx433_1)).trans hx433_1
        replace hx433_2 := (HB.out.cell (World.block_lt_of_cell? w _ hx433_2)).trans hx433_2
        replace hx433_3 := (HB.out.cell (World.block_lt_of_cell? w _ hx433_3)).trans hx433_3
        replace p433 := eq_true p433
        replace q433 := eq_true q433
        have hcz15_0 : wr.cell? ⟨gb432, 0, none⟩ = some (.slice A1_0 l1_0.length c1_0) := (blk_cell BK432.out 0).trans rfl
        have hfz15_0 := blk_frozen BK432.out 0
        have p434 : 0 ≤ (x5_1 : Int) := oda
        have q434 : x5_1 < (l1_0.length : Int) := oda
        obtain ⟨ad434, e434, hx434_0, hx434_1, hx434_2, hx434_3⟩ := at_T34 HR1_0.out x5_1 p434 q434
        cases e434
        replace hx434_0 := (HB.out.cell (World.block_lt_of_cell? w _ hx434_0)).trans hx434_0
        replace hx434_1 := (HB.out.cell (World.block_lt_of_cell? w _ hx434_1)).trans hx434_1
        replace hx434_2 := (HB.out.cell (World.block_lt_of_cell? w _ hx434_2)).trans hx434_2
        replace hx434_3 := (HB.out.cell (World.block_lt_of_cell? w _ hx434_3)).trans hx434_3
        replace p434 := eq_true p434
        replace q434 := eq_true q434
        go_wp2
        repeat (go_quiet (fail); try go_wp2)
        go_ret
        exact ⟨by first | rfl | (simp [errW_none, errW_some] <;> rfl) | (simp [*, errW_none, errW_some] <;> rfl), bw HB.out⟩
       ·rw [if_neg c12] at H
        have c12b0 : (!(((rd_T34 l0_0 x5_1).f0) == ((rd_T34 l1_0 x5_1).f0)) || (!(((rd_T34 l0_0 x5_1).f1) == ((rd_T34 l1_0 x5_1).f1)) || (!(((rd_T34 l0_0 x5_1).f2) == ((rd_T34 l1_0 x5_1).f2)) || (!(((rd_T34 l0_0 x5_1).f3) == ((rd_T34 l1_0 x5_1).f3)))))) = false := by simpa using c12
        clear c12
        have H' := Aside0.mk H
        clear H
        have hnb16 := NB431_432.out
        have hnc16 := NB432_431.out
        have hcz17_0 : wr.cell? ⟨gb431, 0, none⟩ = some (.slice A0_0 l0_0.length c0_0) := (blk_cell BK431.out 0).trans rfl
        have hfz17_0 := blk_frozen BK431.out 0
        have p433 : 0 ≤ (x5_1 : Int) := oda
        have q433 : x5_1 < (l0_0.length : Int) := oda
        obtain ⟨ad433, e433, hx433_0, hx433_1, hx433_2, hx433_3⟩ := at_T34 HR0_0.out x5_1 p433 q433
        cases e433
        replace hx433_0 := (HB.out.cell (World.block_lt_of_cell? w _ hx433_0)).trans hx433_0
        replace hx433_1 := (HB.out.cell (World.block_lt_of_cell? w _ hx433_1)).trans hx433_1
        replace hx433_2 := (HB.out.cell (World.block_lt_of_cell? w _ hx433_2)).trans hx433_2
        replace hx433_3 := (HB.out.cell (World.block_lt_of_cell? w _ hx433_3)).trans hx433_3
        replace p433 := eq_true p433
        replace q433 := eq_true q433
        have hcz18_0 : wr.cell? ⟨gb432, 0, none⟩ = some (.slice A1_0 l1_0.length c1_0) := (blk_cell BK432.out 0).trans rfl
        have hfz18_0 := blk_frozen BK432.out 0
        have p434 : 0 ≤ (x5_1 : Int) := oda
        have q434 : x5_1 < (l1_0.length : Int) := oda
        obtain ⟨ad434, e434, hx434_0, hx434_1, hx434_2, hx434_3⟩ := at_T34 HR1_0.out x5_1 p434 q434
        cases e434
        replace hx434_0 := (HB.out.cell (World.block_lt_of_cell? w _ hx434_0)).trans hx434_0
        replace hx434_1 := (HB.out.cell (World.block_lt_of_cell? w _ hx434_1)).trans hx434_1
        replace hx434_2 := (HB.out.cell (World.block_lt_of_cell? w _ hx434_2)).trans hx434_2
        replace hx434_3 := (HB.out.cell (World.block_lt_of_cell? w _ hx434_3)).trans hx434_3
        replace p434 := eq_true p434
        replace q434 := eq_true q434
        go_wp2
        repeat (go_quiet (fail); try go_wp2)
        go_roundg k1
        case measure => have := HK1.out; omega
        case rel => exact ⟨(wrap64 (x5_1 + 1)), (by first | rfl | (simp; done) | (simp [*]; done)), H', ⟨by have := HK1.out; omega⟩, ⟨bl BK431.out⟩, ⟨bl BK432.out⟩, ⟨bw HB.out⟩⟩
      ·rw [if_neg c11] at H
       exact absurd H (by simp)
     ·rw [if_neg c10] at H
      exact absurd H (by simp)
    ·rw [if_neg c9] at H
     have c9b0 : decide (x5_1 < (l0_0.length : Int)) = false := decide_eq_false c9
     clear c9
     obtain rfl := Option.some.inj H
     have hnb19 := NB431_432.out
     have hnc19 := NB432_431.out
     have hcz20_0 : wr.cell? ⟨gb431, 0, none⟩ = some (.slice A0_0 l0_0.length c0_0) := (blk_cell BK431.out 0).trans rfl
     have hfz20_0 := blk_frozen BK431.out 0
     go_wp2
     repeat (go_quiet (fail); try go_wp2)
     go_ret
     exact ⟨by first | rfl | (simp [errW_none, errW_some] <;> rfl) | (simp [*, errW_none, errW_some] <;> rfl), bw HB.out⟩
 ·rw [if_neg c3] at H
  have c3b0 : ((l0_0.length : Int) == (l1_0.length : Int)) = false := beq_eq_false_iff_ne.mpr c3
  have c3b1 : ((l0_0.length : Int) != (l1_0.length : Int)) = true := bne_iff_ne.mpr c3
  have c3b2 : (l0_0.length == l1_0.length) = false := by first | simpa using c3 | (simp at c3 ⊢; omega)
  obtain rfl := Option.some.inj H
  go_enter Try.func61, Try.ntmps61
  go_wp2_with (first | ((with_reducible refine gate_dst (N := 2) rfl ?_); refine box_event ?hg (N := 2) ?hd (cs := #[.slice A0_0 l0_0.length c0_0]) (t := 26) ?hr ?_; (case hd => rfl); (case hg => rfl); (case hr => first | (go_simp; done) | (go_simp; rfl)); intro gb431 hg w21 hbox hb; have n0_ := Aside0.mk (below_step (bw HB.out) hb); have n1_ := Aside0.mk (hbox); have n2_ := Aside0.mk ((by rw [hg]; exact (below_size (bw HB.out)) : w.heap.size ≤ gb431)); have n3_ := Aside0.mk ((by rw [hg]; exact (below_size (bw HB.out)) : w.heap.size ≤ gb431)); clear HB; have HB := n0_; have BK431 := n1_; have GW431 := n2_; have GE431 := n3_; clear n0_ n1_ n2_ n3_ hb hbox hg) | ((with_reducible refine gate_dst (N := 3) rfl ?_); refine box_event ?hg (N := 3) ?hd (cs := #[.slice A1_0 l1_0.length c1_0]) (t := 26) ?hr ?_; (case hd => rfl); (case hg => rfl); (case hr => first | (go_simp; done) | (go_simp; rfl)); intro gb432 hg w22 hbox hb; have n0_ := Aside0.mk (blk_below (g := gb431) (o := .cells #[.slice A0_0 l0_0.length c0_0] 26 (0, 0)) (bl BK431.out) hb); have n1_ := Aside0.mk (below_step (bw HB.out) hb); have n2_ := Aside0.mk (hbox); have n3_ := Aside0.mk ((by rw [hg]; exact (below_size (bw HB.out)) : w.heap.size ≤ gb432)); have n4_ := Aside0.mk ((by rw [hg]; exact (below_size (bw HB.out)) : w.heap.size ≤ gb432)); have n5_ := Aside0.mk ((by rw [hg]; exact Nat.ne_of_lt (blk_lt (g := gb431) (o := .cells #[.slice A0_0 l0_0.length c0_0] 26 (0, 0)) (bl BK431.out)) : gb431 ≠ gb432)); have n6_ := Aside0.mk ((by rw [hg]; exact Nat.ne_of_gt (blk_lt (g := gb431) (o := .cells #[.slice A0_0 l0_0.length c0_0] 26 (0, 0)) (bl BK431.out)) : gb432 ≠ gb431)); clear BK431 HB; have BK431 := n0_; have HB := n1_; have BK432 := n2_; have GW432 := n3_; have GE432 := n4_; have NB431_432 := n5_; have NB432_431 := n6_; clear n0_ n1_ n2_ n3_ n4_ n5_ n6_ hb hbox hg; have hnb23 := NB431_432.out; have hnc23 := NB432_431.out; have hcz24_0 : w22.cell? ⟨gb431, 0, none⟩ = some (.slice A0_0 l0_0.length c0_0) := (blk_cell BK431.out 0).trans rfl; have hfz24_0 := blk_frozen BK431.out 0; have hcz25_0 : w22.cell? ⟨gb432, 0, none⟩ = some (.slice A1_0 l1_0.length c1_0) := (blk_cell BK432.out 0).trans rfl; have hfz25_0 := blk_frozen BK432.out 0))
  repeat (go_quiet (first | ((with_reducible refine gate_dst (N := 2) rfl ?_); refine box_event ?hg (N := 2) ?hd (cs := #[.slice A0_0 l0_0.length c0_0]) (t := 26) ?hr ?_; (case hd => rfl); (case hg => rfl); (case hr => first | (go_simp; done) | (go_simp; rfl)); intro gb431 hg w21 hbox hb; have n0_ := Aside0.mk (below_step (bw HB.out) hb); have n1_ := Aside0.mk (hbox); have n2_ := Aside0.mk ((by rw [hg]; exact (below_size (bw HB.out)) : w.heap.size ≤ gb431)); have n3_ := Aside0.mk ((by rw [hg]; exact (below_size (bw HB.out)) : w.heap.size ≤ gb431)); clear HB; have HB := n0_; have BK431 := n1_; have GW431 := n2_; have GE431 := n3_; clear n0_ n1_ n2_ n3_ hb hbox hg) | ((with_reducible refine gate_dst (N := 3) rfl ?_); refine box_event ?hg (N := 3) ?hd (cs := #[.slice A1_0 l1_0.length c1_0]) (t := 26) ?hr ?_; (case hd => rfl); (case hg => rfl); (case hr => first | (go_simp; done) | (go_simp; rfl)); intro gb432 hg w22 hbox hb; have n0_ := Aside0.mk (blk_below (g := gb431) (o := .cells #[.slice A0_0 l0_0.length c0_0] 26 (0, 0)) (bl BK431.out) hb); have n1_ := Aside0.mk (below_step (bw HB.out) hb); have n2_ := Aside0.mk (hbox); have n3_ := Aside0.mk ((by rw [hg]; exact (below_size (bw HB.out)) : w.heap.size ≤ gb432)); have n4_ := Aside0.mk ((by rw [hg]; exact (below_size (bw HB.out)) : w.heap.size ≤ gb432)); have n5_ := Aside0.mk ((by rw [hg]; exact Nat.ne_of_lt (blk_lt (g := gb431) (o := .cells #[.slice A0_0 l0_0.length c0_0] 26 (0, 0)) (bl BK431.out)) : gb431 ≠ gb432)); have n6_ := Aside0.mk ((by rw [hg]; exact Nat.ne_of_gt (blk_lt (g := gb431) (o := .cells #[.slice A0_0 l0_0.length c0_0] 26 (0, 0)) (bl BK431.out)) : gb432 ≠ gb431)); clear BK431 HB; have BK431 := n0_; have HB := n1_; have BK432 := n2_; have GW432 := n3_; have GE432 := n4_; have NB431_432 := n5_; have NB432_431 := n6_; clear n0_ n1_ n2_ n3_ n4_ n5_ n6_ hb hbox hg; have hnb23 := NB431_432.out; have hnc23 := NB432_431.out; have hcz24_0 : w22.cell? ⟨gb431, 0, none⟩ = some (.slice A0_0 l0_0.length c0_0) := (blk_cell BK431.out 0).trans rfl; have hfz24_0 := blk_frozen BK431.out 0; have hcz25_0 : w22.cell? ⟨gb432, 0, none⟩ = some (.slice A1_0 l1_0.length c1_0) := (blk_cell BK432.out 0).trans rfl; have hfz25_0 := blk_frozen BK432.out 0)); try go_wp2_with (first | ((with_reducible refine gate_dst (N := 2) rfl ?_); refine box_event ?hg (N := 2) ?hd (cs := #[.slice A0_0 l0_0.length c0_0]) (t := 26) ?hr ?_; (case hd => rfl); (case hg => rfl); (case hr => first | (go_simp; done) | (go_simp; rfl)); intro gb431 hg w21 hbox hb; have n0_ := Aside0.mk (below_step (bw HB.out) hb); have n1_ := Aside0.mk (hbox); have n2_ := Aside0.mk ((by rw [hg]; exact (below_size (bw HB.out)) : w.heap.size ≤ gb431)); have n3_ := Aside0.mk ((by rw [hg]; exact (below_size (bw HB.out)) : w.heap.size ≤ gb431)); clear HB; have HB := n0_; have BK431 := n1_; have GW431 := n2_; have GE431 := n3_; clear n0_ n1_ n2_ n3_ hb hbox hg) | ((with_reducible refine gate_dst (N := 3) rfl ?_); refine box_event ?hg (N := 3) ?hd (cs := #[.slice A1_0 l1_0.length c1_0]) (t := 26) ?hr ?_; (case hd => rfl); (case hg => rfl); (case hr => first | (go_simp; done) | (go_simp; rfl)); intro gb432 hg w22 hbox hb; have n0_ := Aside0.mk (blk_below (g := gb431) (o := .cells #[.slice A0_0 l0_0.length c0_0] 26 (0, 0)) (bl BK431.out) hb); have n1_ := Aside0.mk (below_step (bw HB.out) hb); have n2_ := Aside0.mk (hbox); have n3_ := Aside0.mk ((by rw [hg]; exact (below_size (bw HB.out)) : w.heap.size ≤ gb432)); have n4_ := Aside0.mk ((by rw [hg]; exact (below_size (bw HB.out)) : w.heap.size ≤ gb432)); have n5_ := Aside0.mk ((by rw [hg]; exact Nat.ne_of_lt (blk_lt (g := gb431) (o := .cells #[.slice A0_0 l0_0.length c0_0] 26 (0, 0)) (bl BK431.out)) : gb431 ≠ gb432)); have n6_ := Aside0.mk ((by rw [hg]; exact Nat.ne_of_gt (blk_lt (g := gb431) (o := .cells #[.slice A0_0 l0_0.length c0_0] 26 (0, 0)) (bl BK431.out)) : gb432 ≠ gb431)); clear BK431 HB; have BK431 := n0_; have HB := n1_; have BK432 := n2_; have GW432 := n3_; have GE432 := n4_; have NB431_432 := n5_; have NB432_431 := n6_; clear n0_ n1_ n2_ n3_ n4_ n5_ n6_ hb hbox hg; have hnb23 := NB431_432.out; have hnc23 := NB432_431.out; have hcz24_0 : w22.cell? ⟨gb431, 0, none⟩ = some (.slice A0_0 l0_0.length c0_0) := (blk_cell BK431.out 0).trans rfl; have hfz24_0 := blk_frozen BK431.out 0; have hcz25_0 : w22.cell? ⟨gb432, 0, none⟩ = some (.slice A1_0 l1_0.length c1_0) := (blk_cell BK432.out 0).trans rfl; have hfz25_0 := blk_frozen BK432.out 0)))
  go_ret
  exact ⟨by first | rfl | (simp [errW_none, errW_some] <;> rfl) | (simp [*, errW_none, errW_some] <;> rfl), bw HB.out⟩

-- NOT PRINTED: function 10 (laws_FnTermsTold)

end Go.Proofs.Ytkckdibalopagaa.SFnTermsTold
