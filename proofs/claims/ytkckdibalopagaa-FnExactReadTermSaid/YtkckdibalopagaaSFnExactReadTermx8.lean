-- Began as a print of the kit over stubs (wip/stub.py); the sections that are named OWN are this session's.
import Derived.Test.YtkckdibalopagaaSFnExactReadTermx0
import Derived.Test.YtkckdibalopagaaSFnExactReadTermx6
import Derived.Test.YtkckdibalopagaaSFnExactReadTermx7
import Derived.Test.YtkckdibalopagaaRAppendAt
import Derived.Test.YtkckdibalopagaaRShort
namespace Go.Proofs.Ytkckdibalopagaa.SFnExactReadTerm
open Go.RowKit Go.Proofs.YtkckdibalopagaaW.PrintWords Go.Proofs.YtkckdibalopagaaW.PrintLast Go.Proofs.YtkckdibalopagaaW.PrintMore Go.Proofs.Ytkckdibalopagaa.Short
attribute [local go_sem] max2_int min2_int max_two min_two max_three min_three max_four min_four   -- for this text's walks alone
set_option linter.unusedVariables false
set_option linter.unusedSimpArgs false

/-! ### impl_VarText: function 124 -/
def impl_VarText.l0 : Nat → Int → List Int → Option (ByteArray × Bool)
  | 0, _, _ => none
  | k + 1, x0, x4 => if x0 > 127 then (if x4.length < 140737488355328 then (impl_VarText.l0 k (wrap64 (Int.tdiv x0 128)) (x4 ++ [(wrap64 ((Int.tmod x0 128) + 128)) % 256])) else (none)) else (if x4.length < 140737488355328 then (some (strOfNums (x4 ++ [(x0) % 256]), true)) else (none))
def impl_VarText.f (k : Nat) (a0 : Int) : Option (ByteArray × Bool) := (impl_within.f a0 0 1000000000).bind fun t272 => (if t272 = true then (impl_VarText.l0 k a0 (([] : List Int))) else (some ((⟨#[]⟩ : ByteArray), false)))
set_option maxHeartbeats 8000000 in
set_option maxRecDepth 100000 in
theorem impl_VarText.calls (k : Nat) (a0 : Int) (r1 : ByteArray) (r2 : Bool) (w : World) (h : impl_VarText.f k a0 = some (r1, r2)) :
  Calls Try.prog 124 #[.int .i64 a0] w fun e w' => e = .returned (.tuple #[.string r1, .bool r2]) ∧ Below w.heap.size w w' := by
 have HB := Aside0.mk (Below.refl w.heap.size w)
 have H : ((impl_within.f a0 0 1000000000).bind fun t272 => (if t272 = true then (impl_VarText.l0 k a0 (([] : List Int))) else (some ((⟨#[]⟩ : ByteArray), false)))) = some (r1, r2) := h
 clear h
 replace H := Option.bind_eq_some_iff.mp H
 obtain ⟨t272, A20, H⟩ := H
 replace H : (if t272 = true then (impl_VarText.l0 k a0 (([] : List Int))) else (some ((⟨#[]⟩ : ByteArray), false))) = some (r1, r2) := H
 have A2 := Aside0.mk A20
 clear A20
 by_cases c3 : t272 = true
 ·subst c3
  have H1 : (impl_VarText.l0 k a0 (([] : List Int))) = some (r1, r2) := by rw [if_pos rfl] at H; exact H
  clear H
  have H := H1
  clear H1
  obtain ⟨y273, hy273⟩ : ∃ y_ : List Int, y_ = (([] : List Int)) := ⟨_, rfl⟩
  replace H : (impl_VarText.l0 k a0 y273) = some (r1, r2) := by first | (rw [hy273]; with_reducible exact H) | (have H2_ := (Option.bind_some _ _).symm.trans H; rw [hy273]; with_reducible exact H2_) | (have H2_ := (Option.bind_some _ _).symm.trans H; with_reducible exact H2_) | with_reducible exact H | (rw [hy273]; exact H) | exact H
  have Ny273 := Aside0.mk hy273
  clear hy273
  have H' := Aside0.mk H
  clear H
  go_enter Try.func124, Try.ntmps124
  go_wp2_with (first | ((with_reducible refine gate_callee (f := 75) rfl ?_); refine goesL_ (some 6) rfl rfl Try.func75 (by kernel_rfl) rfl #[.int .i64 a0, .int .i64 0, .int .i64 1000000000] rfl ar ?_; (with_reducible refine (impl_within.calls a0 0 1000000000 true _ A2.out).mono ?_); rintro e w' ⟨rfl, ⟨nd, rfl⟩⟩; refine ⟨_, rfl, ?_⟩) | ((with_reducible refine gate_dst (N := 8) rfl ?_); refine Kd.R_lit (Kd.int .u8) _ 5 ?hg (N := 8) ?hd (xs := ([] : List Int)) (inner := []) (ok := fun _ => True) (okp := fun _ => True) ?hr ?hp (fun _ hk => hk) trivial (Below.refl _ _) (Nat.le_refl _) (by simp) ?_; (case hd => rfl); (case hg => rfl); (case hr => first | (go_simp; done) | (go_simp; rfl)); (case hp => exact (Reps.none _ _)); intro v274 w4 ho5 hb hg_ hnew_; clear hg_ hnew_; (first | rw [← Ny273.out] at ho5 | (simp only [Int.reduceToNat] at ho5; rw [← Ny273.out] at ho5)); have n0_ := Aside0.mk (Kd.R_lower ho5 (below_size (bw HB.out))); have n1_ := Aside0.mk (below_step (bw HB.out) hb); clear HB; have HO275 := n0_; have HB := n1_; clear n0_ n1_ hb ho5))
  go_loopg [0, 4] k (fun kq v0 v4 w' => ∃ (x0_1 : Int) (x4_1 : List Int), v0 = .int .i64 x0_1 ∧ Aside0 (impl_VarText.l0 kq x0_1 x4_1 = some (r1, r2)) ∧ Aside0 (kq ≤ k) ∧ Aside0 (Kd.R (Kd.int .u8) 5 w' w.heap.size (fun _ => True) v4 x4_1) ∧ Aside0 (Below w.heap.size w w'))
  case atStart => exact ⟨(a0), (y273), (by first | rfl | (simp; done) | (simp [*]; done)), H', ⟨Nat.le_refl _⟩, ⟨rl HO275.out⟩, ⟨bw HB.out⟩⟩
  case round =>
   clear H'
   try clear c1
   try clear p2
   try clear c3
   obtain ⟨x0_1, x4_1, rfl, HA, HK1, HO_4, HB⟩ := hrel
   cases gk with
   | zero => exact absurd HA.out (by simp [impl_VarText.l0])
   | succ k1 =>
    have H := HA.out
    clear HA
    simp only [impl_VarText.l0] at H
    by_cases c6 : x0_1 > 127
    ·rw [if_pos c6] at H
     have c6b0 : decide (127 < x0_1) = true := decide_eq_true c6
     clear c6
     by_cases c7 : x4_1.length < 140737488355328
     ·rw [if_pos c7] at H
      have LMc7 := Aside0.mk c7
      clear c7
      obtain ⟨y276, hy276⟩ : ∃ y_ : List Int, y_ = (x4_1 ++ [(wrap64 ((Int.tmod x0_1 128) + 128)) % 256]) := ⟨_, rfl⟩
      replace H : (impl_VarText.l0 k1 (wrap64 (Int.tdiv x0_1 128)) y276) = some (r1, r2) := by first | (rw [hy276]; with_reducible exact H) | (have H2_ := (Option.bind_some _ _).symm.trans H; rw [hy276]; with_reducible exact H2_) | (have H2_ := (Option.bind_some _ _).symm.trans H; with_reducible exact H2_) | with_reducible exact H | (rw [hy276]; exact H) | exact H
      have Ny276 := Aside0.mk hy276
      clear hy276
      have H' := Aside0.mk H
      clear H
      go_wp2_with (first | ((with_reducible refine gate_builtin (b := .append) (xs := #[.tmp 11, .tmp 16]) rfl ?_); at_builtin; refine Kd.R_append (Kd.int .u8) (w0 := w) w.heap.size rfl (.tmp 11) (.tmp 16) 22 5 (.int .u8 0) 1 rfl Try.underlying22 info5 rfl (by decide) (by omega) u4 x4_1 ((wrap64 ((Int.tmod x0_1 128) + 128)) % 256) [.int .u8 ((wrap64 ((Int.tmod x0_1 128) + 128)) % 256)] (fun _ => True) (fun _ => False) rfl rfl ?aP (fun _ hk => hk.elim) ?aF ?aO ?aB ?aS ?aL ?_; (case aP => exact rfl); (case aB => exact (bw HB.out)); (case aF => exact (fun _ _ => trivial)); (case aO => exact (rl HO_4.out)); (case aS => exact (below_size (bw HB.out))); (case aL => have := LMc7.out; omega); intro v277 w8 ho hb hg hat; rw [← Ny276.out] at ho; have n0_ := Aside0.mk (hb); have n1_ := Aside0.mk (ho); clear HB HO_4; have HB := n0_; have HO278 := n1_; clear n0_ n1_ ho hb hg hat))
      go_roundg k1
      case measure => have := HK1.out; omega
      case rel => exact ⟨(wrap64 (Int.tdiv x0_1 128)), (y276), (by first | rfl | (simp; done) | (simp [*]; done)), H', ⟨by have := HK1.out; omega⟩, ⟨rl HO278.out⟩, ⟨bw HB.out⟩⟩
     ·rw [if_neg c7] at H
      exact absurd H (by simp)
    ·rw [if_neg c6] at H
     have c6b0 : decide (127 < x0_1) = false := decide_eq_false c6
     clear c6
     by_cases c9 : x4_1.length < 140737488355328
     ·rw [if_pos c9] at H
      have LMc9 := Aside0.mk c9
      clear c9
      obtain ⟨y279, hy279⟩ : ∃ y_ : List Int, y_ = (x4_1 ++ [(x0_1) % 256]) := ⟨_, rfl⟩
      replace H : (some (strOfNums y279, true)) = some (r1, r2) := by first | (rw [hy279]; with_reducible exact H) | (have H2_ := (Option.bind_some _ _).symm.trans H; rw [hy279]; with_reducible exact H2_) | (have H2_ := (Option.bind_some _ _).symm.trans H; with_reducible exact H2_) | with_reducible exact H | (rw [hy279]; exact H) | exact H
      have Ny279 := Aside0.mk hy279
      clear hy279
      simp only [Option.some.injEq, Prod.mk.injEq] at H
      obtain ⟨rfl, rfl⟩ := H
      go_wp2_with (first | ((with_reducible refine gate_builtin (b := .append) (xs := #[.tmp 20, .tmp 23]) rfl ?_); at_builtin; refine Kd.R_append (Kd.int .u8) (w0 := w) w.heap.size rfl (.tmp 20) (.tmp 23) 22 5 (.int .u8 0) 1 rfl Try.underlying22 info5 rfl (by decide) (by omega) u4 x4_1 ((x0_1) % 256) [.int .u8 ((x0_1) % 256)] (fun _ => True) (fun _ => False) rfl rfl ?aP (fun _ hk => hk.elim) ?aF ?aO ?aB ?aS ?aL ?_; (case aP => exact rfl); (case aB => exact (bw HB.out)); (case aF => exact (fun _ _ => trivial)); (case aO => exact (rl HO_4.out)); (case aS => exact (below_size (bw HB.out))); (case aL => have := LMc9.out; omega); intro v280 w10 ho hb hg hat; rw [← Ny279.out] at ho; have n0_ := Aside0.mk (hb); have n1_ := Aside0.mk (ho); clear HB HO_4; have HB := n0_; have HO281 := n1_; clear n0_ n1_ ho hb hg hat; have hcv11 := own_string (P := Try.prog) Try.underlying22 Try.underlying5 Try.underlying9 (Kd.own_of_R HO281.out)))
      go_ret2
      exact ⟨by first | rfl | (simp [errW_none, errW_some] <;> rfl) | (simp [*, errW_none, errW_some] <;> rfl), bw HB.out⟩
     ·rw [if_neg c9] at H
      exact absurd H (by simp)
 ·replace c3 := Bool.eq_false_iff.mpr c3
  subst c3
  have H1 : (some ((⟨#[]⟩ : ByteArray), false)) = some (r1, r2) := by rw [if_neg (show ¬ (false = true) by decide)] at H; exact H
  clear H
  have H := H1
  clear H1
  simp only [Option.some.injEq, Prod.mk.injEq] at H
  obtain ⟨rfl, rfl⟩ := H
  go_enter Try.func124, Try.ntmps124
  go_wp2_with (first | ((with_reducible refine gate_callee (f := 75) rfl ?_); refine goesL_ (some 6) rfl rfl Try.func75 (by kernel_rfl) rfl #[.int .i64 a0, .int .i64 0, .int .i64 1000000000] rfl ar ?_; (with_reducible refine (impl_within.calls a0 0 1000000000 false _ A2.out).mono ?_); rintro e w' ⟨rfl, ⟨nd, rfl⟩⟩; refine ⟨_, rfl, ?_⟩))
  go_ret2
  exact ⟨by first | rfl | (simp [errW_none, errW_some] <;> rfl) | (simp [*, errW_none, errW_some] <;> rfl), bw HB.out⟩

/-! ### impl_termBytes: OWN: function 89 -/
def impl_termBytes.f : Nat → List Int → List (S34) → Int → Option (List Int)
  | 0, _, _, _ => none
  | k + 1, l0, l1_0, a2 => if 0 ≤ a2 then (if a2 < (l1_0.length : Int) then ((impl_VarText.f k ((rd_T34 l1_0 a2).f0)).bind fun bt285 => (if l0.length + bt285.1.size < 140737488355328 then ((some (l0 ++ bytesOf bt285.1 : List Int)).bind fun y287 => (if ((rd_T34 l1_0 a2).f0) = 1 then ((impl_VarText.f k ((rd_T34 l1_0 a2).f1)).bind fun bt290 => (if y287.length + bt290.1.size < 140737488355328 then (some (y287 ++ bytesOf bt290.1)) else (none))) else ((impl_termBytes.f k y287 l1_0 ((rd_T34 l1_0 a2).f2)).bind fun t295 => ((impl_hasB.f ((rd_T34 l1_0 a2).f0)).bind fun t298 => (if t298 = true then ((impl_termBytes.f k t295 l1_0 ((rd_T34 l1_0 a2).f3)).bind fun t299 => (some t299)) else (some t295)))))) else (none))) else (none)) else (none)
set_option maxHeartbeats 8000000 in
set_option maxRecDepth 100000 in
theorem impl_termBytes.calls (k : Nat) : ∀ (P0_ : Nat → Prop) (u9000_ : Value) (l0 : List Int) (A1_0 : Option Addr) (c1_0 : Nat) (l1_0 : List (S34)) (a2 : Int) (r : List Int) (w0 w : World) (hB : Below w0.heap.size w0 w) (ho0 : Kd.R (Kd.int .u8) 5 w w0.heap.size P0_ u9000_ l0) (hr1_0 : ∀ W_, Kept w W_ (fun k_ => P0_ k_) → Kd.C k34 W_ A1_0 l1_0.length l1_0) (hc1_0 : l1_0.length ≤ c1_0) (h : impl_termBytes.f k l0 l1_0 a2 = some r),
  Calls Try.prog 89 #[u9000_, .agg #[.slice A1_0 l1_0.length c1_0], .int .i64 a2] w fun e w' => ∃ v0_ : Value, e = .returned (v0_) ∧ Kd.R (Kd.int .u8) 5 w' w0.heap.size (fun k_ => (P0_ k_ ∨ w.heap.size ≤ k_)) v0_ r ∧ Below w0.heap.size w0 w' ∧ Kept w w' (fun k_ => P0_ k_) := by
 induction k using Nat.strongRecOn with
 | _ k ih =>
 intro P0_ u9000_ l0 A1_0 c1_0 l1_0 a2 r w0 w hB ho0 hr1_0 hc1_0 h
 cases k with
 | zero => exact absurd h (by simp [impl_termBytes.f])
 | succ k =>
 simp only [impl_termBytes.f] at h
 have hu26 := Try.underlying26
 have hu34 := Try.underlying34
 have HO0 := Aside0.mk (show Kd.R (Kd.int .u8) 5 w w0.heap.size (fun k_ => (P0_ k_ ∨ w.heap.size ≤ k_)) u9000_ l0 from Kd.R_mono ho0 (fun k_ hk => (.inl hk)))
 have HR1_0 := Aside0.mk hr1_0
 have HC1_0 := Aside0.mk hc1_0
 clear hr1_0 hc1_0
 have HK := Aside0.mk (Kept.refl w (fun k_ => P0_ k_))
 have HW0 := Aside0.mk hB.size
 have HB := Aside0.mk hB
 clear hB
 have H : (if 0 ≤ a2 then (if a2 < (l1_0.length : Int) then ((impl_VarText.f k ((rd_T34 l1_0 a2).f0)).bind fun bt285 => (if l0.length + bt285.1.size < 140737488355328 then ((some (l0 ++ bytesOf bt285.1 : List Int)).bind fun y287 => (if ((rd_T34 l1_0 a2).f0) = 1 then ((impl_VarText.f k ((rd_T34 l1_0 a2).f1)).bind fun bt290 => (if y287.length + bt290.1.size < 140737488355328 then (some (y287 ++ bytesOf bt290.1)) else (none))) else ((impl_termBytes.f k y287 l1_0 ((rd_T34 l1_0 a2).f2)).bind fun t295 => ((impl_hasB.f ((rd_T34 l1_0 a2).f0)).bind fun t298 => (if t298 = true then ((impl_termBytes.f k t295 l1_0 ((rd_T34 l1_0 a2).f3)).bind fun t299 => (some t299)) else (some t295)))))) else (none))) else (none)) else (none)) = some r := h
 clear h
 by_cases c4 : 0 ≤ a2
 ·rw [if_pos c4] at H
  have c4b0 : decide (0 ≤ a2) = true := decide_eq_true c4
  clear c4
  by_cases c5 : a2 < (l1_0.length : Int)
  ·rw [if_pos c5] at H
   have c5b0 : decide (a2 < (l1_0.length : Int)) = true := decide_eq_true c5
   clear c5
   replace H := Option.bind_eq_some_iff.mp H
   obtain ⟨⟨t285, t286⟩, A60, H⟩ := H
   replace H : (if l0.length + t285.size < 140737488355328 then ((some (l0 ++ bytesOf t285 : List Int)).bind fun y287 => (if ((rd_T34 l1_0 a2).f0) = 1 then ((impl_VarText.f k ((rd_T34 l1_0 a2).f1)).bind fun bt290 => (if y287.length + bt290.1.size < 140737488355328 then (some (y287 ++ bytesOf bt290.1)) else (none))) else ((impl_termBytes.f k y287 l1_0 ((rd_T34 l1_0 a2).f2)).bind fun t295 => ((impl_hasB.f ((rd_T34 l1_0 a2).f0)).bind fun t298 => (if t298 = true then ((impl_termBytes.f k t295 l1_0 ((rd_T34 l1_0 a2).f3)).bind fun t299 => (some t299)) else (some t295)))))) else (none)) = some r := H
   have A6 := Aside0.mk A60
   clear A60
   by_cases c7 : l0.length + t285.size < 140737488355328
   ·rw [if_pos c7] at H
    have LMc7 := Aside0.mk c7
    clear c7
    obtain ⟨y287, hy287⟩ : ∃ y_ : List Int, y_ = (l0 ++ bytesOf t285) := ⟨_, rfl⟩
    replace H : (if ((rd_T34 l1_0 a2).f0) = 1 then ((impl_VarText.f k ((rd_T34 l1_0 a2).f1)).bind fun bt290 => (if y287.length + bt290.1.size < 140737488355328 then (some (y287 ++ bytesOf bt290.1)) else (none))) else ((impl_termBytes.f k y287 l1_0 ((rd_T34 l1_0 a2).f2)).bind fun t295 => ((impl_hasB.f ((rd_T34 l1_0 a2).f0)).bind fun t298 => (if t298 = true then ((impl_termBytes.f k t295 l1_0 ((rd_T34 l1_0 a2).f3)).bind fun t299 => (some t299)) else (some t295))))) = some r := by first | (rw [hy287]; with_reducible exact H) | (have H2_ := (Option.bind_some _ _).symm.trans H; rw [hy287]; with_reducible exact H2_) | (have H2_ := (Option.bind_some _ _).symm.trans H; with_reducible exact H2_) | with_reducible exact H | (rw [hy287]; exact H) | exact H
    have Ny287 := Aside0.mk hy287
    clear hy287
    by_cases c8 : ((rd_T34 l1_0 a2).f0) = 1
    ·rw [if_pos c8] at H
     have c8b0 : (((rd_T34 l1_0 a2).f0) == 1) = true := beq_iff_eq.mpr c8
     have c8b1 : (((rd_T34 l1_0 a2).f0) != 1) = false := bne_eq_false_iff_eq.mpr c8
     clear c8
     replace H := Option.bind_eq_some_iff.mp H
     obtain ⟨⟨t290, t291⟩, A90, H⟩ := H
     replace H : (if y287.length + t290.size < 140737488355328 then (some (y287 ++ bytesOf t290)) else (none)) = some r := H
     have A9 := Aside0.mk A90
     clear A90
     by_cases c10 : y287.length + t290.size < 140737488355328
     ·rw [if_pos c10] at H
      have LMc10 := Aside0.mk c10
      clear c10
      obtain ⟨y292, hy292⟩ : ∃ y_ : List Int, y_ = (y287 ++ bytesOf t290) := ⟨_, rfl⟩
      replace H : (some y292) = some r := by first | (rw [hy292]; with_reducible exact H) | (have H2_ := (Option.bind_some _ _).symm.trans H; rw [hy292]; with_reducible exact H2_) | (have H2_ := (Option.bind_some _ _).symm.trans H; with_reducible exact H2_) | with_reducible exact H | (rw [hy292]; exact H) | exact H
      have Ny292 := Aside0.mk hy292
      clear hy292
      obtain rfl := Option.some.inj H
      go_enter Try.func89, Try.ntmps89
      go_wp2_with (first | ((with_reducible refine gate_dst (N := 4) rfl ?_); refine box_event ?hg (N := 4) ?hd (cs := #[.slice A1_0 l1_0.length c1_0]) (t := 26) ?hr ?_; (case hd => rfl); (case hg => rfl); (case hr => first | (go_simp; done) | (go_simp; rfl)); intro gb282 hg w11 hbox hb; have n0_ := Aside0.mk (Kd.R_below (rl HO0.out) hb); have n1_ := Aside0.mk (Kept.below (S := (fun k_ => P0_ k_)) (by repeat (first | (with_reducible first | exact HK.out | apply Kept.alloc | apply Kept.drewN | apply Kept.drew) | exact HK.out)) hb); have n2_ := Aside0.mk (below_step (bw HB.out) hb); have n3_ := Aside0.mk (hbox); have n4_ := Aside0.mk ((by rw [hg]; exact (by first | exact HK.out.1 | exact (show Kept w _ (fun k_ => P0_ k_) from by repeat (first | (with_reducible first | exact HK.out | apply Kept.alloc | apply Kept.drewN | apply Kept.drew) | exact HK.out)).1) : w.heap.size ≤ gb282)); have n5_ := Aside0.mk ((by rw [hg]; exact (below_size (bw HB.out)) : w0.heap.size ≤ gb282)); clear HO0 HK HB; have HO0 := n0_; have HK := n1_; have HB := n2_; have BK282 := n3_; have GW282 := n4_; have GE282 := n5_; clear n0_ n1_ n2_ n3_ n4_ n5_ hb hbox hg; have hcz12_0 : w11.cell? ⟨gb282, 0, none⟩ = some (.slice A1_0 l1_0.length c1_0) := (blk_cell BK282.out 0).trans rfl; have hfz12_0 := blk_frozen BK282.out 0; have p283 : 0 ≤ (a2 : Int) := oda; have q283 : a2 < (l1_0.length : Int) := oda; obtain ⟨ad283, e283, hx283_0, hx283_1, hx283_2, hx283_3⟩ := at_T34 (Kd.C_kept_now HR1_0.out HK.out) a2 p283 q283; cases e283; replace p283 := eq_true p283; replace q283 := eq_true q283) | ((with_reducible refine gate_dst (N := 7) rfl ?_); refine box_event ?hg (N := 7) ?hd (cs := #[.int .i64 0, .int .i64 0, .int .i64 0, .int .i64 0]) (t := 34) ?hr ?_; (case hd => rfl); (case hg => rfl); (case hr => first | (go_simp; done) | (go_simp; rfl)); intro gb284 hg w13 hbox hb; have n0_ := Aside0.mk (Kd.R_below (rl HO0.out) hb); have n1_ := Aside0.mk (blk_below (g := gb282) (o := .cells #[.slice (some ad283) l1_0.length c1_0] 26 (0, 0)) (bl BK282.out) hb); have n2_ := Aside0.mk (Kept.below (S := (fun k_ => P0_ k_)) (by repeat (first | (with_reducible first | exact HK.out | apply Kept.alloc | apply Kept.drewN | apply Kept.drew | refine Kept.setCell ?_ (.inr GW282.out) _) | exact HK.out)) hb); have n3_ := Aside0.mk (below_step (bw HB.out) hb); have n4_ := Aside0.mk (hbox); have n5_ := Aside0.mk ((by rw [hg]; exact (by first | exact HK.out.1 | exact (show Kept w _ (fun k_ => P0_ k_) from by repeat (first | (with_reducible first | exact HK.out | apply Kept.alloc | apply Kept.drewN | apply Kept.drew | refine Kept.setCell ?_ (.inr GW282.out) _) | exact HK.out)).1) : w.heap.size ≤ gb284)); have n6_ := Aside0.mk ((by rw [hg]; exact (below_size (bw HB.out)) : w0.heap.size ≤ gb284)); have n7_ := Aside0.mk ((by rw [hg]; exact Nat.ne_of_lt (blk_lt (g := gb282) (o := .cells #[.slice (some ad283) l1_0.length c1_0] 26 (0, 0)) (bl BK282.out)) : gb282 ≠ gb284)); have n8_ := Aside0.mk ((by rw [hg]; exact Nat.ne_of_gt (blk_lt (g := gb282) (o := .cells #[.slice (some ad283) l1_0.length c1_0] 26 (0, 0)) (bl BK282.out)) : gb284 ≠ gb282)); clear HO0 BK282 HK HB; have HO0 := n0_; have BK282 := n1_; have HK := n2_; have HB := n3_; have BK284 := n4_; have GW284 := n5_; have GE284 := n6_; have NB282_284 := n7_; have NB284_282 := n8_; clear n0_ n1_ n2_ n3_ n4_ n5_ n6_ n7_ n8_ hb hbox hg; have hnb14 := NB284_282.out; have hnc14 := NB282_284.out; have hcz15_0 : w13.cell? ⟨gb284, 0, none⟩ = some (.int .i64 0) := (blk_cell BK284.out 0).trans rfl; have hcz15_1 : w13.cell? ⟨gb284, 1, none⟩ = some (.int .i64 0) := (blk_cell BK284.out 1).trans rfl; have hcz15_2 : w13.cell? ⟨gb284, 2, none⟩ = some (.int .i64 0) := (blk_cell BK284.out 2).trans rfl; have hcz15_3 : w13.cell? ⟨gb284, 3, none⟩ = some (.int .i64 0) := (blk_cell BK284.out 3).trans rfl; have hfz15_0 := blk_frozen BK284.out 0; have hfz15_1 := blk_frozen BK284.out 1; have hfz15_2 := blk_frozen BK284.out 2; have hfz15_3 := blk_frozen BK284.out 3) | ((with_reducible refine gate_callee (f := 124) rfl ?_); refine goesL_ (some 20) rfl rfl Try.func124 (by kernel_rfl) rfl #[.int .i64 ((rd_T34 l1_0 a2).f0)] rfl ar ?_; (with_reducible refine (impl_VarText.calls k ((rd_T34 l1_0 a2).f0) t285 t286 _ A6.out).mono ?_); rintro e w16 ⟨rfl, hb⟩; refine ⟨_, rfl, ?_⟩; have n0_ := Aside0.mk (Kd.R_below (by (with_reducible repeat (first | apply Kd.R_alloc | apply Kd.R_drewN | apply Kd.R_drew)); exact (Kd.R_mono (Kd.R_far (p := ⟨gb284, 3, none⟩) (Kd.R_far (p := ⟨gb284, 2, none⟩) (Kd.R_far (p := ⟨gb284, 1, none⟩) (Kd.R_far (p := ⟨gb284, 0, none⟩) (Kd.R_types HO0.out BK284.out (by decide)) (fun _ hk => hk.2) (.int .i64 ((rd_T34 l1_0 a2).f0))) (fun _ hk => hk.2) (.int .i64 ((rd_T34 l1_0 a2).f1))) (fun _ hk => hk.2) (.int .i64 ((rd_T34 l1_0 a2).f2))) (fun _ hk => hk.2) (.int .i64 ((rd_T34 l1_0 a2).f3))) (fun _ h_ => h_.1))) hb); have n1_ := Aside0.mk (blk_below (g := gb282) (o := .cells #[.slice (some ad283) l1_0.length c1_0] 26 (0, 0)) (by (with_reducible repeat (first | refine blk_drewN ?_ _ | refine blk_drew ?_ | refine blk_alloc ?_ _)); refine blk_far ?_ NB282_284.out _; (with_reducible repeat (first | refine blk_drewN ?_ _ | refine blk_drew ?_ | refine blk_alloc ?_ _)); refine blk_far ?_ NB282_284.out _; (with_reducible repeat (first | refine blk_drewN ?_ _ | refine blk_drew ?_ | refine blk_alloc ?_ _)); refine blk_far ?_ NB282_284.out _; (with_reducible repeat (first | refine blk_drewN ?_ _ | refine blk_drew ?_ | refine blk_alloc ?_ _)); refine blk_far ?_ NB282_284.out _; (with_reducible repeat (first | refine blk_drewN ?_ _ | refine blk_drew ?_ | refine blk_alloc ?_ _)); exact BK282.out) hb); have n2_ := Aside0.mk (blk_below (g := gb284) (o := .cells #[.int .i64 ((rd_T34 l1_0 a2).f0), .int .i64 ((rd_T34 l1_0 a2).f1), .int .i64 ((rd_T34 l1_0 a2).f2), .int .i64 ((rd_T34 l1_0 a2).f3)] 34 (0, 0)) (by (with_reducible repeat (first | refine blk_drewN ?_ _ | refine blk_drew ?_ | refine blk_alloc ?_ _)); refine blk_put (cs := #[.int .i64 ((rd_T34 l1_0 a2).f0), .int .i64 ((rd_T34 l1_0 a2).f1), .int .i64 ((rd_T34 l1_0 a2).f2), .int .i64 0]) ?_ 3 _ rfl; (with_reducible repeat (first | refine blk_drewN ?_ _ | refine blk_drew ?_ | refine blk_alloc ?_ _)); refine blk_put (cs := #[.int .i64 ((rd_T34 l1_0 a2).f0), .int .i64 ((rd_T34 l1_0 a2).f1), .int .i64 0, .int .i64 0]) ?_ 2 _ rfl; (with_reducible repeat (first | refine blk_drewN ?_ _ | refine blk_drew ?_ | refine blk_alloc ?_ _)); refine blk_put (cs := #[.int .i64 ((rd_T34 l1_0 a2).f0), .int .i64 0, .int .i64 0, .int .i64 0]) ?_ 1 _ rfl; (with_reducible repeat (first | refine blk_drewN ?_ _ | refine blk_drew ?_ | refine blk_alloc ?_ _)); refine blk_put (cs := #[.int .i64 0, .int .i64 0, .int .i64 0, .int .i64 0]) ?_ 0 _ rfl; (with_reducible repeat (first | refine blk_drewN ?_ _ | refine blk_drew ?_ | refine blk_alloc ?_ _)); exact BK284.out) hb); have n3_ := Aside0.mk (Kept.below (S := (fun k_ => P0_ k_)) (by repeat (first | (with_reducible first | exact HK.out | apply Kept.alloc | apply Kept.drewN | apply Kept.drew | refine Kept.setCell ?_ (.inr GW282.out) _ | refine Kept.setCell ?_ (.inr GW284.out) _) | exact HK.out)) hb); have n4_ := Aside0.mk (below_step (bw HB.out) hb); clear HO0 BK282 BK284 HK HB; have HO0 := n0_; have BK282 := n1_; have BK284 := n2_; have HK := n3_; have HB := n4_; clear n0_ n1_ n2_ n3_ n4_; (try clear hb); (try clear hb2); (try clear hk); (try clear hi)) | (at_builtin; refine Go.Proofs.Ytkckdibalopagaa.Base.print_append_str_at (w0 := w0) w0.heap.size rfl (.tmp 23) _ 22 9 5 rfl Try.underlying22 Try.underlying9 info5 u9000_ l0 t285 rfl rfl ?aO ?aB ?aS ?aL ?_; (case aB => exact (bw HB.out)); (case aO => exact (Kd.own_of_R (rl HO0.out))); (case aS => exact (below_size (bw HB.out))); (case aL => have := LMc7.out; omega); intro v288 w17 ho0 hb hg hat; have ho := Kd.R_of_own (h1 := fun _ => rfl) (ok := (fun k_ => (P0_ k_ ∨ w.heap.size ≤ k_))) ho0 (Go.Proofs.Ytkckdibalopagaa.Base.ok_at (S := (fun k_ => P0_ k_)) hat (by repeat (first | (with_reducible first | exact HK.out | apply Kept.alloc | apply Kept.drewN | apply Kept.drew | refine Kept.setCell ?_ (.inr GW282.out) _ | refine Kept.setCell ?_ (.inr GW284.out) _) | exact HK.out)) HO0.out.1); clear ho0; rw [← Ny287.out] at ho; change Kd.R (Kd.int .u8) 5 w17 w0.heap.size (fun k_ => (P0_ k_ ∨ w.heap.size ≤ k_)) v288 y287 at ho; have n0_ := Aside0.mk (blk_grown (g := gb282) (o := .cells #[.slice (some ad283) l1_0.length c1_0] 26 (0, 0)) (bl BK282.out) hg (Kd.R_ne HO0.out BK282.out (by decide))); have n1_ := Aside0.mk (blk_grown (g := gb284) (o := .cells #[.int .i64 ((rd_T34 l1_0 a2).f0), .int .i64 ((rd_T34 l1_0 a2).f1), .int .i64 ((rd_T34 l1_0 a2).f2), .int .i64 ((rd_T34 l1_0 a2).f3)] 34 (0, 0)) (bl BK284.out) hg (Kd.R_ne HO0.out BK284.out (by decide))); have n2_ := Aside0.mk (hb); have n3_ := Aside0.mk (Kept.of_grown (S := (fun k_ => P0_ k_)) hg (by repeat (first | (with_reducible first | exact HK.out | apply Kept.alloc | apply Kept.drewN | apply Kept.drew | refine Kept.setCell ?_ (.inr GW282.out) _ | refine Kept.setCell ?_ (.inr GW284.out) _) | exact HK.out)) (fun k_ e_ => (HO0.out.1 k_ e_))); have n4_ := Aside0.mk (ho); clear BK282 BK284 HB HK HO0; have BK282 := n0_; have BK284 := n1_; have HB := n2_; have HK := n3_; have HO289 := n4_; clear n0_ n1_ n2_ n3_ n4_ ho hb hg hat; have hcz18_0 : w17.cell? ⟨gb284, 0, none⟩ = some (.int .i64 ((rd_T34 l1_0 a2).f0)) := (blk_cell BK284.out 0).trans rfl; have hcz18_1 : w17.cell? ⟨gb284, 1, none⟩ = some (.int .i64 ((rd_T34 l1_0 a2).f1)) := (blk_cell BK284.out 1).trans rfl; have hcz18_2 : w17.cell? ⟨gb284, 2, none⟩ = some (.int .i64 ((rd_T34 l1_0 a2).f2)) := (blk_cell BK284.out 2).trans rfl; have hcz18_3 : w17.cell? ⟨gb284, 3, none⟩ = some (.int .i64 ((rd_T34 l1_0 a2).f3)) := (blk_cell BK284.out 3).trans rfl; have hfz18_0 := blk_frozen BK284.out 0; have hfz18_1 := blk_frozen BK284.out 1; have hfz18_2 := blk_frozen BK284.out 2; have hfz18_3 := blk_frozen BK284.out 3) | ((with_reducible refine gate_callee (f := 124) rfl ?_); refine goesL_ (some 32) rfl rfl Try.func124 (by kernel_rfl) rfl #[.int .i64 ((rd_T34 l1_0 a2).f1)] rfl ar ?_; (with_reducible refine (impl_VarText.calls k ((rd_T34 l1_0 a2).f1) t290 t291 _ A9.out).mono ?_); rintro e w19 ⟨rfl, hb⟩; refine ⟨_, rfl, ?_⟩; have n0_ := Aside0.mk (Kd.R_below (rl HO289.out) hb); have n1_ := Aside0.mk (blk_below (g := gb282) (o := .cells #[.slice (some ad283) l1_0.length c1_0] 26 (0, 0)) (bl BK282.out) hb); have n2_ := Aside0.mk (blk_below (g := gb284) (o := .cells #[.int .i64 ((rd_T34 l1_0 a2).f0), .int .i64 ((rd_T34 l1_0 a2).f1), .int .i64 ((rd_T34 l1_0 a2).f2), .int .i64 ((rd_T34 l1_0 a2).f3)] 34 (0, 0)) (bl BK284.out) hb); have n3_ := Aside0.mk (Kept.below (S := (fun k_ => P0_ k_)) (by repeat (first | (with_reducible first | exact HK.out | apply Kept.alloc | apply Kept.drewN | apply Kept.drew | refine Kept.setCell ?_ (.inr GW282.out) _ | refine Kept.setCell ?_ (.inr GW284.out) _) | exact HK.out)) hb); have n4_ := Aside0.mk (below_step (bw HB.out) hb); clear HO289 BK282 BK284 HK HB; have HO289 := n0_; have BK282 := n1_; have BK284 := n2_; have HK := n3_; have HB := n4_; clear n0_ n1_ n2_ n3_ n4_; (try clear hb); (try clear hb2); (try clear hk); (try clear hi)) | (at_builtin; refine Go.Proofs.Ytkckdibalopagaa.Base.print_append_str_at (w0 := w0) w0.heap.size rfl (.tmp 35) _ 22 9 5 rfl Try.underlying22 Try.underlying9 info5 v288 y287 t290 rfl rfl ?aO ?aB ?aS ?aL ?_; (case aB => exact (bw HB.out)); (case aO => exact (Kd.own_of_R (rl HO289.out))); (case aS => exact (below_size (bw HB.out))); (case aL => have := LMc10.out; omega); intro v293 w20 ho0 hb hg hat; have ho := Kd.R_of_own (h1 := fun _ => rfl) (ok := (fun k_ => (P0_ k_ ∨ w.heap.size ≤ k_))) ho0 (Go.Proofs.Ytkckdibalopagaa.Base.ok_at (S := (fun k_ => P0_ k_)) hat (by repeat (first | (with_reducible first | exact HK.out | apply Kept.alloc | apply Kept.drewN | apply Kept.drew | refine Kept.setCell ?_ (.inr GW282.out) _ | refine Kept.setCell ?_ (.inr GW284.out) _) | exact HK.out)) HO289.out.1); clear ho0; rw [← Ny292.out] at ho; change Kd.R (Kd.int .u8) 5 w20 w0.heap.size (fun k_ => (P0_ k_ ∨ w.heap.size ≤ k_)) v293 y292 at ho; have n0_ := Aside0.mk (blk_grown (g := gb282) (o := .cells #[.slice (some ad283) l1_0.length c1_0] 26 (0, 0)) (bl BK282.out) hg (Kd.R_ne HO289.out BK282.out (by decide))); have n1_ := Aside0.mk (blk_grown (g := gb284) (o := .cells #[.int .i64 ((rd_T34 l1_0 a2).f0), .int .i64 ((rd_T34 l1_0 a2).f1), .int .i64 ((rd_T34 l1_0 a2).f2), .int .i64 ((rd_T34 l1_0 a2).f3)] 34 (0, 0)) (bl BK284.out) hg (Kd.R_ne HO289.out BK284.out (by decide))); have n2_ := Aside0.mk (hb); have n3_ := Aside0.mk (Kept.of_grown (S := (fun k_ => P0_ k_)) hg (by repeat (first | (with_reducible first | exact HK.out | apply Kept.alloc | apply Kept.drewN | apply Kept.drew | refine Kept.setCell ?_ (.inr GW282.out) _ | refine Kept.setCell ?_ (.inr GW284.out) _) | exact HK.out)) (fun k_ e_ => (HO289.out.1 k_ e_))); have n4_ := Aside0.mk (ho); clear BK282 BK284 HB HK HO289; have BK282 := n0_; have BK284 := n1_; have HB := n2_; have HK := n3_; have HO294 := n4_; clear n0_ n1_ n2_ n3_ n4_ ho hb hg hat))
      go_ret
      exact ⟨_, by first | rfl | (simp [errW_none, errW_some] <;> rfl) | (simp [*, errW_none, errW_some] <;> rfl), by (with_reducible repeat (first | apply Kd.R_alloc | apply Kd.R_drewN | apply Kd.R_drew)); exact HO294.out, bw HB.out, by repeat (first | (with_reducible first | exact HK.out | apply Kept.alloc | apply Kept.drewN | apply Kept.drew | refine Kept.setCell ?_ (.inr GW282.out) _ | refine Kept.setCell ?_ (.inr GW284.out) _) | exact HK.out)⟩
     ·rw [if_neg c10] at H
      exact absurd H (by simp)
    ·rw [if_neg c8] at H
     have c8b0 : (((rd_T34 l1_0 a2).f0) == 1) = false := beq_eq_false_iff_ne.mpr c8
     have c8b1 : (((rd_T34 l1_0 a2).f0) != 1) = true := bne_iff_ne.mpr c8
     replace H := Option.bind_eq_some_iff.mp H
     obtain ⟨t295, A210, H⟩ := H
     replace H : ((impl_hasB.f ((rd_T34 l1_0 a2).f0)).bind fun t298 => (if t298 = true then ((impl_termBytes.f k t295 l1_0 ((rd_T34 l1_0 a2).f3)).bind fun t299 => (some t299)) else (some t295))) = some r := H
     have A21 := Aside0.mk A210
     clear A210
     replace H := Option.bind_eq_some_iff.mp H
     obtain ⟨t298, A220, H⟩ := H
     replace H : (if t298 = true then ((impl_termBytes.f k t295 l1_0 ((rd_T34 l1_0 a2).f3)).bind fun t299 => (some t299)) else (some t295)) = some r := H
     have A22 := Aside0.mk A220
     clear A220
     by_cases c23 : t298 = true
     ·subst c23
      have H1 : ((impl_termBytes.f k t295 l1_0 ((rd_T34 l1_0 a2).f3)).bind fun t299 => (some t299)) = some r := by rw [if_pos rfl] at H; exact H
      clear H
      have H := H1
      clear H1
      replace H := Option.bind_eq_some_iff.mp H
      obtain ⟨t299, A240, H⟩ := H
      replace H : (some t299) = some r := H
      have A24 := Aside0.mk A240
      clear A240
      obtain rfl := Option.some.inj H
      go_enter Try.func89, Try.ntmps89
      go_wp2_with (first | ((with_reducible refine gate_dst (N := 4) rfl ?_); refine box_event ?hg (N := 4) ?hd (cs := #[.slice A1_0 l1_0.length c1_0]) (t := 26) ?hr ?_; (case hd => rfl); (case hg => rfl); (case hr => first | (go_simp; done) | (go_simp; rfl)); intro gb282 hg w25 hbox hb; have n0_ := Aside0.mk (Kd.R_below (rl HO0.out) hb); have n1_ := Aside0.mk (Kept.below (S := (fun k_ => P0_ k_)) (by repeat (first | (with_reducible first | exact HK.out | apply Kept.alloc | apply Kept.drewN | apply Kept.drew) | exact HK.out)) hb); have n2_ := Aside0.mk (below_step (bw HB.out) hb); have n3_ := Aside0.mk (hbox); have n4_ := Aside0.mk ((by rw [hg]; exact (by first | exact HK.out.1 | exact (show Kept w _ (fun k_ => P0_ k_) from by repeat (first | (with_reducible first | exact HK.out | apply Kept.alloc | apply Kept.drewN | apply Kept.drew) | exact HK.out)).1) : w.heap.size ≤ gb282)); have n5_ := Aside0.mk ((by rw [hg]; exact (below_size (bw HB.out)) : w0.heap.size ≤ gb282)); clear HO0 HK HB; have HO0 := n0_; have HK := n1_; have HB := n2_; have BK282 := n3_; have GW282 := n4_; have GE282 := n5_; clear n0_ n1_ n2_ n3_ n4_ n5_ hb hbox hg; have hcz26_0 : w25.cell? ⟨gb282, 0, none⟩ = some (.slice A1_0 l1_0.length c1_0) := (blk_cell BK282.out 0).trans rfl; have hfz26_0 := blk_frozen BK282.out 0; have p283 : 0 ≤ (a2 : Int) := oda; have q283 : a2 < (l1_0.length : Int) := oda; obtain ⟨ad283, e283, hx283_0, hx283_1, hx283_2, hx283_3⟩ := at_T34 (Kd.C_kept_now HR1_0.out HK.out) a2 p283 q283; cases e283; replace p283 := eq_true p283; replace q283 := eq_true q283) | ((with_reducible refine gate_dst (N := 7) rfl ?_); refine box_event ?hg (N := 7) ?hd (cs := #[.int .i64 0, .int .i64 0, .int .i64 0, .int .i64 0]) (t := 34) ?hr ?_; (case hd => rfl); (case hg => rfl); (case hr => first | (go_simp; done) | (go_simp; rfl)); intro gb284 hg w27 hbox hb; have n0_ := Aside0.mk (Kd.R_below (rl HO0.out) hb); have n1_ := Aside0.mk (blk_below (g := gb282) (o := .cells #[.slice (some ad283) l1_0.length c1_0] 26 (0, 0)) (bl BK282.out) hb); have n2_ := Aside0.mk (Kept.below (S := (fun k_ => P0_ k_)) (by repeat (first | (with_reducible first | exact HK.out | apply Kept.alloc | apply Kept.drewN | apply Kept.drew | refine Kept.setCell ?_ (.inr GW282.out) _) | exact HK.out)) hb); have n3_ := Aside0.mk (below_step (bw HB.out) hb); have n4_ := Aside0.mk (hbox); have n5_ := Aside0.mk ((by rw [hg]; exact (by first | exact HK.out.1 | exact (show Kept w _ (fun k_ => P0_ k_) from by repeat (first | (with_reducible first | exact HK.out | apply Kept.alloc | apply Kept.drewN | apply Kept.drew | refine Kept.setCell ?_ (.inr GW282.out) _) | exact HK.out)).1) : w.heap.size ≤ gb284)); have n6_ := Aside0.mk ((by rw [hg]; exact (below_size (bw HB.out)) : w0.heap.size ≤ gb284)); have n7_ := Aside0.mk ((by rw [hg]; exact Nat.ne_of_lt (blk_lt (g := gb282) (o := .cells #[.slice (some ad283) l1_0.length c1_0] 26 (0, 0)) (bl BK282.out)) : gb282 ≠ gb284)); have n8_ := Aside0.mk ((by rw [hg]; exact Nat.ne_of_gt (blk_lt (g := gb282) (o := .cells #[.slice (some ad283) l1_0.length c1_0] 26 (0, 0)) (bl BK282.out)) : gb284 ≠ gb282)); clear HO0 BK282 HK HB; have HO0 := n0_; have BK282 := n1_; have HK := n2_; have HB := n3_; have BK284 := n4_; have GW284 := n5_; have GE284 := n6_; have NB282_284 := n7_; have NB284_282 := n8_; clear n0_ n1_ n2_ n3_ n4_ n5_ n6_ n7_ n8_ hb hbox hg; have hnb28 := NB284_282.out; have hnc28 := NB282_284.out; have hcz29_0 : w27.cell? ⟨gb284, 0, none⟩ = some (.int .i64 0) := (blk_cell BK284.out 0).trans rfl; have hcz29_1 : w27.cell? ⟨gb284, 1, none⟩ = some (.int .i64 0) := (blk_cell BK284.out 1).trans rfl; have hcz29_2 : w27.cell? ⟨gb284, 2, none⟩ = some (.int .i64 0) := (blk_cell BK284.out 2).trans rfl; have hcz29_3 : w27.cell? ⟨gb284, 3, none⟩ = some (.int .i64 0) := (blk_cell BK284.out 3).trans rfl; have hfz29_0 := blk_frozen BK284.out 0; have hfz29_1 := blk_frozen BK284.out 1; have hfz29_2 := blk_frozen BK284.out 2; have hfz29_3 := blk_frozen BK284.out 3) | ((with_reducible refine gate_callee (f := 124) rfl ?_); refine goesL_ (some 20) rfl rfl Try.func124 (by kernel_rfl) rfl #[.int .i64 ((rd_T34 l1_0 a2).f0)] rfl ar ?_; (with_reducible refine (impl_VarText.calls k ((rd_T34 l1_0 a2).f0) t285 t286 _ A6.out).mono ?_); rintro e w30 ⟨rfl, hb⟩; refine ⟨_, rfl, ?_⟩; have n0_ := Aside0.mk (Kd.R_below (by (with_reducible repeat (first | apply Kd.R_alloc | apply Kd.R_drewN | apply Kd.R_drew)); exact (Kd.R_mono (Kd.R_far (p := ⟨gb284, 3, none⟩) (Kd.R_far (p := ⟨gb284, 2, none⟩) (Kd.R_far (p := ⟨gb284, 1, none⟩) (Kd.R_far (p := ⟨gb284, 0, none⟩) (Kd.R_types HO0.out BK284.out (by decide)) (fun _ hk => hk.2) (.int .i64 ((rd_T34 l1_0 a2).f0))) (fun _ hk => hk.2) (.int .i64 ((rd_T34 l1_0 a2).f1))) (fun _ hk => hk.2) (.int .i64 ((rd_T34 l1_0 a2).f2))) (fun _ hk => hk.2) (.int .i64 ((rd_T34 l1_0 a2).f3))) (fun _ h_ => h_.1))) hb); have n1_ := Aside0.mk (blk_below (g := gb282) (o := .cells #[.slice (some ad283) l1_0.length c1_0] 26 (0, 0)) (by (with_reducible repeat (first | refine blk_drewN ?_ _ | refine blk_drew ?_ | refine blk_alloc ?_ _)); refine blk_far ?_ NB282_284.out _; (with_reducible repeat (first | refine blk_drewN ?_ _ | refine blk_drew ?_ | refine blk_alloc ?_ _)); refine blk_far ?_ NB282_284.out _; (with_reducible repeat (first | refine blk_drewN ?_ _ | refine blk_drew ?_ | refine blk_alloc ?_ _)); refine blk_far ?_ NB282_284.out _; (with_reducible repeat (first | refine blk_drewN ?_ _ | refine blk_drew ?_ | refine blk_alloc ?_ _)); refine blk_far ?_ NB282_284.out _; (with_reducible repeat (first | refine blk_drewN ?_ _ | refine blk_drew ?_ | refine blk_alloc ?_ _)); exact BK282.out) hb); have n2_ := Aside0.mk (blk_below (g := gb284) (o := .cells #[.int .i64 ((rd_T34 l1_0 a2).f0), .int .i64 ((rd_T34 l1_0 a2).f1), .int .i64 ((rd_T34 l1_0 a2).f2), .int .i64 ((rd_T34 l1_0 a2).f3)] 34 (0, 0)) (by (with_reducible repeat (first | refine blk_drewN ?_ _ | refine blk_drew ?_ | refine blk_alloc ?_ _)); refine blk_put (cs := #[.int .i64 ((rd_T34 l1_0 a2).f0), .int .i64 ((rd_T34 l1_0 a2).f1), .int .i64 ((rd_T34 l1_0 a2).f2), .int .i64 0]) ?_ 3 _ rfl; (with_reducible repeat (first | refine blk_drewN ?_ _ | refine blk_drew ?_ | refine blk_alloc ?_ _)); refine blk_put (cs := #[.int .i64 ((rd_T34 l1_0 a2).f0), .int .i64 ((rd_T34 l1_0 a2).f1), .int .i64 0, .int .i64 0]) ?_ 2 _ rfl; (with_reducible repeat (first | refine blk_drewN ?_ _ | refine blk_drew ?_ | refine blk_alloc ?_ _)); refine blk_put (cs := #[.int .i64 ((rd_T34 l1_0 a2).f0), .int .i64 0, .int .i64 0, .int .i64 0]) ?_ 1 _ rfl; (with_reducible repeat (first | refine blk_drewN ?_ _ | refine blk_drew ?_ | refine blk_alloc ?_ _)); refine blk_put (cs := #[.int .i64 0, .int .i64 0, .int .i64 0, .int .i64 0]) ?_ 0 _ rfl; (with_reducible repeat (first | refine blk_drewN ?_ _ | refine blk_drew ?_ | refine blk_alloc ?_ _)); exact BK284.out) hb); have n3_ := Aside0.mk (Kept.below (S := (fun k_ => P0_ k_)) (by repeat (first | (with_reducible first | exact HK.out | apply Kept.alloc | apply Kept.drewN | apply Kept.drew | refine Kept.setCell ?_ (.inr GW282.out) _ | refine Kept.setCell ?_ (.inr GW284.out) _) | exact HK.out)) hb); have n4_ := Aside0.mk (below_step (bw HB.out) hb); clear HO0 BK282 BK284 HK HB; have HO0 := n0_; have BK282 := n1_; have BK284 := n2_; have HK := n3_; have HB := n4_; clear n0_ n1_ n2_ n3_ n4_; (try clear hb); (try clear hb2); (try clear hk); (try clear hi)) | (at_builtin; refine Go.Proofs.Ytkckdibalopagaa.Base.print_append_str_at (w0 := w0) w0.heap.size rfl (.tmp 23) _ 22 9 5 rfl Try.underlying22 Try.underlying9 info5 u9000_ l0 t285 rfl rfl ?aO ?aB ?aS ?aL ?_; (case aB => exact (bw HB.out)); (case aO => exact (Kd.own_of_R (rl HO0.out))); (case aS => exact (below_size (bw HB.out))); (case aL => have := LMc7.out; omega); intro v288 w31 ho0 hb hg hat; have ho := Kd.R_of_own (h1 := fun _ => rfl) (ok := (fun k_ => (P0_ k_ ∨ w.heap.size ≤ k_))) ho0 (Go.Proofs.Ytkckdibalopagaa.Base.ok_at (S := (fun k_ => P0_ k_)) hat (by repeat (first | (with_reducible first | exact HK.out | apply Kept.alloc | apply Kept.drewN | apply Kept.drew | refine Kept.setCell ?_ (.inr GW282.out) _ | refine Kept.setCell ?_ (.inr GW284.out) _) | exact HK.out)) HO0.out.1); clear ho0; rw [← Ny287.out] at ho; change Kd.R (Kd.int .u8) 5 w31 w0.heap.size (fun k_ => (P0_ k_ ∨ w.heap.size ≤ k_)) v288 y287 at ho; have n0_ := Aside0.mk (blk_grown (g := gb282) (o := .cells #[.slice (some ad283) l1_0.length c1_0] 26 (0, 0)) (bl BK282.out) hg (Kd.R_ne HO0.out BK282.out (by decide))); have n1_ := Aside0.mk (blk_grown (g := gb284) (o := .cells #[.int .i64 ((rd_T34 l1_0 a2).f0), .int .i64 ((rd_T34 l1_0 a2).f1), .int .i64 ((rd_T34 l1_0 a2).f2), .int .i64 ((rd_T34 l1_0 a2).f3)] 34 (0, 0)) (bl BK284.out) hg (Kd.R_ne HO0.out BK284.out (by decide))); have n2_ := Aside0.mk (hb); have n3_ := Aside0.mk (Kept.of_grown (S := (fun k_ => P0_ k_)) hg (by repeat (first | (with_reducible first | exact HK.out | apply Kept.alloc | apply Kept.drewN | apply Kept.drew | refine Kept.setCell ?_ (.inr GW282.out) _ | refine Kept.setCell ?_ (.inr GW284.out) _) | exact HK.out)) (fun k_ e_ => (HO0.out.1 k_ e_))); have n4_ := Aside0.mk (ho); clear BK282 BK284 HB HK HO0; have BK282 := n0_; have BK284 := n1_; have HB := n2_; have HK := n3_; have HO289 := n4_; clear n0_ n1_ n2_ n3_ n4_ ho hb hg hat; have hcz32_0 : w31.cell? ⟨gb284, 0, none⟩ = some (.int .i64 ((rd_T34 l1_0 a2).f0)) := (blk_cell BK284.out 0).trans rfl; have hcz32_1 : w31.cell? ⟨gb284, 1, none⟩ = some (.int .i64 ((rd_T34 l1_0 a2).f1)) := (blk_cell BK284.out 1).trans rfl; have hcz32_2 : w31.cell? ⟨gb284, 2, none⟩ = some (.int .i64 ((rd_T34 l1_0 a2).f2)) := (blk_cell BK284.out 2).trans rfl; have hcz32_3 : w31.cell? ⟨gb284, 3, none⟩ = some (.int .i64 ((rd_T34 l1_0 a2).f3)) := (blk_cell BK284.out 3).trans rfl; have hfz32_0 := blk_frozen BK284.out 0; have hfz32_1 := blk_frozen BK284.out 1; have hfz32_2 := blk_frozen BK284.out 2; have hfz32_3 := blk_frozen BK284.out 3; have hcz33_0 : w31.cell? ⟨gb282, 0, none⟩ = some (.slice (some ad283) l1_0.length c1_0) := (blk_cell BK282.out 0).trans rfl; have hfz33_0 := blk_frozen BK282.out 0; obtain ⟨Ao34, co34, eo34⟩ := Kd.R_slice HO289.out; subst eo34) | ((with_reducible refine gate_callee (f := 89) rfl ?_); refine goesL_ (some 42) rfl rfl Try.func89 (by kernel_rfl) rfl #[.slice Ao34 y287.length co34, .agg #[.slice (some ad283) l1_0.length c1_0], .int .i64 ((rd_T34 l1_0 a2).f2)] rfl ar ?_; (with_reducible refine (ih k (by omega) (fun k_ => some k_ = (.slice Ao34 y287.length co34 : Value).ownBlock) (.slice Ao34 y287.length co34) y287 _ _ l1_0 ((rd_T34 l1_0 a2).f2) t295 w0 _ ?side1 ?side2 ?side3 ?side4 A21.out).mono ?_); (case side1 => exact bw HB.out); (case side2 => exact Kd.R_tight rfl HO289.out); (case side3 => exact Kd.C_kept_call HR1_0.out (by repeat (first | (with_reducible first | exact HK.out | apply Kept.alloc | apply Kept.drewN | apply Kept.drew | refine Kept.setCell ?_ (.inr GW282.out) _ | refine Kept.setCell ?_ (.inr GW284.out) _) | exact HK.out)) (fun k_ hs_ => (fun e_ => (HO289.out.1 k_ e_.symm)) hs_)); (case side4 => exact HC1_0.out); rintro e w35 ⟨v296, rfl, ho0, hb, hkp⟩; refine ⟨_, rfl, ?_⟩; have n0_ := Aside0.mk (blk_kept (bl BK282.out) hkp (fun hs_ => (fun e_ => (Kd.R_ne HO289.out BK282.out (by decide)) e_) hs_)); have n1_ := Aside0.mk (blk_kept (bl BK284.out) hkp (fun hs_ => (fun e_ => (Kd.R_ne HO289.out BK284.out (by decide)) e_) hs_)); have n2_ := Aside0.mk (Kd.R_mono (ok' := fun k_ => (P0_ k_ ∨ w.heap.size ≤ k_)) ho0 (fun k_ hk_ => Or.elim hk_ (fun hs_ => (HO289.out.1 k_ (hs_).symm)) (fun hn_ => (.inr (Nat.le_trans (by first | exact HK.out.1 | exact (show Kept w _ (fun k_ => P0_ k_) from by repeat (first | (with_reducible first | exact HK.out | apply Kept.alloc | apply Kept.drewN | apply Kept.drew | refine Kept.setCell ?_ (.inr GW282.out) _ | refine Kept.setCell ?_ (.inr GW284.out) _) | exact HK.out)).1) hn_))))); have n3_ := Aside0.mk (Kept.then_ (S := (fun k_ => P0_ k_)) (by repeat (first | (with_reducible first | exact HK.out | apply Kept.alloc | apply Kept.drewN | apply Kept.drew | refine Kept.setCell ?_ (.inr GW282.out) _ | refine Kept.setCell ?_ (.inr GW284.out) _) | exact HK.out)) hkp (fun k_ hs_ => (fun e_ => (HO289.out.1 k_ e_.symm)) hs_)); have n4_ := Aside0.mk (hb); clear BK282 BK284 HK HB HO289; have BK282 := n0_; have BK284 := n1_; have HO297 := n2_; have HK := n3_; have HB := n4_; clear n0_ n1_ n2_ n3_ n4_; (try clear hb); (try clear hkp); (try clear ho0); have hcz36_0 : w35.cell? ⟨gb284, 0, none⟩ = some (.int .i64 ((rd_T34 l1_0 a2).f0)) := (blk_cell BK284.out 0).trans rfl; have hcz36_1 : w35.cell? ⟨gb284, 1, none⟩ = some (.int .i64 ((rd_T34 l1_0 a2).f1)) := (blk_cell BK284.out 1).trans rfl; have hcz36_2 : w35.cell? ⟨gb284, 2, none⟩ = some (.int .i64 ((rd_T34 l1_0 a2).f2)) := (blk_cell BK284.out 2).trans rfl; have hcz36_3 : w35.cell? ⟨gb284, 3, none⟩ = some (.int .i64 ((rd_T34 l1_0 a2).f3)) := (blk_cell BK284.out 3).trans rfl; have hfz36_0 := blk_frozen BK284.out 0; have hfz36_1 := blk_frozen BK284.out 1; have hfz36_2 := blk_frozen BK284.out 2; have hfz36_3 := blk_frozen BK284.out 3) | ((with_reducible refine gate_callee (f := 87) rfl ?_); refine goesL_ (some 45) rfl rfl Try.func87 (by kernel_rfl) rfl #[.int .i64 ((rd_T34 l1_0 a2).f0)] rfl ar ?_; (with_reducible refine (impl_hasB.calls ((rd_T34 l1_0 a2).f0) true _ A22.out).mono ?_); rintro e w' ⟨rfl, ⟨nd, rfl⟩⟩; refine ⟨_, rfl, ?_⟩; have hcz37_0 : w35.cell? ⟨gb282, 0, none⟩ = some (.slice (some ad283) l1_0.length c1_0) := (blk_cell BK282.out 0).trans rfl; have hfz37_0 := blk_frozen BK282.out 0; obtain ⟨Ao38, co38, eo38⟩ := Kd.R_slice HO297.out; subst eo38) | ((with_reducible refine gate_callee (f := 89) rfl ?_); refine goesL_ (some 50) rfl rfl Try.func89 (by kernel_rfl) rfl #[.slice Ao38 t295.length co38, .agg #[.slice (some ad283) l1_0.length c1_0], .int .i64 ((rd_T34 l1_0 a2).f3)] rfl ar ?_; (with_reducible refine (ih k (by omega) (fun k_ => some k_ = (.slice Ao38 t295.length co38 : Value).ownBlock) (.slice Ao38 t295.length co38) t295 _ _ l1_0 ((rd_T34 l1_0 a2).f3) t299 w0 _ ?side1 ?side2 ?side3 ?side4 A24.out).mono ?_); (case side1 => exact bw HB.out); (case side2 => exact Kd.R_tight rfl HO297.out); (case side3 => exact Kd.C_kept_call HR1_0.out (by repeat (first | (with_reducible first | exact HK.out | apply Kept.alloc | apply Kept.drewN | apply Kept.drew | refine Kept.setCell ?_ (.inr GW282.out) _ | refine Kept.setCell ?_ (.inr GW284.out) _) | exact HK.out)) (fun k_ hs_ => (fun e_ => (HO297.out.1 k_ e_.symm)) hs_)); (case side4 => exact HC1_0.out); rintro e w39 ⟨v300, rfl, ho0, hb, hkp⟩; refine ⟨_, rfl, ?_⟩; have n0_ := Aside0.mk (blk_kept (bl BK282.out) hkp (fun hs_ => (fun e_ => (Kd.R_ne HO297.out BK282.out (by decide)) e_) hs_)); have n1_ := Aside0.mk (blk_kept (bl BK284.out) hkp (fun hs_ => (fun e_ => (Kd.R_ne HO297.out BK284.out (by decide)) e_) hs_)); have n2_ := Aside0.mk (Kd.R_mono (ok' := fun k_ => (P0_ k_ ∨ w.heap.size ≤ k_)) ho0 (fun k_ hk_ => Or.elim hk_ (fun hs_ => (HO297.out.1 k_ (hs_).symm)) (fun hn_ => (.inr (Nat.le_trans (by first | exact HK.out.1 | exact (show Kept w _ (fun k_ => P0_ k_) from by repeat (first | (with_reducible first | exact HK.out | apply Kept.alloc | apply Kept.drewN | apply Kept.drew | refine Kept.setCell ?_ (.inr GW282.out) _ | refine Kept.setCell ?_ (.inr GW284.out) _) | exact HK.out)).1) hn_))))); have n3_ := Aside0.mk (Kept.then_ (S := (fun k_ => P0_ k_)) (by repeat (first | (with_reducible first | exact HK.out | apply Kept.alloc | apply Kept.drewN | apply Kept.drew | refine Kept.setCell ?_ (.inr GW282.out) _ | refine Kept.setCell ?_ (.inr GW284.out) _) | exact HK.out)) hkp (fun k_ hs_ => (fun e_ => (HO297.out.1 k_ e_.symm)) hs_)); have n4_ := Aside0.mk (hb); clear BK282 BK284 HK HB HO297; have BK282 := n0_; have BK284 := n1_; have HO301 := n2_; have HK := n3_; have HB := n4_; clear n0_ n1_ n2_ n3_ n4_; (try clear hb); (try clear hkp); (try clear ho0)))
      go_ret
      exact ⟨_, by first | rfl | (simp [errW_none, errW_some] <;> rfl) | (simp [*, errW_none, errW_some] <;> rfl), by (with_reducible repeat (first | apply Kd.R_alloc | apply Kd.R_drewN | apply Kd.R_drew)); exact HO301.out, bw HB.out, by repeat (first | (with_reducible first | exact HK.out | apply Kept.alloc | apply Kept.drewN | apply Kept.drew | refine Kept.setCell ?_ (.inr GW282.out) _ | refine Kept.setCell ?_ (.inr GW284.out) _) | exact HK.out)⟩
     ·replace c23 := Bool.eq_false_iff.mpr c23
      subst c23
      have H1 : (some t295) = some r := by rw [if_neg (show ¬ (false = true) by decide)] at H; exact H
      clear H
      have H := H1
      clear H1
      obtain rfl := Option.some.inj H
      go_enter Try.func89, Try.ntmps89
      go_wp2_with (first | ((with_reducible refine gate_dst (N := 4) rfl ?_); refine box_event ?hg (N := 4) ?hd (cs := #[.slice A1_0 l1_0.length c1_0]) (t := 26) ?hr ?_; (case hd => rfl); (case hg => rfl); (case hr => first | (go_simp; done) | (go_simp; rfl)); intro gb282 hg w40 hbox hb; have n0_ := Aside0.mk (Kd.R_below (rl HO0.out) hb); have n1_ := Aside0.mk (Kept.below (S := (fun k_ => P0_ k_)) (by repeat (first | (with_reducible first | exact HK.out | apply Kept.alloc | apply Kept.drewN | apply Kept.drew) | exact HK.out)) hb); have n2_ := Aside0.mk (below_step (bw HB.out) hb); have n3_ := Aside0.mk (hbox); have n4_ := Aside0.mk ((by rw [hg]; exact (by first | exact HK.out.1 | exact (show Kept w _ (fun k_ => P0_ k_) from by repeat (first | (with_reducible first | exact HK.out | apply Kept.alloc | apply Kept.drewN | apply Kept.drew) | exact HK.out)).1) : w.heap.size ≤ gb282)); have n5_ := Aside0.mk ((by rw [hg]; exact (below_size (bw HB.out)) : w0.heap.size ≤ gb282)); clear HO0 HK HB; have HO0 := n0_; have HK := n1_; have HB := n2_; have BK282 := n3_; have GW282 := n4_; have GE282 := n5_; clear n0_ n1_ n2_ n3_ n4_ n5_ hb hbox hg; have hcz41_0 : w40.cell? ⟨gb282, 0, none⟩ = some (.slice A1_0 l1_0.length c1_0) := (blk_cell BK282.out 0).trans rfl; have hfz41_0 := blk_frozen BK282.out 0; have p283 : 0 ≤ (a2 : Int) := oda; have q283 : a2 < (l1_0.length : Int) := oda; obtain ⟨ad283, e283, hx283_0, hx283_1, hx283_2, hx283_3⟩ := at_T34 (Kd.C_kept_now HR1_0.out HK.out) a2 p283 q283; cases e283; replace p283 := eq_true p283; replace q283 := eq_true q283) | ((with_reducible refine gate_dst (N := 7) rfl ?_); refine box_event ?hg (N := 7) ?hd (cs := #[.int .i64 0, .int .i64 0, .int .i64 0, .int .i64 0]) (t := 34) ?hr ?_; (case hd => rfl); (case hg => rfl); (case hr => first | (go_simp; done) | (go_simp; rfl)); intro gb284 hg w42 hbox hb; have n0_ := Aside0.mk (Kd.R_below (rl HO0.out) hb); have n1_ := Aside0.mk (blk_below (g := gb282) (o := .cells #[.slice (some ad283) l1_0.length c1_0] 26 (0, 0)) (bl BK282.out) hb); have n2_ := Aside0.mk (Kept.below (S := (fun k_ => P0_ k_)) (by repeat (first | (with_reducible first | exact HK.out | apply Kept.alloc | apply Kept.drewN | apply Kept.drew | refine Kept.setCell ?_ (.inr GW282.out) _) | exact HK.out)) hb); have n3_ := Aside0.mk (below_step (bw HB.out) hb); have n4_ := Aside0.mk (hbox); have n5_ := Aside0.mk ((by rw [hg]; exact (by first | exact HK.out.1 | exact (show Kept w _ (fun k_ => P0_ k_) from by repeat (first | (with_reducible first | exact HK.out | apply Kept.alloc | apply Kept.drewN | apply Kept.drew | refine Kept.setCell ?_ (.inr GW282.out) _) | exact HK.out)).1) : w.heap.size ≤ gb284)); have n6_ := Aside0.mk ((by rw [hg]; exact (below_size (bw HB.out)) : w0.heap.size ≤ gb284)); have n7_ := Aside0.mk ((by rw [hg]; exact Nat.ne_of_lt (blk_lt (g := gb282) (o := .cells #[.slice (some ad283) l1_0.length c1_0] 26 (0, 0)) (bl BK282.out)) : gb282 ≠ gb284)); have n8_ := Aside0.mk ((by rw [hg]; exact Nat.ne_of_gt (blk_lt (g := gb282) (o := .cells #[.slice (some ad283) l1_0.length c1_0] 26 (0, 0)) (bl BK282.out)) : gb284 ≠ gb282)); clear HO0 BK282 HK HB; have HO0 := n0_; have BK282 := n1_; have HK := n2_; have HB := n3_; have BK284 := n4_; have GW284 := n5_; have GE284 := n6_; have NB282_284 := n7_; have NB284_282 := n8_; clear n0_ n1_ n2_ n3_ n4_ n5_ n6_ n7_ n8_ hb hbox hg; have hnb43 := NB284_282.out; have hnc43 := NB282_284.out; have hcz44_0 : w42.cell? ⟨gb284, 0, none⟩ = some (.int .i64 0) := (blk_cell BK284.out 0).trans rfl; have hcz44_1 : w42.cell? ⟨gb284, 1, none⟩ = some (.int .i64 0) := (blk_cell BK284.out 1).trans rfl; have hcz44_2 : w42.cell? ⟨gb284, 2, none⟩ = some (.int .i64 0) := (blk_cell BK284.out 2).trans rfl; have hcz44_3 : w42.cell? ⟨gb284, 3, none⟩ = some (.int .i64 0) := (blk_cell BK284.out 3).trans rfl; have hfz44_0 := blk_frozen BK284.out 0; have hfz44_1 := blk_frozen BK284.out 1; have hfz44_2 := blk_frozen BK284.out 2; have hfz44_3 := blk_frozen BK284.out 3) | ((with_reducible refine gate_callee (f := 124) rfl ?_); refine goesL_ (some 20) rfl rfl Try.func124 (by kernel_rfl) rfl #[.int .i64 ((rd_T34 l1_0 a2).f0)] rfl ar ?_; (with_reducible refine (impl_VarText.calls k ((rd_T34 l1_0 a2).f0) t285 t286 _ A6.out).mono ?_); rintro e w45 ⟨rfl, hb⟩; refine ⟨_, rfl, ?_⟩; have n0_ := Aside0.mk (Kd.R_below (by (with_reducible repeat (first | apply Kd.R_alloc | apply Kd.R_drewN | apply Kd.R_drew)); exact (Kd.R_mono (Kd.R_far (p := ⟨gb284, 3, none⟩) (Kd.R_far (p := ⟨gb284, 2, none⟩) (Kd.R_far (p := ⟨gb284, 1, none⟩) (Kd.R_far (p := ⟨gb284, 0, none⟩) (Kd.R_types HO0.out BK284.out (by decide)) (fun _ hk => hk.2) (.int .i64 ((rd_T34 l1_0 a2).f0))) (fun _ hk => hk.2) (.int .i64 ((rd_T34 l1_0 a2).f1))) (fun _ hk => hk.2) (.int .i64 ((rd_T34 l1_0 a2).f2))) (fun _ hk => hk.2) (.int .i64 ((rd_T34 l1_0 a2).f3))) (fun _ h_ => h_.1))) hb); have n1_ := Aside0.mk (blk_below (g := gb282) (o := .cells #[.slice (some ad283) l1_0.length c1_0] 26 (0, 0)) (by (with_reducible repeat (first | refine blk_drewN ?_ _ | refine blk_drew ?_ | refine blk_alloc ?_ _)); refine blk_far ?_ NB282_284.out _; (with_reducible repeat (first | refine blk_drewN ?_ _ | refine blk_drew ?_ | refine blk_alloc ?_ _)); refine blk_far ?_ NB282_284.out _; (with_reducible repeat (first | refine blk_drewN ?_ _ | refine blk_drew ?_ | refine blk_alloc ?_ _)); refine blk_far ?_ NB282_284.out _; (with_reducible repeat (first | refine blk_drewN ?_ _ | refine blk_drew ?_ | refine blk_alloc ?_ _)); refine blk_far ?_ NB282_284.out _; (with_reducible repeat (first | refine blk_drewN ?_ _ | refine blk_drew ?_ | refine blk_alloc ?_ _)); exact BK282.out) hb); have n2_ := Aside0.mk (blk_below (g := gb284) (o := .cells #[.int .i64 ((rd_T34 l1_0 a2).f0), .int .i64 ((rd_T34 l1_0 a2).f1), .int .i64 ((rd_T34 l1_0 a2).f2), .int .i64 ((rd_T34 l1_0 a2).f3)] 34 (0, 0)) (by (with_reducible repeat (first | refine blk_drewN ?_ _ | refine blk_drew ?_ | refine blk_alloc ?_ _)); refine blk_put (cs := #[.int .i64 ((rd_T34 l1_0 a2).f0), .int .i64 ((rd_T34 l1_0 a2).f1), .int .i64 ((rd_T34 l1_0 a2).f2), .int .i64 0]) ?_ 3 _ rfl; (with_reducible repeat (first | refine blk_drewN ?_ _ | refine blk_drew ?_ | refine blk_alloc ?_ _)); refine blk_put (cs := #[.int .i64 ((rd_T34 l1_0 a2).f0), .int .i64 ((rd_T34 l1_0 a2).f1), .int .i64 0, .int .i64 0]) ?_ 2 _ rfl; (with_reducible repeat (first | refine blk_drewN ?_ _ | refine blk_drew ?_ | refine blk_alloc ?_ _)); refine blk_put (cs := #[.int .i64 ((rd_T34 l1_0 a2).f0), .int .i64 0, .int .i64 0, .int .i64 0]) ?_ 1 _ rfl; (with_reducible repeat (first | refine blk_drewN ?_ _ | refine blk_drew ?_ | refine blk_alloc ?_ _)); refine blk_put (cs := #[.int .i64 0, .int .i64 0, .int .i64 0, .int .i64 0]) ?_ 0 _ rfl; (with_reducible repeat (first | refine blk_drewN ?_ _ | refine blk_drew ?_ | refine blk_alloc ?_ _)); exact BK284.out) hb); have n3_ := Aside0.mk (Kept.below (S := (fun k_ => P0_ k_)) (by repeat (first | (with_reducible first | exact HK.out | apply Kept.alloc | apply Kept.drewN | apply Kept.drew | refine Kept.setCell ?_ (.inr GW282.out) _ | refine Kept.setCell ?_ (.inr GW284.out) _) | exact HK.out)) hb); have n4_ := Aside0.mk (below_step (bw HB.out) hb); clear HO0 BK282 BK284 HK HB; have HO0 := n0_; have BK282 := n1_; have BK284 := n2_; have HK := n3_; have HB := n4_; clear n0_ n1_ n2_ n3_ n4_; (try clear hb); (try clear hb2); (try clear hk); (try clear hi)) | (at_builtin; refine Go.Proofs.Ytkckdibalopagaa.Base.print_append_str_at (w0 := w0) w0.heap.size rfl (.tmp 23) _ 22 9 5 rfl Try.underlying22 Try.underlying9 info5 u9000_ l0 t285 rfl rfl ?aO ?aB ?aS ?aL ?_; (case aB => exact (bw HB.out)); (case aO => exact (Kd.own_of_R (rl HO0.out))); (case aS => exact (below_size (bw HB.out))); (case aL => have := LMc7.out; omega); intro v288 w46 ho0 hb hg hat; have ho := Kd.R_of_own (h1 := fun _ => rfl) (ok := (fun k_ => (P0_ k_ ∨ w.heap.size ≤ k_))) ho0 (Go.Proofs.Ytkckdibalopagaa.Base.ok_at (S := (fun k_ => P0_ k_)) hat (by repeat (first | (with_reducible first | exact HK.out | apply Kept.alloc | apply Kept.drewN | apply Kept.drew | refine Kept.setCell ?_ (.inr GW282.out) _ | refine Kept.setCell ?_ (.inr GW284.out) _) | exact HK.out)) HO0.out.1); clear ho0; rw [← Ny287.out] at ho; change Kd.R (Kd.int .u8) 5 w46 w0.heap.size (fun k_ => (P0_ k_ ∨ w.heap.size ≤ k_)) v288 y287 at ho; have n0_ := Aside0.mk (blk_grown (g := gb282) (o := .cells #[.slice (some ad283) l1_0.length c1_0] 26 (0, 0)) (bl BK282.out) hg (Kd.R_ne HO0.out BK282.out (by decide))); have n1_ := Aside0.mk (blk_grown (g := gb284) (o := .cells #[.int .i64 ((rd_T34 l1_0 a2).f0), .int .i64 ((rd_T34 l1_0 a2).f1), .int .i64 ((rd_T34 l1_0 a2).f2), .int .i64 ((rd_T34 l1_0 a2).f3)] 34 (0, 0)) (bl BK284.out) hg (Kd.R_ne HO0.out BK284.out (by decide))); have n2_ := Aside0.mk (hb); have n3_ := Aside0.mk (Kept.of_grown (S := (fun k_ => P0_ k_)) hg (by repeat (first | (with_reducible first | exact HK.out | apply Kept.alloc | apply Kept.drewN | apply Kept.drew | refine Kept.setCell ?_ (.inr GW282.out) _ | refine Kept.setCell ?_ (.inr GW284.out) _) | exact HK.out)) (fun k_ e_ => (HO0.out.1 k_ e_))); have n4_ := Aside0.mk (ho); clear BK282 BK284 HB HK HO0; have BK282 := n0_; have BK284 := n1_; have HB := n2_; have HK := n3_; have HO289 := n4_; clear n0_ n1_ n2_ n3_ n4_ ho hb hg hat; have hcz47_0 : w46.cell? ⟨gb284, 0, none⟩ = some (.int .i64 ((rd_T34 l1_0 a2).f0)) := (blk_cell BK284.out 0).trans rfl; have hcz47_1 : w46.cell? ⟨gb284, 1, none⟩ = some (.int .i64 ((rd_T34 l1_0 a2).f1)) := (blk_cell BK284.out 1).trans rfl; have hcz47_2 : w46.cell? ⟨gb284, 2, none⟩ = some (.int .i64 ((rd_T34 l1_0 a2).f2)) := (blk_cell BK284.out 2).trans rfl; have hcz47_3 : w46.cell? ⟨gb284, 3, none⟩ = some (.int .i64 ((rd_T34 l1_0 a2).f3)) := (blk_cell BK284.out 3).trans rfl; have hfz47_0 := blk_frozen BK284.out 0; have hfz47_1 := blk_frozen BK284.out 1; have hfz47_2 := blk_frozen BK284.out 2; have hfz47_3 := blk_frozen BK284.out 3; have hcz48_0 : w46.cell? ⟨gb282, 0, none⟩ = some (.slice (some ad283) l1_0.length c1_0) := (blk_cell BK282.out 0).trans rfl; have hfz48_0 := blk_frozen BK282.out 0; obtain ⟨Ao49, co49, eo49⟩ := Kd.R_slice HO289.out; subst eo49) | ((with_reducible refine gate_callee (f := 89) rfl ?_); refine goesL_ (some 42) rfl rfl Try.func89 (by kernel_rfl) rfl #[.slice Ao49 y287.length co49, .agg #[.slice (some ad283) l1_0.length c1_0], .int .i64 ((rd_T34 l1_0 a2).f2)] rfl ar ?_; (with_reducible refine (ih k (by omega) (fun k_ => some k_ = (.slice Ao49 y287.length co49 : Value).ownBlock) (.slice Ao49 y287.length co49) y287 _ _ l1_0 ((rd_T34 l1_0 a2).f2) t295 w0 _ ?side1 ?side2 ?side3 ?side4 A21.out).mono ?_); (case side1 => exact bw HB.out); (case side2 => exact Kd.R_tight rfl HO289.out); (case side3 => exact Kd.C_kept_call HR1_0.out (by repeat (first | (with_reducible first | exact HK.out | apply Kept.alloc | apply Kept.drewN | apply Kept.drew | refine Kept.setCell ?_ (.inr GW282.out) _ | refine Kept.setCell ?_ (.inr GW284.out) _) | exact HK.out)) (fun k_ hs_ => (fun e_ => (HO289.out.1 k_ e_.symm)) hs_)); (case side4 => exact HC1_0.out); rintro e w50 ⟨v296, rfl, ho0, hb, hkp⟩; refine ⟨_, rfl, ?_⟩; have n0_ := Aside0.mk (blk_kept (bl BK282.out) hkp (fun hs_ => (fun e_ => (Kd.R_ne HO289.out BK282.out (by decide)) e_) hs_)); have n1_ := Aside0.mk (blk_kept (bl BK284.out) hkp (fun hs_ => (fun e_ => (Kd.R_ne HO289.out BK284.out (by decide)) e_) hs_)); have n2_ := Aside0.mk (Kd.R_mono (ok' := fun k_ => (P0_ k_ ∨ w.heap.size ≤ k_)) ho0 (fun k_ hk_ => Or.elim hk_ (fun hs_ => (HO289.out.1 k_ (hs_).symm)) (fun hn_ => (.inr (Nat.le_trans (by first | exact HK.out.1 | exact (show Kept w _ (fun k_ => P0_ k_) from by repeat (first | (with_reducible first | exact HK.out | apply Kept.alloc | apply Kept.drewN | apply Kept.drew | refine Kept.setCell ?_ (.inr GW282.out) _ | refine Kept.setCell ?_ (.inr GW284.out) _) | exact HK.out)).1) hn_))))); have n3_ := Aside0.mk (Kept.then_ (S := (fun k_ => P0_ k_)) (by repeat (first | (with_reducible first | exact HK.out | apply Kept.alloc | apply Kept.drewN | apply Kept.drew | refine Kept.setCell ?_ (.inr GW282.out) _ | refine Kept.setCell ?_ (.inr GW284.out) _) | exact HK.out)) hkp (fun k_ hs_ => (fun e_ => (HO289.out.1 k_ e_.symm)) hs_)); have n4_ := Aside0.mk (hb); clear BK282 BK284 HK HB HO289; have BK282 := n0_; have BK284 := n1_; have HO297 := n2_; have HK := n3_; have HB := n4_; clear n0_ n1_ n2_ n3_ n4_; (try clear hb); (try clear hkp); (try clear ho0); have hcz51_0 : w50.cell? ⟨gb284, 0, none⟩ = some (.int .i64 ((rd_T34 l1_0 a2).f0)) := (blk_cell BK284.out 0).trans rfl; have hcz51_1 : w50.cell? ⟨gb284, 1, none⟩ = some (.int .i64 ((rd_T34 l1_0 a2).f1)) := (blk_cell BK284.out 1).trans rfl; have hcz51_2 : w50.cell? ⟨gb284, 2, none⟩ = some (.int .i64 ((rd_T34 l1_0 a2).f2)) := (blk_cell BK284.out 2).trans rfl; have hcz51_3 : w50.cell? ⟨gb284, 3, none⟩ = some (.int .i64 ((rd_T34 l1_0 a2).f3)) := (blk_cell BK284.out 3).trans rfl; have hfz51_0 := blk_frozen BK284.out 0; have hfz51_1 := blk_frozen BK284.out 1; have hfz51_2 := blk_frozen BK284.out 2; have hfz51_3 := blk_frozen BK284.out 3) | ((with_reducible refine gate_callee (f := 87) rfl ?_); refine goesL_ (some 45) rfl rfl Try.func87 (by kernel_rfl) rfl #[.int .i64 ((rd_T34 l1_0 a2).f0)] rfl ar ?_; (with_reducible refine (impl_hasB.calls ((rd_T34 l1_0 a2).f0) false _ A22.out).mono ?_); rintro e w' ⟨rfl, ⟨nd, rfl⟩⟩; refine ⟨_, rfl, ?_⟩))
      go_ret
      exact ⟨_, by first | rfl | (simp [errW_none, errW_some] <;> rfl) | (simp [*, errW_none, errW_some] <;> rfl), by (with_reducible repeat (first | apply Kd.R_alloc | apply Kd.R_drewN | apply Kd.R_drew)); exact HO297.out, bw HB.out, by repeat (first | (with_reducible first | exact HK.out | apply Kept.alloc | apply Kept.drewN | apply Kept.drew | refine Kept.setCell ?_ (.inr GW282.out) _ | refine Kept.setCell ?_ (.inr GW284.out) _) | exact HK.out)⟩
   ·rw [if_neg c7] at H
    exact absurd H (by simp)
  ·rw [if_neg c5] at H
   exact absurd H (by simp)
 ·rw [if_neg c4] at H
  exact absurd H (by simp)

/-! ### impl_TermText: function 32 -/
def impl_TermText.f (k : Nat) (l0_0 : List (S34)) (a1 : Int) : Option (ByteArray × Bool) := (impl_SizeOf.f k l0_0 a1).bind fun t303 => ((impl_within.f t303 1 2000).bind fun t304 => (if t304 = true then ((impl_termBytes.f k ([] : List Int) l0_0 a1).bind fun t305 => (some (strOfNums t305, true))) else (some ((⟨#[]⟩ : ByteArray), false))))
set_option maxHeartbeats 8000000 in
set_option maxRecDepth 100000 in
theorem impl_TermText.calls (k : Nat) (A0_0 : Option Addr) (c0_0 : Nat) (l0_0 : List (S34)) (a1 : Int) (r1 : ByteArray) (r2 : Bool) (w : World) (hr0_0 : Kd.C k34 w A0_0 l0_0.length l0_0) (hc0_0 : l0_0.length ≤ c0_0) (h : impl_TermText.f k l0_0 a1 = some (r1, r2)) :
  Calls Try.prog 32 #[.agg #[.slice A0_0 l0_0.length c0_0], .int .i64 a1] w fun e w' => e = .returned (.tuple #[.string r1, .bool r2]) ∧ Below w.heap.size w w' := by
 have hu26 := Try.underlying26
 have HR0_0 := Aside0.mk hr0_0
 have HC0_0 := Aside0.mk hc0_0
 clear hr0_0 hc0_0
 have HB := Aside0.mk (Below.refl w.heap.size w)
 have H : ((impl_SizeOf.f k l0_0 a1).bind fun t303 => ((impl_within.f t303 1 2000).bind fun t304 => (if t304 = true then ((impl_termBytes.f k ([] : List Int) l0_0 a1).bind fun t305 => (some (strOfNums t305, true))) else (some ((⟨#[]⟩ : ByteArray), false))))) = some (r1, r2) := h
 clear h
 replace H := Option.bind_eq_some_iff.mp H
 obtain ⟨t303, A30, H⟩ := H
 replace H : ((impl_within.f t303 1 2000).bind fun t304 => (if t304 = true then ((impl_termBytes.f k ([] : List Int) l0_0 a1).bind fun t305 => (some (strOfNums t305, true))) else (some ((⟨#[]⟩ : ByteArray), false)))) = some (r1, r2) := H
 have A3 := Aside0.mk A30
 clear A30
 replace H := Option.bind_eq_some_iff.mp H
 obtain ⟨t304, A40, H⟩ := H
 replace H : (if t304 = true then ((impl_termBytes.f k ([] : List Int) l0_0 a1).bind fun t305 => (some (strOfNums t305, true))) else (some ((⟨#[]⟩ : ByteArray), false))) = some (r1, r2) := H
 have A4 := Aside0.mk A40
 clear A40
 by_cases c5 : t304 = true
 ·subst c5
  have H1 : ((impl_termBytes.f k ([] : List Int) l0_0 a1).bind fun t305 => (some (strOfNums t305, true))) = some (r1, r2) := by rw [if_pos rfl] at H; exact H
  clear H
  have H := H1
  clear H1
  replace H := Option.bind_eq_some_iff.mp H
  obtain ⟨t305, A60, H⟩ := H
  replace H : (some (strOfNums t305, true)) = some (r1, r2) := H
  have A6 := Aside0.mk A60
  clear A60
  simp only [Option.some.injEq, Prod.mk.injEq] at H
  obtain ⟨rfl, rfl⟩ := H
  go_enter Try.func32, Try.ntmps32
  go_wp2_with (first | ((with_reducible refine gate_dst (N := 2) rfl ?_); refine box_event ?hg (N := 2) ?hd (cs := #[.slice A0_0 l0_0.length c0_0]) (t := 26) ?hr ?_; (case hd => rfl); (case hg => rfl); (case hr => first | (go_simp; done) | (go_simp; rfl)); intro gb302 hg w7 hbox hb; have n0_ := Aside0.mk (below_step (bw HB.out) hb); have n1_ := Aside0.mk (hbox); have n2_ := Aside0.mk ((by rw [hg]; exact (below_size (bw HB.out)) : w.heap.size ≤ gb302)); have n3_ := Aside0.mk ((by rw [hg]; exact (below_size (bw HB.out)) : w.heap.size ≤ gb302)); clear HB; have HB := n0_; have BK302 := n1_; have GW302 := n2_; have GE302 := n3_; clear n0_ n1_ n2_ n3_ hb hbox hg; have hcz8_0 : w7.cell? ⟨gb302, 0, none⟩ = some (.slice A0_0 l0_0.length c0_0) := (blk_cell BK302.out 0).trans rfl; have hfz8_0 := blk_frozen BK302.out 0) | ((with_reducible refine gate_callee (f := 30) rfl ?_); refine goesL_ (some 8) rfl rfl Try.func30 (by kernel_rfl) rfl #[.agg #[.slice A0_0 l0_0.length c0_0], .int .i64 a1] rfl ar ?_; (with_reducible refine (impl_SizeOf.calls k _ _ l0_0 a1 t303 _ ?side1 ?side2 A3.out).mono ?_); (case side1 => exact cl (Kd.C_below HR0_0.out HB.out)); (case side2 => exact HC0_0.out); rintro e w9 ⟨rfl, hb⟩; refine ⟨_, rfl, ?_⟩; have n0_ := Aside0.mk (blk_below (g := gb302) (o := .cells #[.slice A0_0 l0_0.length c0_0] 26 (0, 0)) (bl BK302.out) hb); have n1_ := Aside0.mk (below_step (bw HB.out) hb); clear BK302 HB; have BK302 := n0_; have HB := n1_; clear n0_ n1_; (try clear hb); (try clear hb2); (try clear hk); (try clear hi)) | ((with_reducible refine gate_callee (f := 75) rfl ?_); refine goesL_ (some 9) rfl rfl Try.func75 (by kernel_rfl) rfl #[.int .i64 t303, .int .i64 1, .int .i64 2000] rfl ar ?_; (with_reducible refine (impl_within.calls t303 1 2000 true _ A4.out).mono ?_); rintro e w' ⟨rfl, ⟨nd, rfl⟩⟩; refine ⟨_, rfl, ?_⟩; have hcz10_0 : w9.cell? ⟨gb302, 0, none⟩ = some (.slice A0_0 l0_0.length c0_0) := (blk_cell BK302.out 0).trans rfl; have hfz10_0 := blk_frozen BK302.out 0) | ((with_reducible refine gate_callee (f := 89) rfl ?_); refine goesL_ (some 13) rfl rfl Try.func89 (by kernel_rfl) rfl #[.slice none 0 0, .agg #[.slice A0_0 l0_0.length c0_0], .int .i64 a1] rfl ar ?_; (refine (impl_termBytes.calls k (fun k_ => some k_ = (.slice none 0 0 : Value).ownBlock) (.slice none 0 0) ([] : List Int) _ _ l0_0 a1 t305 w _ ?side1 ?side2 ?side3 ?side4 A6.out).mono ?_); (case side1 => exact bw HB.out); (case side2 => exact Kd.R_nil _ _ _ _ _); (case side3 => exact Kd.C_kept_came k34_heap HR0_0.out (bw HB.out) (fun k_ hs_ => (fun e_ => by simp [Value.ownBlock] at e_) hs_)); (case side4 => exact HC0_0.out); rintro e w11 ⟨v306, rfl, ho0, hb, hkp⟩; refine ⟨_, rfl, ?_⟩; have n0_ := Aside0.mk (blk_kept (bl BK302.out) hkp (fun hs_ => (fun e_ => by simp [Value.ownBlock] at e_) hs_)); have n1_ := Aside0.mk (Kd.R_mono (ok' := fun k_ => True) ho0 (fun k_ hk_ => trivial)); have n2_ := Aside0.mk (hb); clear BK302 HB; have BK302 := n0_; have HO307 := n1_; have HB := n2_; clear n0_ n1_ n2_; (try clear hb); (try clear hkp); (try clear ho0); have hcv12 := own_string (P := Try.prog) Try.underlying22 Try.underlying5 Try.underlying9 (Kd.own_of_R HO307.out)))
  go_ret2
  exact ⟨by first | rfl | (simp [errW_none, errW_some] <;> rfl) | (simp [*, errW_none, errW_some] <;> rfl), bw HB.out⟩
 ·replace c5 := Bool.eq_false_iff.mpr c5
  subst c5
  have H1 : (some ((⟨#[]⟩ : ByteArray), false)) = some (r1, r2) := by rw [if_neg (show ¬ (false = true) by decide)] at H; exact H
  clear H
  have H := H1
  clear H1
  simp only [Option.some.injEq, Prod.mk.injEq] at H
  obtain ⟨rfl, rfl⟩ := H
  go_enter Try.func32, Try.ntmps32
  go_wp2_with (first | ((with_reducible refine gate_dst (N := 2) rfl ?_); refine box_event ?hg (N := 2) ?hd (cs := #[.slice A0_0 l0_0.length c0_0]) (t := 26) ?hr ?_; (case hd => rfl); (case hg => rfl); (case hr => first | (go_simp; done) | (go_simp; rfl)); intro gb302 hg w13 hbox hb; have n0_ := Aside0.mk (below_step (bw HB.out) hb); have n1_ := Aside0.mk (hbox); have n2_ := Aside0.mk ((by rw [hg]; exact (below_size (bw HB.out)) : w.heap.size ≤ gb302)); have n3_ := Aside0.mk ((by rw [hg]; exact (below_size (bw HB.out)) : w.heap.size ≤ gb302)); clear HB; have HB := n0_; have BK302 := n1_; have GW302 := n2_; have GE302 := n3_; clear n0_ n1_ n2_ n3_ hb hbox hg; have hcz14_0 : w13.cell? ⟨gb302, 0, none⟩ = some (.slice A0_0 l0_0.length c0_0) := (blk_cell BK302.out 0).trans rfl; have hfz14_0 := blk_frozen BK302.out 0) | ((with_reducible refine gate_callee (f := 30) rfl ?_); refine goesL_ (some 8) rfl rfl Try.func30 (by kernel_rfl) rfl #[.agg #[.slice A0_0 l0_0.length c0_0], .int .i64 a1] rfl ar ?_; (with_reducible refine (impl_SizeOf.calls k _ _ l0_0 a1 t303 _ ?side1 ?side2 A3.out).mono ?_); (case side1 => exact cl (Kd.C_below HR0_0.out HB.out)); (case side2 => exact HC0_0.out); rintro e w15 ⟨rfl, hb⟩; refine ⟨_, rfl, ?_⟩; have n0_ := Aside0.mk (blk_below (g := gb302) (o := .cells #[.slice A0_0 l0_0.length c0_0] 26 (0, 0)) (bl BK302.out) hb); have n1_ := Aside0.mk (below_step (bw HB.out) hb); clear BK302 HB; have BK302 := n0_; have HB := n1_; clear n0_ n1_; (try clear hb); (try clear hb2); (try clear hk); (try clear hi)) | ((with_reducible refine gate_callee (f := 75) rfl ?_); refine goesL_ (some 9) rfl rfl Try.func75 (by kernel_rfl) rfl #[.int .i64 t303, .int .i64 1, .int .i64 2000] rfl ar ?_; (with_reducible refine (impl_within.calls t303 1 2000 false _ A4.out).mono ?_); rintro e w' ⟨rfl, ⟨nd, rfl⟩⟩; refine ⟨_, rfl, ?_⟩))
  go_ret2
  exact ⟨by first | rfl | (simp [errW_none, errW_some] <;> rfl) | (simp [*, errW_none, errW_some] <;> rfl), bw HB.out⟩

/-! ### impl_copyArena: function 103 -/
def impl_copyArena.f (l0_0 : List (S34)) : Option ((List (S34))) := (some (([] : List (S34)) : List (S34))).bind fun y310 => (if y310.length + l0_0.length < 4398046511104 then (some (y310 ++ l0_0)) else (none))
set_option maxHeartbeats 8000000 in
set_option maxRecDepth 100000 in
theorem impl_copyArena.calls (A0_0 : Option Addr) (c0_0 : Nat) (l0_0 : List (S34)) (r : List (S34)) (w : World) (hr0_0 : Kd.C k34 w A0_0 l0_0.length l0_0) (hc0_0 : l0_0.length ≤ c0_0) (h : impl_copyArena.f l0_0 = some r) :
  Calls Try.prog 103 #[.agg #[.slice A0_0 l0_0.length c0_0]] w fun e w' => ∃ v0_ : Value, e = .returned (.agg #[v0_]) ∧ Kd.R k34 34 w' w.heap.size (fun _ => True) v0_ r ∧ Below w.heap.size w w' := by
 have hu26 := Try.underlying26
 have HR0_0 := Aside0.mk hr0_0
 have HC0_0 := Aside0.mk hc0_0
 clear hr0_0 hc0_0
 have HB := Aside0.mk (Below.refl w.heap.size w)
 have H : ((some (([] : List (S34)) : List (S34))).bind fun y310 => (if y310.length + l0_0.length < 4398046511104 then (some (y310 ++ l0_0)) else (none))) = some r := h
 clear h
 obtain ⟨y310, hy310⟩ : ∃ y_ : List (S34), y_ = (([] : List (S34))) := ⟨_, rfl⟩
 replace H : (if y310.length + l0_0.length < 4398046511104 then (some (y310 ++ l0_0)) else (none)) = some r := by first | (rw [hy310]; with_reducible exact H) | (have H2_ := (Option.bind_some _ _).symm.trans H; rw [hy310]; with_reducible exact H2_) | (have H2_ := (Option.bind_some _ _).symm.trans H; with_reducible exact H2_) | with_reducible exact H | (rw [hy310]; exact H) | exact H
 have Ny310 := Aside0.mk hy310
 clear hy310
 by_cases c2 : y310.length + l0_0.length < 4398046511104
 ·rw [if_pos c2] at H
  have LMc2 := Aside0.mk c2
  clear c2
  obtain ⟨y313, hy313⟩ : ∃ y_ : List (S34), y_ = (y310 ++ l0_0) := ⟨_, rfl⟩
  replace H : (some y313) = some r := by first | (rw [hy313]; with_reducible exact H) | (have H2_ := (Option.bind_some _ _).symm.trans H; rw [hy313]; with_reducible exact H2_) | (have H2_ := (Option.bind_some _ _).symm.trans H; with_reducible exact H2_) | with_reducible exact H | (rw [hy313]; exact H) | exact H
  have Ny313 := Aside0.mk hy313
  clear hy313
  obtain rfl := Option.some.inj H
  go_enter Try.func103, Try.ntmps103
  go_wp2_with (first | ((with_reducible refine gate_dst (N := 1) rfl ?_); refine box_event ?hg (N := 1) ?hd (cs := #[.slice A0_0 l0_0.length c0_0]) (t := 26) ?hr ?_; (case hd => rfl); (case hg => rfl); (case hr => first | (go_simp; done) | (go_simp; rfl)); intro gb308 hg w3 hbox hb; have n0_ := Aside0.mk (below_step (bw HB.out) hb); have n1_ := Aside0.mk (hbox); have n2_ := Aside0.mk ((by rw [hg]; exact (below_size (bw HB.out)) : w.heap.size ≤ gb308)); have n3_ := Aside0.mk ((by rw [hg]; exact (below_size (bw HB.out)) : w.heap.size ≤ gb308)); clear HB; have HB := n0_; have BK308 := n1_; have GW308 := n2_; have GE308 := n3_; clear n0_ n1_ n2_ n3_ hb hbox hg) | ((with_reducible refine gate_dst (N := 2) rfl ?_); refine box_event ?hg (N := 2) ?hd (cs := #[.slice none 0 0]) (t := 26) ?hr ?_; (case hd => rfl); (case hg => rfl); (case hr => first | (go_simp; done) | (go_simp; rfl)); intro gb309 hg w4 hbox hb; have n0_ := Aside0.mk (blk_below (g := gb308) (o := .cells #[.slice A0_0 l0_0.length c0_0] 26 (0, 0)) (bl BK308.out) hb); have n1_ := Aside0.mk (below_step (bw HB.out) hb); have n2_ := Aside0.mk (hbox); have n3_ := Aside0.mk ((by rw [hg]; exact (below_size (bw HB.out)) : w.heap.size ≤ gb309)); have n4_ := Aside0.mk ((by rw [hg]; exact (below_size (bw HB.out)) : w.heap.size ≤ gb309)); have n5_ := Aside0.mk ((by rw [hg]; exact Nat.ne_of_lt (blk_lt (g := gb308) (o := .cells #[.slice A0_0 l0_0.length c0_0] 26 (0, 0)) (bl BK308.out)) : gb308 ≠ gb309)); have n6_ := Aside0.mk ((by rw [hg]; exact Nat.ne_of_gt (blk_lt (g := gb308) (o := .cells #[.slice A0_0 l0_0.length c0_0] 26 (0, 0)) (bl BK308.out)) : gb309 ≠ gb308)); clear BK308 HB; have BK308 := n0_; have HB := n1_; have BK309 := n2_; have GW309 := n3_; have GE309 := n4_; have NB308_309 := n5_; have NB309_308 := n6_; clear n0_ n1_ n2_ n3_ n4_ n5_ n6_ hb hbox hg) | ((with_reducible refine gate_dst (N := 3) rfl ?_); refine Kd.R_lit k34 _ 34 ?hg (N := 3) ?hd (xs := ([] : List (S34))) (inner := []) (ok := fun _ => True) (okp := fun _ => True) ?hr ?hp (fun _ hk => hk) trivial (Below.refl _ _) (Nat.le_refl _) (by simp) ?_; (case hd => rfl); (case hg => rfl); (case hr => first | (go_simp; done) | (go_simp; rfl)); (case hp => exact (Reps.none _ _)); intro v311 w5 ho6 hb hg_ hnew_; clear hg_ hnew_; (first | rw [← Ny310.out] at ho6 | (simp only [Int.reduceToNat] at ho6; rw [← Ny310.out] at ho6)); have n0_ := Aside0.mk (Kd.R_lower ho6 (below_size (bw HB.out))); have n1_ := Aside0.mk (blk_below (g := gb308) (o := .cells #[.slice A0_0 l0_0.length c0_0] 26 (0, 0)) (bl BK308.out) hb); have n2_ := Aside0.mk (blk_below (g := gb309) (o := .cells #[.slice none 0 0] 26 (0, 0)) (bl BK309.out) hb); have n3_ := Aside0.mk (below_step (bw HB.out) hb); clear BK308 BK309 HB; have HO312 := n0_; have BK308 := n1_; have BK309 := n2_; have HB := n3_; clear n0_ n1_ n2_ n3_ hb ho6; have hnb7 := NB308_309.out; have hnc7 := NB309_308.out; have hcz8_0 : w5.cell? ⟨gb308, 0, none⟩ = some (.slice A0_0 l0_0.length c0_0) := (blk_cell BK308.out 0).trans rfl; have hfz8_0 := blk_frozen BK308.out 0) | ((with_reducible refine gate_builtin (b := .append) (xs := #[.tmp 3, .tmp 5]) rfl ?_); at_builtin; refine Kd.R_append_rows k34 (w0 := w) w.heap.size rfl (.tmp 3) (.tmp 5) 24 34 (.agg #[(.int .i64 0), (.int .i64 0), (.int .i64 0), (.int .i64 0)]) 32 rfl Try.underlying24 info34 rfl (by decide) (by omega) v311 y310 l0_0 _ _ _ (fun _ => True) (fun _ => False) rfl rfl ?aO ?aR (fun _ _ h => h) (fun _ h => h.elim) ?aF ?aB ?aS ?aL ?_; (case aR => repeat (first | exact (Kd.C_below HR0_0.out HB.out) | (with_reducible refine Kd.C_alloc ?_ _) | (with_reducible refine Kd.C_drewN ?_ _) | (with_reducible refine Kd.C_drew ?_))); (case aB => exact (bw HB.out)); (case aF => exact (fun _ _ => trivial)); (case aO => exact (rl HO312.out)); (case aS => exact (below_size (bw HB.out))); (case aL => have := LMc2.out; omega); intro v314 w9 ho hb hg hat; rw [← Ny313.out] at ho; have n0_ := Aside0.mk (blk_grown (g := gb308) (o := .cells #[.slice A0_0 l0_0.length c0_0] 26 (0, 0)) (bl BK308.out) hg (Kd.R_ne HO312.out BK308.out (by decide))); have n1_ := Aside0.mk (blk_grown (g := gb309) (o := .cells #[.slice none 0 0] 26 (0, 0)) (bl BK309.out) hg (Kd.R_ne HO312.out BK309.out (by decide))); have n2_ := Aside0.mk (hb); have n3_ := Aside0.mk (ho); clear BK308 BK309 HB HO312; have BK308 := n0_; have BK309 := n1_; have HB := n2_; have HO315 := n3_; clear n0_ n1_ n2_ n3_ ho hb hg hat; obtain ⟨Ao10, co10, eo10⟩ := Kd.R_slice HO315.out; subst eo10; have hcz11_0 : w9.cell? ⟨gb309, 0, none⟩ = some (.slice none 0 0) := (blk_cell BK309.out 0).trans rfl; have hfz11_0 := blk_frozen BK309.out 0))
  refine bodyPost_ret (results_cell_row rfl _ _ gb309 26 #[.slice Ao10 y313.length co10] (0, 0) _ rfl (by (with_reducible repeat (first | refine blk_drewN ?_ _ | refine blk_drew ?_ | refine blk_alloc ?_ _)); refine blk_put (cs := #[.slice none 0 0]) ?_ 0 _ rfl; (with_reducible repeat (first | refine blk_drewN ?_ _ | refine blk_drew ?_ | refine blk_alloc ?_ _)); exact BK309.out) Try.underlying26 rfl (by kernel_rfl)) rfl ?_
  exact ⟨_, by first | rfl | (simp [errW_none, errW_some] <;> rfl) | (simp [*, errW_none, errW_some] <;> rfl), by (with_reducible repeat (first | apply Kd.R_alloc | apply Kd.R_drewN | apply Kd.R_drew)); exact Kd.R_mono (Kd.R_far (p := ⟨gb309, 0, none⟩) (Kd.R_types HO315.out BK309.out (by decide)) (fun _ hk => hk.2) (.slice Ao10 y313.length co10)) (fun _ hk => trivial), bw HB.out⟩
 ·rw [if_neg c2] at H
  exact absurd H (by simp)

-- NOT PRINTED: function 92 (impl_benchOf)

-- NOT PRINTED: function 94 (impl_bench_end)

-- NOT PRINTED: function 112 (impl_bench_put)

/-! ### impl_ReadVar: function 129 -/
mutual
def impl_ReadVar.l0 : Nat → ByteArray → Int → Int → Int → Option (Int × Int × Bool)
  | 0, _, _, _, _ => none
  | k + 1, x0, x1, x7, x8 => if x8 < 5 then (impl_ReadVar.j1 k x0 x1 x7 x8 (decide ((wrap64 (x1 + x8)) < (x0.size : Int)))) else (impl_ReadVar.j1 k x0 x1 x7 x8 false)
def impl_ReadVar.j1 : Nat → ByteArray → Int → Int → Int → Bool → Option (Int × Int × Bool)
  | 0, _, _, _, _, _ => none
  | k + 1, x0, x1, x7, x8, x24 => if x24 = true then (if 0 ≤ (wrap64 (x1 + x8)) then (if (wrap64 (x1 + x8)) < (x0.size : Int) then (if 0 ≤ (wrap64 (7 * x8)) then (if (wrap64 (bt x0 (wrap64 (x1 + x8)))) > 127 then (impl_ReadVar.l0 k x0 x1 (wrap64 (x7 + (shl .i64 (Int.tmod (wrap64 (bt x0 (wrap64 (x1 + x8)))) 128) (wrap64 (7 * x8))))) (wrap64 (x8 + 1))) else (if x8 > 0 then (if (wrap64 (bt x0 (wrap64 (x1 + x8)))) = 0 then (some (0, 0, false)) else (if (wrap64 (x7 + (shl .i64 (Int.tmod (wrap64 (bt x0 (wrap64 (x1 + x8)))) 128) (wrap64 (7 * x8))))) > 1000000000 then (some (0, 0, false)) else (some (wrap64 (x7 + (shl .i64 (Int.tmod (wrap64 (bt x0 (wrap64 (x1 + x8)))) 128) (wrap64 (7 * x8)))), wrap64 ((wrap64 (x1 + x8)) + 1), true)))) else (if (wrap64 (x7 + (shl .i64 (Int.tmod (wrap64 (bt x0 (wrap64 (x1 + x8)))) 128) (wrap64 (7 * x8))))) > 1000000000 then (some (0, 0, false)) else (some (wrap64 (x7 + (shl .i64 (Int.tmod (wrap64 (bt x0 (wrap64 (x1 + x8)))) 128) (wrap64 (7 * x8)))), wrap64 ((wrap64 (x1 + x8)) + 1), true))))) else (none)) else (none)) else (none)) else (some (0, 0, false))
end
def impl_ReadVar.f (k : Nat) (a0 : ByteArray) (a1 : Int) : Option (Int × Int × Bool) := (impl_within.f a1 0 (a0.size : Int)).bind fun t333 => (if t333 = true then (impl_ReadVar.l0 k a0 a1 0 0) else (some (0, 0, false)))
set_option maxHeartbeats 8000000 in
set_option maxRecDepth 100000 in
theorem impl_ReadVar.calls (k : Nat) (a0 : ByteArray) (a1 : Int) (r1 : Int) (r2 : Int) (r3 : Bool) (w : World) (h : impl_ReadVar.f k a0 a1 = some (r1, r2, r3)) :
  Calls Try.prog 129 #[.string a0, .int .i64 a1] w fun e w' => e = .returned (.tuple #[.int .i64 r1, .int .i64 r2, .bool r3]) ∧ Drawn0 w w' := by
 have H : ((impl_within.f a1 0 (a0.size : Int)).bind fun t333 => (if t333 = true then (impl_ReadVar.l0 k a0 a1 0 0) else (some (0, 0, false)))) = some (r1, r2, r3) := h
 clear h
 replace H := Option.bind_eq_some_iff.mp H
 obtain ⟨t333, A30, H⟩ := H
 replace H : (if t333 = true then (impl_ReadVar.l0 k a0 a1 0 0) else (some (0, 0, false))) = some (r1, r2, r3) := H
 have A3 := Aside0.mk A30
 clear A30
 by_cases c4 : t333 = true
 ·subst c4
  have H1 : (impl_ReadVar.l0 k a0 a1 0 0) = some (r1, r2, r3) := by rw [if_pos rfl] at H; exact H
  clear H
  have H := H1
  clear H1
  have H' := Aside0.mk H
  clear H
  go_enter Try.func129, Try.ntmps129
  go_wp2_with (first | ((with_reducible refine gate_callee (f := 75) rfl ?_); refine goesL_ (some 13) rfl rfl Try.func75 (by kernel_rfl) rfl #[.int .i64 a1, .int .i64 0, .int .i64 (a0.size : Int)] rfl ar ?_; (with_reducible refine (impl_within.calls a1 0 (a0.size : Int) true _ A3.out).mono ?_); rintro e w' ⟨rfl, ⟨nd, rfl⟩⟩; refine ⟨_, rfl, ?_⟩))
  go_loopg [7, 8] k (fun kq v7 v8 w' => ∃ (x7_1 : Int) (x8_1 : Int), v7 = .int .i64 x7_1 ∧ v8 = .int .i64 x8_1 ∧ Aside0 (impl_ReadVar.l0 kq a0 a1 x7_1 x8_1 = some (r1, r2, r3)) ∧ Aside0 (kq ≤ k) ∧ Drawn0 w w')
  case atStart => exact ⟨(0), (0), (by first | rfl | (simp; done) | (simp [*]; done)), (by first | rfl | (simp; done) | (simp [*]; done)), H', ⟨Nat.le_refl _⟩, by repeat (first | exact Drawn0.refl _ | apply Drawn0.step)⟩
  case round =>
   clear H'
   try clear c1
   try clear p2
   try clear c4
   obtain ⟨x7_1, x8_1, rfl, rfl, HA, HK1, ⟨m1, rfl⟩⟩ := hrel
   cases gk with
   | zero => exact absurd HA.out (by simp [impl_ReadVar.l0])
   | succ k1 =>
    have H := HA.out
    clear HA
    simp only [impl_ReadVar.l0] at H
    have HC5 := Aside0.mk H
    clear H
    go_upto_region 5 with (fail)
    go_cut [24] (fun v24 wc => ∃ (kq : Nat) (x24_4 : Bool), v24 = .bool x24_4 ∧ Aside0 (impl_ReadVar.j1 kq a0 a1 x7_1 x8_1 x24_4 = some (r1, r2, r3)) ∧ Aside0 (kq ≤ k1) ∧ Drawn0 w wc)
    case first =>
     have H := HC5.out
     clear HC5
     by_cases c6 : x8_1 < 5
     ·rw [if_pos c6] at H
      have c6b0 : decide (x8_1 < 5) = true := decide_eq_true c6
      clear c6
      (first | rw [c6b0] | (simp only [i64_w, i32_w]; rw [c6b0]) | skip)
      have H' := Aside0.mk H
      clear H
      go_wp2
      go_meet
      case rel => exact ⟨_, (decide ((wrap64 (a1 + x8_1)) < (a0.size : Int))), (by first | rfl | (simp; done) | (simp [*]; done)), H', ⟨by have := HK1.out; first | omega | exact Nat.le_refl _⟩, by repeat (first | exact Drawn0.refl _ | apply Drawn0.step)⟩
     ·rw [if_neg c6] at H
      have c6b0 : decide (x8_1 < 5) = false := decide_eq_false c6
      clear c6
      (first | rw [c6b0] | (simp only [i64_w, i32_w]; rw [c6b0]) | skip)
      have H' := Aside0.mk H
      clear H
      go_wp2
      go_meet
      case rel => exact ⟨_, (false), (by first | rfl | (simp; done) | (simp [*]; done)), H', ⟨by have := HK1.out; first | omega | exact Nat.le_refl _⟩, by repeat (first | exact Drawn0.refl _ | apply Drawn0.step)⟩
    case rest =>
     clear HC5
     try clear c1
     try clear p2
     try clear c4
     try clear c6
     try clear c6b0
     try clear p6
     try clear p2
     obtain ⟨kq, x24_4, rfl, HA, HJ4, ⟨mc4, rfl⟩⟩ := hcut
     cases kq with
     | zero => exact absurd HA.out (by simp [impl_ReadVar.j1])
     | succ kj4 =>
      have H := HA.out
      clear HA
      simp only [impl_ReadVar.j1] at H
      by_cases c7 : x24_4 = true
      ·subst c7
       have H1 : (if 0 ≤ (wrap64 (a1 + x8_1)) then (if (wrap64 (a1 + x8_1)) < (a0.size : Int) then (if 0 ≤ (wrap64 (7 * x8_1)) then (if (wrap64 (bt a0 (wrap64 (a1 + x8_1)))) > 127 then (impl_ReadVar.l0 kj4 a0 a1 (wrap64 (x7_1 + (shl .i64 (Int.tmod (wrap64 (bt a0 (wrap64 (a1 + x8_1)))) 128) (wrap64 (7 * x8_1))))) (wrap64 (x8_1 + 1))) else (if x8_1 > 0 then (if (wrap64 (bt a0 (wrap64 (a1 + x8_1)))) = 0 then (some (0, 0, false)) else (if (wrap64 (x7_1 + (shl .i64 (Int.tmod (wrap64 (bt a0 (wrap64 (a1 + x8_1)))) 128) (wrap64 (7 * x8_1))))) > 1000000000 then (some (0, 0, false)) else (some (wrap64 (x7_1 + (shl .i64 (Int.tmod (wrap64 (bt a0 (wrap64 (a1 + x8_1)))) 128) (wrap64 (7 * x8_1)))), wrap64 ((wrap64 (a1 + x8_1)) + 1), true)))) else (if (wrap64 (x7_1 + (shl .i64 (Int.tmod (wrap64 (bt a0 (wrap64 (a1 + x8_1)))) 128) (wrap64 (7 * x8_1))))) > 1000000000 then (some (0, 0, false)) else (some (wrap64 (x7_1 + (shl .i64 (Int.tmod (wrap64 (bt a0 (wrap64 (a1 + x8_1)))) 128) (wrap64 (7 * x8_1)))), wrap64 ((wrap64 (a1 + x8_1)) + 1), true))))) else (none)) else (none)) else (none)) = some (r1, r2, r3) := by rw [if_pos rfl] at H; exact H
       clear H
       have H := H1
       clear H1
       obtain ⟨ji8, hji8⟩ : ∃ j_ : Int, (wrap64 (a1 + x8_1)) = j_ := ⟨_, rfl⟩
       replace H : (if 0 ≤ (ji8) then (if (ji8) < (a0.size : Int) then (if 0 ≤ (wrap64 (7 * x8_1)) then (if (wrap64 (bt a0 (ji8))) > 127 then (impl_ReadVar.l0 kj4 a0 a1 (wrap64 (x7_1 + (shl .i64 (Int.tmod (wrap64 (bt a0 (ji8))) 128) (wrap64 (7 * x8_1))))) (wrap64 (x8_1 + 1))) else (if x8_1 > 0 then (if (wrap64 (bt a0 (ji8))) = 0 then (some (0, 0, false)) else (if (wrap64 (x7_1 + (shl .i64 (Int.tmod (wrap64 (bt a0 (ji8))) 128) (wrap64 (7 * x8_1))))) > 1000000000 then (some (0, 0, false)) else (some (wrap64 (x7_1 + (shl .i64 (Int.tmod (wrap64 (bt a0 (ji8))) 128) (wrap64 (7 * x8_1)))), wrap64 ((ji8) + 1), true)))) else (if (wrap64 (x7_1 + (shl .i64 (Int.tmod (wrap64 (bt a0 (ji8))) 128) (wrap64 (7 * x8_1))))) > 1000000000 then (some (0, 0, false)) else (some (wrap64 (x7_1 + (shl .i64 (Int.tmod (wrap64 (bt a0 (ji8))) 128) (wrap64 (7 * x8_1)))), wrap64 ((ji8) + 1), true))))) else (none)) else (none)) else (none)) = some (r1, r2, r3) := by first | (rw [hji8] at H; exact H) | (simp only [hji8] at H ⊢; exact H)
       have hji8w : (IntKind.i64.wrap (a1 + x8_1)) = ji8 := (i64_w _).trans hji8
       by_cases c9 : 0 ≤ (ji8)
       ·rw [if_pos c9] at H
        have c9b0 : decide (0 ≤ (ji8)) = true := decide_eq_true c9
        clear c9
        by_cases c10 : (ji8) < (a0.size : Int)
        ·rw [if_pos c10] at H
         have c10b0 : decide ((ji8) < (a0.size : Int)) = true := decide_eq_true c10
         clear c10
         obtain ⟨ji12, hji12⟩ : ∃ j_ : Int, (wrap64 (7 * x8_1)) = j_ := ⟨_, rfl⟩
         replace H : (if 0 ≤ (ji12) then (if (wrap64 (bt a0 (ji8))) > 127 then (impl_ReadVar.l0 kj4 a0 a1 (wrap64 (x7_1 + (shl .i64 (Int.tmod (wrap64 (bt a0 (ji8))) 128) (ji12)))) (wrap64 (x8_1 + 1))) else (if x8_1 > 0 then (if (wrap64 (bt a0 (ji8))) = 0 then (some (0, 0, false)) else (if (wrap64 (x7_1 + (shl .i64 (Int.tmod (wrap64 (bt a0 (ji8))) 128) (ji12)))) > 1000000000 then (some (0, 0, false)) else (some (wrap64 (x7_1 + (shl .i64 (Int.tmod (wrap64 (bt a0 (ji8))) 128) (ji12))), wrap64 ((ji8) + 1), true)))) else (if (wrap64 (x7_1 + (shl .i64 (Int.tmod (wrap64 (bt a0 (ji8))) 128) (ji12)))) > 1000000000 then (some (0, 0, false)) else (some (wrap64 (x7_1 + (shl .i64 (Int.tmod (wrap64 (bt a0 (ji8))) 128) (ji12))), wrap64 ((ji8) + 1), true))))) else (none)) = some (r1, r2, r3) := by first | (rw [hji12] at H; exact H) | (simp only [hji12] at H ⊢; exact H)
         have hji12w : (IntKind.i64.wrap (7 * x8_1)) = ji12 := (i64_w _).trans hji12
         by_cases c13 : 0 ≤ (ji12)
         ·rw [if_pos c13] at H
          have c13b0 := eq_true c13
          have c13b1 : decide (0 ≤ (ji12)) = true := decide_eq_true c13
          clear c13
          obtain ⟨ji14, hji14⟩ : ∃ j_ : Int, (shl .i64 (Int.tmod (wrap64 (bt a0 (ji8))) 128) (ji12)) = j_ := ⟨_, rfl⟩
          replace H : (if (wrap64 (bt a0 (ji8))) > 127 then (impl_ReadVar.l0 kj4 a0 a1 (wrap64 (x7_1 + (ji14))) (wrap64 (x8_1 + 1))) else (if x8_1 > 0 then (if (wrap64 (bt a0 (ji8))) = 0 then (some (0, 0, false)) else (if (wrap64 (x7_1 + (ji14))) > 1000000000 then (some (0, 0, false)) else (some (wrap64 (x7_1 + (ji14)), wrap64 ((ji8) + 1), true)))) else (if (wrap64 (x7_1 + (ji14))) > 1000000000 then (some (0, 0, false)) else (some (wrap64 (x7_1 + (ji14)), wrap64 ((ji8) + 1), true))))) = some (r1, r2, r3) := by first | (rw [hji14] at H; exact H) | (simp only [hji14] at H ⊢; exact H)
          have hji14_ : (IntKind.i64.wrap ((Int.tmod (wrap64 (bt a0 (ji8))) 128) * 2 ^ min (ji12).toNat 64)) = ji14 := hji14
          have hji14z : (ji12) ≤ 64 → (IntKind.i64.wrap ((Int.tmod (wrap64 (bt a0 (ji8))) 128) * 2 ^ (ji12).toNat)) = ji14 := shl_small hji14
          have hji14y : (wrap64 ((Int.tmod (wrap64 (bt a0 (ji8))) 128) * 2 ^ min (ji12).toNat 64)) = ji14 := (i64_w _).symm.trans hji14_
          have hji14x : (ji12) ≤ 64 → (wrap64 ((Int.tmod (wrap64 (bt a0 (ji8))) 128) * 2 ^ (ji12).toNat)) = ji14 := fun h_ => (i64_w _).symm.trans (hji14z h_)
          by_cases c15 : (wrap64 (bt a0 (ji8))) > 127
          ·rw [if_pos c15] at H
           have c15b0 : decide (127 < (wrap64 (bt a0 (ji8)))) = true := decide_eq_true c15
           clear c15
           have H' := Aside0.mk H
           clear H
           have p11 : 0 ≤ ((ji8) : Int) := oda
           have q11 : (ji8) < (a0.size : Int) := oda
           have hx11 := bt_at a0 (ji8)
           replace p11 := eq_true p11
           replace q11 := eq_true q11
           go_wp2
           go_roundg kj4
           case measure => have := HK1.out; have := HJ4.out; omega
           case rel => exact ⟨(wrap64 (x7_1 + (ji14))), (wrap64 (x8_1 + 1)), (by first | rfl | (simp; done) | (simp only [← hji14] <;> (first | rfl | simp)) | (simp [*]; done)), (by first | rfl | (simp; done) | (simp [*]; done)), H', ⟨by have := HK1.out; have := HJ4.out; omega⟩, by repeat (first | exact Drawn0.refl _ | apply Drawn0.step)⟩
          ·rw [if_neg c15] at H
           have c15b0 : decide (127 < (wrap64 (bt a0 (ji8)))) = false := decide_eq_false c15
           clear c15
           by_cases c16 : x8_1 > 0
           ·rw [if_pos c16] at H
            have c16b0 : decide (0 < x8_1) = true := decide_eq_true c16
            clear c16
            by_cases c17 : (wrap64 (bt a0 (ji8))) = 0
            ·rw [if_pos c17] at H
             have c17b0 : ((wrap64 (bt a0 (ji8))) == 0) = true := beq_iff_eq.mpr c17
             have c17b1 : ((wrap64 (bt a0 (ji8))) != 0) = false := bne_eq_false_iff_eq.mpr c17
             clear c17
             simp only [Option.some.injEq, Prod.mk.injEq] at H
             obtain ⟨rfl, rfl, rfl⟩ := H
             have p11 : 0 ≤ ((ji8) : Int) := oda
             have q11 : (ji8) < (a0.size : Int) := oda
             have hx11 := bt_at a0 (ji8)
             replace p11 := eq_true p11
             replace q11 := eq_true q11
             go_wp2
             go_ret3
             exact ⟨by first | rfl | (simp; done) | (simp only [← hji8, ← hji12, ← hji14] <;> (first | rfl | simp)) | (simp [*]; done), by repeat (first | exact Drawn0.refl _ | apply Drawn0.step)⟩
            ·rw [if_neg c17] at H
             have c17b0 : ((wrap64 (bt a0 (ji8))) == 0) = false := beq_eq_false_iff_ne.mpr c17
             have c17b1 : ((wrap64 (bt a0 (ji8))) != 0) = true := bne_iff_ne.mpr c17
             by_cases c18 : (wrap64 (x7_1 + (ji14))) > 1000000000
             ·rw [if_pos c18] at H
              have c18b0 : decide (1000000000 < (wrap64 (x7_1 + (ji14)))) = true := decide_eq_true c18
              clear c18
              simp only [Option.some.injEq, Prod.mk.injEq] at H
              obtain ⟨rfl, rfl, rfl⟩ := H
              have p11 : 0 ≤ ((ji8) : Int) := oda
              have q11 : (ji8) < (a0.size : Int) := oda
              have hx11 := bt_at a0 (ji8)
              replace p11 := eq_true p11
              replace q11 := eq_true q11
              go_wp2
              go_ret3
              exact ⟨by first | rfl | (simp; done) | (simp only [← hji8, ← hji12, ← hji14] <;> (first | rfl | simp)) | (simp [*]; done), by repeat (first | exact Drawn0.refl _ | apply Drawn0.step)⟩
             ·rw [if_neg c18] at H
              have c18b0 : decide (1000000000 < (wrap64 (x7_1 + (ji14)))) = false := decide_eq_false c18
              clear c18
              simp only [Option.some.injEq, Prod.mk.injEq] at H
              obtain ⟨rfl, rfl, rfl⟩ := H
              have p11 : 0 ≤ ((ji8) : Int) := oda
              have q11 : (ji8) < (a0.size : Int) := oda
              have hx11 := bt_at a0 (ji8)
              replace p11 := eq_true p11
              replace q11 := eq_true q11
              go_wp2
              go_ret3
              exact ⟨by first | rfl | (simp; done) | (simp only [← hji8, ← hji12, ← hji14] <;> (first | rfl | simp)) | (simp [*]; done), by repeat (first | exact Drawn0.refl _ | apply Drawn0.step)⟩
           ·rw [if_neg c16] at H
            have c16b0 : decide (0 < x8_1) = false := decide_eq_false c16
            clear c16
            by_cases c19 : (wrap64 (x7_1 + (ji14))) > 1000000000
            ·rw [if_pos c19] at H
             have c19b0 : decide (1000000000 < (wrap64 (x7_1 + (ji14)))) = true := decide_eq_true c19
             clear c19
             simp only [Option.some.injEq, Prod.mk.injEq] at H
             obtain ⟨rfl, rfl, rfl⟩ := H
             have p11 : 0 ≤ ((ji8) : Int) := oda
             have q11 : (ji8) < (a0.size : Int) := oda
             have hx11 := bt_at a0 (ji8)
             replace p11 := eq_true p11
             replace q11 := eq_true q11
             go_wp2
             go_ret3
             exact ⟨by first | rfl | (simp; done) | (simp only [← hji8, ← hji12, ← hji14] <;> (first | rfl | simp)) | (simp [*]; done), by repeat (first | exact Drawn0.refl _ | apply Drawn0.step)⟩
            ·rw [if_neg c19] at H
             have c19b0 : decide (1000000000 < (wrap64 (x7_1 + (ji14)))) = false := decide_eq_false c19
             clear c19
             simp only [Option.some.injEq, Prod.mk.injEq] at H
             obtain ⟨rfl, rfl, rfl⟩ := H
             have p11 : 0 ≤ ((ji8) : Int) := oda
             have q11 : (ji8) < (a0.size : Int) := oda
             have hx11 := bt_at a0 (ji8)
             replace p11 := eq_true p11
             replace q11 := eq_true q11
             go_wp2
             go_ret3
             exact ⟨by first | rfl | (simp; done) | (simp only [← hji8, ← hji12, ← hji14] <;> (first | rfl | simp)) | (simp [*]; done), by repeat (first | exact Drawn0.refl _ | apply Drawn0.step)⟩
         ·rw [if_neg c13] at H
          exact absurd H (by simp)
        ·rw [if_neg c10] at H
         exact absurd H (by simp)
       ·rw [if_neg c9] at H
        exact absurd H (by simp)
      ·replace c7 := Bool.eq_false_iff.mpr c7
       subst c7
       have H1 : (some (0, 0, false)) = some (r1, r2, r3) := by rw [if_neg (show ¬ (false = true) by decide)] at H; exact H
       clear H
       have H := H1
       clear H1
       simp only [Option.some.injEq, Prod.mk.injEq] at H
       obtain ⟨rfl, rfl, rfl⟩ := H
       go_wp2
       go_ret3
       exact ⟨by first | rfl | (simp; done) | (simp [*]; done), by repeat (first | exact Drawn0.refl _ | apply Drawn0.step)⟩
 ·replace c4 := Bool.eq_false_iff.mpr c4
  subst c4
  have H1 : (some (0, 0, false)) = some (r1, r2, r3) := by rw [if_neg (show ¬ (false = true) by decide)] at H; exact H
  clear H
  have H := H1
  clear H1
  simp only [Option.some.injEq, Prod.mk.injEq] at H
  obtain ⟨rfl, rfl, rfl⟩ := H
  go_enter Try.func129, Try.ntmps129
  go_wp2_with (first | ((with_reducible refine gate_callee (f := 75) rfl ?_); refine goesL_ (some 13) rfl rfl Try.func75 (by kernel_rfl) rfl #[.int .i64 a1, .int .i64 0, .int .i64 (a0.size : Int)] rfl ar ?_; (with_reducible refine (impl_within.calls a1 0 (a0.size : Int) false _ A3.out).mono ?_); rintro e w' ⟨rfl, ⟨nd, rfl⟩⟩; refine ⟨_, rfl, ?_⟩))
  go_ret3
  exact ⟨by first | rfl | (simp; done) | (simp [*]; done), by repeat (first | exact Drawn0.refl _ | apply Drawn0.step)⟩

end Go.Proofs.Ytkckdibalopagaa.SFnExactReadTerm
