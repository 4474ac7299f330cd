-- Began as a print of the kit over stubs (wip/stub.py); the sections that are named OWN are this session's.
import Derived.Test.YtkckdibalopagaaSFnExactReadTermx9
import Derived.Test.YtkckdibalopagaaSFnExactReadTermx2
import Derived.Test.YtkckdibalopagaaSFnExactReadTermx3
import Derived.Test.YtkckdibalopagaaSFnExactReadTermx6
import Derived.Test.YtkckdibalopagaaSFnExactReadTermx8
import Derived.Test.YtkckdibalopagaaRShort
namespace Go.Proofs.Ytkckdibalopagaa.SFnExactReadTerm
open Go.RowKit Go.Proofs.YtkckdibalopagaaW.PrintWords Go.Proofs.YtkckdibalopagaaW.PrintLast Go.Proofs.YtkckdibalopagaaW.PrintMore Go.Proofs.Ytkckdibalopagaa.Short
attribute [local go_sem] max2_int min2_int max_two min_two max_three min_three max_four min_four   -- for this text's walks alone
set_option linter.unusedVariables false
set_option linter.unusedSimpArgs false

/-! ### laws_FnExactReadTerm: function 12 -/
mutual
def laws_FnExactReadTerm.j0 : Nat → ByteArray → Int → Bool → Int → Bool → Bool → List (S126) → List (S34) → List (S34) → List (S34) → Option (Bool)
  | 0, _, _, _, _, _, _, _, _, _, _ => none
  | k + 1, x1, x7, x8, x11, x12, x57, x343000, x353000, x357000, x363000 => if x57 = true then (some false) else ((laws_toArena.f k x343000).bind fun t364 => ((laws_eqArena.f k x357000 t364).bind fun t367 => (if t367 = true then ((laws_markArena.f k x357000 1).bind fun bt368 => (if bt368.1 < 0 then (laws_FnExactReadTerm.j1 k x1 x7 x8 true x343000 x353000 x363000) else ((laws_eqArena.f k x363000 x353000).bind fun t370 => (if t370 = true then (if x11 = x7 then (laws_FnExactReadTerm.j1 k x1 x7 x8 (x12 != x8) x343000 x353000 x363000) else (laws_FnExactReadTerm.j1 k x1 x7 x8 true x343000 x353000 x363000)) else (laws_FnExactReadTerm.j1 k x1 x7 x8 true x343000 x353000 x363000))))) else (some false))))
def laws_FnExactReadTerm.j1 : Nat → ByteArray → Int → Bool → Bool → List (S126) → List (S34) → List (S34) → Option (Bool)
  | 0, _, _, _, _, _, _, _ => none
  | k + 1, x1, x7, x8, x83, x343000, x353000, x363000 => if x83 = true then (some false) else ((laws_markArena.f k x363000 1).bind fun bt371 => ((laws_heldArena.f k bt371.2 1).bind fun t373 => (if t373 < 0 then (some false) else (if t373 = bt371.1 then ((laws_toArena.f k x343000).bind fun t374 => ((impl_ReadTerm.f t374 x1).bind fun bt377 => ((laws_eqArena.f k bt377.1 x353000).bind fun t383 => (if t383 = true then (if bt377.2.1 = x7 then (laws_FnExactReadTerm.j2 k bt371.1 (bt377.2.2 != x8) bt371.2) else (laws_FnExactReadTerm.j2 k bt371.1 true bt371.2)) else (laws_FnExactReadTerm.j2 k bt371.1 true bt371.2))))) else (some false)))))
def laws_FnExactReadTerm.j2 : Nat → Int → Bool → List (S34) → Option (Bool)
  | 0, _, _, _ => none
  | k + 1, x14, x116, x363000 => if x116 = true then (some false) else ((laws_heldArena.f k x363000 1).bind fun t384 => (if t384 < 0 then (some false) else (if t384 = x14 then (some true) else (some false))))
end
def laws_FnExactReadTerm.f (k : Nat) (l0_0 : List (S126)) (a1 : ByteArray) : Option (Bool) := if (a1.size : Int) > 1048576 then (some true) else ((laws_szArena.f l0_0 1048576).bind fun t343 => (if t343 < 0 then (some true) else ((laws_toArena.f k l0_0).bind fun t344 => ((spec_ReadTerm.f t344 a1).bind fun bt347 => ((laws_toArena.f k l0_0).bind fun t353 => ((impl_ReadTerm.f t353 a1).bind fun bt357 => ((laws_eqArena.f k bt357.1 bt347.1).bind fun t363 => (if t363 = true then (if bt357.2.1 = bt347.2.1 then (laws_FnExactReadTerm.j0 k a1 bt347.2.1 bt347.2.2 bt357.2.1 bt357.2.2 (bt357.2.2 != bt347.2.2) l0_0 bt347.1 t353 bt357.1) else (laws_FnExactReadTerm.j0 k a1 bt347.2.1 bt347.2.2 bt357.2.1 bt357.2.2 true l0_0 bt347.1 t353 bt357.1)) else (laws_FnExactReadTerm.j0 k a1 bt347.2.1 bt347.2.2 bt357.2.1 bt357.2.2 true l0_0 bt347.1 t353 bt357.1)))))))))
set_option maxHeartbeats 8000000 in
set_option maxRecDepth 100000 in
theorem laws_FnExactReadTerm.calls (k : Nat) (A0_0 : Option Addr) (c0_0 : Nat) (l0_0 : List (S126)) (a1 : ByteArray) (r : Bool) (w : World) (hr0_0 : Kd.C k126 w A0_0 l0_0.length l0_0) (hc0_0 : l0_0.length ≤ c0_0) (h : laws_FnExactReadTerm.f k l0_0 a1 = some r) :
  Calls Try.prog 12 #[.agg #[.slice A0_0 l0_0.length c0_0], .string a1] w fun e w' => e = .returned (.bool r) ∧ Below w.heap.size w w' := by
 have hu41 := Try.underlying41
 have hu26 := Try.underlying26
 have HR0_0 := Aside0.mk hr0_0
 have HC0_0 := Aside0.mk hc0_0
 clear hr0_0 hc0_0
 have HB := Aside0.mk (Below.refl w.heap.size w)
 have H : (if (a1.size : Int) > 1048576 then (some true) else ((laws_szArena.f l0_0 1048576).bind fun t343 => (if t343 < 0 then (some true) else ((laws_toArena.f k l0_0).bind fun t344 => ((spec_ReadTerm.f t344 a1).bind fun bt347 => ((laws_toArena.f k l0_0).bind fun t353 => ((impl_ReadTerm.f t353 a1).bind fun bt357 => ((laws_eqArena.f k bt357.1 bt347.1).bind fun t363 => (if t363 = true then (if bt357.2.1 = bt347.2.1 then (laws_FnExactReadTerm.j0 k a1 bt347.2.1 bt347.2.2 bt357.2.1 bt357.2.2 (bt357.2.2 != bt347.2.2) l0_0 bt347.1 t353 bt357.1) else (laws_FnExactReadTerm.j0 k a1 bt347.2.1 bt347.2.2 bt357.2.1 bt357.2.2 true l0_0 bt347.1 t353 bt357.1)) else (laws_FnExactReadTerm.j0 k a1 bt347.2.1 bt347.2.2 bt357.2.1 bt357.2.2 true l0_0 bt347.1 t353 bt357.1)))))))))) = some r := h
 clear h
 by_cases c3 : (a1.size : Int) > 1048576
 ·rw [if_pos c3] at H
  have c3b0 : decide (1048576 < (a1.size : Int)) = true := decide_eq_true c3
  have c3b1 : decide (1048576 < a1.size) = true := decide_eq_true (by omega)
  clear c3
  obtain rfl := Option.some.inj H
  go_enter Try.func12, Try.ntmps12
  go_wp2_with (first | ((with_reducible refine gate_dst (N := 2) rfl ?_); refine box_event ?hg (N := 2) ?hd (cs := #[.slice A0_0 l0_0.length c0_0]) (t := 41) ?hr ?_; (case hd => rfl); (case hg => rfl); (case hr => first | (go_simp; done) | (go_simp; rfl)); intro gb342 hg w4 hbox hb; have n0_ := Aside0.mk (below_step (bw HB.out) hb); have n1_ := Aside0.mk (hbox); have n2_ := Aside0.mk ((by rw [hg]; exact (below_size (bw HB.out)) : w.heap.size ≤ gb342)); have n3_ := Aside0.mk ((by rw [hg]; exact (below_size (bw HB.out)) : w.heap.size ≤ gb342)); clear HB; have HB := n0_; have BK342 := n1_; have GW342 := n2_; have GE342 := n3_; clear n0_ n1_ n2_ n3_ hb hbox hg))
  go_ret
  exact ⟨by first | rfl | (simp [errW_none, errW_some] <;> rfl) | (simp [*, errW_none, errW_some] <;> rfl), bw HB.out⟩
 ·rw [if_neg c3] at H
  have c3b0 : decide (1048576 < (a1.size : Int)) = false := decide_eq_false c3
  have c3b1 : decide (1048576 < a1.size) = false := decide_eq_false (by omega)
  clear c3
  replace H := Option.bind_eq_some_iff.mp H
  obtain ⟨t343, A50, H⟩ := H
  replace H : (if t343 < 0 then (some true) else ((laws_toArena.f k l0_0).bind fun t344 => ((spec_ReadTerm.f t344 a1).bind fun bt347 => ((laws_toArena.f k l0_0).bind fun t353 => ((impl_ReadTerm.f t353 a1).bind fun bt357 => ((laws_eqArena.f k bt357.1 bt347.1).bind fun t363 => (if t363 = true then (if bt357.2.1 = bt347.2.1 then (laws_FnExactReadTerm.j0 k a1 bt347.2.1 bt347.2.2 bt357.2.1 bt357.2.2 (bt357.2.2 != bt347.2.2) l0_0 bt347.1 t353 bt357.1) else (laws_FnExactReadTerm.j0 k a1 bt347.2.1 bt347.2.2 bt357.2.1 bt357.2.2 true l0_0 bt347.1 t353 bt357.1)) else (laws_FnExactReadTerm.j0 k a1 bt347.2.1 bt347.2.2 bt357.2.1 bt357.2.2 true l0_0 bt347.1 t353 bt357.1)))))))) = some r := H
  have A5 := Aside0.mk A50
  clear A50
  by_cases c6 : t343 < 0
  ·rw [if_pos c6] at H
   have c6b0 : decide (t343 < 0) = true := decide_eq_true c6
   clear c6
   obtain rfl := Option.some.inj H
   go_enter Try.func12, Try.ntmps12
   go_wp2_with (first | ((with_reducible refine gate_dst (N := 2) rfl ?_); refine box_event ?hg (N := 2) ?hd (cs := #[.slice A0_0 l0_0.length c0_0]) (t := 41) ?hr ?_; (case hd => rfl); (case hg => rfl); (case hr => first | (go_simp; done) | (go_simp; rfl)); intro gb342 hg w7 hbox hb; have n0_ := Aside0.mk (below_step (bw HB.out) hb); have n1_ := Aside0.mk (hbox); have n2_ := Aside0.mk ((by rw [hg]; exact (below_size (bw HB.out)) : w.heap.size ≤ gb342)); have n3_ := Aside0.mk ((by rw [hg]; exact (below_size (bw HB.out)) : w.heap.size ≤ gb342)); clear HB; have HB := n0_; have BK342 := n1_; have GW342 := n2_; have GE342 := n3_; clear n0_ n1_ n2_ n3_ hb hbox hg; have hcz8_0 : w7.cell? ⟨gb342, 0, none⟩ = some (.slice A0_0 l0_0.length c0_0) := (blk_cell BK342.out 0).trans rfl; have hfz8_0 := blk_frozen BK342.out 0) | ((with_reducible refine gate_callee (f := 24) rfl ?_); refine goesL_ (some 24) rfl rfl Try.func24 (by kernel_rfl) rfl #[.agg #[.slice A0_0 l0_0.length c0_0], .int .i64 1048576] rfl ar ?_; (with_reducible refine (laws_szArena.calls _ _ l0_0 1048576 t343 _ ?side1 ?side2 A5.out).mono ?_); (case side1 => exact cl (Kd.C_below HR0_0.out HB.out)); (case side2 => exact HC0_0.out); rintro e w9 ⟨rfl, hb⟩; refine ⟨_, rfl, ?_⟩; have n0_ := Aside0.mk (blk_below (g := gb342) (o := .cells #[.slice A0_0 l0_0.length c0_0] 41 (0, 0)) (bl BK342.out) hb); have n1_ := Aside0.mk (below_step (bw HB.out) hb); clear BK342 HB; have BK342 := n0_; have HB := n1_; clear n0_ n1_; (try clear hb); (try clear hb2); (try clear hk); (try clear hi)))
   go_ret
   exact ⟨by first | rfl | (simp [errW_none, errW_some] <;> rfl) | (simp [*, errW_none, errW_some] <;> rfl), bw HB.out⟩
  ·rw [if_neg c6] at H
   have c6b0 : decide (t343 < 0) = false := decide_eq_false c6
   clear c6
   replace H := Option.bind_eq_some_iff.mp H
   obtain ⟨t344, A100, H⟩ := H
   replace H : ((spec_ReadTerm.f t344 a1).bind fun bt347 => ((laws_toArena.f k l0_0).bind fun t353 => ((impl_ReadTerm.f t353 a1).bind fun bt357 => ((laws_eqArena.f k bt357.1 bt347.1).bind fun t363 => (if t363 = true then (if bt357.2.1 = bt347.2.1 then (laws_FnExactReadTerm.j0 k a1 bt347.2.1 bt347.2.2 bt357.2.1 bt357.2.2 (bt357.2.2 != bt347.2.2) l0_0 bt347.1 t353 bt357.1) else (laws_FnExactReadTerm.j0 k a1 bt347.2.1 bt347.2.2 bt357.2.1 bt357.2.2 true l0_0 bt347.1 t353 bt357.1)) else (laws_FnExactReadTerm.j0 k a1 bt347.2.1 bt347.2.2 bt357.2.1 bt357.2.2 true l0_0 bt347.1 t353 bt357.1)))))) = some r := H
   have A10 := Aside0.mk A100
   clear A100
   replace H := Option.bind_eq_some_iff.mp H
   obtain ⟨⟨t347, t350, t351⟩, A110, H⟩ := H
   replace H : ((laws_toArena.f k l0_0).bind fun t353 => ((impl_ReadTerm.f t353 a1).bind fun bt357 => ((laws_eqArena.f k bt357.1 t347).bind fun t363 => (if t363 = true then (if bt357.2.1 = t350 then (laws_FnExactReadTerm.j0 k a1 t350 t351 bt357.2.1 bt357.2.2 (bt357.2.2 != t351) l0_0 t347 t353 bt357.1) else (laws_FnExactReadTerm.j0 k a1 t350 t351 bt357.2.1 bt357.2.2 true l0_0 t347 t353 bt357.1)) else (laws_FnExactReadTerm.j0 k a1 t350 t351 bt357.2.1 bt357.2.2 true l0_0 t347 t353 bt357.1))))) = some r := H
   have A11 := Aside0.mk A110
   clear A110
   replace H := Option.bind_eq_some_iff.mp H
   obtain ⟨t353, A120, H⟩ := H
   replace H : ((impl_ReadTerm.f t353 a1).bind fun bt357 => ((laws_eqArena.f k bt357.1 t347).bind fun t363 => (if t363 = true then (if bt357.2.1 = t350 then (laws_FnExactReadTerm.j0 k a1 t350 t351 bt357.2.1 bt357.2.2 (bt357.2.2 != t351) l0_0 t347 t353 bt357.1) else (laws_FnExactReadTerm.j0 k a1 t350 t351 bt357.2.1 bt357.2.2 true l0_0 t347 t353 bt357.1)) else (laws_FnExactReadTerm.j0 k a1 t350 t351 bt357.2.1 bt357.2.2 true l0_0 t347 t353 bt357.1)))) = some r := H
   have A12 := Aside0.mk A120
   clear A120
   replace H := Option.bind_eq_some_iff.mp H
   obtain ⟨⟨t357, t360, t361⟩, A130, H⟩ := H
   replace H : ((laws_eqArena.f k t357 t347).bind fun t363 => (if t363 = true then (if t360 = t350 then (laws_FnExactReadTerm.j0 k a1 t350 t351 t360 t361 (t361 != t351) l0_0 t347 t353 t357) else (laws_FnExactReadTerm.j0 k a1 t350 t351 t360 t361 true l0_0 t347 t353 t357)) else (laws_FnExactReadTerm.j0 k a1 t350 t351 t360 t361 true l0_0 t347 t353 t357))) = some r := H
   have A13 := Aside0.mk A130
   clear A130
   have HC14 := Aside0.mk H
   clear H
   go_enter Try.func12, Try.ntmps12
   go_upto_region 10 with (first | ((with_reducible refine gate_dst (N := 2) rfl ?_); refine box_event ?hg (N := 2) ?hd (cs := #[.slice A0_0 l0_0.length c0_0]) (t := 41) ?hr ?_; (case hd => rfl); (case hg => rfl); (case hr => first | (go_simp; done) | (go_simp; rfl)); intro gb342 hg w15 hbox hb; have n0_ := Aside0.mk (below_step (bw HB.out) hb); have n1_ := Aside0.mk (hbox); have n2_ := Aside0.mk ((by rw [hg]; exact (below_size (bw HB.out)) : w.heap.size ≤ gb342)); have n3_ := Aside0.mk ((by rw [hg]; exact (below_size (bw HB.out)) : w.heap.size ≤ gb342)); clear HB; have HB := n0_; have BK342 := n1_; have GW342 := n2_; have GE342 := n3_; clear n0_ n1_ n2_ n3_ hb hbox hg; have hcz16_0 : w15.cell? ⟨gb342, 0, none⟩ = some (.slice A0_0 l0_0.length c0_0) := (blk_cell BK342.out 0).trans rfl; have hfz16_0 := blk_frozen BK342.out 0) | ((with_reducible refine gate_callee (f := 24) rfl ?_); refine goesL_ (some 24) rfl rfl Try.func24 (by kernel_rfl) rfl #[.agg #[.slice A0_0 l0_0.length c0_0], .int .i64 1048576] rfl ar ?_; (with_reducible refine (laws_szArena.calls _ _ l0_0 1048576 t343 _ ?side1 ?side2 A5.out).mono ?_); (case side1 => exact cl (Kd.C_below HR0_0.out HB.out)); (case side2 => exact HC0_0.out); rintro e w17 ⟨rfl, hb⟩; refine ⟨_, rfl, ?_⟩; have n0_ := Aside0.mk (blk_below (g := gb342) (o := .cells #[.slice A0_0 l0_0.length c0_0] 41 (0, 0)) (bl BK342.out) hb); have n1_ := Aside0.mk (below_step (bw HB.out) hb); clear BK342 HB; have BK342 := n0_; have HB := n1_; clear n0_ n1_; (try clear hb); (try clear hb2); (try clear hk); (try clear hi); have hcz18_0 : w17.cell? ⟨gb342, 0, none⟩ = some (.slice A0_0 l0_0.length c0_0) := (blk_cell BK342.out 0).trans rfl; have hfz18_0 := blk_frozen BK342.out 0) | ((with_reducible refine gate_callee (f := 26) rfl ?_); refine goesL_ (some 29) rfl rfl Try.func26 (by kernel_rfl) rfl #[.agg #[.slice A0_0 l0_0.length c0_0]] rfl ar ?_; (with_reducible refine (laws_toArena.calls k _ _ l0_0 t344 _ ?side1 ?side2 A10.out).mono ?_); (case side1 => exact cl (Kd.C_below HR0_0.out HB.out)); (case side2 => exact HC0_0.out); rintro e w19 ⟨v345, rfl, ho0, hb⟩; refine ⟨_, rfl, ?_⟩; have n0_ := Aside0.mk (Kd.R_lower ho0 (below_size (bw HB.out))); have n1_ := Aside0.mk (blk_below (g := gb342) (o := .cells #[.slice A0_0 l0_0.length c0_0] 41 (0, 0)) (bl BK342.out) hb); have n2_ := Aside0.mk (below_step (bw HB.out) hb); clear BK342 HB; have HO346 := n0_; have BK342 := n1_; have HB := n2_; clear n0_ n1_ n2_; (try clear hb); (try clear hb2); (try clear hk); (try clear hi); (try clear ho0); obtain ⟨Ao20, co20, eo20⟩ := Kd.R_slice HO346.out; subst eo20) | ((with_reducible refine gate_callee (f := 65) rfl ?_); refine goesL_ (some 31) rfl rfl Try.func65 (by kernel_rfl) rfl #[.agg #[.slice Ao20 t344.length co20], .string a1] rfl ar ?_; (with_reducible refine (spec_ReadTerm.calls _ _ t344 a1 t347 t350 t351 _ ?side1 ?side2 A11.out).mono ?_); (case side1 => exact cl (Kd.R_reads' HO346.out).2.2); (case side2 => exact (Kd.R_reads' HO346.out).2.1); rintro e w21 ⟨v348, rfl, ho0, hb⟩; refine ⟨_, rfl, ?_⟩; have n0_ := Aside0.mk (Kd.R_elder' (rl HO346.out) (Kd.R_base ho0) hb); have n1_ := Aside0.mk (Kd.R_lower (Kd.R_new' ho0 (Kd.R_lt (rl HO346.out))) (below_size (bw HB.out))); have n2_ := Aside0.mk (blk_below (g := gb342) (o := .cells #[.slice A0_0 l0_0.length c0_0] 41 (0, 0)) (bl BK342.out) hb); have n3_ := Aside0.mk (below_step (bw HB.out) hb); clear HO346 BK342 HB; have HO346 := n0_; have HO349 := n1_; have BK342 := n2_; have HB := n3_; clear n0_ n1_ n2_ n3_; (try clear hb); (try clear hb2); (try clear hk); (try clear hi); (try clear ho0)) | ((with_reducible refine gate_dst (N := 6) rfl ?_); refine box_event ?hg (N := 6) ?hd (cs := #[.slice none 0 0]) (t := 26) ?hr ?_; (case hd => rfl); (case hg => rfl); (case hr => first | (go_simp; done) | (go_simp; rfl)); intro gb352 hg w22 hbox hb; have n0_ := Aside0.mk (Kd.R_below (rl HO346.out) hb); have n1_ := Aside0.mk (Kd.R_below (rl HO349.out) hb); have n2_ := Aside0.mk (blk_below (g := gb342) (o := .cells #[.slice A0_0 l0_0.length c0_0] 41 (0, 0)) (bl BK342.out) hb); have n3_ := Aside0.mk (below_step (bw HB.out) hb); have n4_ := Aside0.mk (hbox); have n5_ := Aside0.mk ((by rw [hg]; exact (below_size (bw HB.out)) : w.heap.size ≤ gb352)); have n6_ := Aside0.mk ((by rw [hg]; exact (below_size (bw HB.out)) : w.heap.size ≤ gb352)); have n7_ := Aside0.mk ((by rw [hg]; exact Nat.ne_of_lt (blk_lt (g := gb342) (o := .cells #[.slice A0_0 l0_0.length c0_0] 41 (0, 0)) (bl BK342.out)) : gb342 ≠ gb352)); have n8_ := Aside0.mk ((by rw [hg]; exact Nat.ne_of_gt (blk_lt (g := gb342) (o := .cells #[.slice A0_0 l0_0.length c0_0] 41 (0, 0)) (bl BK342.out)) : gb352 ≠ gb342)); clear HO346 HO349 BK342 HB; have HO346 := n0_; have HO349 := n1_; have BK342 := n2_; have HB := n3_; have BK352 := n4_; have GW352 := n5_; have GE352 := n6_; have NB342_352 := n7_; have NB352_342 := n8_; clear n0_ n1_ n2_ n3_ n4_ n5_ n6_ n7_ n8_ hb hbox hg; obtain ⟨Ao23, co23, eo23⟩ := Kd.R_slice HO349.out; subst eo23; have hnb24 := NB352_342.out; have hnc24 := NB342_352.out; have hcz25_0 : w22.cell? ⟨gb352, 0, none⟩ = some (.slice none 0 0) := (blk_cell BK352.out 0).trans rfl; have hfz25_0 := blk_frozen BK352.out 0; have hcz26_0 : w22.cell? ⟨gb342, 0, none⟩ = some (.slice A0_0 l0_0.length c0_0) := (blk_cell BK342.out 0).trans rfl; have hfz26_0 := blk_frozen BK342.out 0) | ((with_reducible refine gate_callee (f := 26) rfl ?_); refine goesL_ (some 36) rfl rfl Try.func26 (by kernel_rfl) rfl #[.agg #[.slice A0_0 l0_0.length c0_0]] rfl ar ?_; (with_reducible refine (laws_toArena.calls k _ _ l0_0 t353 _ ?side1 ?side2 A12.out).mono ?_); (case side1 => exact Kd.C_below HR0_0.out (bw HB.out)); (case side2 => exact HC0_0.out); rintro e w27 ⟨v354, rfl, ho0, hb⟩; refine ⟨_, rfl, ?_⟩; have n0_ := Aside0.mk (Kd.R_elder' (by (with_reducible repeat (first | apply Kd.R_alloc | apply Kd.R_drewN | apply Kd.R_drew)); exact (Kd.R_mono (Kd.R_far (p := ⟨gb352, 0, none⟩) (Kd.R_types HO346.out BK352.out (by decide)) (fun _ hk => hk.2) (.slice Ao23 t347.length co23)) (fun _ h_ => h_.1))) (Kd.R_base ho0) hb); have n1_ := Aside0.mk (Kd.R_elder' (by (with_reducible repeat (first | apply Kd.R_alloc | apply Kd.R_drewN | apply Kd.R_drew)); exact (Kd.R_mono (Kd.R_far (p := ⟨gb352, 0, none⟩) (Kd.R_types HO349.out BK352.out (by decide)) (fun _ hk => hk.2) (.slice Ao23 t347.length co23)) (fun _ h_ => h_.1))) (Kd.R_base ho0) hb); have n2_ := Aside0.mk (Kd.R_lower (Kd.R_new' (Kd.R_new' ho0 (Kd.R_lt (by (with_reducible repeat (first | apply Kd.R_alloc | apply Kd.R_drewN | apply Kd.R_drew)); exact (Kd.R_mono (Kd.R_far (p := ⟨gb352, 0, none⟩) (Kd.R_types HO346.out BK352.out (by decide)) (fun _ hk => hk.2) (.slice Ao23 t347.length co23)) (fun _ h_ => h_.1))))) (Kd.R_lt (by (with_reducible repeat (first | apply Kd.R_alloc | apply Kd.R_drewN | apply Kd.R_drew)); exact (Kd.R_mono (Kd.R_far (p := ⟨gb352, 0, none⟩) (Kd.R_types HO349.out BK352.out (by decide)) (fun _ hk => hk.2) (.slice Ao23 t347.length co23)) (fun _ h_ => h_.1))))) (below_size (bw HB.out))); have n3_ := Aside0.mk (blk_below (g := gb342) (o := .cells #[.slice A0_0 l0_0.length c0_0] 41 (0, 0)) (by (with_reducible repeat (first | refine blk_drewN ?_ _ | refine blk_drew ?_ | refine blk_alloc ?_ _)); refine blk_far ?_ NB342_352.out _; (with_reducible repeat (first | refine blk_drewN ?_ _ | refine blk_drew ?_ | refine blk_alloc ?_ _)); exact BK342.out) hb); have n4_ := Aside0.mk (blk_below (g := gb352) (o := .cells #[.slice Ao23 t347.length co23] 26 (0, 0)) (by (with_reducible repeat (first | refine blk_drewN ?_ _ | refine blk_drew ?_ | refine blk_alloc ?_ _)); refine blk_put (cs := #[.slice none 0 0]) ?_ 0 _ rfl; (with_reducible repeat (first | refine blk_drewN ?_ _ | refine blk_drew ?_ | refine blk_alloc ?_ _)); exact BK352.out) hb); have n5_ := Aside0.mk (below_step (bw HB.out) hb); clear HO346 HO349 BK342 BK352 HB; have HO346 := n0_; have HO349 := n1_; have HO355 := n2_; have BK342 := n3_; have BK352 := n4_; have HB := n5_; clear n0_ n1_ n2_ n3_ n4_ n5_; (try clear hb); (try clear hb2); (try clear hk); (try clear hi); (try clear ho0)) | ((with_reducible refine gate_dst (N := 9) rfl ?_); refine box_event ?hg (N := 9) ?hd (cs := #[.slice none 0 0]) (t := 26) ?hr ?_; (case hd => rfl); (case hg => rfl); (case hr => first | (go_simp; done) | (go_simp; rfl)); intro gb356 hg w28 hbox hb; have n0_ := Aside0.mk (Kd.R_below (rl HO346.out) hb); have n1_ := Aside0.mk (Kd.R_below (rl HO349.out) hb); have n2_ := Aside0.mk (Kd.R_below (rl HO355.out) hb); have n3_ := Aside0.mk (blk_below (g := gb342) (o := .cells #[.slice A0_0 l0_0.length c0_0] 41 (0, 0)) (bl BK342.out) hb); have n4_ := Aside0.mk (blk_below (g := gb352) (o := .cells #[.slice Ao23 t347.length co23] 26 (0, 0)) (bl BK352.out) hb); have n5_ := Aside0.mk (below_step (bw HB.out) hb); have n6_ := Aside0.mk (hbox); have n7_ := Aside0.mk ((by rw [hg]; exact (below_size (bw HB.out)) : w.heap.size ≤ gb356)); have n8_ := Aside0.mk ((by rw [hg]; exact (below_size (bw HB.out)) : w.heap.size ≤ gb356)); have n9_ := Aside0.mk ((by rw [hg]; exact Nat.ne_of_lt (blk_lt (g := gb342) (o := .cells #[.slice A0_0 l0_0.length c0_0] 41 (0, 0)) (bl BK342.out)) : gb342 ≠ gb356)); have n10_ := Aside0.mk ((by rw [hg]; exact Nat.ne_of_gt (blk_lt (g := gb342) (o := .cells #[.slice A0_0 l0_0.length c0_0] 41 (0, 0)) (bl BK342.out)) : gb356 ≠ gb342)); have n11_ := Aside0.mk ((by rw [hg]; exact Nat.ne_of_lt (blk_lt (g := gb352) (o := .cells #[.slice Ao23 t347.length co23] 26 (0, 0)) (bl BK352.out)) : gb352 ≠ gb356)); have n12_ := Aside0.mk ((by rw [hg]; exact Nat.ne_of_gt (blk_lt (g := gb352) (o := .cells #[.slice Ao23 t347.length co23] 26 (0, 0)) (bl BK352.out)) : gb356 ≠ gb352)); clear HO346 HO349 HO355 BK342 BK352 HB; have HO346 := n0_; have HO349 := n1_; have HO355 := n2_; have BK342 := n3_; have BK352 := n4_; have HB := n5_; have BK356 := n6_; have GW356 := n7_; have GE356 := n8_; have NB342_356 := n9_; have NB356_342 := n10_; have NB352_356 := n11_; have NB356_352 := n12_; clear n0_ n1_ n2_ n3_ n4_ n5_ n6_ n7_ n8_ n9_ n10_ n11_ n12_ hb hbox hg; obtain ⟨Ao29, co29, eo29⟩ := Kd.R_slice HO355.out; subst eo29; have hnb30 := NB356_342.out; have hnc30 := NB342_356.out; have hnb31 := NB356_352.out; have hnc31 := NB352_356.out; have hcz32_0 : w28.cell? ⟨gb356, 0, none⟩ = some (.slice none 0 0) := (blk_cell BK356.out 0).trans rfl; have hfz32_0 := blk_frozen BK356.out 0) | ((with_reducible refine gate_callee (f := 66) rfl ?_); refine goesL_ (some 40) rfl rfl Try.func66 (by kernel_rfl) rfl #[.agg #[.slice Ao29 t353.length co29], .string a1] rfl ar ?_; (with_reducible refine (impl_ReadTerm.calls _ _ t353 a1 t357 t360 t361 _ ?side1 ?side2 A13.out).mono ?_); (case side1 => refine (Kd.R_reads' (e := 34) (base := w.heap.size) (ok := fun k_ => ((True ∧ some k_ ≠ (.slice Ao20 t344.length co20 : Value).ownBlock) ∧ some k_ ≠ (.slice Ao23 t347.length co23 : Value).ownBlock)) (n := t353.length) (c := co29) ?_).2.2; exact (by (with_reducible repeat (first | apply Kd.R_alloc | apply Kd.R_drewN | apply Kd.R_drew)); exact (Kd.R_mono (Kd.R_far (p := ⟨gb356, 0, none⟩) (Kd.R_types HO355.out BK356.out (by decide)) (fun _ hk => hk.2) (.slice Ao29 t353.length co29)) (fun _ h_ => h_.1)))); (case side2 => exact (Kd.R_reads' HO355.out).2.1); rintro e w33 ⟨v358, rfl, ho0, hb⟩; refine ⟨_, rfl, ?_⟩; have n0_ := Aside0.mk (Kd.R_elder' (by (with_reducible repeat (first | apply Kd.R_alloc | apply Kd.R_drewN | apply Kd.R_drew)); exact (Kd.R_mono (Kd.R_far (p := ⟨gb356, 0, none⟩) (Kd.R_types HO346.out BK356.out (by decide)) (fun _ hk => hk.2) (.slice Ao29 t353.length co29)) (fun _ h_ => h_.1))) (Kd.R_base ho0) hb); have n1_ := Aside0.mk (Kd.R_elder' (by (with_reducible repeat (first | apply Kd.R_alloc | apply Kd.R_drewN | apply Kd.R_drew)); exact (Kd.R_mono (Kd.R_far (p := ⟨gb356, 0, none⟩) (Kd.R_types HO349.out BK356.out (by decide)) (fun _ hk => hk.2) (.slice Ao29 t353.length co29)) (fun _ h_ => h_.1))) (Kd.R_base ho0) hb); have n2_ := Aside0.mk (Kd.R_elder' (by (with_reducible repeat (first | apply Kd.R_alloc | apply Kd.R_drewN | apply Kd.R_drew)); exact (Kd.R_mono (Kd.R_far (p := ⟨gb356, 0, none⟩) (Kd.R_types HO355.out BK356.out (by decide)) (fun _ hk => hk.2) (.slice Ao29 t353.length co29)) (fun _ h_ => h_.1))) (Kd.R_base ho0) hb); have n3_ := Aside0.mk (Kd.R_lower (Kd.R_new' (Kd.R_new' (Kd.R_new' ho0 (Kd.R_lt (by (with_reducible repeat (first | apply Kd.R_alloc | apply Kd.R_drewN | apply Kd.R_drew)); exact (Kd.R_mono (Kd.R_far (p := ⟨gb356, 0, none⟩) (Kd.R_types HO346.out BK356.out (by decide)) (fun _ hk => hk.2) (.slice Ao29 t353.length co29)) (fun _ h_ => h_.1))))) (Kd.R_lt (by (with_reducible repeat (first | apply Kd.R_alloc | apply Kd.R_drewN | apply Kd.R_drew)); exact (Kd.R_mono (Kd.R_far (p := ⟨gb356, 0, none⟩) (Kd.R_types HO349.out BK356.out (by decide)) (fun _ hk => hk.2) (.slice Ao29 t353.length co29)) (fun _ h_ => h_.1))))) (Kd.R_lt (by (with_reducible repeat (first | apply Kd.R_alloc | apply Kd.R_drewN | apply Kd.R_drew)); exact (Kd.R_mono (Kd.R_far (p := ⟨gb356, 0, none⟩) (Kd.R_types HO355.out BK356.out (by decide)) (fun _ hk => hk.2) (.slice Ao29 t353.length co29)) (fun _ h_ => h_.1))))) (below_size (bw HB.out))); have n4_ := Aside0.mk (blk_below (g := gb342) (o := .cells #[.slice A0_0 l0_0.length c0_0] 41 (0, 0)) (by (with_reducible repeat (first | refine blk_drewN ?_ _ | refine blk_drew ?_ | refine blk_alloc ?_ _)); refine blk_far ?_ NB342_356.out _; (with_reducible repeat (first | refine blk_drewN ?_ _ | refine blk_drew ?_ | refine blk_alloc ?_ _)); exact BK342.out) hb); have n5_ := Aside0.mk (blk_below (g := gb352) (o := .cells #[.slice Ao23 t347.length co23] 26 (0, 0)) (by (with_reducible repeat (first | refine blk_drewN ?_ _ | refine blk_drew ?_ | refine blk_alloc ?_ _)); refine blk_far ?_ NB352_356.out _; (with_reducible repeat (first | refine blk_drewN ?_ _ | refine blk_drew ?_ | refine blk_alloc ?_ _)); exact BK352.out) hb); have n6_ := Aside0.mk (blk_below (g := gb356) (o := .cells #[.slice Ao29 t353.length co29] 26 (0, 0)) (by (with_reducible repeat (first | refine blk_drewN ?_ _ | refine blk_drew ?_ | refine blk_alloc ?_ _)); refine blk_put (cs := #[.slice none 0 0]) ?_ 0 _ rfl; (with_reducible repeat (first | refine blk_drewN ?_ _ | refine blk_drew ?_ | refine blk_alloc ?_ _)); exact BK356.out) hb); have n7_ := Aside0.mk (below_step (bw HB.out) hb); clear HO346 HO349 HO355 BK342 BK352 BK356 HB; have HO346 := n0_; have HO349 := n1_; have HO355 := n2_; have HO359 := n3_; have BK342 := n4_; have BK352 := n5_; have BK356 := n6_; have HB := n7_; clear n0_ n1_ n2_ n3_ n4_ n5_ n6_ n7_; (try clear hb); (try clear hb2); (try clear hk); (try clear hi); (try clear ho0)) | ((with_reducible refine gate_dst (N := 10) rfl ?_); refine box_event ?hg (N := 10) ?hd (cs := #[.slice none 0 0]) (t := 26) ?hr ?_; (case hd => rfl); (case hg => rfl); (case hr => first | (go_simp; done) | (go_simp; rfl)); intro gb362 hg w34 hbox hb; have n0_ := Aside0.mk (Kd.R_below (rl HO346.out) hb); have n1_ := Aside0.mk (Kd.R_below (rl HO349.out) hb); have n2_ := Aside0.mk (Kd.R_below (rl HO355.out) hb); have n3_ := Aside0.mk (Kd.R_below (rl HO359.out) hb); have n4_ := Aside0.mk (blk_below (g := gb342) (o := .cells #[.slice A0_0 l0_0.length c0_0] 41 (0, 0)) (bl BK342.out) hb); have n5_ := Aside0.mk (blk_below (g := gb352) (o := .cells #[.slice Ao23 t347.length co23] 26 (0, 0)) (bl BK352.out) hb); have n6_ := Aside0.mk (blk_below (g := gb356) (o := .cells #[.slice Ao29 t353.length co29] 26 (0, 0)) (bl BK356.out) hb); have n7_ := Aside0.mk (below_step (bw HB.out) hb); have n8_ := Aside0.mk (hbox); have n9_ := Aside0.mk ((by rw [hg]; exact (below_size (bw HB.out)) : w.heap.size ≤ gb362)); have n10_ := Aside0.mk ((by rw [hg]; exact (below_size (bw HB.out)) : w.heap.size ≤ gb362)); have n11_ := Aside0.mk ((by rw [hg]; exact Nat.ne_of_lt (blk_lt (g := gb342) (o := .cells #[.slice A0_0 l0_0.length c0_0] 41 (0, 0)) (bl BK342.out)) : gb342 ≠ gb362)); have n12_ := Aside0.mk ((by rw [hg]; exact Nat.ne_of_gt (blk_lt (g := gb342) (o := .cells #[.slice A0_0 l0_0.length c0_0] 41 (0, 0)) (bl BK342.out)) : gb362 ≠ gb342)); have n13_ := Aside0.mk ((by rw [hg]; exact Nat.ne_of_lt (blk_lt (g := gb352) (o := .cells #[.slice Ao23 t347.length co23] 26 (0, 0)) (bl BK352.out)) : gb352 ≠ gb362)); have n14_ := Aside0.mk ((by rw [hg]; exact Nat.ne_of_gt (blk_lt (g := gb352) (o := .cells #[.slice Ao23 t347.length co23] 26 (0, 0)) (bl BK352.out)) : gb362 ≠ gb352)); have n15_ := Aside0.mk ((by rw [hg]; exact Nat.ne_of_lt (blk_lt (g := gb356) (o := .cells #[.slice Ao29 t353.length co29] 26 (0, 0)) (bl BK356.out)) : gb356 ≠ gb362)); have n16_ := Aside0.mk ((by rw [hg]; exact Nat.ne_of_gt (blk_lt (g := gb356) (o := .cells #[.slice Ao29 t353.length co29] 26 (0, 0)) (bl BK356.out)) : gb362 ≠ gb356)); clear HO346 HO349 HO355 HO359 BK342 BK352 BK356 HB; have HO346 := n0_; have HO349 := n1_; have HO355 := n2_; have HO359 := n3_; have BK342 := n4_; have BK352 := n5_; have BK356 := n6_; have HB := n7_; have BK362 := n8_; have GW362 := n9_; have GE362 := n10_; have NB342_362 := n11_; have NB362_342 := n12_; have NB352_362 := n13_; have NB362_352 := n14_; have NB356_362 := n15_; have NB362_356 := n16_; clear n0_ n1_ n2_ n3_ n4_ n5_ n6_ n7_ n8_ n9_ n10_ n11_ n12_ n13_ n14_ n15_ n16_ hb hbox hg; obtain ⟨Ao35, co35, eo35⟩ := Kd.R_slice HO359.out; subst eo35; have hnb36 := NB362_342.out; have hnc36 := NB342_362.out; have hnb37 := NB362_352.out; have hnc37 := NB352_362.out; have hnb38 := NB362_356.out; have hnc38 := NB356_362.out; have hcz39_0 : w34.cell? ⟨gb362, 0, none⟩ = some (.slice none 0 0) := (blk_cell BK362.out 0).trans rfl; have hfz39_0 := blk_frozen BK362.out 0))
   (try simp only [Act.put, List.setIfInBounds_toArray, List.set_cons_zero, List.set_cons_succ])
   go_cut [57] (fun v57 wc => ∃ (kq : Nat) (x57_13 : Bool), v57 = .bool x57_13 ∧ Aside0 (laws_FnExactReadTerm.j0 kq a1 t350 t351 t360 t361 x57_13 l0_0 t347 t353 t357 = some r) ∧ Aside0 (kq ≤ k) ∧ Aside0 (Kd.R k34 34 wc w.heap.size (fun k_ => some k_ ≠ ((.slice Ao29 t353.length co29) : Value).ownBlock ∧ some k_ ≠ ((.slice Ao35 t357.length co35) : Value).ownBlock) (.slice Ao23 t347.length co23) t347) ∧ Aside0 (Kd.R k34 34 wc w.heap.size (fun k_ => some k_ ≠ ((.slice Ao23 t347.length co23) : Value).ownBlock ∧ some k_ ≠ ((.slice Ao35 t357.length co35) : Value).ownBlock) (.slice Ao29 t353.length co29) t353) ∧ Aside0 (Kd.R k34 34 wc w.heap.size (fun k_ => some k_ ≠ ((.slice Ao23 t347.length co23) : Value).ownBlock ∧ some k_ ≠ ((.slice Ao29 t353.length co29) : Value).ownBlock) (.slice Ao35 t357.length co35) t357) ∧ Aside0 (wc.heap[gb342]? = some (.cells #[(.slice A0_0 l0_0.length c0_0)] 41 (0, 0))) ∧ Aside0 (wc.heap[gb352]? = some (.cells #[(.slice Ao23 t347.length co23)] 26 (0, 0))) ∧ Aside0 (wc.heap[gb356]? = some (.cells #[(.slice Ao29 t353.length co29)] 26 (0, 0))) ∧ Aside0 (wc.heap[gb362]? = some (.cells #[(.slice Ao35 t357.length co35)] 26 (0, 0))) ∧ Aside0 (Below w.heap.size w wc))
   case first =>
    have H := HC14.out
    clear HC14
    replace H := Option.bind_eq_some_iff.mp H
    obtain ⟨t363, A400, H⟩ := H
    replace H : (if t363 = true then (if t360 = t350 then (laws_FnExactReadTerm.j0 k a1 t350 t351 t360 t361 (t361 != t351) l0_0 t347 t353 t357) else (laws_FnExactReadTerm.j0 k a1 t350 t351 t360 t361 true l0_0 t347 t353 t357)) else (laws_FnExactReadTerm.j0 k a1 t350 t351 t360 t361 true l0_0 t347 t353 t357)) = some r := H
    have A40 := Aside0.mk A400
    clear A400
    by_cases c41 : t363 = true
    ·subst c41
     have H1 : (if t360 = t350 then (laws_FnExactReadTerm.j0 k a1 t350 t351 t360 t361 (t361 != t351) l0_0 t347 t353 t357) else (laws_FnExactReadTerm.j0 k a1 t350 t351 t360 t361 true l0_0 t347 t353 t357)) = some r := by rw [if_pos rfl] at H; exact H
     clear H
     have H := H1
     clear H1
     by_cases c42 : t360 = t350
     ·rw [if_pos c42] at H
      have c42b0 : (t360 == t350) = true := beq_iff_eq.mpr c42
      have c42b1 : (t360 != t350) = false := bne_eq_false_iff_eq.mpr c42
      clear c42
      (first | rw [c42b0] | (simp only [i64_w, i32_w]; rw [c42b0]) | skip)
      have H' := Aside0.mk H
      clear H
      have hnb43 := NB362_342.out
      have hnc43 := NB342_362.out
      have hnb44 := NB362_352.out
      have hnc44 := NB352_362.out
      have hnb45 := NB362_356.out
      have hnc45 := NB356_362.out
      have hcz46_0 : w34.cell? ⟨gb362, 0, none⟩ = some (.slice none 0 0) := (blk_cell BK362.out 0).trans rfl
      have hfz46_0 := blk_frozen BK362.out 0
      have hnb47 := NB352_342.out
      have hnc47 := NB342_352.out
      have hnb48 := NB352_356.out
      have hnc48 := NB356_352.out
      have hcz49_0 : w34.cell? ⟨gb352, 0, none⟩ = some (.slice Ao23 t347.length co23) := (blk_cell BK352.out 0).trans rfl
      have hfz49_0 := blk_frozen BK352.out 0
      go_wp2_with (first | ((with_reducible refine gate_callee (f := 28) rfl ?_); refine goesL_ (some 46) rfl rfl Try.func28 (by kernel_rfl) rfl #[.agg #[.slice Ao35 t357.length co35], .agg #[.slice Ao23 t347.length co23]] rfl ar ?_; (with_reducible refine (laws_eqArena.calls k _ _ t357 _ _ t347 true _ ?side1 ?side2 ?side3 ?side4 A40.out).mono ?_); (case side1 => refine (Kd.R_reads' (e := 34) (base := w.heap.size) (ok := fun k_ => (((True ∧ some k_ ≠ (.slice Ao20 t344.length co20 : Value).ownBlock) ∧ some k_ ≠ (.slice Ao23 t347.length co23 : Value).ownBlock) ∧ some k_ ≠ (.slice Ao29 t353.length co29 : Value).ownBlock)) (n := t357.length) (c := co35) ?_).2.2; exact (by (with_reducible repeat (first | apply Kd.R_alloc | apply Kd.R_drewN | apply Kd.R_drew)); exact (Kd.R_mono (Kd.R_far (p := ⟨gb362, 0, none⟩) (Kd.R_types HO359.out BK362.out (by decide)) (fun _ hk => hk.2) (.slice Ao35 t357.length co35)) (fun _ h_ => h_.1)))); (case side2 => exact (Kd.R_reads' HO359.out).2.1); (case side3 => refine (Kd.R_reads' (e := 34) (base := w.heap.size) (ok := fun k_ => (((True ∧ some k_ ≠ (.slice Ao20 t344.length co20 : Value).ownBlock) ∧ some k_ ≠ (.slice Ao29 t353.length co29 : Value).ownBlock) ∧ some k_ ≠ (.slice Ao35 t357.length co35 : Value).ownBlock)) (n := t347.length) (c := co23) ?_).2.2; exact (by (with_reducible repeat (first | apply Kd.R_alloc | apply Kd.R_drewN | apply Kd.R_drew)); exact (Kd.R_mono (Kd.R_far (p := ⟨gb362, 0, none⟩) (Kd.R_types HO349.out BK362.out (by decide)) (fun _ hk => hk.2) (.slice Ao35 t357.length co35)) (fun _ h_ => h_.1)))); (case side4 => exact (Kd.R_reads' HO349.out).2.1); rintro e w50 ⟨rfl, hb⟩; refine ⟨_, rfl, ?_⟩; have n0_ := Aside0.mk (Kd.R_below (by (with_reducible repeat (first | apply Kd.R_alloc | apply Kd.R_drewN | apply Kd.R_drew)); exact (Kd.R_mono (Kd.R_far (p := ⟨gb362, 0, none⟩) (Kd.R_types HO346.out BK362.out (by decide)) (fun _ hk => hk.2) (.slice Ao35 t357.length co35)) (fun _ h_ => h_.1))) hb); have n1_ := Aside0.mk (Kd.R_below (by (with_reducible repeat (first | apply Kd.R_alloc | apply Kd.R_drewN | apply Kd.R_drew)); exact (Kd.R_mono (Kd.R_far (p := ⟨gb362, 0, none⟩) (Kd.R_types HO349.out BK362.out (by decide)) (fun _ hk => hk.2) (.slice Ao35 t357.length co35)) (fun _ h_ => h_.1))) hb); have n2_ := Aside0.mk (Kd.R_below (by (with_reducible repeat (first | apply Kd.R_alloc | apply Kd.R_drewN | apply Kd.R_drew)); exact (Kd.R_mono (Kd.R_far (p := ⟨gb362, 0, none⟩) (Kd.R_types HO355.out BK362.out (by decide)) (fun _ hk => hk.2) (.slice Ao35 t357.length co35)) (fun _ h_ => h_.1))) hb); have n3_ := Aside0.mk (Kd.R_below (by (with_reducible repeat (first | apply Kd.R_alloc | apply Kd.R_drewN | apply Kd.R_drew)); exact (Kd.R_mono (Kd.R_far (p := ⟨gb362, 0, none⟩) (Kd.R_types HO359.out BK362.out (by decide)) (fun _ hk => hk.2) (.slice Ao35 t357.length co35)) (fun _ h_ => h_.1))) hb); have n4_ := Aside0.mk (blk_below (g := gb342) (o := .cells #[.slice A0_0 l0_0.length c0_0] 41 (0, 0)) (by (with_reducible repeat (first | refine blk_drewN ?_ _ | refine blk_drew ?_ | refine blk_alloc ?_ _)); refine blk_far ?_ NB342_362.out _; (with_reducible repeat (first | refine blk_drewN ?_ _ | refine blk_drew ?_ | refine blk_alloc ?_ _)); exact BK342.out) hb); have n5_ := Aside0.mk (blk_below (g := gb352) (o := .cells #[.slice Ao23 t347.length co23] 26 (0, 0)) (by (with_reducible repeat (first | refine blk_drewN ?_ _ | refine blk_drew ?_ | refine blk_alloc ?_ _)); refine blk_far ?_ NB352_362.out _; (with_reducible repeat (first | refine blk_drewN ?_ _ | refine blk_drew ?_ | refine blk_alloc ?_ _)); exact BK352.out) hb); have n6_ := Aside0.mk (blk_below (g := gb356) (o := .cells #[.slice Ao29 t353.length co29] 26 (0, 0)) (by (with_reducible repeat (first | refine blk_drewN ?_ _ | refine blk_drew ?_ | refine blk_alloc ?_ _)); refine blk_far ?_ NB356_362.out _; (with_reducible repeat (first | refine blk_drewN ?_ _ | refine blk_drew ?_ | refine blk_alloc ?_ _)); exact BK356.out) hb); have n7_ := Aside0.mk (blk_below (g := gb362) (o := .cells #[.slice Ao35 t357.length co35] 26 (0, 0)) (by (with_reducible repeat (first | refine blk_drewN ?_ _ | refine blk_drew ?_ | refine blk_alloc ?_ _)); refine blk_put (cs := #[.slice none 0 0]) ?_ 0 _ rfl; (with_reducible repeat (first | refine blk_drewN ?_ _ | refine blk_drew ?_ | refine blk_alloc ?_ _)); exact BK362.out) hb); have n8_ := Aside0.mk (below_step (bw HB.out) hb); clear HO346 HO349 HO355 HO359 BK342 BK352 BK356 BK362 HB; have HO346 := n0_; have HO349 := n1_; have HO355 := n2_; have HO359 := n3_; have BK342 := n4_; have BK352 := n5_; have BK356 := n6_; have BK362 := n7_; have HB := n8_; clear n0_ n1_ n2_ n3_ n4_ n5_ n6_ n7_ n8_; (try clear hb); (try clear hb2); (try clear hk); (try clear hi)))
      go_meet
      case rel => exact ⟨_, ((t361 != t351)), (by first | rfl | (simp; done) | (simp [*]; done)), H', ⟨by first | omega | exact Nat.le_refl _⟩, ⟨by (with_reducible repeat (first | apply Kd.R_alloc | apply Kd.R_drewN | apply Kd.R_drew)); exact Kd.R_mono HO349.out (fun _ hk => ⟨hk.1.2, hk.2⟩)⟩, ⟨by (with_reducible repeat (first | apply Kd.R_alloc | apply Kd.R_drewN | apply Kd.R_drew)); exact Kd.R_mono HO355.out (fun _ hk => ⟨hk.1.2, hk.2⟩)⟩, ⟨by (with_reducible repeat (first | apply Kd.R_alloc | apply Kd.R_drewN | apply Kd.R_drew)); exact Kd.R_mono HO359.out (fun _ hk => ⟨hk.1.2, hk.2⟩)⟩, ⟨bl BK342.out⟩, ⟨bl BK352.out⟩, ⟨bl BK356.out⟩, ⟨bl BK362.out⟩, ⟨bw HB.out⟩⟩
     ·rw [if_neg c42] at H
      have c42b0 : (t360 == t350) = false := beq_eq_false_iff_ne.mpr c42
      have c42b1 : (t360 != t350) = true := bne_iff_ne.mpr c42
      (first | rw [c42b0] | (simp only [i64_w, i32_w]; rw [c42b0]) | skip)
      have H' := Aside0.mk H
      clear H
      have hnb51 := NB362_342.out
      have hnc51 := NB342_362.out
      have hnb52 := NB362_352.out
      have hnc52 := NB352_362.out
      have hnb53 := NB362_356.out
      have hnc53 := NB356_362.out
      have hcz54_0 : w34.cell? ⟨gb362, 0, none⟩ = some (.slice none 0 0) := (blk_cell BK362.out 0).trans rfl
      have hfz54_0 := blk_frozen BK362.out 0
      have hnb55 := NB352_342.out
      have hnc55 := NB342_352.out
      have hnb56 := NB352_356.out
      have hnc56 := NB356_352.out
      have hcz57_0 : w34.cell? ⟨gb352, 0, none⟩ = some (.slice Ao23 t347.length co23) := (blk_cell BK352.out 0).trans rfl
      have hfz57_0 := blk_frozen BK352.out 0
      go_wp2_with (first | ((with_reducible refine gate_callee (f := 28) rfl ?_); refine goesL_ (some 46) rfl rfl Try.func28 (by kernel_rfl) rfl #[.agg #[.slice Ao35 t357.length co35], .agg #[.slice Ao23 t347.length co23]] rfl ar ?_; (with_reducible refine (laws_eqArena.calls k _ _ t357 _ _ t347 true _ ?side1 ?side2 ?side3 ?side4 A40.out).mono ?_); (case side1 => refine (Kd.R_reads' (e := 34) (base := w.heap.size) (ok := fun k_ => (((True ∧ some k_ ≠ (.slice Ao20 t344.length co20 : Value).ownBlock) ∧ some k_ ≠ (.slice Ao23 t347.length co23 : Value).ownBlock) ∧ some k_ ≠ (.slice Ao29 t353.length co29 : Value).ownBlock)) (n := t357.length) (c := co35) ?_).2.2; exact (by (with_reducible repeat (first | apply Kd.R_alloc | apply Kd.R_drewN | apply Kd.R_drew)); exact (Kd.R_mono (Kd.R_far (p := ⟨gb362, 0, none⟩) (Kd.R_types HO359.out BK362.out (by decide)) (fun _ hk => hk.2) (.slice Ao35 t357.length co35)) (fun _ h_ => h_.1)))); (case side2 => exact (Kd.R_reads' HO359.out).2.1); (case side3 => refine (Kd.R_reads' (e := 34) (base := w.heap.size) (ok := fun k_ => (((True ∧ some k_ ≠ (.slice Ao20 t344.length co20 : Value).ownBlock) ∧ some k_ ≠ (.slice Ao29 t353.length co29 : Value).ownBlock) ∧ some k_ ≠ (.slice Ao35 t357.length co35 : Value).ownBlock)) (n := t347.length) (c := co23) ?_).2.2; exact (by (with_reducible repeat (first | apply Kd.R_alloc | apply Kd.R_drewN | apply Kd.R_drew)); exact (Kd.R_mono (Kd.R_far (p := ⟨gb362, 0, none⟩) (Kd.R_types HO349.out BK362.out (by decide)) (fun _ hk => hk.2) (.slice Ao35 t357.length co35)) (fun _ h_ => h_.1)))); (case side4 => exact (Kd.R_reads' HO349.out).2.1); rintro e w58 ⟨rfl, hb⟩; refine ⟨_, rfl, ?_⟩; have n0_ := Aside0.mk (Kd.R_below (by (with_reducible repeat (first | apply Kd.R_alloc | apply Kd.R_drewN | apply Kd.R_drew)); exact (Kd.R_mono (Kd.R_far (p := ⟨gb362, 0, none⟩) (Kd.R_types HO346.out BK362.out (by decide)) (fun _ hk => hk.2) (.slice Ao35 t357.length co35)) (fun _ h_ => h_.1))) hb); have n1_ := Aside0.mk (Kd.R_below (by (with_reducible repeat (first | apply Kd.R_alloc | apply Kd.R_drewN | apply Kd.R_drew)); exact (Kd.R_mono (Kd.R_far (p := ⟨gb362, 0, none⟩) (Kd.R_types HO349.out BK362.out (by decide)) (fun _ hk => hk.2) (.slice Ao35 t357.length co35)) (fun _ h_ => h_.1))) hb); have n2_ := Aside0.mk (Kd.R_below (by (with_reducible repeat (first | apply Kd.R_alloc | apply Kd.R_drewN | apply Kd.R_drew)); exact (Kd.R_mono (Kd.R_far (p := ⟨gb362, 0, none⟩) (Kd.R_types HO355.out BK362.out (by decide)) (fun _ hk => hk.2) (.slice Ao35 t357.length co35)) (fun _ h_ => h_.1))) hb); have n3_ := Aside0.mk (Kd.R_below (by (with_reducible repeat (first | apply Kd.R_alloc | apply Kd.R_drewN | apply Kd.R_drew)); exact (Kd.R_mono (Kd.R_far (p := ⟨gb362, 0, none⟩) (Kd.R_types HO359.out BK362.out (by decide)) (fun _ hk => hk.2) (.slice Ao35 t357.length co35)) (fun _ h_ => h_.1))) hb); have n4_ := Aside0.mk (blk_below (g := gb342) (o := .cells #[.slice A0_0 l0_0.length c0_0] 41 (0, 0)) (by (with_reducible repeat (first | refine blk_drewN ?_ _ | refine blk_drew ?_ | refine blk_alloc ?_ _)); refine blk_far ?_ NB342_362.out _; (with_reducible repeat (first | refine blk_drewN ?_ _ | refine blk_drew ?_ | refine blk_alloc ?_ _)); exact BK342.out) hb); have n5_ := Aside0.mk (blk_below (g := gb352) (o := .cells #[.slice Ao23 t347.length co23] 26 (0, 0)) (by (with_reducible repeat (first | refine blk_drewN ?_ _ | refine blk_drew ?_ | refine blk_alloc ?_ _)); refine blk_far ?_ NB352_362.out _; (with_reducible repeat (first | refine blk_drewN ?_ _ | refine blk_drew ?_ | refine blk_alloc ?_ _)); exact BK352.out) hb); have n6_ := Aside0.mk (blk_below (g := gb356) (o := .cells #[.slice Ao29 t353.length co29] 26 (0, 0)) (by (with_reducible repeat (first | refine blk_drewN ?_ _ | refine blk_drew ?_ | refine blk_alloc ?_ _)); refine blk_far ?_ NB356_362.out _; (with_reducible repeat (first | refine blk_drewN ?_ _ | refine blk_drew ?_ | refine blk_alloc ?_ _)); exact BK356.out) hb); have n7_ := Aside0.mk (blk_below (g := gb362) (o := .cells #[.slice Ao35 t357.length co35] 26 (0, 0)) (by (with_reducible repeat (first | refine blk_drewN ?_ _ | refine blk_drew ?_ | refine blk_alloc ?_ _)); refine blk_put (cs := #[.slice none 0 0]) ?_ 0 _ rfl; (with_reducible repeat (first | refine blk_drewN ?_ _ | refine blk_drew ?_ | refine blk_alloc ?_ _)); exact BK362.out) hb); have n8_ := Aside0.mk (below_step (bw HB.out) hb); clear HO346 HO349 HO355 HO359 BK342 BK352 BK356 BK362 HB; have HO346 := n0_; have HO349 := n1_; have HO355 := n2_; have HO359 := n3_; have BK342 := n4_; have BK352 := n5_; have BK356 := n6_; have BK362 := n7_; have HB := n8_; clear n0_ n1_ n2_ n3_ n4_ n5_ n6_ n7_ n8_; (try clear hb); (try clear hb2); (try clear hk); (try clear hi)))
      go_meet
      case rel => exact ⟨_, (true), (by first | rfl | (simp; done) | (simp [*]; done)), H', ⟨by first | omega | exact Nat.le_refl _⟩, ⟨by (with_reducible repeat (first | apply Kd.R_alloc | apply Kd.R_drewN | apply Kd.R_drew)); exact Kd.R_mono HO349.out (fun _ hk => ⟨hk.1.2, hk.2⟩)⟩, ⟨by (with_reducible repeat (first | apply Kd.R_alloc | apply Kd.R_drewN | apply Kd.R_drew)); exact Kd.R_mono HO355.out (fun _ hk => ⟨hk.1.2, hk.2⟩)⟩, ⟨by (with_reducible repeat (first | apply Kd.R_alloc | apply Kd.R_drewN | apply Kd.R_drew)); exact Kd.R_mono HO359.out (fun _ hk => ⟨hk.1.2, hk.2⟩)⟩, ⟨bl BK342.out⟩, ⟨bl BK352.out⟩, ⟨bl BK356.out⟩, ⟨bl BK362.out⟩, ⟨bw HB.out⟩⟩
    ·replace c41 := Bool.eq_false_iff.mpr c41
     subst c41
     have H1 : (laws_FnExactReadTerm.j0 k a1 t350 t351 t360 t361 true l0_0 t347 t353 t357) = some r := by rw [if_neg (show ¬ (false = true) by decide)] at H; exact H
     clear H
     have H := H1
     clear H1
     have H' := Aside0.mk H
     clear H
     have hnb59 := NB362_342.out
     have hnc59 := NB342_362.out
     have hnb60 := NB362_352.out
     have hnc60 := NB352_362.out
     have hnb61 := NB362_356.out
     have hnc61 := NB356_362.out
     have hcz62_0 : w34.cell? ⟨gb362, 0, none⟩ = some (.slice none 0 0) := (blk_cell BK362.out 0).trans rfl
     have hfz62_0 := blk_frozen BK362.out 0
     have hnb63 := NB352_342.out
     have hnc63 := NB342_352.out
     have hnb64 := NB352_356.out
     have hnc64 := NB356_352.out
     have hcz65_0 : w34.cell? ⟨gb352, 0, none⟩ = some (.slice Ao23 t347.length co23) := (blk_cell BK352.out 0).trans rfl
     have hfz65_0 := blk_frozen BK352.out 0
     go_wp2_with (first | ((with_reducible refine gate_callee (f := 28) rfl ?_); refine goesL_ (some 46) rfl rfl Try.func28 (by kernel_rfl) rfl #[.agg #[.slice Ao35 t357.length co35], .agg #[.slice Ao23 t347.length co23]] rfl ar ?_; (with_reducible refine (laws_eqArena.calls k _ _ t357 _ _ t347 false _ ?side1 ?side2 ?side3 ?side4 A40.out).mono ?_); (case side1 => refine (Kd.R_reads' (e := 34) (base := w.heap.size) (ok := fun k_ => (((True ∧ some k_ ≠ (.slice Ao20 t344.length co20 : Value).ownBlock) ∧ some k_ ≠ (.slice Ao23 t347.length co23 : Value).ownBlock) ∧ some k_ ≠ (.slice Ao29 t353.length co29 : Value).ownBlock)) (n := t357.length) (c := co35) ?_).2.2; exact (by (with_reducible repeat (first | apply Kd.R_alloc | apply Kd.R_drewN | apply Kd.R_drew)); exact (Kd.R_mono (Kd.R_far (p := ⟨gb362, 0, none⟩) (Kd.R_types HO359.out BK362.out (by decide)) (fun _ hk => hk.2) (.slice Ao35 t357.length co35)) (fun _ h_ => h_.1)))); (case side2 => exact (Kd.R_reads' HO359.out).2.1); (case side3 => refine (Kd.R_reads' (e := 34) (base := w.heap.size) (ok := fun k_ => (((True ∧ some k_ ≠ (.slice Ao20 t344.length co20 : Value).ownBlock) ∧ some k_ ≠ (.slice Ao29 t353.length co29 : Value).ownBlock) ∧ some k_ ≠ (.slice Ao35 t357.length co35 : Value).ownBlock)) (n := t347.length) (c := co23) ?_).2.2; exact (by (with_reducible repeat (first | apply Kd.R_alloc | apply Kd.R_drewN | apply Kd.R_drew)); exact (Kd.R_mono (Kd.R_far (p := ⟨gb362, 0, none⟩) (Kd.R_types HO349.out BK362.out (by decide)) (fun _ hk => hk.2) (.slice Ao35 t357.length co35)) (fun _ h_ => h_.1)))); (case side4 => exact (Kd.R_reads' HO349.out).2.1); rintro e w66 ⟨rfl, hb⟩; refine ⟨_, rfl, ?_⟩; have n0_ := Aside0.mk (Kd.R_below (by (with_reducible repeat (first | apply Kd.R_alloc | apply Kd.R_drewN | apply Kd.R_drew)); exact (Kd.R_mono (Kd.R_far (p := ⟨gb362, 0, none⟩) (Kd.R_types HO346.out BK362.out (by decide)) (fun _ hk => hk.2) (.slice Ao35 t357.length co35)) (fun _ h_ => h_.1))) hb); have n1_ := Aside0.mk (Kd.R_below (by (with_reducible repeat (first | apply Kd.R_alloc | apply Kd.R_drewN | apply Kd.R_drew)); exact (Kd.R_mono (Kd.R_far (p := ⟨gb362, 0, none⟩) (Kd.R_types HO349.out BK362.out (by decide)) (fun _ hk => hk.2) (.slice Ao35 t357.length co35)) (fun _ h_ => h_.1))) hb); have n2_ := Aside0.mk (Kd.R_below (by (with_reducible repeat (first | apply Kd.R_alloc | apply Kd.R_drewN | apply Kd.R_drew)); exact (Kd.R_mono (Kd.R_far (p := ⟨gb362, 0, none⟩) (Kd.R_types HO355.out BK362.out (by decide)) (fun _ hk => hk.2) (.slice Ao35 t357.length co35)) (fun _ h_ => h_.1))) hb); have n3_ := Aside0.mk (Kd.R_below (by (with_reducible repeat (first | apply Kd.R_alloc | apply Kd.R_drewN | apply Kd.R_drew)); exact (Kd.R_mono (Kd.R_far (p := ⟨gb362, 0, none⟩) (Kd.R_types HO359.out BK362.out (by decide)) (fun _ hk => hk.2) (.slice Ao35 t357.length co35)) (fun _ h_ => h_.1))) hb); have n4_ := Aside0.mk (blk_below (g := gb342) (o := .cells #[.slice A0_0 l0_0.length c0_0] 41 (0, 0)) (by (with_reducible repeat (first | refine blk_drewN ?_ _ | refine blk_drew ?_ | refine blk_alloc ?_ _)); refine blk_far ?_ NB342_362.out _; (with_reducible repeat (first | refine blk_drewN ?_ _ | refine blk_drew ?_ | refine blk_alloc ?_ _)); exact BK342.out) hb); have n5_ := Aside0.mk (blk_below (g := gb352) (o := .cells #[.slice Ao23 t347.length co23] 26 (0, 0)) (by (with_reducible repeat (first | refine blk_drewN ?_ _ | refine blk_drew ?_ | refine blk_alloc ?_ _)); refine blk_far ?_ NB352_362.out _; (with_reducible repeat (first | refine blk_drewN ?_ _ | refine blk_drew ?_ | refine blk_alloc ?_ _)); exact BK352.out) hb); have n6_ := Aside0.mk (blk_below (g := gb356) (o := .cells #[.slice Ao29 t353.length co29] 26 (0, 0)) (by (with_reducible repeat (first | refine blk_drewN ?_ _ | refine blk_drew ?_ | refine blk_alloc ?_ _)); refine blk_far ?_ NB356_362.out _; (with_reducible repeat (first | refine blk_drewN ?_ _ | refine blk_drew ?_ | refine blk_alloc ?_ _)); exact BK356.out) hb); have n7_ := Aside0.mk (blk_below (g := gb362) (o := .cells #[.slice Ao35 t357.length co35] 26 (0, 0)) (by (with_reducible repeat (first | refine blk_drewN ?_ _ | refine blk_drew ?_ | refine blk_alloc ?_ _)); refine blk_put (cs := #[.slice none 0 0]) ?_ 0 _ rfl; (with_reducible repeat (first | refine blk_drewN ?_ _ | refine blk_drew ?_ | refine blk_alloc ?_ _)); exact BK362.out) hb); have n8_ := Aside0.mk (below_step (bw HB.out) hb); clear HO346 HO349 HO355 HO359 BK342 BK352 BK356 BK362 HB; have HO346 := n0_; have HO349 := n1_; have HO355 := n2_; have HO359 := n3_; have BK342 := n4_; have BK352 := n5_; have BK356 := n6_; have BK362 := n7_; have HB := n8_; clear n0_ n1_ n2_ n3_ n4_ n5_ n6_ n7_ n8_; (try clear hb); (try clear hb2); (try clear hk); (try clear hi)))
     go_meet
     case rel => exact ⟨_, (true), (by first | rfl | (simp; done) | (simp [*]; done)), H', ⟨by first | omega | exact Nat.le_refl _⟩, ⟨by (with_reducible repeat (first | apply Kd.R_alloc | apply Kd.R_drewN | apply Kd.R_drew)); exact Kd.R_mono HO349.out (fun _ hk => ⟨hk.1.2, hk.2⟩)⟩, ⟨by (with_reducible repeat (first | apply Kd.R_alloc | apply Kd.R_drewN | apply Kd.R_drew)); exact Kd.R_mono HO355.out (fun _ hk => ⟨hk.1.2, hk.2⟩)⟩, ⟨by (with_reducible repeat (first | apply Kd.R_alloc | apply Kd.R_drewN | apply Kd.R_drew)); exact Kd.R_mono HO359.out (fun _ hk => ⟨hk.1.2, hk.2⟩)⟩, ⟨bl BK342.out⟩, ⟨bl BK352.out⟩, ⟨bl BK356.out⟩, ⟨bl BK362.out⟩, ⟨bw HB.out⟩⟩
   case rest =>
    clear HC14
    try clear c1
    try clear c2
    try clear p2
    try clear c3
    try clear c3b0
    try clear c3b1
    try clear c4
    try clear c5
    try clear c6
    try clear c6b0
    try clear c12
    try clear c24
    try clear c26
    try clear c28
    try clear c30
    try clear c31
    try clear c36
    try clear c37
    try clear c38
    try clear c41
    try clear c42
    try clear c42b0
    try clear c42b1
    try clear c43
    try clear c44
    try clear c45
    try clear c47
    try clear c48
    try clear c51
    try clear c52
    try clear c53
    try clear c55
    try clear c56
    try clear c59
    try clear c60
    try clear c61
    try clear c63
    try clear c64
    try clear c65
    try clear c66
    try clear hcz16_0
    try clear hcz18_0
    try clear hcz25_0
    try clear hcz26_0
    try clear hcz32_0
    try clear hcz39_0
    try clear hcz46_0
    try clear hcz49_0
    try clear hcz54_0
    try clear hcz57_0
    try clear hcz62_0
    try clear hcz65_0
    try clear hcz8_0
    try clear hfz16_0
    try clear hfz18_0
    try clear hfz25_0
    try clear hfz26_0
    try clear hfz32_0
    try clear hfz39_0
    try clear hfz46_0
    try clear hfz49_0
    try clear hfz54_0
    try clear hfz57_0
    try clear hfz62_0
    try clear hfz65_0
    try clear hfz8_0
    obtain ⟨kq, x57_13, rfl, HA, HJ13, HO_353000, HO_357000, HO_363000, BK342, BK352, BK356, BK362, HB⟩ := hcut
    cases kq with
    | zero => exact absurd HA.out (by simp [laws_FnExactReadTerm.j0])
    | succ kj13 =>
     have H := HA.out
     clear HA
     simp only [laws_FnExactReadTerm.j0] at H
     by_cases c67 : x57_13 = true
     ·subst c67
      have H1 : (some false) = some r := by rw [if_pos rfl] at H; exact H
      clear H
      have H := H1
      clear H1
      obtain rfl := Option.some.inj H
      go_wp2
      go_ret
      exact ⟨by first | rfl | (simp [errW_none, errW_some] <;> rfl) | (simp [*, errW_none, errW_some] <;> rfl), bw HB.out⟩
     ·replace c67 := Bool.eq_false_iff.mpr c67
      subst c67
      have H1 : ((laws_toArena.f kj13 l0_0).bind fun t364 => ((laws_eqArena.f kj13 t353 t364).bind fun t367 => (if t367 = true then ((laws_markArena.f kj13 t353 1).bind fun bt368 => (if bt368.1 < 0 then (laws_FnExactReadTerm.j1 kj13 a1 t350 t351 true l0_0 t347 t357) else ((laws_eqArena.f kj13 t357 t347).bind fun t370 => (if t370 = true then (if t360 = t350 then (laws_FnExactReadTerm.j1 kj13 a1 t350 t351 (t361 != t351) l0_0 t347 t357) else (laws_FnExactReadTerm.j1 kj13 a1 t350 t351 true l0_0 t347 t357)) else (laws_FnExactReadTerm.j1 kj13 a1 t350 t351 true l0_0 t347 t357))))) else (some false)))) = some r := by rw [if_neg (show ¬ (false = true) by decide)] at H; exact H
      clear H
      have H := H1
      clear H1
      replace H := Option.bind_eq_some_iff.mp H
      obtain ⟨t364, A680, H⟩ := H
      replace H : ((laws_eqArena.f kj13 t353 t364).bind fun t367 => (if t367 = true then ((laws_markArena.f kj13 t353 1).bind fun bt368 => (if bt368.1 < 0 then (laws_FnExactReadTerm.j1 kj13 a1 t350 t351 true l0_0 t347 t357) else ((laws_eqArena.f kj13 t357 t347).bind fun t370 => (if t370 = true then (if t360 = t350 then (laws_FnExactReadTerm.j1 kj13 a1 t350 t351 (t361 != t351) l0_0 t347 t357) else (laws_FnExactReadTerm.j1 kj13 a1 t350 t351 true l0_0 t347 t357)) else (laws_FnExactReadTerm.j1 kj13 a1 t350 t351 true l0_0 t347 t357))))) else (some false))) = some r := H
      have A68 := Aside0.mk A680
      clear A680
      replace H := Option.bind_eq_some_iff.mp H
      obtain ⟨t367, A690, H⟩ := H
      replace H : (if t367 = true then ((laws_markArena.f kj13 t353 1).bind fun bt368 => (if bt368.1 < 0 then (laws_FnExactReadTerm.j1 kj13 a1 t350 t351 true l0_0 t347 t357) else ((laws_eqArena.f kj13 t357 t347).bind fun t370 => (if t370 = true then (if t360 = t350 then (laws_FnExactReadTerm.j1 kj13 a1 t350 t351 (t361 != t351) l0_0 t347 t357) else (laws_FnExactReadTerm.j1 kj13 a1 t350 t351 true l0_0 t347 t357)) else (laws_FnExactReadTerm.j1 kj13 a1 t350 t351 true l0_0 t347 t357))))) else (some false)) = some r := H
      have A69 := Aside0.mk A690
      clear A690
      by_cases c70 : t367 = true
      ·subst c70
       have H1 : ((laws_markArena.f kj13 t353 1).bind fun bt368 => (if bt368.1 < 0 then (laws_FnExactReadTerm.j1 kj13 a1 t350 t351 true l0_0 t347 t357) else ((laws_eqArena.f kj13 t357 t347).bind fun t370 => (if t370 = true then (if t360 = t350 then (laws_FnExactReadTerm.j1 kj13 a1 t350 t351 (t361 != t351) l0_0 t347 t357) else (laws_FnExactReadTerm.j1 kj13 a1 t350 t351 true l0_0 t347 t357)) else (laws_FnExactReadTerm.j1 kj13 a1 t350 t351 true l0_0 t347 t357))))) = some r := by rw [if_pos rfl] at H; exact H
       clear H
       have H := H1
       clear H1
       replace H := Option.bind_eq_some_iff.mp H
       obtain ⟨⟨t368, t369⟩, A710, H⟩ := H
       replace H : (if t368 < 0 then (laws_FnExactReadTerm.j1 kj13 a1 t350 t351 true l0_0 t347 t357) else ((laws_eqArena.f kj13 t357 t347).bind fun t370 => (if t370 = true then (if t360 = t350 then (laws_FnExactReadTerm.j1 kj13 a1 t350 t351 (t361 != t351) l0_0 t347 t357) else (laws_FnExactReadTerm.j1 kj13 a1 t350 t351 true l0_0 t347 t357)) else (laws_FnExactReadTerm.j1 kj13 a1 t350 t351 true l0_0 t347 t357)))) = some r := H
       have A71 := Aside0.mk A710
       clear A710
       have HC72 := Aside0.mk H
       clear H
       try go_wp2
       have n0_ := Aside0.mk (Kd.R_drew HO_353000.out)
       have n1_ := Aside0.mk (Kd.R_drew HO_357000.out)
       have n2_ := Aside0.mk (Kd.R_drew HO_363000.out)
       have n3_ := Aside0.mk (blk_drew BK342.out)
       have n4_ := Aside0.mk (blk_drew BK352.out)
       have n5_ := Aside0.mk (blk_drew BK356.out)
       have n6_ := Aside0.mk (blk_drew BK362.out)
       have n7_ := Aside0.mk (below_drew1 HB.out)
       clear HO_353000
       clear HO_357000
       clear HO_363000
       clear BK342
       clear BK352
       clear BK356
       clear BK362
       clear HB
       have HO_353000 := n0_
       have HO_357000 := n1_
       have HO_363000 := n2_
       have BK342 := n3_
       have BK352 := n4_
       have BK356 := n5_
       have BK362 := n6_
       have HB := n7_
       clear n0_ n1_ n2_ n3_ n4_ n5_ n6_ n7_
       refine start_ (n := 5) (S := fun w' => w'.cell? ⟨gb356, 0, none⟩ = some (.slice Ao29 t353.length co29) ∧ w'.cell? ⟨gb342, 0, none⟩ = some (.slice A0_0 l0_0.length c0_0)) (ds := []) #[false, false, false, false, false] (by kernel_rfl) rfl rfl ⟨(blk_cell BK356.out 0).trans rfl, (blk_cell BK342.out 0).trans rfl⟩ (fun hHeld => ?_)
       generalize wc.drew = w73 at HO_353000 HO_357000 HO_363000 BK342 BK352 BK356 BK362 HB hHeld ⊢
       refine take_ (i := 0) (N := some 58) (v := ?_) (a' := ?_) #[true, false, false, false, false] rfl rfl (by kernel_rfl) (fun _ _ _ h => h) (Or.inl ⟨by rfl, ?_⟩) hHeld ?_ ?_
       rotate_left
       ·rintro w' ⟨s0, s1⟩
        go_simp
        with_reducible rfl
       rotate_left
       ·simp only [Act.put, List.setIfInBounds_toArray, List.set_cons_zero, List.set_cons_succ, i64_w, i32_w]
        rfl
       refine take_ (i := 1) (N := some 59) (v := ?_) (a' := ?_) #[true, true, false, false, false] rfl rfl (by kernel_rfl) (fun _ _ _ h => h) (Or.inl ⟨by rfl, ?_⟩) hHeld ?_ ?_
       rotate_left
       ·rintro w' ⟨s0, s1⟩
        go_simp
        with_reducible rfl
       rotate_left
       ·simp only [Act.put, List.setIfInBounds_toArray, List.set_cons_zero, List.set_cons_succ, i64_w, i32_w]
        rfl
       refine one_ (i := 2) (N := some 60) #[true, true, true, false, false] rfl rfl (by kernel_rfl) (by decide) (fun K hK => ?_)
       refine goes_ Try.func26 (by kernel_rfl) rfl #[.agg #[.slice A0_0 l0_0.length c0_0]] (by rfl) rfl rfl ar ?_
       with_reducible refine (laws_toArena.calls kj13 _ _ l0_0 t364 _ ?side1 ?side2 A68.out).mono ?_
       (case side1 => exact cl (Kd.C_below HR0_0.out HB.out))
       (case side2 => exact HC0_0.out)
       rintro e w74 ⟨v365, rfl, ho0, hb⟩
       refine ⟨_, rfl, ?_⟩
       have n0_ := Aside0.mk (Kd.R_elder' (rl HO_353000.out) (Kd.R_base ho0) hb)
       have n1_ := Aside0.mk (Kd.R_elder' (rl HO_357000.out) (Kd.R_base ho0) hb)
       have n2_ := Aside0.mk (Kd.R_elder' (rl HO_363000.out) (Kd.R_base ho0) hb)
       have n3_ := Aside0.mk (Kd.R_lower (Kd.R_new' (Kd.R_new' (Kd.R_new' ho0 (Kd.R_lt (rl HO_353000.out))) (Kd.R_lt (rl HO_357000.out))) (Kd.R_lt (rl HO_363000.out))) (below_size (bw HB.out)))
       have n4_ := Aside0.mk (blk_below (g := gb342) (o := .cells #[.slice A0_0 l0_0.length c0_0] 41 (0, 0)) (bl BK342.out) hb)
       have n5_ := Aside0.mk (blk_below (g := gb352) (o := .cells #[.slice Ao23 t347.length co23] 26 (0, 0)) (bl BK352.out) hb)
       have n6_ := Aside0.mk (blk_below (g := gb356) (o := .cells #[.slice Ao29 t353.length co29] 26 (0, 0)) (bl BK356.out) hb)
       have n7_ := Aside0.mk (blk_below (g := gb362) (o := .cells #[.slice Ao35 t357.length co35] 26 (0, 0)) (bl BK362.out) hb)
       have n8_ := Aside0.mk (below_step (bw HB.out) hb)
       clear HO_353000
       clear HO_357000
       clear HO_363000
       clear BK342
       clear BK352
       clear BK356
       clear BK362
       clear HB
       have HO_353000 := n0_
       have HO_357000 := n1_
       have HO_363000 := n2_
       have HO366 := n3_
       have BK342 := n4_
       have BK352 := n5_
       have BK356 := n6_
       have BK362 := n7_
       have HB := n8_
       clear n0_ n1_ n2_ n3_ n4_ n5_ n6_ n7_ n8_
       (try clear hb)
       (try clear hb2)
       (try clear hk)
       (try clear hi)
       (try clear ho0)
       obtain ⟨Ao75, co75, eo75⟩ := Kd.R_slice HO366.out
       (first | subst eo75 | (injection eo75 with f1_ f2_ f3_; have f4_ := f1_.symm; have f5_ := f3_.symm; clear f1_ f2_ f3_; subst f4_; subst f5_))
       refine hK.out _ _ ⟨(blk_cell BK356.out 0).trans rfl, (blk_cell BK342.out 0).trans rfl⟩ (fun hHeld => ?_)
       clear hK K
       refine norm_ (a' := ?_) ?_ ?_
       rotate_left
       ·show Act.put _ (some 60) _ = _
        simp only [Act.put, List.setIfInBounds_toArray, List.set_cons_zero, List.set_cons_succ, i64_w, i32_w]
        rfl
       refine one_ (i := 3) (N := some 61) #[true, true, true, true, false] rfl rfl (by kernel_rfl) (by decide) (fun K hK => ?_)
       refine goes_ Try.func28 (by kernel_rfl) rfl #[.agg #[.slice Ao29 t353.length co29], .agg #[.slice Ao75 t364.length co75]] (by rfl) rfl rfl ar ?_
       with_reducible refine (laws_eqArena.calls kj13 _ _ t353 _ _ t364 true _ ?side1 ?side2 ?side3 ?side4 A69.out).mono ?_
       (case side1 => exact cl (Kd.R_reads' HO_357000.out).2.2)
       (case side2 => exact (Kd.R_reads' HO_357000.out).2.1)
       (case side3 => exact cl (Kd.R_reads' HO366.out).2.2)
       (case side4 => exact (Kd.R_reads' HO366.out).2.1)
       rintro e w76 ⟨rfl, hb⟩
       refine ⟨_, rfl, ?_⟩
       have n0_ := Aside0.mk (Kd.R_below (rl HO_353000.out) hb)
       have n1_ := Aside0.mk (Kd.R_below (rl HO_357000.out) hb)
       have n2_ := Aside0.mk (Kd.R_below (rl HO_363000.out) hb)
       have n3_ := Aside0.mk (Kd.R_below (rl HO366.out) hb)
       have n4_ := Aside0.mk (blk_below (g := gb342) (o := .cells #[.slice A0_0 l0_0.length c0_0] 41 (0, 0)) (bl BK342.out) hb)
       have n5_ := Aside0.mk (blk_below (g := gb352) (o := .cells #[.slice Ao23 t347.length co23] 26 (0, 0)) (bl BK352.out) hb)
       have n6_ := Aside0.mk (blk_below (g := gb356) (o := .cells #[.slice Ao29 t353.length co29] 26 (0, 0)) (bl BK356.out) hb)
       have n7_ := Aside0.mk (blk_below (g := gb362) (o := .cells #[.slice Ao35 t357.length co35] 26 (0, 0)) (bl BK362.out) hb)
       have n8_ := Aside0.mk (below_step (bw HB.out) hb)
       clear HO_353000
       clear HO_357000
       clear HO_363000
       clear HO366
       clear BK342
       clear BK352
       clear BK356
       clear BK362
       clear HB
       have HO_353000 := n0_
       have HO_357000 := n1_
       have HO_363000 := n2_
       have HO366 := n3_
       have BK342 := n4_
       have BK352 := n5_
       have BK356 := n6_
       have BK362 := n7_
       have HB := n8_
       clear n0_ n1_ n2_ n3_ n4_ n5_ n6_ n7_ n8_
       (try clear hb)
       (try clear hb2)
       (try clear hk)
       (try clear hi)
       refine hK.out _ _ ⟨(blk_cell BK356.out 0).trans rfl, (blk_cell BK342.out 0).trans rfl⟩ (fun hHeld => ?_)
       clear hK K
       refine norm_ (a' := ?_) ?_ ?_
       rotate_left
       ·show Act.put _ (some 61) _ = _
        simp only [Act.put, List.setIfInBounds_toArray, List.set_cons_zero, List.set_cons_succ, i64_w, i32_w]
        rfl
       refine pure_ (i := 4) (N := some 62) (v := ?_) (a' := ?_) #[true, true, true, true, true] rfl rfl (by kernel_rfl) (fun _ _ _ h => h) (Or.inl ⟨by rfl, ?_⟩) ?_ ?_
       rotate_left
       ·intro w'
        go_simp
        with_reducible rfl
       rotate_left
       ·simp only [Act.put, List.setIfInBounds_toArray, List.set_cons_zero, List.set_cons_succ, i64_w, i32_w]
        rfl
       refine done_ (by kernel_rfl) ?_
       have hnb77 := NB356_342.out
       have hnc77 := NB342_356.out
       have hnb78 := NB356_352.out
       have hnc78 := NB352_356.out
       have hnb79 := NB356_362.out
       have hnc79 := NB362_356.out
       have hcz80_0 : w76.cell? ⟨gb356, 0, none⟩ = some (.slice Ao29 t353.length co29) := (blk_cell BK356.out 0).trans rfl
       have hfz80_0 := blk_frozen BK356.out 0
       go_upto_region 16 with (first | ((with_reducible refine gate_callee (f := 37) rfl ?_); refine goesL_ (some 65) rfl rfl Try.func37 (by kernel_rfl) rfl #[.agg #[.slice Ao29 t353.length co29], .int .i64 1] rfl ar ?_; (with_reducible refine (laws_markArena.calls kj13 (fun k_ => some k_ = (.slice Ao29 t353.length co29 : Value).ownBlock) (.slice Ao29 t353.length co29) t353 1 t368 t369 w _ ?side1 ?side2 A71.out).mono ?_); (case side1 => exact bw HB.out); (case side2 => exact Kd.R_tight rfl HO_357000.out); rintro e w81 ⟨rfl, hy0, hb, hkp⟩; refine ⟨_, rfl, ?_⟩; have n0_ := Aside0.mk (Kd.R_mono (ok' := fun k_ => some k_ ≠ (.slice Ao29 t353.length co29 : Value).ownBlock ∧ some k_ ≠ (.slice Ao35 t357.length co35 : Value).ownBlock ∧ some k_ ≠ (.slice Ao75 t364.length co75 : Value).ownBlock) (Kd.R_keptB (HO_353000.out) hkp (fun k_ hk_ hs_ => (hk_.1.1) hs_)) (fun k_ hk_ => ⟨hk_.1.1.1, hk_.1.1.2, hk_.1.2⟩)); have n1_ := Aside0.mk (Kd.R_reok rfl hy0 (fun k_ e_ => HO_357000.out.1 k_ e_)); have n2_ := Aside0.mk (Kd.R_mono (ok' := fun k_ => some k_ ≠ (.slice Ao23 t347.length co23 : Value).ownBlock ∧ some k_ ≠ (.slice Ao29 t353.length co29 : Value).ownBlock ∧ some k_ ≠ (.slice Ao75 t364.length co75 : Value).ownBlock) (Kd.R_keptB (HO_363000.out) hkp (fun k_ hk_ hs_ => (hk_.1.2) hs_)) (fun k_ hk_ => ⟨hk_.1.1.1, hk_.1.1.2, hk_.1.2⟩)); have n3_ := Aside0.mk (blk_kept (bl BK342.out) hkp (fun hs_ => (fun e_ => (Kd.R_ne HO_357000.out BK342.out (by decide)) e_) hs_)); have n4_ := Aside0.mk (blk_kept (bl BK352.out) hkp (fun hs_ => (fun e_ => (Kd.R_ne HO_357000.out BK352.out (by decide)) e_) hs_)); have n5_ := Aside0.mk (blk_kept (bl BK356.out) hkp (fun hs_ => (fun e_ => (Kd.R_ne HO_357000.out BK356.out (by decide)) e_) hs_)); have n6_ := Aside0.mk (blk_kept (bl BK362.out) hkp (fun hs_ => (fun e_ => (Kd.R_ne HO_357000.out BK362.out (by decide)) e_) hs_)); have n7_ := Aside0.mk (Kd.R_mono (ok' := fun k_ => some k_ ≠ (.slice Ao23 t347.length co23 : Value).ownBlock ∧ some k_ ≠ (.slice Ao29 t353.length co29 : Value).ownBlock ∧ some k_ ≠ (.slice Ao35 t357.length co35 : Value).ownBlock) (Kd.R_keptB (HO366.out) hkp (fun k_ hk_ hs_ => (hk_.1.2) hs_)) (fun k_ hk_ => ⟨hk_.1.1.1.2, hk_.1.1.2, hk_.1.2⟩)); have n8_ := Aside0.mk (hb); clear HO_353000 HO_357000 HO_363000 BK342 BK352 BK356 BK362 HO366 HB; have HO_353000 := n0_; have HO_357000 := n1_; have HO_363000 := n2_; have BK342 := n3_; have BK352 := n4_; have BK356 := n5_; have BK362 := n6_; have HO366 := n7_; have HB := n8_; clear n0_ n1_ n2_ n3_ n4_ n5_ n6_ n7_ n8_; (try clear hb); (try clear hkp); (try clear hy0)))
       (try simp only [Act.put, List.setIfInBounds_toArray, List.set_cons_zero, List.set_cons_succ])
       go_cut [83] (fun v83 wc => ∃ (kq : Nat) (x83_71 : Bool), v83 = .bool x83_71 ∧ Aside0 (laws_FnExactReadTerm.j1 kq a1 t350 t351 x83_71 l0_0 t347 t357 = some r) ∧ Aside0 (kq ≤ kj13) ∧ Aside0 (Kd.R k34 34 wc w.heap.size (fun k_ => some k_ ≠ ((.slice Ao29 t353.length co29) : Value).ownBlock ∧ some k_ ≠ ((.slice Ao35 t357.length co35) : Value).ownBlock) (.slice Ao23 t347.length co23) t347) ∧ Aside0 (Kd.R k34 34 wc w.heap.size (fun k_ => some k_ ≠ ((.slice Ao23 t347.length co23) : Value).ownBlock ∧ some k_ ≠ ((.slice Ao35 t357.length co35) : Value).ownBlock) (.slice Ao29 t353.length co29) t369) ∧ Aside0 (Kd.R k34 34 wc w.heap.size (fun k_ => some k_ ≠ ((.slice Ao23 t347.length co23) : Value).ownBlock ∧ some k_ ≠ ((.slice Ao29 t353.length co29) : Value).ownBlock) (.slice Ao35 t357.length co35) t357) ∧ Aside0 (wc.heap[gb342]? = some (.cells #[(.slice A0_0 l0_0.length c0_0)] 41 (0, 0))) ∧ Aside0 (wc.heap[gb352]? = some (.cells #[(.slice Ao23 t347.length co23)] 26 (0, 0))) ∧ Aside0 (wc.heap[gb356]? = some (.cells #[(.slice Ao29 t353.length co29)] 26 (0, 0))) ∧ Aside0 (wc.heap[gb362]? = some (.cells #[(.slice Ao35 t357.length co35)] 26 (0, 0))) ∧ Aside0 (Below w.heap.size w wc))
       case first =>
        have H := HC72.out
        clear HC72
        by_cases c82 : t368 < 0
        ·rw [if_pos c82] at H
         have c82b0 : decide (t368 < 0) = true := decide_eq_true c82
         clear c82
         (first | rw [c82b0] | (simp only [i64_w, i32_w]; rw [c82b0]) | skip)
         have H' := Aside0.mk H
         clear H
         go_wp2
         go_meet
         case rel => exact ⟨_, (true), (by first | rfl | (simp; done) | (simp [*]; done)), H', ⟨by have := HJ13.out; first | omega | exact Nat.le_refl _⟩, ⟨by (with_reducible repeat (first | apply Kd.R_alloc | apply Kd.R_drewN | apply Kd.R_drew)); exact Kd.R_mono HO_353000.out (fun _ hk => ⟨hk.1, hk.2.1⟩)⟩, ⟨by (with_reducible repeat (first | apply Kd.R_alloc | apply Kd.R_drewN | apply Kd.R_drew)); exact Kd.R_mono HO_357000.out (fun _ hk => ⟨hk.1.1, hk.1.2⟩)⟩, ⟨by (with_reducible repeat (first | apply Kd.R_alloc | apply Kd.R_drewN | apply Kd.R_drew)); exact Kd.R_mono HO_363000.out (fun _ hk => ⟨hk.1, hk.2.1⟩)⟩, ⟨bl BK342.out⟩, ⟨bl BK352.out⟩, ⟨bl BK356.out⟩, ⟨bl BK362.out⟩, ⟨bw HB.out⟩⟩
        ·rw [if_neg c82] at H
         have c82b0 : decide (t368 < 0) = false := decide_eq_false c82
         clear c82
         (first | rw [c82b0] | (simp only [i64_w, i32_w]; rw [c82b0]) | skip)
         replace H := Option.bind_eq_some_iff.mp H
         obtain ⟨t370, A830, H⟩ := H
         replace H : (if t370 = true then (if t360 = t350 then (laws_FnExactReadTerm.j1 kj13 a1 t350 t351 (t361 != t351) l0_0 t347 t357) else (laws_FnExactReadTerm.j1 kj13 a1 t350 t351 true l0_0 t347 t357)) else (laws_FnExactReadTerm.j1 kj13 a1 t350 t351 true l0_0 t347 t357)) = some r := H
         have A83 := Aside0.mk A830
         clear A830
         by_cases c84 : t370 = true
         ·subst c84
          have H1 : (if t360 = t350 then (laws_FnExactReadTerm.j1 kj13 a1 t350 t351 (t361 != t351) l0_0 t347 t357) else (laws_FnExactReadTerm.j1 kj13 a1 t350 t351 true l0_0 t347 t357)) = some r := by rw [if_pos rfl] at H; exact H
          clear H
          have H := H1
          clear H1
          by_cases c85 : t360 = t350
          ·rw [if_pos c85] at H
           have c85b0 : (t360 == t350) = true := beq_iff_eq.mpr c85
           have c85b1 : (t360 != t350) = false := bne_eq_false_iff_eq.mpr c85
           clear c85
           have H' := Aside0.mk H
           clear H
           have hnb86 := NB362_342.out
           have hnc86 := NB342_362.out
           have hnb87 := NB362_352.out
           have hnc87 := NB352_362.out
           have hnb88 := NB362_356.out
           have hnc88 := NB356_362.out
           have hcz89_0 : w81.cell? ⟨gb362, 0, none⟩ = some (.slice Ao35 t357.length co35) := (blk_cell BK362.out 0).trans rfl
           have hfz89_0 := blk_frozen BK362.out 0
           have hnb90 := NB352_342.out
           have hnc90 := NB342_352.out
           have hnb91 := NB352_356.out
           have hnc91 := NB356_352.out
           have hcz92_0 : w81.cell? ⟨gb352, 0, none⟩ = some (.slice Ao23 t347.length co23) := (blk_cell BK352.out 0).trans rfl
           have hfz92_0 := blk_frozen BK352.out 0
           go_wp2_with (first | (go_at_call 28; (with_reducible refine (laws_eqArena.calls kj13 _ _ t357 _ _ t347 true _ ?side1 ?side2 ?side3 ?side4 A83.out).mono ?_); (case side1 => exact cl (Kd.R_reads' HO_363000.out).2.2); (case side2 => exact (Kd.R_reads' HO_363000.out).2.1); (case side3 => exact cl (Kd.R_reads' HO_353000.out).2.2); (case side4 => exact (Kd.R_reads' HO_353000.out).2.1); rintro e w93 ⟨rfl, hb⟩; have n0_ := Aside0.mk (Kd.R_below (rl HO_353000.out) hb); have n1_ := Aside0.mk (Kd.R_below (rl HO_357000.out) hb); have n2_ := Aside0.mk (Kd.R_below (rl HO_363000.out) hb); have n3_ := Aside0.mk (Kd.R_below (rl HO366.out) hb); have n4_ := Aside0.mk (blk_below (g := gb342) (o := .cells #[.slice A0_0 l0_0.length c0_0] 41 (0, 0)) (bl BK342.out) hb); have n5_ := Aside0.mk (blk_below (g := gb352) (o := .cells #[.slice Ao23 t347.length co23] 26 (0, 0)) (bl BK352.out) hb); have n6_ := Aside0.mk (blk_below (g := gb356) (o := .cells #[.slice Ao29 t353.length co29] 26 (0, 0)) (bl BK356.out) hb); have n7_ := Aside0.mk (blk_below (g := gb362) (o := .cells #[.slice Ao35 t357.length co35] 26 (0, 0)) (bl BK362.out) hb); have n8_ := Aside0.mk (below_step (bw HB.out) hb); clear HO_353000 HO_357000 HO_363000 HO366 BK342 BK352 BK356 BK362 HB; have HO_353000 := n0_; have HO_357000 := n1_; have HO_363000 := n2_; have HO366 := n3_; have BK342 := n4_; have BK352 := n5_; have BK356 := n6_; have BK362 := n7_; have HB := n8_; clear n0_ n1_ n2_ n3_ n4_ n5_ n6_ n7_ n8_; (try clear hb); (try clear hb2); (try clear hk); (try clear hi)))
           go_meet
           case rel => exact ⟨_, ((t361 != t351)), (by first | rfl | (simp; done) | (simp [*]; done)), H', ⟨by have := HJ13.out; first | omega | exact Nat.le_refl _⟩, ⟨by (with_reducible repeat (first | apply Kd.R_alloc | apply Kd.R_drewN | apply Kd.R_drew)); exact Kd.R_mono HO_353000.out (fun _ hk => ⟨hk.1, hk.2.1⟩)⟩, ⟨by (with_reducible repeat (first | apply Kd.R_alloc | apply Kd.R_drewN | apply Kd.R_drew)); exact Kd.R_mono HO_357000.out (fun _ hk => ⟨hk.1.1, hk.1.2⟩)⟩, ⟨by (with_reducible repeat (first | apply Kd.R_alloc | apply Kd.R_drewN | apply Kd.R_drew)); exact Kd.R_mono HO_363000.out (fun _ hk => ⟨hk.1, hk.2.1⟩)⟩, ⟨bl BK342.out⟩, ⟨bl BK352.out⟩, ⟨bl BK356.out⟩, ⟨bl BK362.out⟩, ⟨bw HB.out⟩⟩
          ·rw [if_neg c85] at H
           have c85b0 : (t360 == t350) = false := beq_eq_false_iff_ne.mpr c85
           have c85b1 : (t360 != t350) = true := bne_iff_ne.mpr c85
           have H' := Aside0.mk H
           clear H
           have hnb94 := NB362_342.out
           have hnc94 := NB342_362.out
           have hnb95 := NB362_352.out
           have hnc95 := NB352_362.out
           have hnb96 := NB362_356.out
           have hnc96 := NB356_362.out
           have hcz97_0 : w81.cell? ⟨gb362, 0, none⟩ = some (.slice Ao35 t357.length co35) := (blk_cell BK362.out 0).trans rfl
           have hfz97_0 := blk_frozen BK362.out 0
           have hnb98 := NB352_342.out
           have hnc98 := NB342_352.out
           have hnb99 := NB352_356.out
           have hnc99 := NB356_352.out
           have hcz100_0 : w81.cell? ⟨gb352, 0, none⟩ = some (.slice Ao23 t347.length co23) := (blk_cell BK352.out 0).trans rfl
           have hfz100_0 := blk_frozen BK352.out 0
           go_wp2_with (first | (go_at_call 28; (with_reducible refine (laws_eqArena.calls kj13 _ _ t357 _ _ t347 true _ ?side1 ?side2 ?side3 ?side4 A83.out).mono ?_); (case side1 => exact cl (Kd.R_reads' HO_363000.out).2.2); (case side2 => exact (Kd.R_reads' HO_363000.out).2.1); (case side3 => exact cl (Kd.R_reads' HO_353000.out).2.2); (case side4 => exact (Kd.R_reads' HO_353000.out).2.1); rintro e w101 ⟨rfl, hb⟩; have n0_ := Aside0.mk (Kd.R_below (rl HO_353000.out) hb); have n1_ := Aside0.mk (Kd.R_below (rl HO_357000.out) hb); have n2_ := Aside0.mk (Kd.R_below (rl HO_363000.out) hb); have n3_ := Aside0.mk (Kd.R_below (rl HO366.out) hb); have n4_ := Aside0.mk (blk_below (g := gb342) (o := .cells #[.slice A0_0 l0_0.length c0_0] 41 (0, 0)) (bl BK342.out) hb); have n5_ := Aside0.mk (blk_below (g := gb352) (o := .cells #[.slice Ao23 t347.length co23] 26 (0, 0)) (bl BK352.out) hb); have n6_ := Aside0.mk (blk_below (g := gb356) (o := .cells #[.slice Ao29 t353.length co29] 26 (0, 0)) (bl BK356.out) hb); have n7_ := Aside0.mk (blk_below (g := gb362) (o := .cells #[.slice Ao35 t357.length co35] 26 (0, 0)) (bl BK362.out) hb); have n8_ := Aside0.mk (below_step (bw HB.out) hb); clear HO_353000 HO_357000 HO_363000 HO366 BK342 BK352 BK356 BK362 HB; have HO_353000 := n0_; have HO_357000 := n1_; have HO_363000 := n2_; have HO366 := n3_; have BK342 := n4_; have BK352 := n5_; have BK356 := n6_; have BK362 := n7_; have HB := n8_; clear n0_ n1_ n2_ n3_ n4_ n5_ n6_ n7_ n8_; (try clear hb); (try clear hb2); (try clear hk); (try clear hi)))
           go_meet
           case rel => exact ⟨_, (true), (by first | rfl | (simp; done) | (simp [*]; done)), H', ⟨by have := HJ13.out; first | omega | exact Nat.le_refl _⟩, ⟨by (with_reducible repeat (first | apply Kd.R_alloc | apply Kd.R_drewN | apply Kd.R_drew)); exact Kd.R_mono HO_353000.out (fun _ hk => ⟨hk.1, hk.2.1⟩)⟩, ⟨by (with_reducible repeat (first | apply Kd.R_alloc | apply Kd.R_drewN | apply Kd.R_drew)); exact Kd.R_mono HO_357000.out (fun _ hk => ⟨hk.1.1, hk.1.2⟩)⟩, ⟨by (with_reducible repeat (first | apply Kd.R_alloc | apply Kd.R_drewN | apply Kd.R_drew)); exact Kd.R_mono HO_363000.out (fun _ hk => ⟨hk.1, hk.2.1⟩)⟩, ⟨bl BK342.out⟩, ⟨bl BK352.out⟩, ⟨bl BK356.out⟩, ⟨bl BK362.out⟩, ⟨bw HB.out⟩⟩
         ·replace c84 := Bool.eq_false_iff.mpr c84
          subst c84
          have H1 : (laws_FnExactReadTerm.j1 kj13 a1 t350 t351 true l0_0 t347 t357) = some r := by rw [if_neg (show ¬ (false = true) by decide)] at H; exact H
          clear H
          have H := H1
          clear H1
          have H' := Aside0.mk H
          clear H
          have hnb102 := NB362_342.out
          have hnc102 := NB342_362.out
          have hnb103 := NB362_352.out
          have hnc103 := NB352_362.out
          have hnb104 := NB362_356.out
          have hnc104 := NB356_362.out
          have hcz105_0 : w81.cell? ⟨gb362, 0, none⟩ = some (.slice Ao35 t357.length co35) := (blk_cell BK362.out 0).trans rfl
          have hfz105_0 := blk_frozen BK362.out 0
          have hnb106 := NB352_342.out
          have hnc106 := NB342_352.out
          have hnb107 := NB352_356.out
          have hnc107 := NB356_352.out
          have hcz108_0 : w81.cell? ⟨gb352, 0, none⟩ = some (.slice Ao23 t347.length co23) := (blk_cell BK352.out 0).trans rfl
          have hfz108_0 := blk_frozen BK352.out 0
          go_wp2_with (first | (go_at_call 28; (with_reducible refine (laws_eqArena.calls kj13 _ _ t357 _ _ t347 false _ ?side1 ?side2 ?side3 ?side4 A83.out).mono ?_); (case side1 => exact cl (Kd.R_reads' HO_363000.out).2.2); (case side2 => exact (Kd.R_reads' HO_363000.out).2.1); (case side3 => exact cl (Kd.R_reads' HO_353000.out).2.2); (case side4 => exact (Kd.R_reads' HO_353000.out).2.1); rintro e w109 ⟨rfl, hb⟩; have n0_ := Aside0.mk (Kd.R_below (rl HO_353000.out) hb); have n1_ := Aside0.mk (Kd.R_below (rl HO_357000.out) hb); have n2_ := Aside0.mk (Kd.R_below (rl HO_363000.out) hb); have n3_ := Aside0.mk (Kd.R_below (rl HO366.out) hb); have n4_ := Aside0.mk (blk_below (g := gb342) (o := .cells #[.slice A0_0 l0_0.length c0_0] 41 (0, 0)) (bl BK342.out) hb); have n5_ := Aside0.mk (blk_below (g := gb352) (o := .cells #[.slice Ao23 t347.length co23] 26 (0, 0)) (bl BK352.out) hb); have n6_ := Aside0.mk (blk_below (g := gb356) (o := .cells #[.slice Ao29 t353.length co29] 26 (0, 0)) (bl BK356.out) hb); have n7_ := Aside0.mk (blk_below (g := gb362) (o := .cells #[.slice Ao35 t357.length co35] 26 (0, 0)) (bl BK362.out) hb); have n8_ := Aside0.mk (below_step (bw HB.out) hb); clear HO_353000 HO_357000 HO_363000 HO366 BK342 BK352 BK356 BK362 HB; have HO_353000 := n0_; have HO_357000 := n1_; have HO_363000 := n2_; have HO366 := n3_; have BK342 := n4_; have BK352 := n5_; have BK356 := n6_; have BK362 := n7_; have HB := n8_; clear n0_ n1_ n2_ n3_ n4_ n5_ n6_ n7_ n8_; (try clear hb); (try clear hb2); (try clear hk); (try clear hi)))
          go_meet
          case rel => exact ⟨_, (true), (by first | rfl | (simp; done) | (simp [*]; done)), H', ⟨by have := HJ13.out; first | omega | exact Nat.le_refl _⟩, ⟨by (with_reducible repeat (first | apply Kd.R_alloc | apply Kd.R_drewN | apply Kd.R_drew)); exact Kd.R_mono HO_353000.out (fun _ hk => ⟨hk.1, hk.2.1⟩)⟩, ⟨by (with_reducible repeat (first | apply Kd.R_alloc | apply Kd.R_drewN | apply Kd.R_drew)); exact Kd.R_mono HO_357000.out (fun _ hk => ⟨hk.1.1, hk.1.2⟩)⟩, ⟨by (with_reducible repeat (first | apply Kd.R_alloc | apply Kd.R_drewN | apply Kd.R_drew)); exact Kd.R_mono HO_363000.out (fun _ hk => ⟨hk.1, hk.2.1⟩)⟩, ⟨bl BK342.out⟩, ⟨bl BK352.out⟩, ⟨bl BK356.out⟩, ⟨bl BK362.out⟩, ⟨bw HB.out⟩⟩
       case rest =>
        clear HC72
        try clear c1
        try clear c2
        try clear p2
        try clear c3
        try clear c3b0
        try clear c3b1
        try clear c4
        try clear c5
        try clear c6
        try clear c6b0
        try clear c7
        try clear c8
        try clear c9
        try clear c10
        try clear c12
        try clear c24
        try clear c26
        try clear c28
        try clear c30
        try clear c31
        try clear c36
        try clear c37
        try clear c38
        try clear c41
        try clear c42
        try clear c42b0
        try clear c42b1
        try clear c43
        try clear c44
        try clear c45
        try clear c47
        try clear c48
        try clear c51
        try clear c52
        try clear c53
        try clear c55
        try clear c56
        try clear c59
        try clear c60
        try clear c61
        try clear c63
        try clear c64
        try clear c65
        try clear c66
        try clear c67
        try clear c70
        try clear c77
        try clear c78
        try clear c79
        try clear c82
        try clear c82b0
        try clear c84
        try clear c85
        try clear c85b0
        try clear c85b1
        try clear c86
        try clear c87
        try clear c88
        try clear c90
        try clear c91
        try clear c94
        try clear c95
        try clear c96
        try clear c98
        try clear c99
        try clear c102
        try clear c103
        try clear c104
        try clear c106
        try clear c107
        try clear hcz100_0
        try clear hcz105_0
        try clear hcz108_0
        try clear hcz16_0
        try clear hcz18_0
        try clear hcz25_0
        try clear hcz26_0
        try clear hcz32_0
        try clear hcz39_0
        try clear hcz46_0
        try clear hcz49_0
        try clear hcz54_0
        try clear hcz57_0
        try clear hcz62_0
        try clear hcz65_0
        try clear hcz80_0
        try clear hcz89_0
        try clear hcz8_0
        try clear hcz92_0
        try clear hcz97_0
        try clear hfz100_0
        try clear hfz105_0
        try clear hfz108_0
        try clear hfz16_0
        try clear hfz18_0
        try clear hfz25_0
        try clear hfz26_0
        try clear hfz32_0
        try clear hfz39_0
        try clear hfz46_0
        try clear hfz49_0
        try clear hfz54_0
        try clear hfz57_0
        try clear hfz62_0
        try clear hfz65_0
        try clear hfz80_0
        try clear hfz89_0
        try clear hfz8_0
        try clear hfz92_0
        try clear hfz97_0
        try clear p2
        obtain ⟨kq, x83_71, rfl, HA, HJ71, HO_353000, HO_357000, HO_363000, BK342, BK352, BK356, BK362, HB⟩ := hcut
        have hl357000_71 := (Kd.R_reads' HO_357000.out).1
        rw [hl357000_71] at HO_357000
        (try simp only [hl357000_71])
        (try simp only [hl357000_71] at BK342)
        (try simp only [hl357000_71] at BK352)
        (try simp only [hl357000_71] at BK356)
        (try simp only [hl357000_71] at BK362)
        (try simp only [hl357000_71] at HO_353000)
        (try simp only [hl357000_71] at HO_363000)
        cases kq with
        | zero => exact absurd HA.out (by simp [laws_FnExactReadTerm.j1])
        | succ kj71 =>
         have H := HA.out
         clear HA
         simp only [laws_FnExactReadTerm.j1] at H
         by_cases c110 : x83_71 = true
         ·subst c110
          have H1 : (some false) = some r := by rw [if_pos rfl] at H; exact H
          clear H
          have H := H1
          clear H1
          obtain rfl := Option.some.inj H
          go_wp2
          go_ret
          exact ⟨by first | rfl | (simp [errW_none, errW_some] <;> rfl) | (simp [*, errW_none, errW_some] <;> rfl), bw HB.out⟩
         ·replace c110 := Bool.eq_false_iff.mpr c110
          subst c110
          have H1 : ((laws_markArena.f kj71 t357 1).bind fun bt371 => ((laws_heldArena.f kj71 bt371.2 1).bind fun t373 => (if t373 < 0 then (some false) else (if t373 = bt371.1 then ((laws_toArena.f kj71 l0_0).bind fun t374 => ((impl_ReadTerm.f t374 a1).bind fun bt377 => ((laws_eqArena.f kj71 bt377.1 t347).bind fun t383 => (if t383 = true then (if bt377.2.1 = t350 then (laws_FnExactReadTerm.j2 kj71 bt371.1 (bt377.2.2 != t351) bt371.2) else (laws_FnExactReadTerm.j2 kj71 bt371.1 true bt371.2)) else (laws_FnExactReadTerm.j2 kj71 bt371.1 true bt371.2))))) else (some false))))) = some r := by rw [if_neg (show ¬ (false = true) by decide)] at H; exact H
          clear H
          have H := H1
          clear H1
          replace H := Option.bind_eq_some_iff.mp H
          obtain ⟨⟨t371, t372⟩, A1110, H⟩ := H
          replace H : ((laws_heldArena.f kj71 t372 1).bind fun t373 => (if t373 < 0 then (some false) else (if t373 = t371 then ((laws_toArena.f kj71 l0_0).bind fun t374 => ((impl_ReadTerm.f t374 a1).bind fun bt377 => ((laws_eqArena.f kj71 bt377.1 t347).bind fun t383 => (if t383 = true then (if bt377.2.1 = t350 then (laws_FnExactReadTerm.j2 kj71 t371 (bt377.2.2 != t351) t372) else (laws_FnExactReadTerm.j2 kj71 t371 true t372)) else (laws_FnExactReadTerm.j2 kj71 t371 true t372))))) else (some false)))) = some r := H
          have A111 := Aside0.mk A1110
          clear A1110
          replace H := Option.bind_eq_some_iff.mp H
          obtain ⟨t373, A1120, H⟩ := H
          replace H : (if t373 < 0 then (some false) else (if t373 = t371 then ((laws_toArena.f kj71 l0_0).bind fun t374 => ((impl_ReadTerm.f t374 a1).bind fun bt377 => ((laws_eqArena.f kj71 bt377.1 t347).bind fun t383 => (if t383 = true then (if bt377.2.1 = t350 then (laws_FnExactReadTerm.j2 kj71 t371 (bt377.2.2 != t351) t372) else (laws_FnExactReadTerm.j2 kj71 t371 true t372)) else (laws_FnExactReadTerm.j2 kj71 t371 true t372))))) else (some false))) = some r := H
          have A112 := Aside0.mk A1120
          clear A1120
          by_cases c113 : t373 < 0
          ·rw [if_pos c113] at H
           have c113b0 : decide (t373 < 0) = true := decide_eq_true c113
           clear c113
           obtain rfl := Option.some.inj H
           have hnb114 := NB362_342.out
           have hnc114 := NB342_362.out
           have hnb115 := NB362_352.out
           have hnc115 := NB352_362.out
           have hnb116 := NB362_356.out
           have hnc116 := NB356_362.out
           have hcz117_0 : wc.cell? ⟨gb362, 0, none⟩ = some (.slice Ao35 t357.length co35) := (blk_cell BK362.out 0).trans rfl
           have hfz117_0 := blk_frozen BK362.out 0
           go_wp2_with (first | ((with_reducible refine gate_callee (f := 37) rfl ?_); refine goesL_ (some 86) rfl rfl Try.func37 (by kernel_rfl) rfl #[.agg #[.slice Ao35 t357.length co35], .int .i64 1] rfl ar ?_; (with_reducible refine (laws_markArena.calls kj71 (fun k_ => some k_ = (.slice Ao35 t357.length co35 : Value).ownBlock) (.slice Ao35 t357.length co35) t357 1 t371 t372 w _ ?side1 ?side2 A111.out).mono ?_); (case side1 => exact bw HB.out); (case side2 => exact Kd.R_tight rfl HO_363000.out); rintro e w118 ⟨rfl, hy0, hb, hkp⟩; refine ⟨_, rfl, ?_⟩; have n0_ := Aside0.mk (Kd.R_mono (ok' := fun k_ => some k_ ≠ (.slice Ao29 t369.length co29 : Value).ownBlock ∧ some k_ ≠ (.slice Ao35 t357.length co35 : Value).ownBlock) (Kd.R_keptB (HO_353000.out) hkp (fun k_ hk_ hs_ => (hk_.2) hs_)) (fun k_ hk_ => ⟨hk_.1.1, hk_.1.2⟩)); have n1_ := Aside0.mk (Kd.R_mono (ok' := fun k_ => some k_ ≠ (.slice Ao23 t347.length co23 : Value).ownBlock ∧ some k_ ≠ (.slice Ao35 t357.length co35 : Value).ownBlock) (Kd.R_keptB (HO_357000.out) hkp (fun k_ hk_ hs_ => (hk_.2) hs_)) (fun k_ hk_ => ⟨hk_.1.1, hk_.1.2⟩)); have n2_ := Aside0.mk (Kd.R_reok rfl hy0 (fun k_ e_ => HO_363000.out.1 k_ e_)); have n3_ := Aside0.mk (blk_kept (bl BK342.out) hkp (fun hs_ => (fun e_ => (Kd.R_ne HO_363000.out BK342.out (by decide)) e_) hs_)); have n4_ := Aside0.mk (blk_kept (bl BK352.out) hkp (fun hs_ => (fun e_ => (Kd.R_ne HO_363000.out BK352.out (by decide)) e_) hs_)); have n5_ := Aside0.mk (blk_kept (bl BK356.out) hkp (fun hs_ => (fun e_ => (Kd.R_ne HO_363000.out BK356.out (by decide)) e_) hs_)); have n6_ := Aside0.mk (blk_kept (bl BK362.out) hkp (fun hs_ => (fun e_ => (Kd.R_ne HO_363000.out BK362.out (by decide)) e_) hs_)); have n7_ := Aside0.mk (hb); clear HO_353000 HO_357000 HO_363000 BK342 BK352 BK356 BK362 HB; have HO_353000 := n0_; have HO_357000 := n1_; have HO_363000 := n2_; have BK342 := n3_; have BK352 := n4_; have BK356 := n5_; have BK362 := n6_; have HB := n7_; clear n0_ n1_ n2_ n3_ n4_ n5_ n6_ n7_; (try clear hb); (try clear hkp); (try clear hy0); have hcz119_0 : w118.cell? ⟨gb362, 0, none⟩ = some (.slice Ao35 t357.length co35) := (blk_cell BK362.out 0).trans rfl; have hfz119_0 := blk_frozen BK362.out 0) | ((with_reducible refine gate_callee (f := 39) rfl ?_); refine goesL_ (some 89) rfl rfl Try.func39 (by kernel_rfl) rfl #[.agg #[.slice Ao35 t372.length co35], .int .i64 1] rfl (by (try simp only [List.map_toArray, List.map_cons, List.map_nil]); first | done | (rw [show t372.length = t357.length from (Kd.R_reads' HO_363000.out).1.symm] <;> rfl) | rfl | (simp only [List.length_drop, List.length_take]; rfl)) ?_; (with_reducible refine (laws_heldArena.calls kj71 _ _ t372 1 t373 _ ?side1 ?side2 A112.out).mono ?_); (case side1 => exact cl (Kd.R_reads' HO_363000.out).2.2); (case side2 => rw [show t372.length = t357.length from (Kd.R_reads' HO_363000.out).1.symm]; exact (Kd.R_reads' HO_363000.out).2.1); rintro e w120 ⟨rfl, hb⟩; refine ⟨_, rfl, ?_⟩; have n0_ := Aside0.mk (Kd.R_below (rl HO_353000.out) hb); have n1_ := Aside0.mk (Kd.R_below (rl HO_357000.out) hb); have n2_ := Aside0.mk (Kd.R_below (rl HO_363000.out) hb); have n3_ := Aside0.mk (blk_below (g := gb342) (o := .cells #[.slice A0_0 l0_0.length c0_0] 41 (0, 0)) (bl BK342.out) hb); have n4_ := Aside0.mk (blk_below (g := gb352) (o := .cells #[.slice Ao23 t347.length co23] 26 (0, 0)) (bl BK352.out) hb); have n5_ := Aside0.mk (blk_below (g := gb356) (o := .cells #[.slice Ao29 t369.length co29] 26 (0, 0)) (bl BK356.out) hb); have n6_ := Aside0.mk (blk_below (g := gb362) (o := .cells #[.slice Ao35 t357.length co35] 26 (0, 0)) (bl BK362.out) hb); have n7_ := Aside0.mk (below_step (bw HB.out) hb); clear HO_353000 HO_357000 HO_363000 BK342 BK352 BK356 BK362 HB; have HO_353000 := n0_; have HO_357000 := n1_; have HO_363000 := n2_; have BK342 := n3_; have BK352 := n4_; have BK356 := n5_; have BK362 := n6_; have HB := n7_; clear n0_ n1_ n2_ n3_ n4_ n5_ n6_ n7_; (try clear hb); (try clear hb2); (try clear hk); (try clear hi)))
           go_ret
           exact ⟨by first | rfl | (simp [errW_none, errW_some] <;> rfl) | (simp [*, errW_none, errW_some] <;> rfl), bw HB.out⟩
          ·rw [if_neg c113] at H
           have c113b0 : decide (t373 < 0) = false := decide_eq_false c113
           clear c113
           by_cases c121 : t373 = t371
           ·rw [if_pos c121] at H
            have c121b0 : (t373 == t371) = true := beq_iff_eq.mpr c121
            have c121b1 : (t373 != t371) = false := bne_eq_false_iff_eq.mpr c121
            clear c121
            replace H := Option.bind_eq_some_iff.mp H
            obtain ⟨t374, A1220, H⟩ := H
            replace H : ((impl_ReadTerm.f t374 a1).bind fun bt377 => ((laws_eqArena.f kj71 bt377.1 t347).bind fun t383 => (if t383 = true then (if bt377.2.1 = t350 then (laws_FnExactReadTerm.j2 kj71 t371 (bt377.2.2 != t351) t372) else (laws_FnExactReadTerm.j2 kj71 t371 true t372)) else (laws_FnExactReadTerm.j2 kj71 t371 true t372)))) = some r := H
            have A122 := Aside0.mk A1220
            clear A1220
            replace H := Option.bind_eq_some_iff.mp H
            obtain ⟨⟨t377, t380, t381⟩, A1230, H⟩ := H
            replace H : ((laws_eqArena.f kj71 t377 t347).bind fun t383 => (if t383 = true then (if t380 = t350 then (laws_FnExactReadTerm.j2 kj71 t371 (t381 != t351) t372) else (laws_FnExactReadTerm.j2 kj71 t371 true t372)) else (laws_FnExactReadTerm.j2 kj71 t371 true t372))) = some r := H
            have A123 := Aside0.mk A1230
            clear A1230
            have HC124 := Aside0.mk H
            clear H
            have hnb125 := NB362_342.out
            have hnc125 := NB342_362.out
            have hnb126 := NB362_352.out
            have hnc126 := NB352_362.out
            have hnb127 := NB362_356.out
            have hnc127 := NB356_362.out
            have hcz128_0 : wc.cell? ⟨gb362, 0, none⟩ = some (.slice Ao35 t357.length co35) := (blk_cell BK362.out 0).trans rfl
            have hfz128_0 := blk_frozen BK362.out 0
            go_upto_region 27 with (first | ((with_reducible refine gate_callee (f := 37) rfl ?_); refine goesL_ (some 86) rfl rfl Try.func37 (by kernel_rfl) rfl #[.agg #[.slice Ao35 t357.length co35], .int .i64 1] rfl ar ?_; (with_reducible refine (laws_markArena.calls kj71 (fun k_ => some k_ = (.slice Ao35 t357.length co35 : Value).ownBlock) (.slice Ao35 t357.length co35) t357 1 t371 t372 w _ ?side1 ?side2 A111.out).mono ?_); (case side1 => exact bw HB.out); (case side2 => exact Kd.R_tight rfl HO_363000.out); rintro e w129 ⟨rfl, hy0, hb, hkp⟩; refine ⟨_, rfl, ?_⟩; have n0_ := Aside0.mk (Kd.R_mono (ok' := fun k_ => some k_ ≠ (.slice Ao29 t369.length co29 : Value).ownBlock ∧ some k_ ≠ (.slice Ao35 t357.length co35 : Value).ownBlock) (Kd.R_keptB (HO_353000.out) hkp (fun k_ hk_ hs_ => (hk_.2) hs_)) (fun k_ hk_ => ⟨hk_.1.1, hk_.1.2⟩)); have n1_ := Aside0.mk (Kd.R_mono (ok' := fun k_ => some k_ ≠ (.slice Ao23 t347.length co23 : Value).ownBlock ∧ some k_ ≠ (.slice Ao35 t357.length co35 : Value).ownBlock) (Kd.R_keptB (HO_357000.out) hkp (fun k_ hk_ hs_ => (hk_.2) hs_)) (fun k_ hk_ => ⟨hk_.1.1, hk_.1.2⟩)); have n2_ := Aside0.mk (Kd.R_reok rfl hy0 (fun k_ e_ => HO_363000.out.1 k_ e_)); have n3_ := Aside0.mk (blk_kept (bl BK342.out) hkp (fun hs_ => (fun e_ => (Kd.R_ne HO_363000.out BK342.out (by decide)) e_) hs_)); have n4_ := Aside0.mk (blk_kept (bl BK352.out) hkp (fun hs_ => (fun e_ => (Kd.R_ne HO_363000.out BK352.out (by decide)) e_) hs_)); have n5_ := Aside0.mk (blk_kept (bl BK356.out) hkp (fun hs_ => (fun e_ => (Kd.R_ne HO_363000.out BK356.out (by decide)) e_) hs_)); have n6_ := Aside0.mk (blk_kept (bl BK362.out) hkp (fun hs_ => (fun e_ => (Kd.R_ne HO_363000.out BK362.out (by decide)) e_) hs_)); have n7_ := Aside0.mk (hb); clear HO_353000 HO_357000 HO_363000 BK342 BK352 BK356 BK362 HB; have HO_353000 := n0_; have HO_357000 := n1_; have HO_363000 := n2_; have BK342 := n3_; have BK352 := n4_; have BK356 := n5_; have BK362 := n6_; have HB := n7_; clear n0_ n1_ n2_ n3_ n4_ n5_ n6_ n7_; (try clear hb); (try clear hkp); (try clear hy0); have hcz130_0 : w129.cell? ⟨gb362, 0, none⟩ = some (.slice Ao35 t357.length co35) := (blk_cell BK362.out 0).trans rfl; have hfz130_0 := blk_frozen BK362.out 0) | ((with_reducible refine gate_callee (f := 39) rfl ?_); refine goesL_ (some 89) rfl rfl Try.func39 (by kernel_rfl) rfl #[.agg #[.slice Ao35 t372.length co35], .int .i64 1] rfl (by (try simp only [List.map_toArray, List.map_cons, List.map_nil]); first | done | (rw [show t372.length = t357.length from (Kd.R_reads' HO_363000.out).1.symm] <;> rfl) | rfl | (simp only [List.length_drop, List.length_take]; rfl)) ?_; (with_reducible refine (laws_heldArena.calls kj71 _ _ t372 1 t373 _ ?side1 ?side2 A112.out).mono ?_); (case side1 => exact cl (Kd.R_reads' HO_363000.out).2.2); (case side2 => rw [show t372.length = t357.length from (Kd.R_reads' HO_363000.out).1.symm]; exact (Kd.R_reads' HO_363000.out).2.1); rintro e w131 ⟨rfl, hb⟩; refine ⟨_, rfl, ?_⟩; have n0_ := Aside0.mk (Kd.R_below (rl HO_353000.out) hb); have n1_ := Aside0.mk (Kd.R_below (rl HO_357000.out) hb); have n2_ := Aside0.mk (Kd.R_below (rl HO_363000.out) hb); have n3_ := Aside0.mk (blk_below (g := gb342) (o := .cells #[.slice A0_0 l0_0.length c0_0] 41 (0, 0)) (bl BK342.out) hb); have n4_ := Aside0.mk (blk_below (g := gb352) (o := .cells #[.slice Ao23 t347.length co23] 26 (0, 0)) (bl BK352.out) hb); have n5_ := Aside0.mk (blk_below (g := gb356) (o := .cells #[.slice Ao29 t369.length co29] 26 (0, 0)) (bl BK356.out) hb); have n6_ := Aside0.mk (blk_below (g := gb362) (o := .cells #[.slice Ao35 t357.length co35] 26 (0, 0)) (bl BK362.out) hb); have n7_ := Aside0.mk (below_step (bw HB.out) hb); clear HO_353000 HO_357000 HO_363000 BK342 BK352 BK356 BK362 HB; have HO_353000 := n0_; have HO_357000 := n1_; have HO_363000 := n2_; have BK342 := n3_; have BK352 := n4_; have BK356 := n5_; have BK362 := n6_; have HB := n7_; clear n0_ n1_ n2_ n3_ n4_ n5_ n6_ n7_; (try clear hb); (try clear hb2); (try clear hk); (try clear hi); have hnb132 := NB342_352.out; have hnc132 := NB352_342.out; have hnb133 := NB342_356.out; have hnc133 := NB356_342.out; have hcz134_0 : w131.cell? ⟨gb342, 0, none⟩ = some (.slice A0_0 l0_0.length c0_0) := (blk_cell BK342.out 0).trans rfl; have hfz134_0 := blk_frozen BK342.out 0) | ((with_reducible refine gate_callee (f := 26) rfl ?_); refine goesL_ (some 97) rfl rfl Try.func26 (by kernel_rfl) rfl #[.agg #[.slice A0_0 l0_0.length c0_0]] rfl ar ?_; (with_reducible refine (laws_toArena.calls kj71 _ _ l0_0 t374 _ ?side1 ?side2 A122.out).mono ?_); (case side1 => exact cl (Kd.C_below HR0_0.out HB.out)); (case side2 => exact HC0_0.out); rintro e w135 ⟨v375, rfl, ho0, hb⟩; refine ⟨_, rfl, ?_⟩; have n0_ := Aside0.mk (Kd.R_elder' (rl HO_353000.out) (Kd.R_base ho0) hb); have n1_ := Aside0.mk (Kd.R_elder' (rl HO_357000.out) (Kd.R_base ho0) hb); have n2_ := Aside0.mk (Kd.R_elder' (rl HO_363000.out) (Kd.R_base ho0) hb); have n3_ := Aside0.mk (Kd.R_lower (Kd.R_new' (Kd.R_new' (Kd.R_new' ho0 (Kd.R_lt (rl HO_353000.out))) (Kd.R_lt (rl HO_357000.out))) (Kd.R_lt (rl HO_363000.out))) (below_size (bw HB.out))); have n4_ := Aside0.mk (blk_below (g := gb342) (o := .cells #[.slice A0_0 l0_0.length c0_0] 41 (0, 0)) (bl BK342.out) hb); have n5_ := Aside0.mk (blk_below (g := gb352) (o := .cells #[.slice Ao23 t347.length co23] 26 (0, 0)) (bl BK352.out) hb); have n6_ := Aside0.mk (blk_below (g := gb356) (o := .cells #[.slice Ao29 t369.length co29] 26 (0, 0)) (bl BK356.out) hb); have n7_ := Aside0.mk (blk_below (g := gb362) (o := .cells #[.slice Ao35 t357.length co35] 26 (0, 0)) (bl BK362.out) hb); have n8_ := Aside0.mk (below_step (bw HB.out) hb); clear HO_353000 HO_357000 HO_363000 BK342 BK352 BK356 BK362 HB; have HO_353000 := n0_; have HO_357000 := n1_; have HO_363000 := n2_; have HO376 := n3_; have BK342 := n4_; have BK352 := n5_; have BK356 := n6_; have BK362 := n7_; have HB := n8_; clear n0_ n1_ n2_ n3_ n4_ n5_ n6_ n7_ n8_; (try clear hb); (try clear hb2); (try clear hk); (try clear hi); (try clear ho0); obtain ⟨Ao136, co136, eo136⟩ := Kd.R_slice HO376.out; subst eo136) | ((with_reducible refine gate_callee (f := 66) rfl ?_); refine goesL_ (some 99) rfl rfl Try.func66 (by kernel_rfl) rfl #[.agg #[.slice Ao136 t374.length co136], .string a1] rfl ar ?_; (with_reducible refine (impl_ReadTerm.calls _ _ t374 a1 t377 t380 t381 _ ?side1 ?side2 A123.out).mono ?_); (case side1 => exact cl (Kd.R_reads' HO376.out).2.2); (case side2 => exact (Kd.R_reads' HO376.out).2.1); rintro e w137 ⟨v378, rfl, ho0, hb⟩; refine ⟨_, rfl, ?_⟩; have n0_ := Aside0.mk (Kd.R_elder' (rl HO_353000.out) (Kd.R_base ho0) hb); have n1_ := Aside0.mk (Kd.R_elder' (rl HO_357000.out) (Kd.R_base ho0) hb); have n2_ := Aside0.mk (Kd.R_elder' (rl HO_363000.out) (Kd.R_base ho0) hb); have n3_ := Aside0.mk (Kd.R_elder' (rl HO376.out) (Kd.R_base ho0) hb); have n4_ := Aside0.mk (Kd.R_lower (Kd.R_new' (Kd.R_new' (Kd.R_new' (Kd.R_new' ho0 (Kd.R_lt (rl HO_353000.out))) (Kd.R_lt (rl HO_357000.out))) (Kd.R_lt (rl HO_363000.out))) (Kd.R_lt (rl HO376.out))) (below_size (bw HB.out))); have n5_ := Aside0.mk (blk_below (g := gb342) (o := .cells #[.slice A0_0 l0_0.length c0_0] 41 (0, 0)) (bl BK342.out) hb); have n6_ := Aside0.mk (blk_below (g := gb352) (o := .cells #[.slice Ao23 t347.length co23] 26 (0, 0)) (bl BK352.out) hb); have n7_ := Aside0.mk (blk_below (g := gb356) (o := .cells #[.slice Ao29 t369.length co29] 26 (0, 0)) (bl BK356.out) hb); have n8_ := Aside0.mk (blk_below (g := gb362) (o := .cells #[.slice Ao35 t357.length co35] 26 (0, 0)) (bl BK362.out) hb); have n9_ := Aside0.mk (below_step (bw HB.out) hb); clear HO_353000 HO_357000 HO_363000 HO376 BK342 BK352 BK356 BK362 HB; have HO_353000 := n0_; have HO_357000 := n1_; have HO_363000 := n2_; have HO376 := n3_; have HO379 := n4_; have BK342 := n5_; have BK352 := n6_; have BK356 := n7_; have BK362 := n8_; have HB := n9_; clear n0_ n1_ n2_ n3_ n4_ n5_ n6_ n7_ n8_ n9_; (try clear hb); (try clear hb2); (try clear hk); (try clear hi); (try clear ho0)) | ((with_reducible refine gate_dst (N := 16) rfl ?_); refine box_event ?hg (N := 16) ?hd (cs := #[.slice none 0 0]) (t := 26) ?hr ?_; (case hd => rfl); (case hg => rfl); (case hr => first | (go_simp; done) | (go_simp; rfl)); intro gb382 hg w138 hbox hb; have n0_ := Aside0.mk (Kd.R_below (rl HO_353000.out) hb); have n1_ := Aside0.mk (Kd.R_below (rl HO_357000.out) hb); have n2_ := Aside0.mk (Kd.R_below (rl HO_363000.out) hb); have n3_ := Aside0.mk (Kd.R_below (rl HO376.out) hb); have n4_ := Aside0.mk (Kd.R_below (rl HO379.out) hb); have n5_ := Aside0.mk (blk_below (g := gb342) (o := .cells #[.slice A0_0 l0_0.length c0_0] 41 (0, 0)) (bl BK342.out) hb); have n6_ := Aside0.mk (blk_below (g := gb352) (o := .cells #[.slice Ao23 t347.length co23] 26 (0, 0)) (bl BK352.out) hb); have n7_ := Aside0.mk (blk_below (g := gb356) (o := .cells #[.slice Ao29 t369.length co29] 26 (0, 0)) (bl BK356.out) hb); have n8_ := Aside0.mk (blk_below (g := gb362) (o := .cells #[.slice Ao35 t357.length co35] 26 (0, 0)) (bl BK362.out) hb); have n9_ := Aside0.mk (below_step (bw HB.out) hb); have n10_ := Aside0.mk (hbox); have n11_ := Aside0.mk ((by rw [hg]; exact (below_size (bw HB.out)) : w.heap.size ≤ gb382)); have n12_ := Aside0.mk ((by rw [hg]; exact (below_size (bw HB.out)) : w.heap.size ≤ gb382)); have n13_ := Aside0.mk ((by rw [hg]; exact Nat.ne_of_lt (blk_lt (g := gb342) (o := .cells #[.slice A0_0 l0_0.length c0_0] 41 (0, 0)) (bl BK342.out)) : gb342 ≠ gb382)); have n14_ := Aside0.mk ((by rw [hg]; exact Nat.ne_of_gt (blk_lt (g := gb342) (o := .cells #[.slice A0_0 l0_0.length c0_0] 41 (0, 0)) (bl BK342.out)) : gb382 ≠ gb342)); have n15_ := Aside0.mk ((by rw [hg]; exact Nat.ne_of_lt (blk_lt (g := gb352) (o := .cells #[.slice Ao23 t347.length co23] 26 (0, 0)) (bl BK352.out)) : gb352 ≠ gb382)); have n16_ := Aside0.mk ((by rw [hg]; exact Nat.ne_of_gt (blk_lt (g := gb352) (o := .cells #[.slice Ao23 t347.length co23] 26 (0, 0)) (bl BK352.out)) : gb382 ≠ gb352)); have n17_ := Aside0.mk ((by rw [hg]; exact Nat.ne_of_lt (blk_lt (g := gb356) (o := .cells #[.slice Ao29 t369.length co29] 26 (0, 0)) (bl BK356.out)) : gb356 ≠ gb382)); have n18_ := Aside0.mk ((by rw [hg]; exact Nat.ne_of_gt (blk_lt (g := gb356) (o := .cells #[.slice Ao29 t369.length co29] 26 (0, 0)) (bl BK356.out)) : gb382 ≠ gb356)); have n19_ := Aside0.mk ((by rw [hg]; exact Nat.ne_of_lt (blk_lt (g := gb362) (o := .cells #[.slice Ao35 t357.length co35] 26 (0, 0)) (bl BK362.out)) : gb362 ≠ gb382)); have n20_ := Aside0.mk ((by rw [hg]; exact Nat.ne_of_gt (blk_lt (g := gb362) (o := .cells #[.slice Ao35 t357.length co35] 26 (0, 0)) (bl BK362.out)) : gb382 ≠ gb362)); clear HO_353000 HO_357000 HO_363000 HO376 HO379 BK342 BK352 BK356 BK362 HB; have HO_353000 := n0_; have HO_357000 := n1_; have HO_363000 := n2_; have HO376 := n3_; have HO379 := n4_; have BK342 := n5_; have BK352 := n6_; have BK356 := n7_; have BK362 := n8_; have HB := n9_; have BK382 := n10_; have GW382 := n11_; have GE382 := n12_; have NB342_382 := n13_; have NB382_342 := n14_; have NB352_382 := n15_; have NB382_352 := n16_; have NB356_382 := n17_; have NB382_356 := n18_; have NB362_382 := n19_; have NB382_362 := n20_; clear n0_ n1_ n2_ n3_ n4_ n5_ n6_ n7_ n8_ n9_ n10_ n11_ n12_ n13_ n14_ n15_ n16_ n17_ n18_ n19_ n20_ hb hbox hg; obtain ⟨Ao139, co139, eo139⟩ := Kd.R_slice HO379.out; subst eo139; have hnb140 := NB382_342.out; have hnc140 := NB342_382.out; have hnb141 := NB382_352.out; have hnc141 := NB352_382.out; have hnb142 := NB382_356.out; have hnc142 := NB356_382.out; have hnb143 := NB382_362.out; have hnc143 := NB362_382.out; have hcz144_0 : w138.cell? ⟨gb382, 0, none⟩ = some (.slice none 0 0) := (blk_cell BK382.out 0).trans rfl; have hfz144_0 := blk_frozen BK382.out 0))
            (try simp only [Act.put, List.setIfInBounds_toArray, List.set_cons_zero, List.set_cons_succ])
            go_cut [116] (fun v116 wc => ∃ (kq : Nat) (x116_123 : Bool), v116 = .bool x116_123 ∧ Aside0 (laws_FnExactReadTerm.j2 kq t371 x116_123 t372 = some r) ∧ Aside0 (kq ≤ kj71) ∧ Aside0 (Kd.R k34 34 wc w.heap.size (fun k_ => some k_ ≠ ((.slice Ao29 t369.length co29) : Value).ownBlock ∧ some k_ ≠ ((.slice Ao35 t357.length co35) : Value).ownBlock ∧ some k_ ≠ ((.slice Ao139 t377.length co139) : Value).ownBlock) (.slice Ao23 t347.length co23) t347) ∧ Aside0 (Kd.R k34 34 wc w.heap.size (fun k_ => some k_ ≠ ((.slice Ao23 t347.length co23) : Value).ownBlock ∧ some k_ ≠ ((.slice Ao35 t357.length co35) : Value).ownBlock ∧ some k_ ≠ ((.slice Ao139 t377.length co139) : Value).ownBlock) (.slice Ao29 t369.length co29) t369) ∧ Aside0 (Kd.R k34 34 wc w.heap.size (fun k_ => some k_ ≠ ((.slice Ao23 t347.length co23) : Value).ownBlock ∧ some k_ ≠ ((.slice Ao29 t369.length co29) : Value).ownBlock ∧ some k_ ≠ ((.slice Ao139 t377.length co139) : Value).ownBlock) (.slice Ao35 t357.length co35) t372) ∧ Aside0 (Kd.R k34 34 wc w.heap.size (fun k_ => some k_ ≠ ((.slice Ao23 t347.length co23) : Value).ownBlock ∧ some k_ ≠ ((.slice Ao29 t369.length co29) : Value).ownBlock ∧ some k_ ≠ ((.slice Ao35 t357.length co35) : Value).ownBlock) (.slice Ao139 t377.length co139) t377) ∧ Aside0 (wc.heap[gb342]? = some (.cells #[(.slice A0_0 l0_0.length c0_0)] 41 (0, 0))) ∧ Aside0 (wc.heap[gb352]? = some (.cells #[(.slice Ao23 t347.length co23)] 26 (0, 0))) ∧ Aside0 (wc.heap[gb356]? = some (.cells #[(.slice Ao29 t369.length co29)] 26 (0, 0))) ∧ Aside0 (wc.heap[gb362]? = some (.cells #[(.slice Ao35 t357.length co35)] 26 (0, 0))) ∧ Aside0 (wc.heap[gb382]? = some (.cells #[(.slice Ao139 t377.length co139)] 26 (0, 0))) ∧ Aside0 (Below w.heap.size w wc))
            case first =>
             have H := HC124.out
             clear HC124
             replace H := Option.bind_eq_some_iff.mp H
             obtain ⟨t383, A1450, H⟩ := H
             replace H : (if t383 = true then (if t380 = t350 then (laws_FnExactReadTerm.j2 kj71 t371 (t381 != t351) t372) else (laws_FnExactReadTerm.j2 kj71 t371 true t372)) else (laws_FnExactReadTerm.j2 kj71 t371 true t372)) = some r := H
             have A145 := Aside0.mk A1450
             clear A1450
             by_cases c146 : t383 = true
             ·subst c146
              have H1 : (if t380 = t350 then (laws_FnExactReadTerm.j2 kj71 t371 (t381 != t351) t372) else (laws_FnExactReadTerm.j2 kj71 t371 true t372)) = some r := by rw [if_pos rfl] at H; exact H
              clear H
              have H := H1
              clear H1
              by_cases c147 : t380 = t350
              ·rw [if_pos c147] at H
               have c147b0 : (t380 == t350) = true := beq_iff_eq.mpr c147
               have c147b1 : (t380 != t350) = false := bne_eq_false_iff_eq.mpr c147
               clear c147
               (first | rw [c147b0] | (simp only [i64_w, i32_w]; rw [c147b0]) | skip)
               have H' := Aside0.mk H
               clear H
               have hnb148 := NB382_342.out
               have hnc148 := NB342_382.out
               have hnb149 := NB382_352.out
               have hnc149 := NB352_382.out
               have hnb150 := NB382_356.out
               have hnc150 := NB356_382.out
               have hnb151 := NB382_362.out
               have hnc151 := NB362_382.out
               have hcz152_0 : w138.cell? ⟨gb382, 0, none⟩ = some (.slice none 0 0) := (blk_cell BK382.out 0).trans rfl
               have hfz152_0 := blk_frozen BK382.out 0
               have hnb153 := NB352_342.out
               have hnc153 := NB342_352.out
               have hnb154 := NB352_356.out
               have hnc154 := NB356_352.out
               have hnb155 := NB352_362.out
               have hnc155 := NB362_352.out
               have hcz156_0 : w138.cell? ⟨gb352, 0, none⟩ = some (.slice Ao23 t347.length co23) := (blk_cell BK352.out 0).trans rfl
               have hfz156_0 := blk_frozen BK352.out 0
               go_wp2_with (first | ((with_reducible refine gate_callee (f := 28) rfl ?_); refine goesL_ (some 105) rfl rfl Try.func28 (by kernel_rfl) rfl #[.agg #[.slice Ao139 t377.length co139], .agg #[.slice Ao23 t347.length co23]] rfl ar ?_; (with_reducible refine (laws_eqArena.calls kj71 _ _ t377 _ _ t347 true _ ?side1 ?side2 ?side3 ?side4 A145.out).mono ?_); (case side1 => refine (Kd.R_reads' (e := 34) (base := w.heap.size) (ok := fun k_ => ((((True ∧ some k_ ≠ (.slice Ao23 t347.length co23 : Value).ownBlock) ∧ some k_ ≠ (.slice Ao29 t369.length co29 : Value).ownBlock) ∧ some k_ ≠ (.slice Ao35 t357.length co35 : Value).ownBlock) ∧ some k_ ≠ (.slice Ao136 t374.length co136 : Value).ownBlock)) (n := t377.length) (c := co139) ?_).2.2; exact (by (with_reducible repeat (first | apply Kd.R_alloc | apply Kd.R_drewN | apply Kd.R_drew)); exact (Kd.R_mono (Kd.R_far (p := ⟨gb382, 0, none⟩) (Kd.R_types HO379.out BK382.out (by decide)) (fun _ hk => hk.2) (.slice Ao139 t377.length co139)) (fun _ h_ => h_.1)))); (case side2 => exact (Kd.R_reads' HO379.out).2.1); (case side3 => refine (Kd.R_reads' (e := 34) (base := w.heap.size) (ok := fun k_ => (((some k_ ≠ (.slice Ao29 t369.length co29 : Value).ownBlock ∧ some k_ ≠ (.slice Ao35 t357.length co35 : Value).ownBlock) ∧ some k_ ≠ (.slice Ao136 t374.length co136 : Value).ownBlock) ∧ some k_ ≠ (.slice Ao139 t377.length co139 : Value).ownBlock)) (n := t347.length) (c := co23) ?_).2.2; exact (by (with_reducible repeat (first | apply Kd.R_alloc | apply Kd.R_drewN | apply Kd.R_drew)); exact (Kd.R_mono (Kd.R_far (p := ⟨gb382, 0, none⟩) (Kd.R_types HO_353000.out BK382.out (by decide)) (fun _ hk => hk.2) (.slice Ao139 t377.length co139)) (fun _ h_ => h_.1)))); (case side4 => exact (Kd.R_reads' HO_353000.out).2.1); rintro e w157 ⟨rfl, hb⟩; refine ⟨_, rfl, ?_⟩; have n0_ := Aside0.mk (Kd.R_below (by (with_reducible repeat (first | apply Kd.R_alloc | apply Kd.R_drewN | apply Kd.R_drew)); exact (Kd.R_mono (Kd.R_far (p := ⟨gb382, 0, none⟩) (Kd.R_types HO_353000.out BK382.out (by decide)) (fun _ hk => hk.2) (.slice Ao139 t377.length co139)) (fun _ h_ => h_.1))) hb); have n1_ := Aside0.mk (Kd.R_below (by (with_reducible repeat (first | apply Kd.R_alloc | apply Kd.R_drewN | apply Kd.R_drew)); exact (Kd.R_mono (Kd.R_far (p := ⟨gb382, 0, none⟩) (Kd.R_types HO_357000.out BK382.out (by decide)) (fun _ hk => hk.2) (.slice Ao139 t377.length co139)) (fun _ h_ => h_.1))) hb); have n2_ := Aside0.mk (Kd.R_below (by (with_reducible repeat (first | apply Kd.R_alloc | apply Kd.R_drewN | apply Kd.R_drew)); exact (Kd.R_mono (Kd.R_far (p := ⟨gb382, 0, none⟩) (Kd.R_types HO_363000.out BK382.out (by decide)) (fun _ hk => hk.2) (.slice Ao139 t377.length co139)) (fun _ h_ => h_.1))) hb); have n3_ := Aside0.mk (Kd.R_below (by (with_reducible repeat (first | apply Kd.R_alloc | apply Kd.R_drewN | apply Kd.R_drew)); exact (Kd.R_mono (Kd.R_far (p := ⟨gb382, 0, none⟩) (Kd.R_types HO376.out BK382.out (by decide)) (fun _ hk => hk.2) (.slice Ao139 t377.length co139)) (fun _ h_ => h_.1))) hb); have n4_ := Aside0.mk (Kd.R_below (by (with_reducible repeat (first | apply Kd.R_alloc | apply Kd.R_drewN | apply Kd.R_drew)); exact (Kd.R_mono (Kd.R_far (p := ⟨gb382, 0, none⟩) (Kd.R_types HO379.out BK382.out (by decide)) (fun _ hk => hk.2) (.slice Ao139 t377.length co139)) (fun _ h_ => h_.1))) hb); have n5_ := Aside0.mk (blk_below (g := gb342) (o := .cells #[.slice A0_0 l0_0.length c0_0] 41 (0, 0)) (by (with_reducible repeat (first | refine blk_drewN ?_ _ | refine blk_drew ?_ | refine blk_alloc ?_ _)); refine blk_far ?_ NB342_382.out _; (with_reducible repeat (first | refine blk_drewN ?_ _ | refine blk_drew ?_ | refine blk_alloc ?_ _)); exact BK342.out) hb); have n6_ := Aside0.mk (blk_below (g := gb352) (o := .cells #[.slice Ao23 t347.length co23] 26 (0, 0)) (by (with_reducible repeat (first | refine blk_drewN ?_ _ | refine blk_drew ?_ | refine blk_alloc ?_ _)); refine blk_far ?_ NB352_382.out _; (with_reducible repeat (first | refine blk_drewN ?_ _ | refine blk_drew ?_ | refine blk_alloc ?_ _)); exact BK352.out) hb); have n7_ := Aside0.mk (blk_below (g := gb356) (o := .cells #[.slice Ao29 t369.length co29] 26 (0, 0)) (by (with_reducible repeat (first | refine blk_drewN ?_ _ | refine blk_drew ?_ | refine blk_alloc ?_ _)); refine blk_far ?_ NB356_382.out _; (with_reducible repeat (first | refine blk_drewN ?_ _ | refine blk_drew ?_ | refine blk_alloc ?_ _)); exact BK356.out) hb); have n8_ := Aside0.mk (blk_below (g := gb362) (o := .cells #[.slice Ao35 t357.length co35] 26 (0, 0)) (by (with_reducible repeat (first | refine blk_drewN ?_ _ | refine blk_drew ?_ | refine blk_alloc ?_ _)); refine blk_far ?_ NB362_382.out _; (with_reducible repeat (first | refine blk_drewN ?_ _ | refine blk_drew ?_ | refine blk_alloc ?_ _)); exact BK362.out) hb); have n9_ := Aside0.mk (blk_below (g := gb382) (o := .cells #[.slice Ao139 t377.length co139] 26 (0, 0)) (by (with_reducible repeat (first | refine blk_drewN ?_ _ | refine blk_drew ?_ | refine blk_alloc ?_ _)); refine blk_put (cs := #[.slice none 0 0]) ?_ 0 _ rfl; (with_reducible repeat (first | refine blk_drewN ?_ _ | refine blk_drew ?_ | refine blk_alloc ?_ _)); exact BK382.out) hb); have n10_ := Aside0.mk (below_step (bw HB.out) hb); clear HO_353000 HO_357000 HO_363000 HO376 HO379 BK342 BK352 BK356 BK362 BK382 HB; have HO_353000 := n0_; have HO_357000 := n1_; have HO_363000 := n2_; have HO376 := n3_; have HO379 := n4_; have BK342 := n5_; have BK352 := n6_; have BK356 := n7_; have BK362 := n8_; have BK382 := n9_; have HB := n10_; clear n0_ n1_ n2_ n3_ n4_ n5_ n6_ n7_ n8_ n9_ n10_; (try clear hb); (try clear hb2); (try clear hk); (try clear hi)))
               go_meet
               case rel => exact ⟨_, ((t381 != t351)), (by first | rfl | (simp; done) | (simp [*]; done)), H', ⟨by have := HJ13.out; have := HJ71.out; first | omega | exact Nat.le_refl _⟩, ⟨by (try simp only [hl357000_71]); (with_reducible repeat (first | apply Kd.R_alloc | apply Kd.R_drewN | apply Kd.R_drew)); exact Kd.R_mono HO_353000.out (fun _ hk => ⟨hk.1.1.1, ⟨hk.1.1.2, hk.2⟩⟩)⟩, ⟨by (try simp only [hl357000_71]); (with_reducible repeat (first | apply Kd.R_alloc | apply Kd.R_drewN | apply Kd.R_drew)); exact Kd.R_mono HO_357000.out (fun _ hk => ⟨hk.1.1.1, ⟨hk.1.1.2, hk.2⟩⟩)⟩, ⟨by (try simp only [hl357000_71]); (with_reducible repeat (first | apply Kd.R_alloc | apply Kd.R_drewN | apply Kd.R_drew)); exact Kd.R_mono HO_363000.out (fun _ hk => ⟨hk.1.1.1, ⟨hk.1.1.2, hk.2⟩⟩)⟩, ⟨by (try simp only [hl357000_71]); (with_reducible repeat (first | apply Kd.R_alloc | apply Kd.R_drewN | apply Kd.R_drew)); exact Kd.R_mono HO379.out (fun _ hk => ⟨hk.1.1.1.2, ⟨hk.1.1.2, hk.1.2⟩⟩)⟩, ⟨by (try simp only [hl357000_71]); (with_reducible repeat (first | refine blk_drewN ?_ _ | refine blk_drew ?_ | refine blk_alloc ?_ _)); exact BK342.out⟩, ⟨by (try simp only [hl357000_71]); (with_reducible repeat (first | refine blk_drewN ?_ _ | refine blk_drew ?_ | refine blk_alloc ?_ _)); exact BK352.out⟩, ⟨by (try simp only [hl357000_71]); (with_reducible repeat (first | refine blk_drewN ?_ _ | refine blk_drew ?_ | refine blk_alloc ?_ _)); exact BK356.out⟩, ⟨by (try simp only [hl357000_71]); (with_reducible repeat (first | refine blk_drewN ?_ _ | refine blk_drew ?_ | refine blk_alloc ?_ _)); exact BK362.out⟩, ⟨by (try simp only [hl357000_71]); (with_reducible repeat (first | refine blk_drewN ?_ _ | refine blk_drew ?_ | refine blk_alloc ?_ _)); exact BK382.out⟩, ⟨bw HB.out⟩⟩
              ·rw [if_neg c147] at H
               have c147b0 : (t380 == t350) = false := beq_eq_false_iff_ne.mpr c147
               have c147b1 : (t380 != t350) = true := bne_iff_ne.mpr c147
               (first | rw [c147b0] | (simp only [i64_w, i32_w]; rw [c147b0]) | skip)
               have H' := Aside0.mk H
               clear H
               have hnb158 := NB382_342.out
               have hnc158 := NB342_382.out
               have hnb159 := NB382_352.out
               have hnc159 := NB352_382.out
               have hnb160 := NB382_356.out
               have hnc160 := NB356_382.out
               have hnb161 := NB382_362.out
               have hnc161 := NB362_382.out
               have hcz162_0 : w138.cell? ⟨gb382, 0, none⟩ = some (.slice none 0 0) := (blk_cell BK382.out 0).trans rfl
               have hfz162_0 := blk_frozen BK382.out 0
               have hnb163 := NB352_342.out
               have hnc163 := NB342_352.out
               have hnb164 := NB352_356.out
               have hnc164 := NB356_352.out
               have hnb165 := NB352_362.out
               have hnc165 := NB362_352.out
               have hcz166_0 : w138.cell? ⟨gb352, 0, none⟩ = some (.slice Ao23 t347.length co23) := (blk_cell BK352.out 0).trans rfl
               have hfz166_0 := blk_frozen BK352.out 0
               go_wp2_with (first | ((with_reducible refine gate_callee (f := 28) rfl ?_); refine goesL_ (some 105) rfl rfl Try.func28 (by kernel_rfl) rfl #[.agg #[.slice Ao139 t377.length co139], .agg #[.slice Ao23 t347.length co23]] rfl ar ?_; (with_reducible refine (laws_eqArena.calls kj71 _ _ t377 _ _ t347 true _ ?side1 ?side2 ?side3 ?side4 A145.out).mono ?_); (case side1 => refine (Kd.R_reads' (e := 34) (base := w.heap.size) (ok := fun k_ => ((((True ∧ some k_ ≠ (.slice Ao23 t347.length co23 : Value).ownBlock) ∧ some k_ ≠ (.slice Ao29 t369.length co29 : Value).ownBlock) ∧ some k_ ≠ (.slice Ao35 t357.length co35 : Value).ownBlock) ∧ some k_ ≠ (.slice Ao136 t374.length co136 : Value).ownBlock)) (n := t377.length) (c := co139) ?_).2.2; exact (by (with_reducible repeat (first | apply Kd.R_alloc | apply Kd.R_drewN | apply Kd.R_drew)); exact (Kd.R_mono (Kd.R_far (p := ⟨gb382, 0, none⟩) (Kd.R_types HO379.out BK382.out (by decide)) (fun _ hk => hk.2) (.slice Ao139 t377.length co139)) (fun _ h_ => h_.1)))); (case side2 => exact (Kd.R_reads' HO379.out).2.1); (case side3 => refine (Kd.R_reads' (e := 34) (base := w.heap.size) (ok := fun k_ => (((some k_ ≠ (.slice Ao29 t369.length co29 : Value).ownBlock ∧ some k_ ≠ (.slice Ao35 t357.length co35 : Value).ownBlock) ∧ some k_ ≠ (.slice Ao136 t374.length co136 : Value).ownBlock) ∧ some k_ ≠ (.slice Ao139 t377.length co139 : Value).ownBlock)) (n := t347.length) (c := co23) ?_).2.2; exact (by (with_reducible repeat (first | apply Kd.R_alloc | apply Kd.R_drewN | apply Kd.R_drew)); exact (Kd.R_mono (Kd.R_far (p := ⟨gb382, 0, none⟩) (Kd.R_types HO_353000.out BK382.out (by decide)) (fun _ hk => hk.2) (.slice Ao139 t377.length co139)) (fun _ h_ => h_.1)))); (case side4 => exact (Kd.R_reads' HO_353000.out).2.1); rintro e w167 ⟨rfl, hb⟩; refine ⟨_, rfl, ?_⟩; have n0_ := Aside0.mk (Kd.R_below (by (with_reducible repeat (first | apply Kd.R_alloc | apply Kd.R_drewN | apply Kd.R_drew)); exact (Kd.R_mono (Kd.R_far (p := ⟨gb382, 0, none⟩) (Kd.R_types HO_353000.out BK382.out (by decide)) (fun _ hk => hk.2) (.slice Ao139 t377.length co139)) (fun _ h_ => h_.1))) hb); have n1_ := Aside0.mk (Kd.R_below (by (with_reducible repeat (first | apply Kd.R_alloc | apply Kd.R_drewN | apply Kd.R_drew)); exact (Kd.R_mono (Kd.R_far (p := ⟨gb382, 0, none⟩) (Kd.R_types HO_357000.out BK382.out (by decide)) (fun _ hk => hk.2) (.slice Ao139 t377.length co139)) (fun _ h_ => h_.1))) hb); have n2_ := Aside0.mk (Kd.R_below (by (with_reducible repeat (first | apply Kd.R_alloc | apply Kd.R_drewN | apply Kd.R_drew)); exact (Kd.R_mono (Kd.R_far (p := ⟨gb382, 0, none⟩) (Kd.R_types HO_363000.out BK382.out (by decide)) (fun _ hk => hk.2) (.slice Ao139 t377.length co139)) (fun _ h_ => h_.1))) hb); have n3_ := Aside0.mk (Kd.R_below (by (with_reducible repeat (first | apply Kd.R_alloc | apply Kd.R_drewN | apply Kd.R_drew)); exact (Kd.R_mono (Kd.R_far (p := ⟨gb382, 0, none⟩) (Kd.R_types HO376.out BK382.out (by decide)) (fun _ hk => hk.2) (.slice Ao139 t377.length co139)) (fun _ h_ => h_.1))) hb); have n4_ := Aside0.mk (Kd.R_below (by (with_reducible repeat (first | apply Kd.R_alloc | apply Kd.R_drewN | apply Kd.R_drew)); exact (Kd.R_mono (Kd.R_far (p := ⟨gb382, 0, none⟩) (Kd.R_types HO379.out BK382.out (by decide)) (fun _ hk => hk.2) (.slice Ao139 t377.length co139)) (fun _ h_ => h_.1))) hb); have n5_ := Aside0.mk (blk_below (g := gb342) (o := .cells #[.slice A0_0 l0_0.length c0_0] 41 (0, 0)) (by (with_reducible repeat (first | refine blk_drewN ?_ _ | refine blk_drew ?_ | refine blk_alloc ?_ _)); refine blk_far ?_ NB342_382.out _; (with_reducible repeat (first | refine blk_drewN ?_ _ | refine blk_drew ?_ | refine blk_alloc ?_ _)); exact BK342.out) hb); have n6_ := Aside0.mk (blk_below (g := gb352) (o := .cells #[.slice Ao23 t347.length co23] 26 (0, 0)) (by (with_reducible repeat (first | refine blk_drewN ?_ _ | refine blk_drew ?_ | refine blk_alloc ?_ _)); refine blk_far ?_ NB352_382.out _; (with_reducible repeat (first | refine blk_drewN ?_ _ | refine blk_drew ?_ | refine blk_alloc ?_ _)); exact BK352.out) hb); have n7_ := Aside0.mk (blk_below (g := gb356) (o := .cells #[.slice Ao29 t369.length co29] 26 (0, 0)) (by (with_reducible repeat (first | refine blk_drewN ?_ _ | refine blk_drew ?_ | refine blk_alloc ?_ _)); refine blk_far ?_ NB356_382.out _; (with_reducible repeat (first | refine blk_drewN ?_ _ | refine blk_drew ?_ | refine blk_alloc ?_ _)); exact BK356.out) hb); have n8_ := Aside0.mk (blk_below (g := gb362) (o := .cells #[.slice Ao35 t357.length co35] 26 (0, 0)) (by (with_reducible repeat (first | refine blk_drewN ?_ _ | refine blk_drew ?_ | refine blk_alloc ?_ _)); refine blk_far ?_ NB362_382.out _; (with_reducible repeat (first | refine blk_drewN ?_ _ | refine blk_drew ?_ | refine blk_alloc ?_ _)); exact BK362.out) hb); have n9_ := Aside0.mk (blk_below (g := gb382) (o := .cells #[.slice Ao139 t377.length co139] 26 (0, 0)) (by (with_reducible repeat (first | refine blk_drewN ?_ _ | refine blk_drew ?_ | refine blk_alloc ?_ _)); refine blk_put (cs := #[.slice none 0 0]) ?_ 0 _ rfl; (with_reducible repeat (first | refine blk_drewN ?_ _ | refine blk_drew ?_ | refine blk_alloc ?_ _)); exact BK382.out) hb); have n10_ := Aside0.mk (below_step (bw HB.out) hb); clear HO_353000 HO_357000 HO_363000 HO376 HO379 BK342 BK352 BK356 BK362 BK382 HB; have HO_353000 := n0_; have HO_357000 := n1_; have HO_363000 := n2_; have HO376 := n3_; have HO379 := n4_; have BK342 := n5_; have BK352 := n6_; have BK356 := n7_; have BK362 := n8_; have BK382 := n9_; have HB := n10_; clear n0_ n1_ n2_ n3_ n4_ n5_ n6_ n7_ n8_ n9_ n10_; (try clear hb); (try clear hb2); (try clear hk); (try clear hi)))
               go_meet
               case rel => exact ⟨_, (true), (by first | rfl | (simp; done) | (simp [*]; done)), H', ⟨by have := HJ13.out; have := HJ71.out; first | omega | exact Nat.le_refl _⟩, ⟨by (try simp only [hl357000_71]); (with_reducible repeat (first | apply Kd.R_alloc | apply Kd.R_drewN | apply Kd.R_drew)); exact Kd.R_mono HO_353000.out (fun _ hk => ⟨hk.1.1.1, ⟨hk.1.1.2, hk.2⟩⟩)⟩, ⟨by (try simp only [hl357000_71]); (with_reducible repeat (first | apply Kd.R_alloc | apply Kd.R_drewN | apply Kd.R_drew)); exact Kd.R_mono HO_357000.out (fun _ hk => ⟨hk.1.1.1, ⟨hk.1.1.2, hk.2⟩⟩)⟩, ⟨by (try simp only [hl357000_71]); (with_reducible repeat (first | apply Kd.R_alloc | apply Kd.R_drewN | apply Kd.R_drew)); exact Kd.R_mono HO_363000.out (fun _ hk => ⟨hk.1.1.1, ⟨hk.1.1.2, hk.2⟩⟩)⟩, ⟨by (try simp only [hl357000_71]); (with_reducible repeat (first | apply Kd.R_alloc | apply Kd.R_drewN | apply Kd.R_drew)); exact Kd.R_mono HO379.out (fun _ hk => ⟨hk.1.1.1.2, ⟨hk.1.1.2, hk.1.2⟩⟩)⟩, ⟨by (try simp only [hl357000_71]); (with_reducible repeat (first | refine blk_drewN ?_ _ | refine blk_drew ?_ | refine blk_alloc ?_ _)); exact BK342.out⟩, ⟨by (try simp only [hl357000_71]); (with_reducible repeat (first | refine blk_drewN ?_ _ | refine blk_drew ?_ | refine blk_alloc ?_ _)); exact BK352.out⟩, ⟨by (try simp only [hl357000_71]); (with_reducible repeat (first | refine blk_drewN ?_ _ | refine blk_drew ?_ | refine blk_alloc ?_ _)); exact BK356.out⟩, ⟨by (try simp only [hl357000_71]); (with_reducible repeat (first | refine blk_drewN ?_ _ | refine blk_drew ?_ | refine blk_alloc ?_ _)); exact BK362.out⟩, ⟨by (try simp only [hl357000_71]); (with_reducible repeat (first | refine blk_drewN ?_ _ | refine blk_drew ?_ | refine blk_alloc ?_ _)); exact BK382.out⟩, ⟨bw HB.out⟩⟩
             ·replace c146 := Bool.eq_false_iff.mpr c146
              subst c146
              have H1 : (laws_FnExactReadTerm.j2 kj71 t371 true t372) = some r := by rw [if_neg (show ¬ (false = true) by decide)] at H; exact H
              clear H
              have H := H1
              clear H1
              have H' := Aside0.mk H
              clear H
              have hnb168 := NB382_342.out
              have hnc168 := NB342_382.out
              have hnb169 := NB382_352.out
              have hnc169 := NB352_382.out
              have hnb170 := NB382_356.out
              have hnc170 := NB356_382.out
              have hnb171 := NB382_362.out
              have hnc171 := NB362_382.out
              have hcz172_0 : w138.cell? ⟨gb382, 0, none⟩ = some (.slice none 0 0) := (blk_cell BK382.out 0).trans rfl
              have hfz172_0 := blk_frozen BK382.out 0
              have hnb173 := NB352_342.out
              have hnc173 := NB342_352.out
              have hnb174 := NB352_356.out
              have hnc174 := NB356_352.out
              have hnb175 := NB352_362.out
              have hnc175 := NB362_352.out
              have hcz176_0 : w138.cell? ⟨gb352, 0, none⟩ = some (.slice Ao23 t347.length co23) := (blk_cell BK352.out 0).trans rfl
              have hfz176_0 := blk_frozen BK352.out 0
              go_wp2_with (first | ((with_reducible refine gate_callee (f := 28) rfl ?_); refine goesL_ (some 105) rfl rfl Try.func28 (by kernel_rfl) rfl #[.agg #[.slice Ao139 t377.length co139], .agg #[.slice Ao23 t347.length co23]] rfl ar ?_; (with_reducible refine (laws_eqArena.calls kj71 _ _ t377 _ _ t347 false _ ?side1 ?side2 ?side3 ?side4 A145.out).mono ?_); (case side1 => refine (Kd.R_reads' (e := 34) (base := w.heap.size) (ok := fun k_ => ((((True ∧ some k_ ≠ (.slice Ao23 t347.length co23 : Value).ownBlock) ∧ some k_ ≠ (.slice Ao29 t369.length co29 : Value).ownBlock) ∧ some k_ ≠ (.slice Ao35 t357.length co35 : Value).ownBlock) ∧ some k_ ≠ (.slice Ao136 t374.length co136 : Value).ownBlock)) (n := t377.length) (c := co139) ?_).2.2; exact (by (with_reducible repeat (first | apply Kd.R_alloc | apply Kd.R_drewN | apply Kd.R_drew)); exact (Kd.R_mono (Kd.R_far (p := ⟨gb382, 0, none⟩) (Kd.R_types HO379.out BK382.out (by decide)) (fun _ hk => hk.2) (.slice Ao139 t377.length co139)) (fun _ h_ => h_.1)))); (case side2 => exact (Kd.R_reads' HO379.out).2.1); (case side3 => refine (Kd.R_reads' (e := 34) (base := w.heap.size) (ok := fun k_ => (((some k_ ≠ (.slice Ao29 t369.length co29 : Value).ownBlock ∧ some k_ ≠ (.slice Ao35 t357.length co35 : Value).ownBlock) ∧ some k_ ≠ (.slice Ao136 t374.length co136 : Value).ownBlock) ∧ some k_ ≠ (.slice Ao139 t377.length co139 : Value).ownBlock)) (n := t347.length) (c := co23) ?_).2.2; exact (by (with_reducible repeat (first | apply Kd.R_alloc | apply Kd.R_drewN | apply Kd.R_drew)); exact (Kd.R_mono (Kd.R_far (p := ⟨gb382, 0, none⟩) (Kd.R_types HO_353000.out BK382.out (by decide)) (fun _ hk => hk.2) (.slice Ao139 t377.length co139)) (fun _ h_ => h_.1)))); (case side4 => exact (Kd.R_reads' HO_353000.out).2.1); rintro e w177 ⟨rfl, hb⟩; refine ⟨_, rfl, ?_⟩; have n0_ := Aside0.mk (Kd.R_below (by (with_reducible repeat (first | apply Kd.R_alloc | apply Kd.R_drewN | apply Kd.R_drew)); exact (Kd.R_mono (Kd.R_far (p := ⟨gb382, 0, none⟩) (Kd.R_types HO_353000.out BK382.out (by decide)) (fun _ hk => hk.2) (.slice Ao139 t377.length co139)) (fun _ h_ => h_.1))) hb); have n1_ := Aside0.mk (Kd.R_below (by (with_reducible repeat (first | apply Kd.R_alloc | apply Kd.R_drewN | apply Kd.R_drew)); exact (Kd.R_mono (Kd.R_far (p := ⟨gb382, 0, none⟩) (Kd.R_types HO_357000.out BK382.out (by decide)) (fun _ hk => hk.2) (.slice Ao139 t377.length co139)) (fun _ h_ => h_.1))) hb); have n2_ := Aside0.mk (Kd.R_below (by (with_reducible repeat (first | apply Kd.R_alloc | apply Kd.R_drewN | apply Kd.R_drew)); exact (Kd.R_mono (Kd.R_far (p := ⟨gb382, 0, none⟩) (Kd.R_types HO_363000.out BK382.out (by decide)) (fun _ hk => hk.2) (.slice Ao139 t377.length co139)) (fun _ h_ => h_.1))) hb); have n3_ := Aside0.mk (Kd.R_below (by (with_reducible repeat (first | apply Kd.R_alloc | apply Kd.R_drewN | apply Kd.R_drew)); exact (Kd.R_mono (Kd.R_far (p := ⟨gb382, 0, none⟩) (Kd.R_types HO376.out BK382.out (by decide)) (fun _ hk => hk.2) (.slice Ao139 t377.length co139)) (fun _ h_ => h_.1))) hb); have n4_ := Aside0.mk (Kd.R_below (by (with_reducible repeat (first | apply Kd.R_alloc | apply Kd.R_drewN | apply Kd.R_drew)); exact (Kd.R_mono (Kd.R_far (p := ⟨gb382, 0, none⟩) (Kd.R_types HO379.out BK382.out (by decide)) (fun _ hk => hk.2) (.slice Ao139 t377.length co139)) (fun _ h_ => h_.1))) hb); have n5_ := Aside0.mk (blk_below (g := gb342) (o := .cells #[.slice A0_0 l0_0.length c0_0] 41 (0, 0)) (by (with_reducible repeat (first | refine blk_drewN ?_ _ | refine blk_drew ?_ | refine blk_alloc ?_ _)); refine blk_far ?_ NB342_382.out _; (with_reducible repeat (first | refine blk_drewN ?_ _ | refine blk_drew ?_ | refine blk_alloc ?_ _)); exact BK342.out) hb); have n6_ := Aside0.mk (blk_below (g := gb352) (o := .cells #[.slice Ao23 t347.length co23] 26 (0, 0)) (by (with_reducible repeat (first | refine blk_drewN ?_ _ | refine blk_drew ?_ | refine blk_alloc ?_ _)); refine blk_far ?_ NB352_382.out _; (with_reducible repeat (first | refine blk_drewN ?_ _ | refine blk_drew ?_ | refine blk_alloc ?_ _)); exact BK352.out) hb); have n7_ := Aside0.mk (blk_below (g := gb356) (o := .cells #[.slice Ao29 t369.length co29] 26 (0, 0)) (by (with_reducible repeat (first | refine blk_drewN ?_ _ | refine blk_drew ?_ | refine blk_alloc ?_ _)); refine blk_far ?_ NB356_382.out _; (with_reducible repeat (first | refine blk_drewN ?_ _ | refine blk_drew ?_ | refine blk_alloc ?_ _)); exact BK356.out) hb); have n8_ := Aside0.mk (blk_below (g := gb362) (o := .cells #[.slice Ao35 t357.length co35] 26 (0, 0)) (by (with_reducible repeat (first | refine blk_drewN ?_ _ | refine blk_drew ?_ | refine blk_alloc ?_ _)); refine blk_far ?_ NB362_382.out _; (with_reducible repeat (first | refine blk_drewN ?_ _ | refine blk_drew ?_ | refine blk_alloc ?_ _)); exact BK362.out) hb); have n9_ := Aside0.mk (blk_below (g := gb382) (o := .cells #[.slice Ao139 t377.length co139] 26 (0, 0)) (by (with_reducible repeat (first | refine blk_drewN ?_ _ | refine blk_drew ?_ | refine blk_alloc ?_ _)); refine blk_put (cs := #[.slice none 0 0]) ?_ 0 _ rfl; (with_reducible repeat (first | refine blk_drewN ?_ _ | refine blk_drew ?_ | refine blk_alloc ?_ _)); exact BK382.out) hb); have n10_ := Aside0.mk (below_step (bw HB.out) hb); clear HO_353000 HO_357000 HO_363000 HO376 HO379 BK342 BK352 BK356 BK362 BK382 HB; have HO_353000 := n0_; have HO_357000 := n1_; have HO_363000 := n2_; have HO376 := n3_; have HO379 := n4_; have BK342 := n5_; have BK352 := n6_; have BK356 := n7_; have BK362 := n8_; have BK382 := n9_; have HB := n10_; clear n0_ n1_ n2_ n3_ n4_ n5_ n6_ n7_ n8_ n9_ n10_; (try clear hb); (try clear hb2); (try clear hk); (try clear hi)))
              go_meet
              case rel => exact ⟨_, (true), (by first | rfl | (simp; done) | (simp [*]; done)), H', ⟨by have := HJ13.out; have := HJ71.out; first | omega | exact Nat.le_refl _⟩, ⟨by (try simp only [hl357000_71]); (with_reducible repeat (first | apply Kd.R_alloc | apply Kd.R_drewN | apply Kd.R_drew)); exact Kd.R_mono HO_353000.out (fun _ hk => ⟨hk.1.1.1, ⟨hk.1.1.2, hk.2⟩⟩)⟩, ⟨by (try simp only [hl357000_71]); (with_reducible repeat (first | apply Kd.R_alloc | apply Kd.R_drewN | apply Kd.R_drew)); exact Kd.R_mono HO_357000.out (fun _ hk => ⟨hk.1.1.1, ⟨hk.1.1.2, hk.2⟩⟩)⟩, ⟨by (try simp only [hl357000_71]); (with_reducible repeat (first | apply Kd.R_alloc | apply Kd.R_drewN | apply Kd.R_drew)); exact Kd.R_mono HO_363000.out (fun _ hk => ⟨hk.1.1.1, ⟨hk.1.1.2, hk.2⟩⟩)⟩, ⟨by (try simp only [hl357000_71]); (with_reducible repeat (first | apply Kd.R_alloc | apply Kd.R_drewN | apply Kd.R_drew)); exact Kd.R_mono HO379.out (fun _ hk => ⟨hk.1.1.1.2, ⟨hk.1.1.2, hk.1.2⟩⟩)⟩, ⟨by (try simp only [hl357000_71]); (with_reducible repeat (first | refine blk_drewN ?_ _ | refine blk_drew ?_ | refine blk_alloc ?_ _)); exact BK342.out⟩, ⟨by (try simp only [hl357000_71]); (with_reducible repeat (first | refine blk_drewN ?_ _ | refine blk_drew ?_ | refine blk_alloc ?_ _)); exact BK352.out⟩, ⟨by (try simp only [hl357000_71]); (with_reducible repeat (first | refine blk_drewN ?_ _ | refine blk_drew ?_ | refine blk_alloc ?_ _)); exact BK356.out⟩, ⟨by (try simp only [hl357000_71]); (with_reducible repeat (first | refine blk_drewN ?_ _ | refine blk_drew ?_ | refine blk_alloc ?_ _)); exact BK362.out⟩, ⟨by (try simp only [hl357000_71]); (with_reducible repeat (first | refine blk_drewN ?_ _ | refine blk_drew ?_ | refine blk_alloc ?_ _)); exact BK382.out⟩, ⟨bw HB.out⟩⟩
            case rest =>
             clear HC124
             try clear c1
             try clear c2
             try clear p2
             try clear c3
             try clear c3b0
             try clear c3b1
             try clear c4
             try clear c5
             try clear c6
             try clear c6b0
             try clear c7
             try clear c8
             try clear c9
             try clear c10
             try clear c11
             try clear c12
             try clear c13
             try clear c14
             try clear c15
             try clear c16
             try clear c17
             try clear c24
             try clear c26
             try clear c28
             try clear c30
             try clear c31
             try clear c36
             try clear c37
             try clear c38
             try clear c39
             try clear c41
             try clear c42
             try clear c42b0
             try clear c42b1
             try clear c43
             try clear c44
             try clear c45
             try clear c47
             try clear c48
             try clear c51
             try clear c52
             try clear c53
             try clear c55
             try clear c56
             try clear c59
             try clear c60
             try clear c61
             try clear c63
             try clear c64
             try clear c65
             try clear c66
             try clear c67
             try clear c70
             try clear c77
             try clear c78
             try clear c79
             try clear c82
             try clear c82b0
             try clear c84
             try clear c85
             try clear c85b0
             try clear c85b1
             try clear c86
             try clear c87
             try clear c88
             try clear c90
             try clear c91
             try clear c94
             try clear c95
             try clear c96
             try clear c98
             try clear c99
             try clear c102
             try clear c103
             try clear c104
             try clear c106
             try clear c107
             try clear c110
             try clear c113
             try clear c113b0
             try clear c114
             try clear c115
             try clear c116
             try clear c121
             try clear c121b0
             try clear c121b1
             try clear c125
             try clear c126
             try clear c127
             try clear c132
             try clear c133
             try clear c140
             try clear c141
             try clear c142
             try clear c143
             try clear c146
             try clear c147
             try clear c147b0
             try clear c147b1
             try clear c148
             try clear c149
             try clear c150
             try clear c151
             try clear c153
             try clear c154
             try clear c155
             try clear c158
             try clear c159
             try clear c160
             try clear c161
             try clear c163
             try clear c164
             try clear c165
             try clear c168
             try clear c169
             try clear c170
             try clear c171
             try clear c173
             try clear c174
             try clear c175
             try clear hcz100_0
             try clear hcz105_0
             try clear hcz108_0
             try clear hcz117_0
             try clear hcz119_0
             try clear hcz128_0
             try clear hcz130_0
             try clear hcz134_0
             try clear hcz144_0
             try clear hcz152_0
             try clear hcz156_0
             try clear hcz162_0
             try clear hcz166_0
             try clear hcz16_0
             try clear hcz172_0
             try clear hcz176_0
             try clear hcz18_0
             try clear hcz25_0
             try clear hcz26_0
             try clear hcz32_0
             try clear hcz39_0
             try clear hcz46_0
             try clear hcz49_0
             try clear hcz54_0
             try clear hcz57_0
             try clear hcz62_0
             try clear hcz65_0
             try clear hcz80_0
             try clear hcz89_0
             try clear hcz8_0
             try clear hcz92_0
             try clear hcz97_0
             try clear hfz100_0
             try clear hfz105_0
             try clear hfz108_0
             try clear hfz117_0
             try clear hfz119_0
             try clear hfz128_0
             try clear hfz130_0
             try clear hfz134_0
             try clear hfz144_0
             try clear hfz152_0
             try clear hfz156_0
             try clear hfz162_0
             try clear hfz166_0
             try clear hfz16_0
             try clear hfz172_0
             try clear hfz176_0
             try clear hfz18_0
             try clear hfz25_0
             try clear hfz26_0
             try clear hfz32_0
             try clear hfz39_0
             try clear hfz46_0
             try clear hfz49_0
             try clear hfz54_0
             try clear hfz57_0
             try clear hfz62_0
             try clear hfz65_0
             try clear hfz80_0
             try clear hfz89_0
             try clear hfz8_0
             try clear hfz92_0
             try clear hfz97_0
             try clear p2
             obtain ⟨kq, x116_123, rfl, HA, HJ123, HO_353000, HO_357000, HO_363000, HO_383000, BK342, BK352, BK356, BK362, BK382, HB⟩ := hcut
             have hl363000_123 := (Kd.R_reads' HO_363000.out).1
             rw [hl363000_123] at HO_363000
             (try simp only [hl363000_123])
             (try simp only [hl363000_123] at BK342)
             (try simp only [hl363000_123] at BK352)
             (try simp only [hl363000_123] at BK356)
             (try simp only [hl363000_123] at BK362)
             (try simp only [hl363000_123] at BK382)
             (try simp only [hl363000_123] at HO_353000)
             (try simp only [hl363000_123] at HO_357000)
             (try simp only [hl363000_123] at HO_383000)
             cases kq with
             | zero => exact absurd HA.out (by simp [laws_FnExactReadTerm.j2])
             | succ kj123 =>
              have H := HA.out
              clear HA
              simp only [laws_FnExactReadTerm.j2] at H
              by_cases c178 : x116_123 = true
              ·subst c178
               have H1 : (some false) = some r := by rw [if_pos rfl] at H; exact H
               clear H
               have H := H1
               clear H1
               obtain rfl := Option.some.inj H
               go_wp2
               go_ret
               exact ⟨by first | rfl | (simp [errW_none, errW_some] <;> rfl) | (simp [*, errW_none, errW_some] <;> rfl), bw HB.out⟩
              ·replace c178 := Bool.eq_false_iff.mpr c178
               subst c178
               have H1 : ((laws_heldArena.f kj123 t372 1).bind fun t384 => (if t384 < 0 then (some false) else (if t384 = t371 then (some true) else (some false)))) = some r := by rw [if_neg (show ¬ (false = true) by decide)] at H; exact H
               clear H
               have H := H1
               clear H1
               replace H := Option.bind_eq_some_iff.mp H
               obtain ⟨t384, A1790, H⟩ := H
               replace H : (if t384 < 0 then (some false) else (if t384 = t371 then (some true) else (some false))) = some r := H
               have A179 := Aside0.mk A1790
               clear A1790
               by_cases c180 : t384 < 0
               ·rw [if_pos c180] at H
                have c180b0 : decide (t384 < 0) = true := decide_eq_true c180
                clear c180
                obtain rfl := Option.some.inj H
                have hnb181 := NB362_342.out
                have hnc181 := NB342_362.out
                have hnb182 := NB362_352.out
                have hnc182 := NB352_362.out
                have hnb183 := NB362_356.out
                have hnc183 := NB356_362.out
                have hnb184 := NB362_382.out
                have hnc184 := NB382_362.out
                have hcz185_0 : wc.cell? ⟨gb362, 0, none⟩ = some (.slice Ao35 t372.length co35) := (blk_cell BK362.out 0).trans rfl
                have hfz185_0 := blk_frozen BK362.out 0
                go_wp2_with (first | ((with_reducible refine gate_callee (f := 39) rfl ?_); refine goesL_ (some 119) rfl rfl Try.func39 (by kernel_rfl) rfl #[.agg #[.slice Ao35 t372.length co35], .int .i64 1] rfl ar ?_; (with_reducible refine (laws_heldArena.calls kj123 _ _ t372 1 t384 _ ?side1 ?side2 A179.out).mono ?_); (case side1 => exact cl (Kd.R_reads' HO_363000.out).2.2); (case side2 => exact (Kd.R_reads' HO_363000.out).2.1); rintro e w186 ⟨rfl, hb⟩; refine ⟨_, rfl, ?_⟩; have n0_ := Aside0.mk (Kd.R_below (rl HO_353000.out) hb); have n1_ := Aside0.mk (Kd.R_below (rl HO_357000.out) hb); have n2_ := Aside0.mk (Kd.R_below (rl HO_363000.out) hb); have n3_ := Aside0.mk (Kd.R_below (rl HO_383000.out) hb); have n4_ := Aside0.mk (blk_below (g := gb342) (o := .cells #[.slice A0_0 l0_0.length c0_0] 41 (0, 0)) (bl BK342.out) hb); have n5_ := Aside0.mk (blk_below (g := gb352) (o := .cells #[.slice Ao23 t347.length co23] 26 (0, 0)) (bl BK352.out) hb); have n6_ := Aside0.mk (blk_below (g := gb356) (o := .cells #[.slice Ao29 t369.length co29] 26 (0, 0)) (bl BK356.out) hb); have n7_ := Aside0.mk (blk_below (g := gb362) (o := .cells #[.slice Ao35 t372.length co35] 26 (0, 0)) (bl BK362.out) hb); have n8_ := Aside0.mk (blk_below (g := gb382) (o := .cells #[.slice Ao139 t377.length co139] 26 (0, 0)) (bl BK382.out) hb); have n9_ := Aside0.mk (below_step (bw HB.out) hb); clear HO_353000 HO_357000 HO_363000 HO_383000 BK342 BK352 BK356 BK362 BK382 HB; have HO_353000 := n0_; have HO_357000 := n1_; have HO_363000 := n2_; have HO_383000 := n3_; have BK342 := n4_; have BK352 := n5_; have BK356 := n6_; have BK362 := n7_; have BK382 := n8_; have HB := n9_; clear n0_ n1_ n2_ n3_ n4_ n5_ n6_ n7_ n8_ n9_; (try clear hb); (try clear hb2); (try clear hk); (try clear hi)))
                go_ret
                exact ⟨by first | rfl | (simp [errW_none, errW_some] <;> rfl) | (simp [*, errW_none, errW_some] <;> rfl), bw HB.out⟩
               ·rw [if_neg c180] at H
                have c180b0 : decide (t384 < 0) = false := decide_eq_false c180
                clear c180
                by_cases c187 : t384 = t371
                ·rw [if_pos c187] at H
                 have c187b0 : (t384 == t371) = true := beq_iff_eq.mpr c187
                 have c187b1 : (t384 != t371) = false := bne_eq_false_iff_eq.mpr c187
                 clear c187
                 obtain rfl := Option.some.inj H
                 have hnb188 := NB362_342.out
                 have hnc188 := NB342_362.out
                 have hnb189 := NB362_352.out
                 have hnc189 := NB352_362.out
                 have hnb190 := NB362_356.out
                 have hnc190 := NB356_362.out
                 have hnb191 := NB362_382.out
                 have hnc191 := NB382_362.out
                 have hcz192_0 : wc.cell? ⟨gb362, 0, none⟩ = some (.slice Ao35 t372.length co35) := (blk_cell BK362.out 0).trans rfl
                 have hfz192_0 := blk_frozen BK362.out 0
                 go_wp2_with (first | ((with_reducible refine gate_callee (f := 39) rfl ?_); refine goesL_ (some 119) rfl rfl Try.func39 (by kernel_rfl) rfl #[.agg #[.slice Ao35 t372.length co35], .int .i64 1] rfl ar ?_; (with_reducible refine (laws_heldArena.calls kj123 _ _ t372 1 t384 _ ?side1 ?side2 A179.out).mono ?_); (case side1 => exact cl (Kd.R_reads' HO_363000.out).2.2); (case side2 => exact (Kd.R_reads' HO_363000.out).2.1); rintro e w193 ⟨rfl, hb⟩; refine ⟨_, rfl, ?_⟩; have n0_ := Aside0.mk (Kd.R_below (rl HO_353000.out) hb); have n1_ := Aside0.mk (Kd.R_below (rl HO_357000.out) hb); have n2_ := Aside0.mk (Kd.R_below (rl HO_363000.out) hb); have n3_ := Aside0.mk (Kd.R_below (rl HO_383000.out) hb); have n4_ := Aside0.mk (blk_below (g := gb342) (o := .cells #[.slice A0_0 l0_0.length c0_0] 41 (0, 0)) (bl BK342.out) hb); have n5_ := Aside0.mk (blk_below (g := gb352) (o := .cells #[.slice Ao23 t347.length co23] 26 (0, 0)) (bl BK352.out) hb); have n6_ := Aside0.mk (blk_below (g := gb356) (o := .cells #[.slice Ao29 t369.length co29] 26 (0, 0)) (bl BK356.out) hb); have n7_ := Aside0.mk (blk_below (g := gb362) (o := .cells #[.slice Ao35 t372.length co35] 26 (0, 0)) (bl BK362.out) hb); have n8_ := Aside0.mk (blk_below (g := gb382) (o := .cells #[.slice Ao139 t377.length co139] 26 (0, 0)) (bl BK382.out) hb); have n9_ := Aside0.mk (below_step (bw HB.out) hb); clear HO_353000 HO_357000 HO_363000 HO_383000 BK342 BK352 BK356 BK362 BK382 HB; have HO_353000 := n0_; have HO_357000 := n1_; have HO_363000 := n2_; have HO_383000 := n3_; have BK342 := n4_; have BK352 := n5_; have BK356 := n6_; have BK362 := n7_; have BK382 := n8_; have HB := n9_; clear n0_ n1_ n2_ n3_ n4_ n5_ n6_ n7_ n8_ n9_; (try clear hb); (try clear hb2); (try clear hk); (try clear hi)))
                 go_ret
                 exact ⟨by first | rfl | (simp [errW_none, errW_some] <;> rfl) | (simp [*, errW_none, errW_some] <;> rfl), bw HB.out⟩
                ·rw [if_neg c187] at H
                 have c187b0 : (t384 == t371) = false := beq_eq_false_iff_ne.mpr c187
                 have c187b1 : (t384 != t371) = true := bne_iff_ne.mpr c187
                 obtain rfl := Option.some.inj H
                 have hnb194 := NB362_342.out
                 have hnc194 := NB342_362.out
                 have hnb195 := NB362_352.out
                 have hnc195 := NB352_362.out
                 have hnb196 := NB362_356.out
                 have hnc196 := NB356_362.out
                 have hnb197 := NB362_382.out
                 have hnc197 := NB382_362.out
                 have hcz198_0 : wc.cell? ⟨gb362, 0, none⟩ = some (.slice Ao35 t372.length co35) := (blk_cell BK362.out 0).trans rfl
                 have hfz198_0 := blk_frozen BK362.out 0
                 go_wp2_with (first | ((with_reducible refine gate_callee (f := 39) rfl ?_); refine goesL_ (some 119) rfl rfl Try.func39 (by kernel_rfl) rfl #[.agg #[.slice Ao35 t372.length co35], .int .i64 1] rfl ar ?_; (with_reducible refine (laws_heldArena.calls kj123 _ _ t372 1 t384 _ ?side1 ?side2 A179.out).mono ?_); (case side1 => exact cl (Kd.R_reads' HO_363000.out).2.2); (case side2 => exact (Kd.R_reads' HO_363000.out).2.1); rintro e w199 ⟨rfl, hb⟩; refine ⟨_, rfl, ?_⟩; have n0_ := Aside0.mk (Kd.R_below (rl HO_353000.out) hb); have n1_ := Aside0.mk (Kd.R_below (rl HO_357000.out) hb); have n2_ := Aside0.mk (Kd.R_below (rl HO_363000.out) hb); have n3_ := Aside0.mk (Kd.R_below (rl HO_383000.out) hb); have n4_ := Aside0.mk (blk_below (g := gb342) (o := .cells #[.slice A0_0 l0_0.length c0_0] 41 (0, 0)) (bl BK342.out) hb); have n5_ := Aside0.mk (blk_below (g := gb352) (o := .cells #[.slice Ao23 t347.length co23] 26 (0, 0)) (bl BK352.out) hb); have n6_ := Aside0.mk (blk_below (g := gb356) (o := .cells #[.slice Ao29 t369.length co29] 26 (0, 0)) (bl BK356.out) hb); have n7_ := Aside0.mk (blk_below (g := gb362) (o := .cells #[.slice Ao35 t372.length co35] 26 (0, 0)) (bl BK362.out) hb); have n8_ := Aside0.mk (blk_below (g := gb382) (o := .cells #[.slice Ao139 t377.length co139] 26 (0, 0)) (bl BK382.out) hb); have n9_ := Aside0.mk (below_step (bw HB.out) hb); clear HO_353000 HO_357000 HO_363000 HO_383000 BK342 BK352 BK356 BK362 BK382 HB; have HO_353000 := n0_; have HO_357000 := n1_; have HO_363000 := n2_; have HO_383000 := n3_; have BK342 := n4_; have BK352 := n5_; have BK356 := n6_; have BK362 := n7_; have BK382 := n8_; have HB := n9_; clear n0_ n1_ n2_ n3_ n4_ n5_ n6_ n7_ n8_ n9_; (try clear hb); (try clear hb2); (try clear hk); (try clear hi)))
                 go_ret
                 exact ⟨by first | rfl | (simp [errW_none, errW_some] <;> rfl) | (simp [*, errW_none, errW_some] <;> rfl), bw HB.out⟩
           ·rw [if_neg c121] at H
            have c121b0 : (t373 == t371) = false := beq_eq_false_iff_ne.mpr c121
            have c121b1 : (t373 != t371) = true := bne_iff_ne.mpr c121
            obtain rfl := Option.some.inj H
            have hnb200 := NB362_342.out
            have hnc200 := NB342_362.out
            have hnb201 := NB362_352.out
            have hnc201 := NB352_362.out
            have hnb202 := NB362_356.out
            have hnc202 := NB356_362.out
            have hcz203_0 : wc.cell? ⟨gb362, 0, none⟩ = some (.slice Ao35 t357.length co35) := (blk_cell BK362.out 0).trans rfl
            have hfz203_0 := blk_frozen BK362.out 0
            go_wp2_with (first | ((with_reducible refine gate_callee (f := 37) rfl ?_); refine goesL_ (some 86) rfl rfl Try.func37 (by kernel_rfl) rfl #[.agg #[.slice Ao35 t357.length co35], .int .i64 1] rfl ar ?_; (with_reducible refine (laws_markArena.calls kj71 (fun k_ => some k_ = (.slice Ao35 t357.length co35 : Value).ownBlock) (.slice Ao35 t357.length co35) t357 1 t371 t372 w _ ?side1 ?side2 A111.out).mono ?_); (case side1 => exact bw HB.out); (case side2 => exact Kd.R_tight rfl HO_363000.out); rintro e w204 ⟨rfl, hy0, hb, hkp⟩; refine ⟨_, rfl, ?_⟩; have n0_ := Aside0.mk (Kd.R_mono (ok' := fun k_ => some k_ ≠ (.slice Ao29 t369.length co29 : Value).ownBlock ∧ some k_ ≠ (.slice Ao35 t357.length co35 : Value).ownBlock) (Kd.R_keptB (HO_353000.out) hkp (fun k_ hk_ hs_ => (hk_.2) hs_)) (fun k_ hk_ => ⟨hk_.1.1, hk_.1.2⟩)); have n1_ := Aside0.mk (Kd.R_mono (ok' := fun k_ => some k_ ≠ (.slice Ao23 t347.length co23 : Value).ownBlock ∧ some k_ ≠ (.slice Ao35 t357.length co35 : Value).ownBlock) (Kd.R_keptB (HO_357000.out) hkp (fun k_ hk_ hs_ => (hk_.2) hs_)) (fun k_ hk_ => ⟨hk_.1.1, hk_.1.2⟩)); have n2_ := Aside0.mk (Kd.R_reok rfl hy0 (fun k_ e_ => HO_363000.out.1 k_ e_)); have n3_ := Aside0.mk (blk_kept (bl BK342.out) hkp (fun hs_ => (fun e_ => (Kd.R_ne HO_363000.out BK342.out (by decide)) e_) hs_)); have n4_ := Aside0.mk (blk_kept (bl BK352.out) hkp (fun hs_ => (fun e_ => (Kd.R_ne HO_363000.out BK352.out (by decide)) e_) hs_)); have n5_ := Aside0.mk (blk_kept (bl BK356.out) hkp (fun hs_ => (fun e_ => (Kd.R_ne HO_363000.out BK356.out (by decide)) e_) hs_)); have n6_ := Aside0.mk (blk_kept (bl BK362.out) hkp (fun hs_ => (fun e_ => (Kd.R_ne HO_363000.out BK362.out (by decide)) e_) hs_)); have n7_ := Aside0.mk (hb); clear HO_353000 HO_357000 HO_363000 BK342 BK352 BK356 BK362 HB; have HO_353000 := n0_; have HO_357000 := n1_; have HO_363000 := n2_; have BK342 := n3_; have BK352 := n4_; have BK356 := n5_; have BK362 := n6_; have HB := n7_; clear n0_ n1_ n2_ n3_ n4_ n5_ n6_ n7_; (try clear hb); (try clear hkp); (try clear hy0); have hcz205_0 : w204.cell? ⟨gb362, 0, none⟩ = some (.slice Ao35 t357.length co35) := (blk_cell BK362.out 0).trans rfl; have hfz205_0 := blk_frozen BK362.out 0) | ((with_reducible refine gate_callee (f := 39) rfl ?_); refine goesL_ (some 89) rfl rfl Try.func39 (by kernel_rfl) rfl #[.agg #[.slice Ao35 t372.length co35], .int .i64 1] rfl (by (try simp only [List.map_toArray, List.map_cons, List.map_nil]); first | done | (rw [show t372.length = t357.length from (Kd.R_reads' HO_363000.out).1.symm] <;> rfl) | rfl | (simp only [List.length_drop, List.length_take]; rfl)) ?_; (with_reducible refine (laws_heldArena.calls kj71 _ _ t372 1 t373 _ ?side1 ?side2 A112.out).mono ?_); (case side1 => exact cl (Kd.R_reads' HO_363000.out).2.2); (case side2 => rw [show t372.length = t357.length from (Kd.R_reads' HO_363000.out).1.symm]; exact (Kd.R_reads' HO_363000.out).2.1); rintro e w206 ⟨rfl, hb⟩; refine ⟨_, rfl, ?_⟩; have n0_ := Aside0.mk (Kd.R_below (rl HO_353000.out) hb); have n1_ := Aside0.mk (Kd.R_below (rl HO_357000.out) hb); have n2_ := Aside0.mk (Kd.R_below (rl HO_363000.out) hb); have n3_ := Aside0.mk (blk_below (g := gb342) (o := .cells #[.slice A0_0 l0_0.length c0_0] 41 (0, 0)) (bl BK342.out) hb); have n4_ := Aside0.mk (blk_below (g := gb352) (o := .cells #[.slice Ao23 t347.length co23] 26 (0, 0)) (bl BK352.out) hb); have n5_ := Aside0.mk (blk_below (g := gb356) (o := .cells #[.slice Ao29 t369.length co29] 26 (0, 0)) (bl BK356.out) hb); have n6_ := Aside0.mk (blk_below (g := gb362) (o := .cells #[.slice Ao35 t357.length co35] 26 (0, 0)) (bl BK362.out) hb); have n7_ := Aside0.mk (below_step (bw HB.out) hb); clear HO_353000 HO_357000 HO_363000 BK342 BK352 BK356 BK362 HB; have HO_353000 := n0_; have HO_357000 := n1_; have HO_363000 := n2_; have BK342 := n3_; have BK352 := n4_; have BK356 := n5_; have BK362 := n6_; have HB := n7_; clear n0_ n1_ n2_ n3_ n4_ n5_ n6_ n7_; (try clear hb); (try clear hb2); (try clear hk); (try clear hi)))
            go_ret
            exact ⟨by first | rfl | (simp [errW_none, errW_some] <;> rfl) | (simp [*, errW_none, errW_some] <;> rfl), bw HB.out⟩
      ·replace c70 := Bool.eq_false_iff.mpr c70
       subst c70
       have H1 : (some false) = some r := by rw [if_neg (show ¬ (false = true) by decide)] at H; exact H
       clear H
       have H := H1
       clear H1
       obtain rfl := Option.some.inj H
       try go_wp2
       have n0_ := Aside0.mk (Kd.R_drew HO_353000.out)
       have n1_ := Aside0.mk (Kd.R_drew HO_357000.out)
       have n2_ := Aside0.mk (Kd.R_drew HO_363000.out)
       have n3_ := Aside0.mk (blk_drew BK342.out)
       have n4_ := Aside0.mk (blk_drew BK352.out)
       have n5_ := Aside0.mk (blk_drew BK356.out)
       have n6_ := Aside0.mk (blk_drew BK362.out)
       have n7_ := Aside0.mk (below_drew1 HB.out)
       clear HO_353000
       clear HO_357000
       clear HO_363000
       clear BK342
       clear BK352
       clear BK356
       clear BK362
       clear HB
       have HO_353000 := n0_
       have HO_357000 := n1_
       have HO_363000 := n2_
       have BK342 := n3_
       have BK352 := n4_
       have BK356 := n5_
       have BK362 := n6_
       have HB := n7_
       clear n0_ n1_ n2_ n3_ n4_ n5_ n6_ n7_
       refine start_ (n := 5) (S := fun w' => w'.cell? ⟨gb356, 0, none⟩ = some (.slice Ao29 t353.length co29) ∧ w'.cell? ⟨gb342, 0, none⟩ = some (.slice A0_0 l0_0.length c0_0)) (ds := []) #[false, false, false, false, false] (by kernel_rfl) rfl rfl ⟨(blk_cell BK356.out 0).trans rfl, (blk_cell BK342.out 0).trans rfl⟩ (fun hHeld => ?_)
       generalize wc.drew = w207 at HO_353000 HO_357000 HO_363000 BK342 BK352 BK356 BK362 HB hHeld ⊢
       refine take_ (i := 0) (N := some 58) (v := ?_) (a' := ?_) #[true, false, false, false, false] rfl rfl (by kernel_rfl) (fun _ _ _ h => h) (Or.inl ⟨by rfl, ?_⟩) hHeld ?_ ?_
       rotate_left
       ·rintro w' ⟨s0, s1⟩
        go_simp
        with_reducible rfl
       rotate_left
       ·simp only [Act.put, List.setIfInBounds_toArray, List.set_cons_zero, List.set_cons_succ, i64_w, i32_w]
        rfl
       refine take_ (i := 1) (N := some 59) (v := ?_) (a' := ?_) #[true, true, false, false, false] rfl rfl (by kernel_rfl) (fun _ _ _ h => h) (Or.inl ⟨by rfl, ?_⟩) hHeld ?_ ?_
       rotate_left
       ·rintro w' ⟨s0, s1⟩
        go_simp
        with_reducible rfl
       rotate_left
       ·simp only [Act.put, List.setIfInBounds_toArray, List.set_cons_zero, List.set_cons_succ, i64_w, i32_w]
        rfl
       refine one_ (i := 2) (N := some 60) #[true, true, true, false, false] rfl rfl (by kernel_rfl) (by decide) (fun K hK => ?_)
       refine goes_ Try.func26 (by kernel_rfl) rfl #[.agg #[.slice A0_0 l0_0.length c0_0]] (by rfl) rfl rfl ar ?_
       with_reducible refine (laws_toArena.calls kj13 _ _ l0_0 t364 _ ?side1 ?side2 A68.out).mono ?_
       (case side1 => exact cl (Kd.C_below HR0_0.out HB.out))
       (case side2 => exact HC0_0.out)
       rintro e w208 ⟨v365, rfl, ho0, hb⟩
       refine ⟨_, rfl, ?_⟩
       have n0_ := Aside0.mk (Kd.R_elder' (rl HO_353000.out) (Kd.R_base ho0) hb)
       have n1_ := Aside0.mk (Kd.R_elder' (rl HO_357000.out) (Kd.R_base ho0) hb)
       have n2_ := Aside0.mk (Kd.R_elder' (rl HO_363000.out) (Kd.R_base ho0) hb)
       have n3_ := Aside0.mk (Kd.R_lower (Kd.R_new' (Kd.R_new' (Kd.R_new' ho0 (Kd.R_lt (rl HO_353000.out))) (Kd.R_lt (rl HO_357000.out))) (Kd.R_lt (rl HO_363000.out))) (below_size (bw HB.out)))
       have n4_ := Aside0.mk (blk_below (g := gb342) (o := .cells #[.slice A0_0 l0_0.length c0_0] 41 (0, 0)) (bl BK342.out) hb)
       have n5_ := Aside0.mk (blk_below (g := gb352) (o := .cells #[.slice Ao23 t347.length co23] 26 (0, 0)) (bl BK352.out) hb)
       have n6_ := Aside0.mk (blk_below (g := gb356) (o := .cells #[.slice Ao29 t353.length co29] 26 (0, 0)) (bl BK356.out) hb)
       have n7_ := Aside0.mk (blk_below (g := gb362) (o := .cells #[.slice Ao35 t357.length co35] 26 (0, 0)) (bl BK362.out) hb)
       have n8_ := Aside0.mk (below_step (bw HB.out) hb)
       clear HO_353000
       clear HO_357000
       clear HO_363000
       clear BK342
       clear BK352
       clear BK356
       clear BK362
       clear HB
       have HO_353000 := n0_
       have HO_357000 := n1_
       have HO_363000 := n2_
       have HO366 := n3_
       have BK342 := n4_
       have BK352 := n5_
       have BK356 := n6_
       have BK362 := n7_
       have HB := n8_
       clear n0_ n1_ n2_ n3_ n4_ n5_ n6_ n7_ n8_
       (try clear hb)
       (try clear hb2)
       (try clear hk)
       (try clear hi)
       (try clear ho0)
       obtain ⟨Ao209, co209, eo209⟩ := Kd.R_slice HO366.out
       (first | subst eo209 | (injection eo209 with f1_ f2_ f3_; have f4_ := f1_.symm; have f5_ := f3_.symm; clear f1_ f2_ f3_; subst f4_; subst f5_))
       refine hK.out _ _ ⟨(blk_cell BK356.out 0).trans rfl, (blk_cell BK342.out 0).trans rfl⟩ (fun hHeld => ?_)
       clear hK K
       refine norm_ (a' := ?_) ?_ ?_
       rotate_left
       ·show Act.put _ (some 60) _ = _
        simp only [Act.put, List.setIfInBounds_toArray, List.set_cons_zero, List.set_cons_succ, i64_w, i32_w]
        rfl
       refine one_ (i := 3) (N := some 61) #[true, true, true, true, false] rfl rfl (by kernel_rfl) (by decide) (fun K hK => ?_)
       refine goes_ Try.func28 (by kernel_rfl) rfl #[.agg #[.slice Ao29 t353.length co29], .agg #[.slice Ao209 t364.length co209]] (by rfl) rfl rfl ar ?_
       with_reducible refine (laws_eqArena.calls kj13 _ _ t353 _ _ t364 false _ ?side1 ?side2 ?side3 ?side4 A69.out).mono ?_
       (case side1 => exact cl (Kd.R_reads' HO_357000.out).2.2)
       (case side2 => exact (Kd.R_reads' HO_357000.out).2.1)
       (case side3 => exact cl (Kd.R_reads' HO366.out).2.2)
       (case side4 => exact (Kd.R_reads' HO366.out).2.1)
       rintro e w210 ⟨rfl, hb⟩
       refine ⟨_, rfl, ?_⟩
       have n0_ := Aside0.mk (Kd.R_below (rl HO_353000.out) hb)
       have n1_ := Aside0.mk (Kd.R_below (rl HO_357000.out) hb)
       have n2_ := Aside0.mk (Kd.R_below (rl HO_363000.out) hb)
       have n3_ := Aside0.mk (Kd.R_below (rl HO366.out) hb)
       have n4_ := Aside0.mk (blk_below (g := gb342) (o := .cells #[.slice A0_0 l0_0.length c0_0] 41 (0, 0)) (bl BK342.out) hb)
       have n5_ := Aside0.mk (blk_below (g := gb352) (o := .cells #[.slice Ao23 t347.length co23] 26 (0, 0)) (bl BK352.out) hb)
       have n6_ := Aside0.mk (blk_below (g := gb356) (o := .cells #[.slice Ao29 t353.length co29] 26 (0, 0)) (bl BK356.out) hb)
       have n7_ := Aside0.mk (blk_below (g := gb362) (o := .cells #[.slice Ao35 t357.length co35] 26 (0, 0)) (bl BK362.out) hb)
       have n8_ := Aside0.mk (below_step (bw HB.out) hb)
       clear HO_353000
       clear HO_357000
       clear HO_363000
       clear HO366
       clear BK342
       clear BK352
       clear BK356
       clear BK362
       clear HB
       have HO_353000 := n0_
       have HO_357000 := n1_
       have HO_363000 := n2_
       have HO366 := n3_
       have BK342 := n4_
       have BK352 := n5_
       have BK356 := n6_
       have BK362 := n7_
       have HB := n8_
       clear n0_ n1_ n2_ n3_ n4_ n5_ n6_ n7_ n8_
       (try clear hb)
       (try clear hb2)
       (try clear hk)
       (try clear hi)
       refine hK.out _ _ ⟨(blk_cell BK356.out 0).trans rfl, (blk_cell BK342.out 0).trans rfl⟩ (fun hHeld => ?_)
       clear hK K
       refine norm_ (a' := ?_) ?_ ?_
       rotate_left
       ·show Act.put _ (some 61) _ = _
        simp only [Act.put, List.setIfInBounds_toArray, List.set_cons_zero, List.set_cons_succ, i64_w, i32_w]
        rfl
       refine pure_ (i := 4) (N := some 62) (v := ?_) (a' := ?_) #[true, true, true, true, true] rfl rfl (by kernel_rfl) (fun _ _ _ h => h) (Or.inl ⟨by rfl, ?_⟩) ?_ ?_
       rotate_left
       ·intro w'
        go_simp
        with_reducible rfl
       rotate_left
       ·simp only [Act.put, List.setIfInBounds_toArray, List.set_cons_zero, List.set_cons_succ, i64_w, i32_w]
        rfl
       refine done_ (by kernel_rfl) ?_
       try go_wp2
       go_ret
       exact ⟨by first | rfl | (simp [errW_none, errW_some] <;> rfl) | (simp [*, errW_none, errW_some] <;> rfl), bw HB.out⟩

end Go.Proofs.Ytkckdibalopagaa.SFnExactReadTerm
