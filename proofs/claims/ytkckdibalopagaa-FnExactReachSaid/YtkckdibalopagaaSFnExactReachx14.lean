-- Began as a print of the kit over stubs (wip/stub.py); the sections that are named OWN are this session's.
import Derived.Test.YtkckdibalopagaaSFnExactReachx0
import Derived.Test.YtkckdibalopagaaSFnExactReachx5
import Derived.Test.YtkckdibalopagaaSFnExactReachx11
import Derived.Test.YtkckdibalopagaaSFnExactReachx12
import Derived.Test.YtkckdibalopagaaSFnExactReachx13
import Derived.Test.YtkckdibalopagaaRShort
namespace Go.Proofs.Ytkckdibalopagaa.SFnExactReach
open Go.RowKit Go.Proofs.YtkckdibalopagaaW.PrintWords Go.Proofs.YtkckdibalopagaaW.PrintLast Go.Proofs.YtkckdibalopagaaW.PrintMore Go.Proofs.Ytkckdibalopagaa.Short
attribute [local go_sem] max2_int min2_int max_two min_two max_three min_three max_four min_four   -- for this text's walks alone
set_option linter.unusedVariables false
set_option linter.unusedSimpArgs false

/-! ### laws_FnExactReach: function 11 -/
def laws_FnExactReach.j0 : Nat → List Int → List Bool → List Bool → Bool → List (S126) → Option (Bool)
  | 0, _, _, _, _, _ => none
  | k + 1, x1, x6, x9, x61, x301000 => if x61 = true then (some false) else ((laws_markBoolS.f k x9 1).bind fun bt335 => ((laws_heldBoolS.f k bt335.2 1).bind fun t337 => (if t337 < 0 then (some false) else (if t337 = bt335.1 then ((laws_toArena.f k x301000).bind fun t338 => ((laws_toIntS.f k x1).bind fun t341 => ((impl_Reach.f k t338 t341).bind fun t344 => ((laws_eqBoolS.f k t344 x6).bind fun t347 => (if t347 = true then ((laws_heldBoolS.f k bt335.2 1).bind fun t348 => (if t348 < 0 then (some false) else (if t348 = bt335.1 then (some true) else (some false)))) else (some false)))))) else (some false)))))
def laws_FnExactReach.f (k : Nat) (l0_0 : List (S126)) (l1 : List Int) : Option (Bool) := if (l1.length : Int) > 1048576 then (some true) else ((laws_szArena.f l0_0 1048576).bind fun t301 => (if t301 < 0 then (some true) else ((laws_toArena.f k l0_0).bind fun t302 => ((laws_toIntS.f k l1).bind fun t305 => ((spec_Reach.f k t302 t305).bind fun t308 => ((laws_toArena.f k l0_0).bind fun t311 => ((laws_toIntS.f k l1).bind fun t315 => ((impl_Reach.f k t311 t315).bind fun t318 => ((laws_eqBoolS.f k t318 t308).bind fun t321 => (if t321 = true then ((laws_toArena.f k l0_0).bind fun t322 => ((laws_eqArena.f k t311 t322).bind fun t325 => (if t325 = true then ((laws_toIntS.f k l1).bind fun t326 => ((laws_eqIntS.f k t315 t326).bind fun t329 => (if t329 = true then ((laws_markArena.f k t311 1).bind fun bt330 => ((laws_markIntS.f k t315 bt330.1).bind fun bt332 => (if bt332.1 < 0 then (laws_FnExactReach.j0 k l1 t308 t318 true l0_0) else ((laws_eqBoolS.f k t318 t308).bind fun t334 => (laws_FnExactReach.j0 k l1 t308 t318 (!t334) l0_0))))) else (some false)))) else (some false)))) else (some false)))))))))))
set_option maxHeartbeats 8000000 in
set_option maxRecDepth 100000 in
theorem laws_FnExactReach.calls (k : Nat) (A0_0 : Option Addr) (c0_0 : Nat) (l0_0 : List (S126)) (A1 : Option Addr) (c1 : Nat) (l1 : List Int) (r : Bool) (w : World) (hr0_0 : Kd.C k126 w A0_0 l0_0.length l0_0) (hc0_0 : l0_0.length ≤ c0_0) (hr1 : Kd.C (Kd.int .i64) w A1 l1.length l1) (hc1 : l1.length ≤ c1) (h : laws_FnExactReach.f k l0_0 l1 = some r) :
  Calls Try.prog 11 #[.agg #[.slice A0_0 l0_0.length c0_0], .slice A1 l1.length c1] w fun e w' => e = .returned (.bool r) ∧ Below w.heap.size w w' := by
 have hu41 := Try.underlying41
 have hu26 := Try.underlying26
 have HR0_0 := Aside0.mk hr0_0
 have HC0_0 := Aside0.mk hc0_0
 clear hr0_0 hc0_0
 have HR1 := Aside0.mk hr1
 have HC1 := Aside0.mk hc1
 clear hr1 hc1
 have HB := Aside0.mk (Below.refl w.heap.size w)
 have H : (if (l1.length : Int) > 1048576 then (some true) else ((laws_szArena.f l0_0 1048576).bind fun t301 => (if t301 < 0 then (some true) else ((laws_toArena.f k l0_0).bind fun t302 => ((laws_toIntS.f k l1).bind fun t305 => ((spec_Reach.f k t302 t305).bind fun t308 => ((laws_toArena.f k l0_0).bind fun t311 => ((laws_toIntS.f k l1).bind fun t315 => ((impl_Reach.f k t311 t315).bind fun t318 => ((laws_eqBoolS.f k t318 t308).bind fun t321 => (if t321 = true then ((laws_toArena.f k l0_0).bind fun t322 => ((laws_eqArena.f k t311 t322).bind fun t325 => (if t325 = true then ((laws_toIntS.f k l1).bind fun t326 => ((laws_eqIntS.f k t315 t326).bind fun t329 => (if t329 = true then ((laws_markArena.f k t311 1).bind fun bt330 => ((laws_markIntS.f k t315 bt330.1).bind fun bt332 => (if bt332.1 < 0 then (laws_FnExactReach.j0 k l1 t308 t318 true l0_0) else ((laws_eqBoolS.f k t318 t308).bind fun t334 => (laws_FnExactReach.j0 k l1 t308 t318 (!t334) l0_0))))) else (some false)))) else (some false)))) else (some false)))))))))))) = some r := h
 clear h
 by_cases c3 : (l1.length : Int) > 1048576
 ·rw [if_pos c3] at H
  have c3b0 : decide (1048576 < (l1.length : Int)) = true := decide_eq_true c3
  have c3b1 : decide (1048576 < l1.length) = true := decide_eq_true (by omega)
  clear c3
  obtain rfl := Option.some.inj H
  go_enter Try.func11, Try.ntmps11
  go_wp2_with (first | ((with_reducible refine gate_dst (N := 2) rfl ?_); refine box_event ?hg (N := 2) ?hd (cs := #[.slice A0_0 l0_0.length c0_0]) (t := 41) ?hr ?_; (case hd => rfl); (case hg => rfl); (case hr => first | (go_simp; done) | (go_simp; rfl)); intro gb300 hg w4 hbox hb; have n0_ := Aside0.mk (below_step (bw HB.out) hb); have n1_ := Aside0.mk (hbox); have n2_ := Aside0.mk ((by rw [hg]; exact (below_size (bw HB.out)) : w.heap.size ≤ gb300)); have n3_ := Aside0.mk ((by rw [hg]; exact (below_size (bw HB.out)) : w.heap.size ≤ gb300)); clear HB; have HB := n0_; have BK300 := n1_; have GW300 := n2_; have GE300 := n3_; clear n0_ n1_ n2_ n3_ hb hbox hg))
  go_ret
  exact ⟨by first | rfl | (simp [errW_none, errW_some] <;> rfl) | (simp [*, errW_none, errW_some] <;> rfl), bw HB.out⟩
 ·rw [if_neg c3] at H
  have c3b0 : decide (1048576 < (l1.length : Int)) = false := decide_eq_false c3
  have c3b1 : decide (1048576 < l1.length) = false := decide_eq_false (by omega)
  clear c3
  replace H := Option.bind_eq_some_iff.mp H
  obtain ⟨t301, A50, H⟩ := H
  replace H : (if t301 < 0 then (some true) else ((laws_toArena.f k l0_0).bind fun t302 => ((laws_toIntS.f k l1).bind fun t305 => ((spec_Reach.f k t302 t305).bind fun t308 => ((laws_toArena.f k l0_0).bind fun t311 => ((laws_toIntS.f k l1).bind fun t315 => ((impl_Reach.f k t311 t315).bind fun t318 => ((laws_eqBoolS.f k t318 t308).bind fun t321 => (if t321 = true then ((laws_toArena.f k l0_0).bind fun t322 => ((laws_eqArena.f k t311 t322).bind fun t325 => (if t325 = true then ((laws_toIntS.f k l1).bind fun t326 => ((laws_eqIntS.f k t315 t326).bind fun t329 => (if t329 = true then ((laws_markArena.f k t311 1).bind fun bt330 => ((laws_markIntS.f k t315 bt330.1).bind fun bt332 => (if bt332.1 < 0 then (laws_FnExactReach.j0 k l1 t308 t318 true l0_0) else ((laws_eqBoolS.f k t318 t308).bind fun t334 => (laws_FnExactReach.j0 k l1 t308 t318 (!t334) l0_0))))) else (some false)))) else (some false)))) else (some false)))))))))) = some r := H
  have A5 := Aside0.mk A50
  clear A50
  by_cases c6 : t301 < 0
  ·rw [if_pos c6] at H
   have c6b0 : decide (t301 < 0) = true := decide_eq_true c6
   clear c6
   obtain rfl := Option.some.inj H
   go_enter Try.func11, Try.ntmps11
   go_wp2_with (first | ((with_reducible refine gate_dst (N := 2) rfl ?_); refine box_event ?hg (N := 2) ?hd (cs := #[.slice A0_0 l0_0.length c0_0]) (t := 41) ?hr ?_; (case hd => rfl); (case hg => rfl); (case hr => first | (go_simp; done) | (go_simp; rfl)); intro gb300 hg w7 hbox hb; have n0_ := Aside0.mk (below_step (bw HB.out) hb); have n1_ := Aside0.mk (hbox); have n2_ := Aside0.mk ((by rw [hg]; exact (below_size (bw HB.out)) : w.heap.size ≤ gb300)); have n3_ := Aside0.mk ((by rw [hg]; exact (below_size (bw HB.out)) : w.heap.size ≤ gb300)); clear HB; have HB := n0_; have BK300 := n1_; have GW300 := n2_; have GE300 := n3_; clear n0_ n1_ n2_ n3_ hb hbox hg; have hcz8_0 : w7.cell? ⟨gb300, 0, none⟩ = some (.slice A0_0 l0_0.length c0_0) := (blk_cell BK300.out 0).trans rfl; have hfz8_0 := blk_frozen BK300.out 0) | ((with_reducible refine gate_callee (f := 24) rfl ?_); refine goesL_ (some 19) rfl rfl Try.func24 (by kernel_rfl) rfl #[.agg #[.slice A0_0 l0_0.length c0_0], .int .i64 1048576] rfl ar ?_; (with_reducible refine (laws_szArena.calls _ _ l0_0 1048576 t301 _ ?side1 ?side2 A5.out).mono ?_); (case side1 => exact cl (Kd.C_below HR0_0.out HB.out)); (case side2 => exact HC0_0.out); rintro e w9 ⟨rfl, hb⟩; refine ⟨_, rfl, ?_⟩; have n0_ := Aside0.mk (blk_below (g := gb300) (o := .cells #[.slice A0_0 l0_0.length c0_0] 41 (0, 0)) (bl BK300.out) hb); have n1_ := Aside0.mk (below_step (bw HB.out) hb); clear BK300 HB; have BK300 := n0_; have HB := n1_; clear n0_ n1_; (try clear hb); (try clear hb2); (try clear hk); (try clear hi)))
   go_ret
   exact ⟨by first | rfl | (simp [errW_none, errW_some] <;> rfl) | (simp [*, errW_none, errW_some] <;> rfl), bw HB.out⟩
  ·rw [if_neg c6] at H
   have c6b0 : decide (t301 < 0) = false := decide_eq_false c6
   clear c6
   replace H := Option.bind_eq_some_iff.mp H
   obtain ⟨t302, A100, H⟩ := H
   replace H : ((laws_toIntS.f k l1).bind fun t305 => ((spec_Reach.f k t302 t305).bind fun t308 => ((laws_toArena.f k l0_0).bind fun t311 => ((laws_toIntS.f k l1).bind fun t315 => ((impl_Reach.f k t311 t315).bind fun t318 => ((laws_eqBoolS.f k t318 t308).bind fun t321 => (if t321 = true then ((laws_toArena.f k l0_0).bind fun t322 => ((laws_eqArena.f k t311 t322).bind fun t325 => (if t325 = true then ((laws_toIntS.f k l1).bind fun t326 => ((laws_eqIntS.f k t315 t326).bind fun t329 => (if t329 = true then ((laws_markArena.f k t311 1).bind fun bt330 => ((laws_markIntS.f k t315 bt330.1).bind fun bt332 => (if bt332.1 < 0 then (laws_FnExactReach.j0 k l1 t308 t318 true l0_0) else ((laws_eqBoolS.f k t318 t308).bind fun t334 => (laws_FnExactReach.j0 k l1 t308 t318 (!t334) l0_0))))) else (some false)))) else (some false)))) else (some false)))))))) = some r := H
   have A10 := Aside0.mk A100
   clear A100
   replace H := Option.bind_eq_some_iff.mp H
   obtain ⟨t305, A110, H⟩ := H
   replace H : ((spec_Reach.f k t302 t305).bind fun t308 => ((laws_toArena.f k l0_0).bind fun t311 => ((laws_toIntS.f k l1).bind fun t315 => ((impl_Reach.f k t311 t315).bind fun t318 => ((laws_eqBoolS.f k t318 t308).bind fun t321 => (if t321 = true then ((laws_toArena.f k l0_0).bind fun t322 => ((laws_eqArena.f k t311 t322).bind fun t325 => (if t325 = true then ((laws_toIntS.f k l1).bind fun t326 => ((laws_eqIntS.f k t315 t326).bind fun t329 => (if t329 = true then ((laws_markArena.f k t311 1).bind fun bt330 => ((laws_markIntS.f k t315 bt330.1).bind fun bt332 => (if bt332.1 < 0 then (laws_FnExactReach.j0 k l1 t308 t318 true l0_0) else ((laws_eqBoolS.f k t318 t308).bind fun t334 => (laws_FnExactReach.j0 k l1 t308 t318 (!t334) l0_0))))) else (some false)))) else (some false)))) else (some false))))))) = some r := H
   have A11 := Aside0.mk A110
   clear A110
   replace H := Option.bind_eq_some_iff.mp H
   obtain ⟨t308, A120, H⟩ := H
   replace H : ((laws_toArena.f k l0_0).bind fun t311 => ((laws_toIntS.f k l1).bind fun t315 => ((impl_Reach.f k t311 t315).bind fun t318 => ((laws_eqBoolS.f k t318 t308).bind fun t321 => (if t321 = true then ((laws_toArena.f k l0_0).bind fun t322 => ((laws_eqArena.f k t311 t322).bind fun t325 => (if t325 = true then ((laws_toIntS.f k l1).bind fun t326 => ((laws_eqIntS.f k t315 t326).bind fun t329 => (if t329 = true then ((laws_markArena.f k t311 1).bind fun bt330 => ((laws_markIntS.f k t315 bt330.1).bind fun bt332 => (if bt332.1 < 0 then (laws_FnExactReach.j0 k l1 t308 t318 true l0_0) else ((laws_eqBoolS.f k t318 t308).bind fun t334 => (laws_FnExactReach.j0 k l1 t308 t318 (!t334) l0_0))))) else (some false)))) else (some false)))) else (some false)))))) = some r := H
   have A12 := Aside0.mk A120
   clear A120
   replace H := Option.bind_eq_some_iff.mp H
   obtain ⟨t311, A130, H⟩ := H
   replace H : ((laws_toIntS.f k l1).bind fun t315 => ((impl_Reach.f k t311 t315).bind fun t318 => ((laws_eqBoolS.f k t318 t308).bind fun t321 => (if t321 = true then ((laws_toArena.f k l0_0).bind fun t322 => ((laws_eqArena.f k t311 t322).bind fun t325 => (if t325 = true then ((laws_toIntS.f k l1).bind fun t326 => ((laws_eqIntS.f k t315 t326).bind fun t329 => (if t329 = true then ((laws_markArena.f k t311 1).bind fun bt330 => ((laws_markIntS.f k t315 bt330.1).bind fun bt332 => (if bt332.1 < 0 then (laws_FnExactReach.j0 k l1 t308 t318 true l0_0) else ((laws_eqBoolS.f k t318 t308).bind fun t334 => (laws_FnExactReach.j0 k l1 t308 t318 (!t334) l0_0))))) else (some false)))) else (some false)))) else (some false))))) = some r := H
   have A13 := Aside0.mk A130
   clear A130
   replace H := Option.bind_eq_some_iff.mp H
   obtain ⟨t315, A140, H⟩ := H
   replace H : ((impl_Reach.f k t311 t315).bind fun t318 => ((laws_eqBoolS.f k t318 t308).bind fun t321 => (if t321 = true then ((laws_toArena.f k l0_0).bind fun t322 => ((laws_eqArena.f k t311 t322).bind fun t325 => (if t325 = true then ((laws_toIntS.f k l1).bind fun t326 => ((laws_eqIntS.f k t315 t326).bind fun t329 => (if t329 = true then ((laws_markArena.f k t311 1).bind fun bt330 => ((laws_markIntS.f k t315 bt330.1).bind fun bt332 => (if bt332.1 < 0 then (laws_FnExactReach.j0 k l1 t308 t318 true l0_0) else ((laws_eqBoolS.f k t318 t308).bind fun t334 => (laws_FnExactReach.j0 k l1 t308 t318 (!t334) l0_0))))) else (some false)))) else (some false)))) else (some false)))) = some r := H
   have A14 := Aside0.mk A140
   clear A140
   replace H := Option.bind_eq_some_iff.mp H
   obtain ⟨t318, A150, H⟩ := H
   replace H : ((laws_eqBoolS.f k t318 t308).bind fun t321 => (if t321 = true then ((laws_toArena.f k l0_0).bind fun t322 => ((laws_eqArena.f k t311 t322).bind fun t325 => (if t325 = true then ((laws_toIntS.f k l1).bind fun t326 => ((laws_eqIntS.f k t315 t326).bind fun t329 => (if t329 = true then ((laws_markArena.f k t311 1).bind fun bt330 => ((laws_markIntS.f k t315 bt330.1).bind fun bt332 => (if bt332.1 < 0 then (laws_FnExactReach.j0 k l1 t308 t318 true l0_0) else ((laws_eqBoolS.f k t318 t308).bind fun t334 => (laws_FnExactReach.j0 k l1 t308 t318 (!t334) l0_0))))) else (some false)))) else (some false)))) else (some false))) = some r := H
   have A15 := Aside0.mk A150
   clear A150
   replace H := Option.bind_eq_some_iff.mp H
   obtain ⟨t321, A160, H⟩ := H
   replace H : (if t321 = true then ((laws_toArena.f k l0_0).bind fun t322 => ((laws_eqArena.f k t311 t322).bind fun t325 => (if t325 = true then ((laws_toIntS.f k l1).bind fun t326 => ((laws_eqIntS.f k t315 t326).bind fun t329 => (if t329 = true then ((laws_markArena.f k t311 1).bind fun bt330 => ((laws_markIntS.f k t315 bt330.1).bind fun bt332 => (if bt332.1 < 0 then (laws_FnExactReach.j0 k l1 t308 t318 true l0_0) else ((laws_eqBoolS.f k t318 t308).bind fun t334 => (laws_FnExactReach.j0 k l1 t308 t318 (!t334) l0_0))))) else (some false)))) else (some false)))) else (some false)) = some r := H
   have A16 := Aside0.mk A160
   clear A160
   by_cases c17 : t321 = true
   ·subst c17
    have H1 : ((laws_toArena.f k l0_0).bind fun t322 => ((laws_eqArena.f k t311 t322).bind fun t325 => (if t325 = true then ((laws_toIntS.f k l1).bind fun t326 => ((laws_eqIntS.f k t315 t326).bind fun t329 => (if t329 = true then ((laws_markArena.f k t311 1).bind fun bt330 => ((laws_markIntS.f k t315 bt330.1).bind fun bt332 => (if bt332.1 < 0 then (laws_FnExactReach.j0 k l1 t308 t318 true l0_0) else ((laws_eqBoolS.f k t318 t308).bind fun t334 => (laws_FnExactReach.j0 k l1 t308 t318 (!t334) l0_0))))) else (some false)))) else (some false)))) = some r := by rw [if_pos rfl] at H; exact H
    clear H
    have H := H1
    clear H1
    replace H := Option.bind_eq_some_iff.mp H
    obtain ⟨t322, A180, H⟩ := H
    replace H : ((laws_eqArena.f k t311 t322).bind fun t325 => (if t325 = true then ((laws_toIntS.f k l1).bind fun t326 => ((laws_eqIntS.f k t315 t326).bind fun t329 => (if t329 = true then ((laws_markArena.f k t311 1).bind fun bt330 => ((laws_markIntS.f k t315 bt330.1).bind fun bt332 => (if bt332.1 < 0 then (laws_FnExactReach.j0 k l1 t308 t318 true l0_0) else ((laws_eqBoolS.f k t318 t308).bind fun t334 => (laws_FnExactReach.j0 k l1 t308 t318 (!t334) l0_0))))) else (some false)))) else (some false))) = some r := H
    have A18 := Aside0.mk A180
    clear A180
    replace H := Option.bind_eq_some_iff.mp H
    obtain ⟨t325, A190, H⟩ := H
    replace H : (if t325 = true then ((laws_toIntS.f k l1).bind fun t326 => ((laws_eqIntS.f k t315 t326).bind fun t329 => (if t329 = true then ((laws_markArena.f k t311 1).bind fun bt330 => ((laws_markIntS.f k t315 bt330.1).bind fun bt332 => (if bt332.1 < 0 then (laws_FnExactReach.j0 k l1 t308 t318 true l0_0) else ((laws_eqBoolS.f k t318 t308).bind fun t334 => (laws_FnExactReach.j0 k l1 t308 t318 (!t334) l0_0))))) else (some false)))) else (some false)) = some r := H
    have A19 := Aside0.mk A190
    clear A190
    by_cases c20 : t325 = true
    ·subst c20
     have H1 : ((laws_toIntS.f k l1).bind fun t326 => ((laws_eqIntS.f k t315 t326).bind fun t329 => (if t329 = true then ((laws_markArena.f k t311 1).bind fun bt330 => ((laws_markIntS.f k t315 bt330.1).bind fun bt332 => (if bt332.1 < 0 then (laws_FnExactReach.j0 k l1 t308 t318 true l0_0) else ((laws_eqBoolS.f k t318 t308).bind fun t334 => (laws_FnExactReach.j0 k l1 t308 t318 (!t334) l0_0))))) else (some false)))) = some r := by rw [if_pos rfl] at H; exact H
     clear H
     have H := H1
     clear H1
     replace H := Option.bind_eq_some_iff.mp H
     obtain ⟨t326, A210, H⟩ := H
     replace H : ((laws_eqIntS.f k t315 t326).bind fun t329 => (if t329 = true then ((laws_markArena.f k t311 1).bind fun bt330 => ((laws_markIntS.f k t315 bt330.1).bind fun bt332 => (if bt332.1 < 0 then (laws_FnExactReach.j0 k l1 t308 t318 true l0_0) else ((laws_eqBoolS.f k t318 t308).bind fun t334 => (laws_FnExactReach.j0 k l1 t308 t318 (!t334) l0_0))))) else (some false))) = some r := H
     have A21 := Aside0.mk A210
     clear A210
     replace H := Option.bind_eq_some_iff.mp H
     obtain ⟨t329, A220, H⟩ := H
     replace H : (if t329 = true then ((laws_markArena.f k t311 1).bind fun bt330 => ((laws_markIntS.f k t315 bt330.1).bind fun bt332 => (if bt332.1 < 0 then (laws_FnExactReach.j0 k l1 t308 t318 true l0_0) else ((laws_eqBoolS.f k t318 t308).bind fun t334 => (laws_FnExactReach.j0 k l1 t308 t318 (!t334) l0_0))))) else (some false)) = some r := H
     have A22 := Aside0.mk A220
     clear A220
     by_cases c23 : t329 = true
     ·subst c23
      have H1 : ((laws_markArena.f k t311 1).bind fun bt330 => ((laws_markIntS.f k t315 bt330.1).bind fun bt332 => (if bt332.1 < 0 then (laws_FnExactReach.j0 k l1 t308 t318 true l0_0) else ((laws_eqBoolS.f k t318 t308).bind fun t334 => (laws_FnExactReach.j0 k l1 t308 t318 (!t334) l0_0))))) = some r := by rw [if_pos rfl] at H; exact H
      clear H
      have H := H1
      clear H1
      replace H := Option.bind_eq_some_iff.mp H
      obtain ⟨⟨t330, t331⟩, A240, H⟩ := H
      replace H : ((laws_markIntS.f k t315 t330).bind fun bt332 => (if bt332.1 < 0 then (laws_FnExactReach.j0 k l1 t308 t318 true l0_0) else ((laws_eqBoolS.f k t318 t308).bind fun t334 => (laws_FnExactReach.j0 k l1 t308 t318 (!t334) l0_0)))) = some r := H
      have A24 := Aside0.mk A240
      clear A240
      replace H := Option.bind_eq_some_iff.mp H
      obtain ⟨⟨t332, t333⟩, A250, H⟩ := H
      replace H : (if t332 < 0 then (laws_FnExactReach.j0 k l1 t308 t318 true l0_0) else ((laws_eqBoolS.f k t318 t308).bind fun t334 => (laws_FnExactReach.j0 k l1 t308 t318 (!t334) l0_0))) = some r := H
      have A25 := Aside0.mk A250
      clear A250
      have HC26 := Aside0.mk H
      clear H
      go_enter Try.func11, Try.ntmps11
      try go_wp2_with (first | ((with_reducible refine gate_dst (N := 2) rfl ?_); refine box_event ?hg (N := 2) ?hd (cs := #[.slice A0_0 l0_0.length c0_0]) (t := 41) ?hr ?_; (case hd => rfl); (case hg => rfl); (case hr => first | (go_simp; done) | (go_simp; rfl)); intro gb300 hg w27 hbox hb; have n0_ := Aside0.mk (below_step (bw HB.out) hb); have n1_ := Aside0.mk (hbox); have n2_ := Aside0.mk ((by rw [hg]; exact (below_size (bw HB.out)) : w.heap.size ≤ gb300)); have n3_ := Aside0.mk ((by rw [hg]; exact (below_size (bw HB.out)) : w.heap.size ≤ gb300)); clear HB; have HB := n0_; have BK300 := n1_; have GW300 := n2_; have GE300 := n3_; clear n0_ n1_ n2_ n3_ hb hbox hg; have hcz28_0 : w27.cell? ⟨gb300, 0, none⟩ = some (.slice A0_0 l0_0.length c0_0) := (blk_cell BK300.out 0).trans rfl; have hfz28_0 := blk_frozen BK300.out 0) | ((with_reducible refine gate_callee (f := 24) rfl ?_); refine goesL_ (some 19) rfl rfl Try.func24 (by kernel_rfl) rfl #[.agg #[.slice A0_0 l0_0.length c0_0], .int .i64 1048576] rfl ar ?_; (with_reducible refine (laws_szArena.calls _ _ l0_0 1048576 t301 _ ?side1 ?side2 A5.out).mono ?_); (case side1 => exact cl (Kd.C_below HR0_0.out HB.out)); (case side2 => exact HC0_0.out); rintro e w29 ⟨rfl, hb⟩; refine ⟨_, rfl, ?_⟩; have n0_ := Aside0.mk (blk_below (g := gb300) (o := .cells #[.slice A0_0 l0_0.length c0_0] 41 (0, 0)) (bl BK300.out) hb); have n1_ := Aside0.mk (below_step (bw HB.out) hb); clear BK300 HB; have BK300 := n0_; have HB := n1_; clear n0_ n1_; (try clear hb); (try clear hb2); (try clear hk); (try clear hi); have hcz30_0 : w29.cell? ⟨gb300, 0, none⟩ = some (.slice A0_0 l0_0.length c0_0) := (blk_cell BK300.out 0).trans rfl; have hfz30_0 := blk_frozen BK300.out 0) | ((with_reducible refine gate_callee (f := 26) rfl ?_); refine goesL_ (some 23) rfl rfl Try.func26 (by kernel_rfl) rfl #[.agg #[.slice A0_0 l0_0.length c0_0]] rfl ar ?_; (with_reducible refine (laws_toArena.calls k _ _ l0_0 t302 _ ?side1 ?side2 A10.out).mono ?_); (case side1 => exact cl (Kd.C_below HR0_0.out HB.out)); (case side2 => exact HC0_0.out); rintro e w31 ⟨v303, rfl, ho0, hb⟩; refine ⟨_, rfl, ?_⟩; have n0_ := Aside0.mk (Kd.R_lower ho0 (below_size (bw HB.out))); have n1_ := Aside0.mk (blk_below (g := gb300) (o := .cells #[.slice A0_0 l0_0.length c0_0] 41 (0, 0)) (bl BK300.out) hb); have n2_ := Aside0.mk (below_step (bw HB.out) hb); clear BK300 HB; have HO304 := n0_; have BK300 := n1_; have HB := n2_; clear n0_ n1_ n2_; (try clear hb); (try clear hb2); (try clear hk); (try clear hi); (try clear ho0)) | ((with_reducible refine gate_callee (f := 34) rfl ?_); refine goesL_ (some 25) rfl rfl Try.func34 (by kernel_rfl) rfl #[.slice A1 l1.length c1] rfl ar ?_; (with_reducible refine (laws_toIntS.calls k _ _ l1 t305 _ ?side1 ?side2 A11.out).mono ?_); (case side1 => exact cl (Kd.C_below HR1.out HB.out)); (case side2 => exact HC1.out); rintro e w32 ⟨v306, rfl, ho0, hb⟩; refine ⟨_, rfl, ?_⟩; have n0_ := Aside0.mk (Kd.R_below (rl HO304.out) hb); have n1_ := Aside0.mk (Kd.R_lower ho0 (below_size (bw HB.out))); have n2_ := Aside0.mk (blk_below (g := gb300) (o := .cells #[.slice A0_0 l0_0.length c0_0] 41 (0, 0)) (bl BK300.out) hb); have n3_ := Aside0.mk (below_step (bw HB.out) hb); clear HO304 BK300 HB; have HO304 := n0_; have HO307 := n1_; have BK300 := n2_; have HB := n3_; clear n0_ n1_ n2_ n3_; (try clear hb); (try clear hb2); (try clear hk); (try clear hi); (try clear ho0); obtain ⟨Ao33, co33, eo33⟩ := Kd.R_slice HO304.out; subst eo33; obtain ⟨Ao34, co34, eo34⟩ := Kd.R_slice HO307.out; subst eo34) | ((with_reducible refine gate_callee (f := 22) rfl ?_); refine goesL_ (some 26) rfl rfl Try.func22 (by kernel_rfl) rfl #[.agg #[.slice Ao33 t302.length co33], .slice Ao34 t305.length co34] rfl ar ?_; (with_reducible refine (spec_Reach.calls k _ _ t302 _ _ t305 t308 _ ?side1 ?side2 ?side3 ?side4 A12.out).mono ?_); (case side1 => exact cl (Kd.R_reads' HO304.out).2.2); (case side2 => exact (Kd.R_reads' HO304.out).2.1); (case side3 => exact cl (Kd.R_reads' HO307.out).2.2); (case side4 => exact (Kd.R_reads' HO307.out).2.1); rintro e w35 ⟨v309, rfl, ho0, hb⟩; refine ⟨_, rfl, ?_⟩; have n0_ := Aside0.mk (Kd.R_below (rl HO304.out) hb); have n1_ := Aside0.mk (Kd.R_below (rl HO307.out) hb); have n2_ := Aside0.mk (Kd.R_lower ho0 (below_size (bw HB.out))); have n3_ := Aside0.mk (blk_below (g := gb300) (o := .cells #[.slice A0_0 l0_0.length c0_0] 41 (0, 0)) (bl BK300.out) hb); have n4_ := Aside0.mk (below_step (bw HB.out) hb); clear HO304 HO307 BK300 HB; have HO304 := n0_; have HO307 := n1_; have HO310 := n2_; have BK300 := n3_; have HB := n4_; clear n0_ n1_ n2_ n3_ n4_; (try clear hb); (try clear hb2); (try clear hk); (try clear hi); (try clear ho0); have hcz36_0 : w35.cell? ⟨gb300, 0, none⟩ = some (.slice A0_0 l0_0.length c0_0) := (blk_cell BK300.out 0).trans rfl; have hfz36_0 := blk_frozen BK300.out 0) | ((with_reducible refine gate_callee (f := 26) rfl ?_); refine goesL_ (some 28) rfl rfl Try.func26 (by kernel_rfl) rfl #[.agg #[.slice A0_0 l0_0.length c0_0]] rfl ar ?_; (with_reducible refine (laws_toArena.calls k _ _ l0_0 t311 _ ?side1 ?side2 A13.out).mono ?_); (case side1 => exact cl (Kd.C_below HR0_0.out HB.out)); (case side2 => exact HC0_0.out); rintro e w37 ⟨v312, rfl, ho0, hb⟩; refine ⟨_, rfl, ?_⟩; have n0_ := Aside0.mk (Kd.R_elder' (rl HO304.out) (Kd.R_base ho0) hb); have n1_ := Aside0.mk (Kd.R_below (rl HO307.out) hb); have n2_ := Aside0.mk (Kd.R_below (rl HO310.out) hb); have n3_ := Aside0.mk (Kd.R_lower (Kd.R_new' ho0 (Kd.R_lt (rl HO304.out))) (below_size (bw HB.out))); have n4_ := Aside0.mk (blk_below (g := gb300) (o := .cells #[.slice A0_0 l0_0.length c0_0] 41 (0, 0)) (bl BK300.out) hb); have n5_ := Aside0.mk (below_step (bw HB.out) hb); clear HO304 HO307 HO310 BK300 HB; have HO304 := n0_; have HO307 := n1_; have HO310 := n2_; have HO313 := n3_; have BK300 := n4_; have HB := n5_; clear n0_ n1_ n2_ n3_ n4_ n5_; (try clear hb); (try clear hb2); (try clear hk); (try clear hi); (try clear ho0)) | ((with_reducible refine gate_dst (N := 7) rfl ?_); refine box_event ?hg (N := 7) ?hd (cs := #[.slice none 0 0]) (t := 26) ?hr ?_; (case hd => rfl); (case hg => rfl); (case hr => first | (go_simp; done) | (go_simp; rfl)); intro gb314 hg w38 hbox hb; have n0_ := Aside0.mk (Kd.R_below (rl HO304.out) hb); have n1_ := Aside0.mk (Kd.R_below (rl HO307.out) hb); have n2_ := Aside0.mk (Kd.R_below (rl HO310.out) hb); have n3_ := Aside0.mk (Kd.R_below (rl HO313.out) hb); have n4_ := Aside0.mk (blk_below (g := gb300) (o := .cells #[.slice A0_0 l0_0.length c0_0] 41 (0, 0)) (bl BK300.out) hb); have n5_ := Aside0.mk (below_step (bw HB.out) hb); have n6_ := Aside0.mk (hbox); have n7_ := Aside0.mk ((by rw [hg]; exact (below_size (bw HB.out)) : w.heap.size ≤ gb314)); have n8_ := Aside0.mk ((by rw [hg]; exact (below_size (bw HB.out)) : w.heap.size ≤ gb314)); have n9_ := Aside0.mk ((by rw [hg]; exact Nat.ne_of_lt (blk_lt (g := gb300) (o := .cells #[.slice A0_0 l0_0.length c0_0] 41 (0, 0)) (bl BK300.out)) : gb300 ≠ gb314)); have n10_ := Aside0.mk ((by rw [hg]; exact Nat.ne_of_gt (blk_lt (g := gb300) (o := .cells #[.slice A0_0 l0_0.length c0_0] 41 (0, 0)) (bl BK300.out)) : gb314 ≠ gb300)); clear HO304 HO307 HO310 HO313 BK300 HB; have HO304 := n0_; have HO307 := n1_; have HO310 := n2_; have HO313 := n3_; have BK300 := n4_; have HB := n5_; have BK314 := n6_; have GW314 := n7_; have GE314 := n8_; have NB300_314 := n9_; have NB314_300 := n10_; clear n0_ n1_ n2_ n3_ n4_ n5_ n6_ n7_ n8_ n9_ n10_ hb hbox hg; obtain ⟨Ao39, co39, eo39⟩ := Kd.R_slice HO313.out; subst eo39; have hnb40 := NB314_300.out; have hnc40 := NB300_314.out; have hcz41_0 : w38.cell? ⟨gb314, 0, none⟩ = some (.slice none 0 0) := (blk_cell BK314.out 0).trans rfl; have hfz41_0 := blk_frozen BK314.out 0) | ((with_reducible refine gate_callee (f := 34) rfl ?_); refine goesL_ (some 30) rfl rfl Try.func34 (by kernel_rfl) rfl #[.slice A1 l1.length c1] rfl ar ?_; (with_reducible refine (laws_toIntS.calls k _ _ l1 t315 _ ?side1 ?side2 A14.out).mono ?_); (case side1 => exact Kd.C_below HR1.out (bw HB.out)); (case side2 => exact HC1.out); rintro e w42 ⟨v316, rfl, ho0, hb⟩; refine ⟨_, rfl, ?_⟩; have n0_ := Aside0.mk (Kd.R_below (by (with_reducible repeat (first | apply Kd.R_alloc | apply Kd.R_drewN | apply Kd.R_drew)); exact (Kd.R_mono (Kd.R_far (p := ⟨gb314, 0, none⟩) (Kd.R_types HO304.out BK314.out (by decide)) (fun _ hk => hk.2) (.slice Ao39 t311.length co39)) (fun _ h_ => h_.1))) hb); have n1_ := Aside0.mk (Kd.R_elder' (by (with_reducible repeat (first | apply Kd.R_alloc | apply Kd.R_drewN | apply Kd.R_drew)); exact (Kd.R_mono (Kd.R_far (p := ⟨gb314, 0, none⟩) (Kd.R_types HO307.out BK314.out (by decide)) (fun _ hk => hk.2) (.slice Ao39 t311.length co39)) (fun _ h_ => h_.1))) (Kd.R_base ho0) hb); have n2_ := Aside0.mk (Kd.R_below (by (with_reducible repeat (first | apply Kd.R_alloc | apply Kd.R_drewN | apply Kd.R_drew)); exact (Kd.R_mono (Kd.R_far (p := ⟨gb314, 0, none⟩) (Kd.R_types HO310.out BK314.out (by decide)) (fun _ hk => hk.2) (.slice Ao39 t311.length co39)) (fun _ h_ => h_.1))) hb); have n3_ := Aside0.mk (Kd.R_below (by (with_reducible repeat (first | apply Kd.R_alloc | apply Kd.R_drewN | apply Kd.R_drew)); exact (Kd.R_mono (Kd.R_far (p := ⟨gb314, 0, none⟩) (Kd.R_types HO313.out BK314.out (by decide)) (fun _ hk => hk.2) (.slice Ao39 t311.length co39)) (fun _ h_ => h_.1))) hb); have n4_ := Aside0.mk (Kd.R_lower (Kd.R_new' ho0 (Kd.R_lt (by (with_reducible repeat (first | apply Kd.R_alloc | apply Kd.R_drewN | apply Kd.R_drew)); exact (Kd.R_mono (Kd.R_far (p := ⟨gb314, 0, none⟩) (Kd.R_types HO307.out BK314.out (by decide)) (fun _ hk => hk.2) (.slice Ao39 t311.length co39)) (fun _ h_ => h_.1))))) (below_size (bw HB.out))); have n5_ := Aside0.mk (blk_below (g := gb300) (o := .cells #[.slice A0_0 l0_0.length c0_0] 41 (0, 0)) (by (with_reducible repeat (first | refine blk_drewN ?_ _ | refine blk_drew ?_ | refine blk_alloc ?_ _)); refine blk_far ?_ NB300_314.out _; (with_reducible repeat (first | refine blk_drewN ?_ _ | refine blk_drew ?_ | refine blk_alloc ?_ _)); exact BK300.out) hb); have n6_ := Aside0.mk (blk_below (g := gb314) (o := .cells #[.slice Ao39 t311.length co39] 26 (0, 0)) (by (with_reducible repeat (first | refine blk_drewN ?_ _ | refine blk_drew ?_ | refine blk_alloc ?_ _)); refine blk_put (cs := #[.slice none 0 0]) ?_ 0 _ rfl; (with_reducible repeat (first | refine blk_drewN ?_ _ | refine blk_drew ?_ | refine blk_alloc ?_ _)); exact BK314.out) hb); have n7_ := Aside0.mk (below_step (bw HB.out) hb); clear HO304 HO307 HO310 HO313 BK300 BK314 HB; have HO304 := n0_; have HO307 := n1_; have HO310 := n2_; have HO313 := n3_; have HO317 := n4_; have BK300 := n5_; have BK314 := n6_; have HB := n7_; clear n0_ n1_ n2_ n3_ n4_ n5_ n6_ n7_; (try clear hb); (try clear hb2); (try clear hk); (try clear hi); (try clear ho0); have hcz43_0 : w42.cell? ⟨gb314, 0, none⟩ = some (.slice Ao39 t311.length co39) := (blk_cell BK314.out 0).trans rfl; have hfz43_0 := blk_frozen BK314.out 0; obtain ⟨Ao44, co44, eo44⟩ := Kd.R_slice HO317.out; subst eo44) | ((with_reducible refine gate_callee (f := 16) rfl ?_); refine goesL_ (some 33) rfl rfl Try.func16 (by kernel_rfl) rfl #[.agg #[.slice Ao39 t311.length co39], .slice Ao44 t315.length co44] rfl ar ?_; (with_reducible refine (impl_Reach.calls k _ _ t311 _ _ t315 t318 _ ?side1 ?side2 ?side3 ?side4 A15.out).mono ?_); (case side1 => exact cl (Kd.R_reads' HO313.out).2.2); (case side2 => exact (Kd.R_reads' HO313.out).2.1); (case side3 => exact cl (Kd.R_reads' HO317.out).2.2); (case side4 => exact (Kd.R_reads' HO317.out).2.1); rintro e w45 ⟨v319, rfl, ho0, hb⟩; refine ⟨_, rfl, ?_⟩; have n0_ := Aside0.mk (Kd.R_below (rl HO304.out) hb); have n1_ := Aside0.mk (Kd.R_below (rl HO307.out) hb); have n2_ := Aside0.mk (Kd.R_elder' (rl HO310.out) (Kd.R_base ho0) hb); have n3_ := Aside0.mk (Kd.R_below (rl HO313.out) hb); have n4_ := Aside0.mk (Kd.R_below (rl HO317.out) hb); have n5_ := Aside0.mk (Kd.R_lower (Kd.R_new' ho0 (Kd.R_lt (rl HO310.out))) (below_size (bw HB.out))); have n6_ := Aside0.mk (blk_below (g := gb300) (o := .cells #[.slice A0_0 l0_0.length c0_0] 41 (0, 0)) (bl BK300.out) hb); have n7_ := Aside0.mk (blk_below (g := gb314) (o := .cells #[.slice Ao39 t311.length co39] 26 (0, 0)) (bl BK314.out) hb); have n8_ := Aside0.mk (below_step (bw HB.out) hb); clear HO304 HO307 HO310 HO313 HO317 BK300 BK314 HB; have HO304 := n0_; have HO307 := n1_; have HO310 := n2_; have HO313 := n3_; have HO317 := n4_; have HO320 := n5_; have BK300 := n6_; have BK314 := n7_; have HB := n8_; clear n0_ n1_ n2_ n3_ n4_ n5_ n6_ n7_ n8_; (try clear hb); (try clear hb2); (try clear hk); (try clear hi); (try clear ho0); obtain ⟨Ao46, co46, eo46⟩ := Kd.R_slice HO320.out; subst eo46; obtain ⟨Ao47, co47, eo47⟩ := Kd.R_slice HO310.out; subst eo47) | ((with_reducible refine gate_callee (f := 62) rfl ?_); refine goesL_ (some 36) rfl rfl Try.func62 (by kernel_rfl) rfl #[.slice Ao46 t318.length co46, .slice Ao47 t308.length co47] rfl ar ?_; (with_reducible refine (laws_eqBoolS.calls k _ _ t318 _ _ t308 true _ ?side1 ?side2 ?side3 ?side4 A16.out).mono ?_); (case side1 => exact cl (Kd.R_reads' HO320.out).2.2); (case side2 => exact (Kd.R_reads' HO320.out).2.1); (case side3 => exact cl (Kd.R_reads' HO310.out).2.2); (case side4 => exact (Kd.R_reads' HO310.out).2.1); rintro e w' ⟨rfl, ⟨nd, rfl⟩⟩; refine ⟨_, rfl, ?_⟩))
      (try (rw [drewN_self w45]; generalize hq_ : World.drewN w45 _ = w45; have n0_ : Aside0 (Kd.R k34 34 w45 w.heap.size (fun k_ => some k_ ≠ (.slice Ao39 t311.length co39 : Value).ownBlock) (.slice Ao33 t302.length co33) t302) := ⟨by rw [← hq_]; exact (by (with_reducible repeat (first | apply Kd.R_alloc | apply Kd.R_drewN | apply Kd.R_drew)); exact Kd.R_mono HO304.out (fun _ hk => hk.2))⟩; have n1_ : Aside0 (Kd.R (Kd.int .i64) 3 w45 w.heap.size (fun k_ => some k_ ≠ (.slice Ao44 t315.length co44 : Value).ownBlock) (.slice Ao34 t305.length co34) t305) := ⟨by rw [← hq_]; exact (by (with_reducible repeat (first | apply Kd.R_alloc | apply Kd.R_drewN | apply Kd.R_drew)); exact Kd.R_mono HO307.out (fun _ hk => hk.2))⟩; have n2_ : Aside0 (Kd.R Kd.bool 4 w45 w.heap.size (fun k_ => some k_ ≠ (.slice Ao46 t318.length co46 : Value).ownBlock) (.slice Ao47 t308.length co47) t308) := ⟨by rw [← hq_]; exact (by (with_reducible repeat (first | apply Kd.R_alloc | apply Kd.R_drewN | apply Kd.R_drew)); exact Kd.R_mono HO310.out (fun _ hk => hk.2))⟩; have n3_ : Aside0 (Kd.R k34 34 w45 w.heap.size (fun k_ => some k_ ≠ (.slice Ao33 t302.length co33 : Value).ownBlock) (.slice Ao39 t311.length co39) t311) := ⟨by rw [← hq_]; exact (by (with_reducible repeat (first | apply Kd.R_alloc | apply Kd.R_drewN | apply Kd.R_drew)); exact Kd.R_mono HO313.out (fun _ hk => hk.2))⟩; have n4_ : Aside0 (Kd.R (Kd.int .i64) 3 w45 w.heap.size (fun k_ => some k_ ≠ (.slice Ao34 t305.length co34 : Value).ownBlock) (.slice Ao44 t315.length co44) t315) := ⟨by rw [← hq_]; exact (by (with_reducible repeat (first | apply Kd.R_alloc | apply Kd.R_drewN | apply Kd.R_drew)); exact Kd.R_mono HO317.out (fun _ hk => hk.2))⟩; have n5_ : Aside0 (Kd.R Kd.bool 4 w45 w.heap.size (fun k_ => some k_ ≠ (.slice Ao47 t308.length co47 : Value).ownBlock) (.slice Ao46 t318.length co46) t318) := ⟨by rw [← hq_]; exact (by (with_reducible repeat (first | apply Kd.R_alloc | apply Kd.R_drewN | apply Kd.R_drew)); exact Kd.R_mono HO320.out (fun _ hk => hk.2))⟩; have n6_ : Aside0 (w45.heap[gb300]? = some (.cells #[.slice A0_0 l0_0.length c0_0] 41 (0, 0))) := ⟨by rw [← hq_]; exact (bl BK300.out)⟩; have n7_ : Aside0 (w45.heap[gb314]? = some (.cells #[.slice Ao39 t311.length co39] 26 (0, 0))) := ⟨by rw [← hq_]; exact (bl BK314.out)⟩; have n8_ : Aside0 (Below w.heap.size w w45) := ⟨by rw [← hq_]; exact (bw HB.out)⟩; clear HO304 HO307 HO310 HO313 HO317 HO320 BK300 BK314 HB hq_; have HO304 := n0_; have HO307 := n1_; have HO310 := n2_; have HO313 := n3_; have HO317 := n4_; have HO320 := n5_; have BK300 := n6_; have BK314 := n7_; have HB := n8_; clear n0_ n1_ n2_ n3_ n4_ n5_ n6_ n7_ n8_))
      have n0_ := Aside0.mk (Kd.R_drew HO304.out)
      have n1_ := Aside0.mk (Kd.R_drew HO307.out)
      have n2_ := Aside0.mk (Kd.R_drew HO310.out)
      have n3_ := Aside0.mk (Kd.R_drew HO313.out)
      have n4_ := Aside0.mk (Kd.R_drew HO317.out)
      have n5_ := Aside0.mk (Kd.R_drew HO320.out)
      have n6_ := Aside0.mk (blk_drew BK300.out)
      have n7_ := Aside0.mk (blk_drew BK314.out)
      have n8_ := Aside0.mk (below_drew1 HB.out)
      clear HO304
      clear HO307
      clear HO310
      clear HO313
      clear HO317
      clear HO320
      clear BK300
      clear BK314
      clear HB
      have HO304 := n0_
      have HO307 := n1_
      have HO310 := n2_
      have HO313 := n3_
      have HO317 := n4_
      have HO320 := n5_
      have BK300 := n6_
      have BK314 := n7_
      have HB := n8_
      clear n0_ n1_ n2_ n3_ n4_ n5_ n6_ n7_ n8_
      refine start_ (n := 5) (S := fun w' => w'.cell? ⟨gb314, 0, none⟩ = some (.slice Ao39 t311.length co39) ∧ w'.cell? ⟨gb300, 0, none⟩ = some (.slice A0_0 l0_0.length c0_0)) (ds := []) #[false, false, false, false, false] (by kernel_rfl) rfl rfl ⟨(blk_cell BK314.out 0).trans rfl, (blk_cell BK300.out 0).trans rfl⟩ (fun hHeld => ?_)
      generalize w45.drew = w48 at HO304 HO307 HO310 HO313 HO317 HO320 BK300 BK314 HB hHeld ⊢
      refine take_ (i := 0) (N := some 38) (v := ?_) (a' := ?_) #[true, false, false, false, false] rfl rfl (by kernel_rfl) (fun _ _ _ h => h) (Or.inl ⟨by rfl, ?_⟩) hHeld ?_ ?_
      rotate_left
      ·rintro w' ⟨s0, s1⟩
       go_simp
       with_reducible rfl
      rotate_left
      ·simp only [Act.put, List.setIfInBounds_toArray, List.set_cons_zero, List.set_cons_succ, i64_w, i32_w]
       rfl
      refine take_ (i := 1) (N := some 39) (v := ?_) (a' := ?_) #[true, true, false, false, false] rfl rfl (by kernel_rfl) (fun _ _ _ h => h) (Or.inl ⟨by rfl, ?_⟩) hHeld ?_ ?_
      rotate_left
      ·rintro w' ⟨s0, s1⟩
       go_simp
       with_reducible rfl
      rotate_left
      ·simp only [Act.put, List.setIfInBounds_toArray, List.set_cons_zero, List.set_cons_succ, i64_w, i32_w]
       rfl
      refine one_ (i := 2) (N := some 40) #[true, true, true, false, false] rfl rfl (by kernel_rfl) (by decide) (fun K hK => ?_)
      refine goes_ Try.func26 (by kernel_rfl) rfl #[.agg #[.slice A0_0 l0_0.length c0_0]] (by rfl) rfl rfl ar ?_
      with_reducible refine (laws_toArena.calls k _ _ l0_0 t322 _ ?side1 ?side2 A18.out).mono ?_
      (case side1 => exact cl (Kd.C_below HR0_0.out HB.out))
      (case side2 => exact HC0_0.out)
      rintro e w49 ⟨v323, rfl, ho0, hb⟩
      refine ⟨_, rfl, ?_⟩
      have n0_ := Aside0.mk (Kd.R_elder' (rl HO304.out) (Kd.R_base ho0) hb)
      have n1_ := Aside0.mk (Kd.R_below (rl HO307.out) hb)
      have n2_ := Aside0.mk (Kd.R_below (rl HO310.out) hb)
      have n3_ := Aside0.mk (Kd.R_elder' (rl HO313.out) (Kd.R_base ho0) hb)
      have n4_ := Aside0.mk (Kd.R_below (rl HO317.out) hb)
      have n5_ := Aside0.mk (Kd.R_below (rl HO320.out) hb)
      have n6_ := Aside0.mk (Kd.R_lower (Kd.R_new' (Kd.R_new' ho0 (Kd.R_lt (rl HO304.out))) (Kd.R_lt (rl HO313.out))) (below_size (bw HB.out)))
      have n7_ := Aside0.mk (blk_below (g := gb300) (o := .cells #[.slice A0_0 l0_0.length c0_0] 41 (0, 0)) (bl BK300.out) hb)
      have n8_ := Aside0.mk (blk_below (g := gb314) (o := .cells #[.slice Ao39 t311.length co39] 26 (0, 0)) (bl BK314.out) hb)
      have n9_ := Aside0.mk (below_step (bw HB.out) hb)
      clear HO304
      clear HO307
      clear HO310
      clear HO313
      clear HO317
      clear HO320
      clear BK300
      clear BK314
      clear HB
      have HO304 := n0_
      have HO307 := n1_
      have HO310 := n2_
      have HO313 := n3_
      have HO317 := n4_
      have HO320 := n5_
      have HO324 := n6_
      have BK300 := n7_
      have BK314 := n8_
      have HB := n9_
      clear n0_ n1_ n2_ n3_ n4_ n5_ n6_ n7_ n8_ n9_
      (try clear hb)
      (try clear hb2)
      (try clear hk)
      (try clear hi)
      (try clear ho0)
      obtain ⟨Ao50, co50, eo50⟩ := Kd.R_slice HO324.out
      (first | subst eo50 | (injection eo50 with f1_ f2_ f3_; have f4_ := f1_.symm; have f5_ := f3_.symm; clear f1_ f2_ f3_; subst f4_; subst f5_))
      refine hK.out _ _ ⟨(blk_cell BK314.out 0).trans rfl, (blk_cell BK300.out 0).trans rfl⟩ (fun hHeld => ?_)
      clear hK K
      refine norm_ (a' := ?_) ?_ ?_
      rotate_left
      ·show Act.put _ (some 40) _ = _
       simp only [Act.put, List.setIfInBounds_toArray, List.set_cons_zero, List.set_cons_succ, i64_w, i32_w]
       rfl
      refine one_ (i := 3) (N := some 41) #[true, true, true, true, false] rfl rfl (by kernel_rfl) (by decide) (fun K hK => ?_)
      refine goes_ Try.func28 (by kernel_rfl) rfl #[.agg #[.slice Ao39 t311.length co39], .agg #[.slice Ao50 t322.length co50]] (by rfl) rfl rfl ar ?_
      with_reducible refine (laws_eqArena.calls k _ _ t311 _ _ t322 true _ ?side1 ?side2 ?side3 ?side4 A19.out).mono ?_
      (case side1 => exact cl (Kd.R_reads' HO313.out).2.2)
      (case side2 => exact (Kd.R_reads' HO313.out).2.1)
      (case side3 => exact cl (Kd.R_reads' HO324.out).2.2)
      (case side4 => exact (Kd.R_reads' HO324.out).2.1)
      rintro e w51 ⟨rfl, hb⟩
      refine ⟨_, rfl, ?_⟩
      have n0_ := Aside0.mk (Kd.R_below (rl HO304.out) hb)
      have n1_ := Aside0.mk (Kd.R_below (rl HO307.out) hb)
      have n2_ := Aside0.mk (Kd.R_below (rl HO310.out) hb)
      have n3_ := Aside0.mk (Kd.R_below (rl HO313.out) hb)
      have n4_ := Aside0.mk (Kd.R_below (rl HO317.out) hb)
      have n5_ := Aside0.mk (Kd.R_below (rl HO320.out) hb)
      have n6_ := Aside0.mk (Kd.R_below (rl HO324.out) hb)
      have n7_ := Aside0.mk (blk_below (g := gb300) (o := .cells #[.slice A0_0 l0_0.length c0_0] 41 (0, 0)) (bl BK300.out) hb)
      have n8_ := Aside0.mk (blk_below (g := gb314) (o := .cells #[.slice Ao39 t311.length co39] 26 (0, 0)) (bl BK314.out) hb)
      have n9_ := Aside0.mk (below_step (bw HB.out) hb)
      clear HO304
      clear HO307
      clear HO310
      clear HO313
      clear HO317
      clear HO320
      clear HO324
      clear BK300
      clear BK314
      clear HB
      have HO304 := n0_
      have HO307 := n1_
      have HO310 := n2_
      have HO313 := n3_
      have HO317 := n4_
      have HO320 := n5_
      have HO324 := n6_
      have BK300 := n7_
      have BK314 := n8_
      have HB := n9_
      clear n0_ n1_ n2_ n3_ n4_ n5_ n6_ n7_ n8_ n9_
      (try clear hb)
      (try clear hb2)
      (try clear hk)
      (try clear hi)
      refine hK.out _ _ ⟨(blk_cell BK314.out 0).trans rfl, (blk_cell BK300.out 0).trans rfl⟩ (fun hHeld => ?_)
      clear hK K
      refine norm_ (a' := ?_) ?_ ?_
      rotate_left
      ·show Act.put _ (some 41) _ = _
       simp only [Act.put, List.setIfInBounds_toArray, List.set_cons_zero, List.set_cons_succ, i64_w, i32_w]
       rfl
      refine pure_ (i := 4) (N := some 42) (v := ?_) (a' := ?_) #[true, true, true, true, true] rfl rfl (by kernel_rfl) (fun _ _ _ h => h) (Or.inl ⟨by rfl, ?_⟩) ?_ ?_
      rotate_left
      ·intro w'
       go_simp
       with_reducible rfl
      rotate_left
      ·simp only [Act.put, List.setIfInBounds_toArray, List.set_cons_zero, List.set_cons_succ, i64_w, i32_w]
       rfl
      refine done_ (by kernel_rfl) ?_
      go_upto_region 20 with (first | ((with_reducible refine gate_callee (f := 34) rfl ?_); refine goesL_ (some 45) rfl rfl Try.func34 (by kernel_rfl) rfl #[.slice A1 l1.length c1] rfl ar ?_; (with_reducible refine (laws_toIntS.calls k _ _ l1 t326 _ ?side1 ?side2 A21.out).mono ?_); (case side1 => exact cl (Kd.C_below HR1.out HB.out)); (case side2 => exact HC1.out); rintro e w52 ⟨v327, rfl, ho0, hb⟩; refine ⟨_, rfl, ?_⟩; have n0_ := Aside0.mk (Kd.R_below (rl HO304.out) hb); have n1_ := Aside0.mk (Kd.R_elder' (rl HO307.out) (Kd.R_base ho0) hb); have n2_ := Aside0.mk (Kd.R_below (rl HO310.out) hb); have n3_ := Aside0.mk (Kd.R_below (rl HO313.out) hb); have n4_ := Aside0.mk (Kd.R_elder' (rl HO317.out) (Kd.R_base ho0) hb); have n5_ := Aside0.mk (Kd.R_below (rl HO320.out) hb); have n6_ := Aside0.mk (Kd.R_below (rl HO324.out) hb); have n7_ := Aside0.mk (Kd.R_lower (Kd.R_new' (Kd.R_new' ho0 (Kd.R_lt (rl HO307.out))) (Kd.R_lt (rl HO317.out))) (below_size (bw HB.out))); have n8_ := Aside0.mk (blk_below (g := gb300) (o := .cells #[.slice A0_0 l0_0.length c0_0] 41 (0, 0)) (bl BK300.out) hb); have n9_ := Aside0.mk (blk_below (g := gb314) (o := .cells #[.slice Ao39 t311.length co39] 26 (0, 0)) (bl BK314.out) hb); have n10_ := Aside0.mk (below_step (bw HB.out) hb); clear HO304 HO307 HO310 HO313 HO317 HO320 HO324 BK300 BK314 HB; have HO304 := n0_; have HO307 := n1_; have HO310 := n2_; have HO313 := n3_; have HO317 := n4_; have HO320 := n5_; have HO324 := n6_; have HO328 := n7_; have BK300 := n8_; have BK314 := n9_; have HB := n10_; clear n0_ n1_ n2_ n3_ n4_ n5_ n6_ n7_ n8_ n9_ n10_; (try clear hb); (try clear hb2); (try clear hk); (try clear hi); (try clear ho0); obtain ⟨Ao53, co53, eo53⟩ := Kd.R_slice HO328.out; subst eo53) | ((with_reducible refine gate_callee (f := 36) rfl ?_); refine goesL_ (some 46) rfl rfl Try.func36 (by kernel_rfl) rfl #[.slice Ao44 t315.length co44, .slice Ao53 t326.length co53] rfl ar ?_; (with_reducible refine (laws_eqIntS.calls k _ _ t315 _ _ t326 true _ ?side1 ?side2 ?side3 ?side4 A22.out).mono ?_); (case side1 => exact cl (Kd.R_reads' HO317.out).2.2); (case side2 => exact (Kd.R_reads' HO317.out).2.1); (case side3 => exact cl (Kd.R_reads' HO328.out).2.2); (case side4 => exact (Kd.R_reads' HO328.out).2.1); rintro e w' ⟨rfl, ⟨nd, rfl⟩⟩; refine ⟨_, rfl, ?_⟩; have hcz54_0 : w52.cell? ⟨gb314, 0, none⟩ = some (.slice Ao39 t311.length co39) := (blk_cell BK314.out 0).trans rfl; have hfz54_0 := blk_frozen BK314.out 0; have HO304 := Aside0.mk (Kd.R_drewN HO304.out nd); have HO307 := Aside0.mk (Kd.R_drewN HO307.out nd); have HO310 := Aside0.mk (Kd.R_drewN HO310.out nd); have HO313 := Aside0.mk (Kd.R_drewN HO313.out nd); have HO317 := Aside0.mk (Kd.R_drewN HO317.out nd); have HO320 := Aside0.mk (Kd.R_drewN HO320.out nd); have HO324 := Aside0.mk (Kd.R_drewN HO324.out nd); have HO328 := Aside0.mk (Kd.R_drewN HO328.out nd); have BK300 := Aside0.mk (blk_drewN BK300.out nd); have BK314 := Aside0.mk (blk_drewN BK314.out nd); have HB := Aside0.mk (pw_below_drewN HB.out nd)) | ((with_reducible refine gate_callee (f := 37) rfl ?_); refine goesL_ (some 50) rfl rfl Try.func37 (by kernel_rfl) rfl #[.agg #[.slice Ao39 t311.length co39], .int .i64 1] rfl ar ?_; (with_reducible refine (laws_markArena.calls k (fun k_ => some k_ = (.slice Ao39 t311.length co39 : Value).ownBlock) (.slice Ao39 t311.length co39) t311 1 t330 t331 w _ ?side1 ?side2 A24.out).mono ?_); (case side1 => exact bw HB.out); (case side2 => exact Kd.R_tight rfl HO313.out); rintro e w55 ⟨rfl, hy0, hb, hkp⟩; refine ⟨_, rfl, ?_⟩; have n0_ := Aside0.mk (blk_kept (bl BK300.out) hkp (fun hs_ => (fun e_ => (Kd.R_ne HO313.out BK300.out (by decide)) e_) hs_)); have n1_ := Aside0.mk (Kd.R_mono (ok' := fun k_ => some k_ ≠ (.slice Ao39 t311.length co39 : Value).ownBlock) (Kd.R_keptB (HO304.out) hkp (fun k_ hk_ hs_ => absurd hs_ (pk hk_))) (fun k_ hk_ => pka hk_)); have n2_ := Aside0.mk (Kd.R_mono (ok' := fun k_ => some k_ ≠ (.slice Ao44 t315.length co44 : Value).ownBlock ∧ some k_ ≠ (.slice Ao53 t326.length co53 : Value).ownBlock) (Kd.R_keptB ((Kd.R_apart' HO307.out (Kd.R_typed HO313.out) (by decide))) hkp (fun k_ hk_ hs_ => absurd hs_ (pk hk_))) (fun k_ hk_ => pka hk_)); have n3_ := Aside0.mk (Kd.R_mono (ok' := fun k_ => some k_ ≠ (.slice Ao46 t318.length co46 : Value).ownBlock) (Kd.R_keptB ((Kd.R_apart' HO310.out (Kd.R_typed HO313.out) (by decide))) hkp (fun k_ hk_ hs_ => absurd hs_ (pk hk_))) (fun k_ hk_ => pka hk_)); have n4_ := Aside0.mk (Kd.R_reok rfl hy0 (fun k_ e_ => HO313.out.1 k_ e_)); have n5_ := Aside0.mk (blk_kept (bl BK314.out) hkp (fun hs_ => (fun e_ => (Kd.R_ne HO313.out BK314.out (by decide)) e_) hs_)); have n6_ := Aside0.mk (Kd.R_mono (ok' := fun k_ => some k_ ≠ (.slice Ao34 t305.length co34 : Value).ownBlock ∧ some k_ ≠ (.slice Ao53 t326.length co53 : Value).ownBlock) (Kd.R_keptB ((Kd.R_apart' HO317.out (Kd.R_typed HO313.out) (by decide))) hkp (fun k_ hk_ hs_ => absurd hs_ (pk hk_))) (fun k_ hk_ => pka hk_)); have n7_ := Aside0.mk (Kd.R_mono (ok' := fun k_ => some k_ ≠ (.slice Ao47 t308.length co47 : Value).ownBlock) (Kd.R_keptB ((Kd.R_apart' HO320.out (Kd.R_typed HO313.out) (by decide))) hkp (fun k_ hk_ hs_ => absurd hs_ (pk hk_))) (fun k_ hk_ => pka hk_)); have n8_ := Aside0.mk (Kd.R_mono (ok' := fun k_ => some k_ ≠ (.slice Ao33 t302.length co33 : Value).ownBlock ∧ some k_ ≠ (.slice Ao39 t311.length co39 : Value).ownBlock) (Kd.R_keptB (HO324.out) hkp (fun k_ hk_ hs_ => absurd hs_ (pk hk_))) (fun k_ hk_ => pka hk_)); have n9_ := Aside0.mk (Kd.R_mono (ok' := fun k_ => some k_ ≠ (.slice Ao34 t305.length co34 : Value).ownBlock ∧ some k_ ≠ (.slice Ao44 t315.length co44 : Value).ownBlock) (Kd.R_keptB ((Kd.R_apart' HO328.out (Kd.R_typed HO313.out) (by decide))) hkp (fun k_ hk_ hs_ => absurd hs_ (pk hk_))) (fun k_ hk_ => pka hk_)); have n10_ := Aside0.mk (hb); clear BK300 HO304 HO307 HO310 HO313 BK314 HO317 HO320 HO324 HO328 HB; have BK300 := n0_; have HO304 := n1_; have HO307 := n2_; have HO310 := n3_; have HO313 := n4_; have BK314 := n5_; have HO317 := n6_; have HO320 := n7_; have HO324 := n8_; have HO328 := n9_; have HB := n10_; clear n0_ n1_ n2_ n3_ n4_ n5_ n6_ n7_ n8_ n9_ n10_; (try clear hb); (try clear hkp); (try clear hy0)) | ((with_reducible refine gate_callee (f := 38) rfl ?_); refine goesL_ (some 53) rfl rfl Try.func38 (by kernel_rfl) rfl #[.slice Ao44 t315.length co44, .int .i64 t330] rfl ar ?_; (with_reducible refine (laws_markIntS.calls k (fun k_ => some k_ = (.slice Ao44 t315.length co44 : Value).ownBlock) (.slice Ao44 t315.length co44) t315 t330 t332 t333 w _ ?side1 ?side2 A25.out).mono ?_); (case side1 => exact bw HB.out); (case side2 => exact Kd.R_tight rfl HO317.out); rintro e w56 ⟨rfl, hy0, hb, hkp⟩; refine ⟨_, rfl, ?_⟩; have n0_ := Aside0.mk (blk_kept (bl BK300.out) hkp (fun hs_ => (fun e_ => (Kd.R_ne HO317.out BK300.out (by decide)) e_) hs_)); have n1_ := Aside0.mk (Kd.R_mono (ok' := fun k_ => some k_ ≠ (.slice Ao39 t311.length co39 : Value).ownBlock) (Kd.R_keptB ((Kd.R_apart' HO304.out (Kd.R_typed HO317.out) (by decide))) hkp (fun k_ hk_ hs_ => absurd hs_ (pk hk_))) (fun k_ hk_ => pka hk_)); have n2_ := Aside0.mk (Kd.R_mono (ok' := fun k_ => some k_ ≠ (.slice Ao44 t315.length co44 : Value).ownBlock ∧ some k_ ≠ (.slice Ao53 t326.length co53 : Value).ownBlock) (Kd.R_keptB (HO307.out) hkp (fun k_ hk_ hs_ => absurd hs_ (pk hk_))) (fun k_ hk_ => pka hk_)); have n3_ := Aside0.mk (Kd.R_mono (ok' := fun k_ => some k_ ≠ (.slice Ao46 t318.length co46 : Value).ownBlock) (Kd.R_keptB ((Kd.R_apart' HO310.out (Kd.R_typed HO317.out) (by decide))) hkp (fun k_ hk_ hs_ => absurd hs_ (pk hk_))) (fun k_ hk_ => pka hk_)); have n4_ := Aside0.mk (Kd.R_mono (ok' := fun k_ => some k_ ≠ (.slice Ao33 t302.length co33 : Value).ownBlock) (Kd.R_keptB ((Kd.R_apart' HO313.out (Kd.R_typed HO317.out) (by decide))) hkp (fun k_ hk_ hs_ => absurd hs_ (pk hk_))) (fun k_ hk_ => pka hk_)); have n5_ := Aside0.mk (blk_kept (bl BK314.out) hkp (fun hs_ => (fun e_ => (Kd.R_ne HO317.out BK314.out (by decide)) e_) hs_)); have n6_ := Aside0.mk (Kd.R_reok rfl hy0 (fun k_ e_ => HO317.out.1 k_ e_)); have n7_ := Aside0.mk (Kd.R_mono (ok' := fun k_ => some k_ ≠ (.slice Ao47 t308.length co47 : Value).ownBlock) (Kd.R_keptB ((Kd.R_apart' HO320.out (Kd.R_typed HO317.out) (by decide))) hkp (fun k_ hk_ hs_ => absurd hs_ (pk hk_))) (fun k_ hk_ => pka hk_)); have n8_ := Aside0.mk (Kd.R_mono (ok' := fun k_ => some k_ ≠ (.slice Ao33 t302.length co33 : Value).ownBlock ∧ some k_ ≠ (.slice Ao39 t311.length co39 : Value).ownBlock) (Kd.R_keptB ((Kd.R_apart' HO324.out (Kd.R_typed HO317.out) (by decide))) hkp (fun k_ hk_ hs_ => absurd hs_ (pk hk_))) (fun k_ hk_ => pka hk_)); have n9_ := Aside0.mk (Kd.R_mono (ok' := fun k_ => some k_ ≠ (.slice Ao34 t305.length co34 : Value).ownBlock ∧ some k_ ≠ (.slice Ao44 t315.length co44 : Value).ownBlock) (Kd.R_keptB (HO328.out) hkp (fun k_ hk_ hs_ => absurd hs_ (pk hk_))) (fun k_ hk_ => pka hk_)); have n10_ := Aside0.mk (hb); clear BK300 HO304 HO307 HO310 HO313 BK314 HO317 HO320 HO324 HO328 HB; have BK300 := n0_; have HO304 := n1_; have HO307 := n2_; have HO310 := n3_; have HO313 := n4_; have BK314 := n5_; have HO317 := n6_; have HO320 := n7_; have HO324 := n8_; have HO328 := n9_; have HB := n10_; clear n0_ n1_ n2_ n3_ n4_ n5_ n6_ n7_ n8_ n9_ n10_; (try clear hb); (try clear hkp); (try clear hy0)))
      (try simp only [Act.put, List.setIfInBounds_toArray, List.set_cons_zero, List.set_cons_succ])
      go_cut [61] (fun v61 wc => ∃ (kq : Nat) (x61_25 : Bool), v61 = .bool x61_25 ∧ Aside0 (laws_FnExactReach.j0 kq l1 t308 t318 x61_25 l0_0 = some r) ∧ Aside0 (kq ≤ k) ∧ Aside0 (Kd.R Kd.bool 4 wc w.heap.size (fun k_ => some k_ ≠ ((.slice Ao46 t318.length co46) : Value).ownBlock) (.slice Ao47 t308.length co47) t308) ∧ Aside0 (Kd.R Kd.bool 4 wc w.heap.size (fun k_ => some k_ ≠ ((.slice Ao47 t308.length co47) : Value).ownBlock) (.slice Ao46 t318.length co46) t318) ∧ Aside0 (Kd.R k34 34 wc w.heap.size (fun _ => True) (.slice Ao39 t311.length co39) t331) ∧ Aside0 (wc.heap[gb300]? = some (.cells #[(.slice A0_0 l0_0.length c0_0)] 41 (0, 0))) ∧ Aside0 (wc.heap[gb314]? = some (.cells #[(.slice Ao39 t311.length co39)] 26 (0, 0))) ∧ Aside0 (Below w.heap.size w wc))
      case first =>
       have H := HC26.out
       clear HC26
       by_cases c57 : t332 < 0
       ·rw [if_pos c57] at H
        have c57b0 : decide (t332 < 0) = true := decide_eq_true c57
        clear c57
        (first | rw [c57b0] | (simp only [i64_w, i32_w]; rw [c57b0]) | skip)
        have H' := Aside0.mk H
        clear H
        go_wp2
        go_meet
        case rel => exact ⟨_, (true), (by first | rfl | (simp; done) | (simp [*]; done)), H', ⟨by first | omega | exact Nat.le_refl _⟩, ⟨rl HO310.out⟩, ⟨rl HO320.out⟩, ⟨by (with_reducible repeat (first | apply Kd.R_alloc | apply Kd.R_drewN | apply Kd.R_drew)); exact Kd.R_mono HO313.out (fun _ hk => trivial)⟩, ⟨bl BK300.out⟩, ⟨bl BK314.out⟩, ⟨bw HB.out⟩⟩
       ·rw [if_neg c57] at H
        have c57b0 : decide (t332 < 0) = false := decide_eq_false c57
        clear c57
        (first | rw [c57b0] | (simp only [i64_w, i32_w]; rw [c57b0]) | skip)
        replace H := Option.bind_eq_some_iff.mp H
        obtain ⟨t334, A580, H⟩ := H
        replace H : (laws_FnExactReach.j0 k l1 t308 t318 (!t334) l0_0) = some r := H
        have A58 := Aside0.mk A580
        clear A580
        have H' := Aside0.mk H
        clear H
        go_wp2_with (first | (go_at_call 62; (with_reducible refine (laws_eqBoolS.calls k _ _ t318 _ _ t308 t334 _ ?side1 ?side2 ?side3 ?side4 A58.out).mono ?_); (case side1 => exact cl (Kd.R_reads' HO320.out).2.2); (case side2 => exact (Kd.R_reads' HO320.out).2.1); (case side3 => exact cl (Kd.R_reads' HO310.out).2.2); (case side4 => exact (Kd.R_reads' HO310.out).2.1); rintro e w' ⟨rfl, ⟨nd, rfl⟩⟩))
        go_meet
        case rel => exact ⟨_, (!t334), (by first | rfl | (simp; done) | (simp [*]; done)), H', ⟨by first | omega | exact Nat.le_refl _⟩, ⟨rl HO310.out⟩, ⟨rl HO320.out⟩, ⟨by (with_reducible repeat (first | apply Kd.R_alloc | apply Kd.R_drewN | apply Kd.R_drew)); exact Kd.R_mono HO313.out (fun _ hk => trivial)⟩, ⟨bl BK300.out⟩, ⟨bl BK314.out⟩, ⟨bw HB.out⟩⟩
      case rest =>
       clear HC26
       try clear c1
       try clear c2
       try clear p2
       try clear c3
       try clear c3b0
       try clear c3b1
       try clear c4
       try clear c5
       try clear c6
       try clear c6b0
       try clear c11
       try clear c16
       try clear c17
       try clear c20
       try clear c22
       try clear c23
       try clear c24
       try clear c26
       try clear c28
       try clear c34
       try clear c36
       try clear c37
       try clear c38
       try clear c40
       try clear c57
       try clear c57b0
       try clear hcz28_0
       try clear hcz30_0
       try clear hcz36_0
       try clear hcz41_0
       try clear hcz43_0
       try clear hcz54_0
       try clear hcz8_0
       try clear hfz28_0
       try clear hfz30_0
       try clear hfz36_0
       try clear hfz41_0
       try clear hfz43_0
       try clear hfz54_0
       try clear hfz8_0
       obtain ⟨kq, x61_25, rfl, HA, HJ25, HO_6, HO_9, HO_315000, BK300, BK314, HB⟩ := hcut
       have hl315000_25 := (Kd.R_reads' HO_315000.out).1
       rw [hl315000_25] at HO_315000
       (try simp only [hl315000_25])
       (try simp only [hl315000_25] at BK300)
       (try simp only [hl315000_25] at BK314)
       (try simp only [hl315000_25] at HO_6)
       (try simp only [hl315000_25] at HO_9)
       cases kq with
       | zero => exact absurd HA.out (by simp [laws_FnExactReach.j0])
       | succ kj25 =>
        have H := HA.out
        clear HA
        simp only [laws_FnExactReach.j0] at H
        by_cases c59 : x61_25 = true
        ·subst c59
         have H1 : (some false) = some r := by rw [if_pos rfl] at H; exact H
         clear H
         have H := H1
         clear H1
         obtain rfl := Option.some.inj H
         go_wp2
         go_ret
         exact ⟨by first | rfl | (simp [errW_none, errW_some] <;> rfl) | (simp [*, errW_none, errW_some] <;> rfl), bw HB.out⟩
        ·replace c59 := Bool.eq_false_iff.mpr c59
         subst c59
         have H1 : ((laws_markBoolS.f kj25 t318 1).bind fun bt335 => ((laws_heldBoolS.f kj25 bt335.2 1).bind fun t337 => (if t337 < 0 then (some false) else (if t337 = bt335.1 then ((laws_toArena.f kj25 l0_0).bind fun t338 => ((laws_toIntS.f kj25 l1).bind fun t341 => ((impl_Reach.f kj25 t338 t341).bind fun t344 => ((laws_eqBoolS.f kj25 t344 t308).bind fun t347 => (if t347 = true then ((laws_heldBoolS.f kj25 bt335.2 1).bind fun t348 => (if t348 < 0 then (some false) else (if t348 = bt335.1 then (some true) else (some false)))) else (some false)))))) else (some false))))) = some r := by rw [if_neg (show ¬ (false = true) by decide)] at H; exact H
         clear H
         have H := H1
         clear H1
         replace H := Option.bind_eq_some_iff.mp H
         obtain ⟨⟨t335, t336⟩, A600, H⟩ := H
         replace H : ((laws_heldBoolS.f kj25 t336 1).bind fun t337 => (if t337 < 0 then (some false) else (if t337 = t335 then ((laws_toArena.f kj25 l0_0).bind fun t338 => ((laws_toIntS.f kj25 l1).bind fun t341 => ((impl_Reach.f kj25 t338 t341).bind fun t344 => ((laws_eqBoolS.f kj25 t344 t308).bind fun t347 => (if t347 = true then ((laws_heldBoolS.f kj25 t336 1).bind fun t348 => (if t348 < 0 then (some false) else (if t348 = t335 then (some true) else (some false)))) else (some false)))))) else (some false)))) = some r := H
         have A60 := Aside0.mk A600
         clear A600
         replace H := Option.bind_eq_some_iff.mp H
         obtain ⟨t337, A610, H⟩ := H
         replace H : (if t337 < 0 then (some false) else (if t337 = t335 then ((laws_toArena.f kj25 l0_0).bind fun t338 => ((laws_toIntS.f kj25 l1).bind fun t341 => ((impl_Reach.f kj25 t338 t341).bind fun t344 => ((laws_eqBoolS.f kj25 t344 t308).bind fun t347 => (if t347 = true then ((laws_heldBoolS.f kj25 t336 1).bind fun t348 => (if t348 < 0 then (some false) else (if t348 = t335 then (some true) else (some false)))) else (some false)))))) else (some false))) = some r := H
         have A61 := Aside0.mk A610
         clear A610
         by_cases c62 : t337 < 0
         ·rw [if_pos c62] at H
          have c62b0 : decide (t337 < 0) = true := decide_eq_true c62
          clear c62
          obtain rfl := Option.some.inj H
          go_wp2_with (first | ((with_reducible refine gate_callee (f := 63) rfl ?_); refine goesL_ (some 64) rfl rfl Try.func63 (by kernel_rfl) rfl #[.slice Ao46 t318.length co46, .int .i64 1] rfl ar ?_; (with_reducible refine (laws_markBoolS.calls kj25 (fun k_ => some k_ = (.slice Ao46 t318.length co46 : Value).ownBlock) (.slice Ao46 t318.length co46) t318 1 t335 t336 w _ ?side1 ?side2 A60.out).mono ?_); (case side1 => exact bw HB.out); (case side2 => exact Kd.R_tight rfl HO_9.out); rintro e w63 ⟨rfl, hy0, hb, hkp⟩; refine ⟨_, rfl, ?_⟩; have n0_ := Aside0.mk (Kd.R_mono (ok' := fun k_ => some k_ ≠ (.slice Ao46 t318.length co46 : Value).ownBlock) (Kd.R_keptB (HO_6.out) hkp (fun k_ hk_ hs_ => (hk_) hs_)) (fun k_ hk_ => hk_.1)); have n1_ := Aside0.mk (Kd.R_reok rfl hy0 (fun k_ e_ => HO_9.out.1 k_ e_)); have n2_ := Aside0.mk (Kd.R_mono (ok' := fun k_ => True) (Kd.R_keptB ((Kd.R_apart' HO_315000.out (Kd.R_typed HO_9.out) (by decide))) hkp (fun k_ hk_ hs_ => (hk_.2) hs_)) (fun k_ hk_ => trivial)); have n3_ := Aside0.mk (blk_kept (bl BK300.out) hkp (fun hs_ => (fun e_ => (Kd.R_ne HO_9.out BK300.out (by decide)) e_) hs_)); have n4_ := Aside0.mk (blk_kept (bl BK314.out) hkp (fun hs_ => (fun e_ => (Kd.R_ne HO_9.out BK314.out (by decide)) e_) hs_)); have n5_ := Aside0.mk (hb); clear HO_6 HO_9 HO_315000 BK300 BK314 HB; have HO_6 := n0_; have HO_9 := n1_; have HO_315000 := n2_; have BK300 := n3_; have BK314 := n4_; have HB := n5_; clear n0_ n1_ n2_ n3_ n4_ n5_; (try clear hb); (try clear hkp); (try clear hy0)) | ((with_reducible refine gate_callee (f := 64) rfl ?_); refine goesL_ (some 67) rfl rfl Try.func64 (by kernel_rfl) rfl #[.slice Ao46 t336.length co46, .int .i64 1] rfl (by (try simp only [List.map_toArray, List.map_cons, List.map_nil]); first | done | (rw [show t336.length = t318.length from (Kd.R_reads' HO_9.out).1.symm] <;> rfl) | rfl | (simp only [List.length_drop, List.length_take]; rfl)) ?_; (with_reducible refine (laws_heldBoolS.calls kj25 _ _ t336 1 t337 _ ?side1 ?side2 A61.out).mono ?_); (case side1 => exact cl (Kd.R_reads' HO_9.out).2.2); (case side2 => rw [show t336.length = t318.length from (Kd.R_reads' HO_9.out).1.symm]; exact (Kd.R_reads' HO_9.out).2.1); rintro e w' ⟨rfl, ⟨nd, rfl⟩⟩; refine ⟨_, rfl, ?_⟩))
          go_ret
          exact ⟨by first | rfl | (simp [errW_none, errW_some] <;> rfl) | (simp [*, errW_none, errW_some] <;> rfl), bw HB.out⟩
         ·rw [if_neg c62] at H
          have c62b0 : decide (t337 < 0) = false := decide_eq_false c62
          clear c62
          by_cases c64 : t337 = t335
          ·rw [if_pos c64] at H
           have c64b0 : (t337 == t335) = true := beq_iff_eq.mpr c64
           have c64b1 : (t337 != t335) = false := bne_eq_false_iff_eq.mpr c64
           clear c64
           replace H := Option.bind_eq_some_iff.mp H
           obtain ⟨t338, A650, H⟩ := H
           replace H : ((laws_toIntS.f kj25 l1).bind fun t341 => ((impl_Reach.f kj25 t338 t341).bind fun t344 => ((laws_eqBoolS.f kj25 t344 t308).bind fun t347 => (if t347 = true then ((laws_heldBoolS.f kj25 t336 1).bind fun t348 => (if t348 < 0 then (some false) else (if t348 = t335 then (some true) else (some false)))) else (some false))))) = some r := H
           have A65 := Aside0.mk A650
           clear A650
           replace H := Option.bind_eq_some_iff.mp H
           obtain ⟨t341, A660, H⟩ := H
           replace H : ((impl_Reach.f kj25 t338 t341).bind fun t344 => ((laws_eqBoolS.f kj25 t344 t308).bind fun t347 => (if t347 = true then ((laws_heldBoolS.f kj25 t336 1).bind fun t348 => (if t348 < 0 then (some false) else (if t348 = t335 then (some true) else (some false)))) else (some false)))) = some r := H
           have A66 := Aside0.mk A660
           clear A660
           replace H := Option.bind_eq_some_iff.mp H
           obtain ⟨t344, A670, H⟩ := H
           replace H : ((laws_eqBoolS.f kj25 t344 t308).bind fun t347 => (if t347 = true then ((laws_heldBoolS.f kj25 t336 1).bind fun t348 => (if t348 < 0 then (some false) else (if t348 = t335 then (some true) else (some false)))) else (some false))) = some r := H
           have A67 := Aside0.mk A670
           clear A670
           replace H := Option.bind_eq_some_iff.mp H
           obtain ⟨t347, A680, H⟩ := H
           replace H : (if t347 = true then ((laws_heldBoolS.f kj25 t336 1).bind fun t348 => (if t348 < 0 then (some false) else (if t348 = t335 then (some true) else (some false)))) else (some false)) = some r := H
           have A68 := Aside0.mk A680
           clear A680
           by_cases c69 : t347 = true
           ·subst c69
            have H1 : ((laws_heldBoolS.f kj25 t336 1).bind fun t348 => (if t348 < 0 then (some false) else (if t348 = t335 then (some true) else (some false)))) = some r := by rw [if_pos rfl] at H; exact H
            clear H
            have H := H1
            clear H1
            replace H := Option.bind_eq_some_iff.mp H
            obtain ⟨t348, A700, H⟩ := H
            replace H : (if t348 < 0 then (some false) else (if t348 = t335 then (some true) else (some false))) = some r := H
            have A70 := Aside0.mk A700
            clear A700
            by_cases c71 : t348 < 0
            ·rw [if_pos c71] at H
             have c71b0 : decide (t348 < 0) = true := decide_eq_true c71
             clear c71
             obtain rfl := Option.some.inj H
             go_wp2_with (first | ((with_reducible refine gate_callee (f := 63) rfl ?_); refine goesL_ (some 64) rfl rfl Try.func63 (by kernel_rfl) rfl #[.slice Ao46 t318.length co46, .int .i64 1] rfl ar ?_; (with_reducible refine (laws_markBoolS.calls kj25 (fun k_ => some k_ = (.slice Ao46 t318.length co46 : Value).ownBlock) (.slice Ao46 t318.length co46) t318 1 t335 t336 w _ ?side1 ?side2 A60.out).mono ?_); (case side1 => exact bw HB.out); (case side2 => exact Kd.R_tight rfl HO_9.out); rintro e w72 ⟨rfl, hy0, hb, hkp⟩; refine ⟨_, rfl, ?_⟩; have n0_ := Aside0.mk (Kd.R_mono (ok' := fun k_ => some k_ ≠ (.slice Ao46 t318.length co46 : Value).ownBlock) (Kd.R_keptB (HO_6.out) hkp (fun k_ hk_ hs_ => (hk_) hs_)) (fun k_ hk_ => hk_.1)); have n1_ := Aside0.mk (Kd.R_reok rfl hy0 (fun k_ e_ => HO_9.out.1 k_ e_)); have n2_ := Aside0.mk (Kd.R_mono (ok' := fun k_ => True) (Kd.R_keptB ((Kd.R_apart' HO_315000.out (Kd.R_typed HO_9.out) (by decide))) hkp (fun k_ hk_ hs_ => (hk_.2) hs_)) (fun k_ hk_ => trivial)); have n3_ := Aside0.mk (blk_kept (bl BK300.out) hkp (fun hs_ => (fun e_ => (Kd.R_ne HO_9.out BK300.out (by decide)) e_) hs_)); have n4_ := Aside0.mk (blk_kept (bl BK314.out) hkp (fun hs_ => (fun e_ => (Kd.R_ne HO_9.out BK314.out (by decide)) e_) hs_)); have n5_ := Aside0.mk (hb); clear HO_6 HO_9 HO_315000 BK300 BK314 HB; have HO_6 := n0_; have HO_9 := n1_; have HO_315000 := n2_; have BK300 := n3_; have BK314 := n4_; have HB := n5_; clear n0_ n1_ n2_ n3_ n4_ n5_; (try clear hb); (try clear hkp); (try clear hy0)) | ((with_reducible refine gate_callee (f := 64) rfl ?_); refine goesL_ (some 67) rfl rfl Try.func64 (by kernel_rfl) rfl #[.slice Ao46 t336.length co46, .int .i64 1] rfl (by (try simp only [List.map_toArray, List.map_cons, List.map_nil]); first | done | (rw [show t336.length = t318.length from (Kd.R_reads' HO_9.out).1.symm] <;> rfl) | rfl | (simp only [List.length_drop, List.length_take]; rfl)) ?_; (with_reducible refine (laws_heldBoolS.calls kj25 _ _ t336 1 t337 _ ?side1 ?side2 A61.out).mono ?_); (case side1 => exact cl (Kd.R_reads' HO_9.out).2.2); (case side2 => rw [show t336.length = t318.length from (Kd.R_reads' HO_9.out).1.symm]; exact (Kd.R_reads' HO_9.out).2.1); rintro e w' ⟨rfl, ⟨nd, rfl⟩⟩; refine ⟨_, rfl, ?_⟩; have hnb73 := NB300_314.out; have hnc73 := NB314_300.out; have hcz74_0 : w72.cell? ⟨gb300, 0, none⟩ = some (.slice A0_0 l0_0.length c0_0) := (blk_cell BK300.out 0).trans rfl; have hfz74_0 := blk_frozen BK300.out 0) | ((with_reducible refine gate_callee (f := 26) rfl ?_); refine goesL_ (some 74) rfl rfl Try.func26 (by kernel_rfl) rfl #[.agg #[.slice A0_0 l0_0.length c0_0]] rfl ar ?_; (with_reducible refine (laws_toArena.calls kj25 _ _ l0_0 t338 _ ?side1 ?side2 A65.out).mono ?_); (case side1 => exact cl (Kd.C_below HR0_0.out (bw HB.out))); (case side2 => exact HC0_0.out); rintro e w75 ⟨v339, rfl, ho0, hb⟩; refine ⟨_, rfl, ?_⟩; have n0_ := Aside0.mk (Kd.R_below (rl HO_6.out) hb); have n1_ := Aside0.mk (Kd.R_below (rl HO_9.out) hb); have n2_ := Aside0.mk (Kd.R_elder' (rl HO_315000.out) (Kd.R_base ho0) hb); have n3_ := Aside0.mk (Kd.R_lower (Kd.R_new' ho0 (Kd.R_lt (rl HO_315000.out))) (below_size (bw HB.out))); have n4_ := Aside0.mk (blk_below (g := gb300) (o := .cells #[.slice A0_0 l0_0.length c0_0] 41 (0, 0)) (bl BK300.out) hb); have n5_ := Aside0.mk (blk_below (g := gb314) (o := .cells #[.slice Ao39 t331.length co39] 26 (0, 0)) (bl BK314.out) hb); have n6_ := Aside0.mk (below_step (bw HB.out) hb); clear HO_6 HO_9 HO_315000 BK300 BK314 HB; have HO_6 := n0_; have HO_9 := n1_; have HO_315000 := n2_; have HO340 := n3_; have BK300 := n4_; have BK314 := n5_; have HB := n6_; clear n0_ n1_ n2_ n3_ n4_ n5_ n6_; (try clear hb); (try clear hb2); (try clear hk); (try clear hi); (try clear ho0)) | ((with_reducible refine gate_callee (f := 34) rfl ?_); refine goesL_ (some 76) rfl rfl Try.func34 (by kernel_rfl) rfl #[.slice A1 l1.length c1] rfl ar ?_; (with_reducible refine (laws_toIntS.calls kj25 _ _ l1 t341 _ ?side1 ?side2 A66.out).mono ?_); (case side1 => exact cl (Kd.C_below HR1.out HB.out)); (case side2 => exact HC1.out); rintro e w76 ⟨v342, rfl, ho0, hb⟩; refine ⟨_, rfl, ?_⟩; have n0_ := Aside0.mk (Kd.R_below (rl HO_6.out) hb); have n1_ := Aside0.mk (Kd.R_below (rl HO_9.out) hb); have n2_ := Aside0.mk (Kd.R_below (rl HO_315000.out) hb); have n3_ := Aside0.mk (Kd.R_below (rl HO340.out) hb); have n4_ := Aside0.mk (Kd.R_lower ho0 (below_size (bw HB.out))); have n5_ := Aside0.mk (blk_below (g := gb300) (o := .cells #[.slice A0_0 l0_0.length c0_0] 41 (0, 0)) (bl BK300.out) hb); have n6_ := Aside0.mk (blk_below (g := gb314) (o := .cells #[.slice Ao39 t331.length co39] 26 (0, 0)) (bl BK314.out) hb); have n7_ := Aside0.mk (below_step (bw HB.out) hb); clear HO_6 HO_9 HO_315000 HO340 BK300 BK314 HB; have HO_6 := n0_; have HO_9 := n1_; have HO_315000 := n2_; have HO340 := n3_; have HO343 := n4_; have BK300 := n5_; have BK314 := n6_; have HB := n7_; clear n0_ n1_ n2_ n3_ n4_ n5_ n6_ n7_; (try clear hb); (try clear hb2); (try clear hk); (try clear hi); (try clear ho0); obtain ⟨Ao77, co77, eo77⟩ := Kd.R_slice HO340.out; subst eo77; obtain ⟨Ao78, co78, eo78⟩ := Kd.R_slice HO343.out; subst eo78) | ((with_reducible refine gate_callee (f := 16) rfl ?_); refine goesL_ (some 77) rfl rfl Try.func16 (by kernel_rfl) rfl #[.agg #[.slice Ao77 t338.length co77], .slice Ao78 t341.length co78] rfl ar ?_; (with_reducible refine (impl_Reach.calls kj25 _ _ t338 _ _ t341 t344 _ ?side1 ?side2 ?side3 ?side4 A67.out).mono ?_); (case side1 => exact cl (Kd.R_reads' HO340.out).2.2); (case side2 => exact (Kd.R_reads' HO340.out).2.1); (case side3 => exact cl (Kd.R_reads' HO343.out).2.2); (case side4 => exact (Kd.R_reads' HO343.out).2.1); rintro e w79 ⟨v345, rfl, ho0, hb⟩; refine ⟨_, rfl, ?_⟩; have n0_ := Aside0.mk (Kd.R_elder' (rl HO_6.out) (Kd.R_base ho0) hb); have n1_ := Aside0.mk (Kd.R_elder' (rl HO_9.out) (Kd.R_base ho0) hb); have n2_ := Aside0.mk (Kd.R_below (rl HO_315000.out) hb); have n3_ := Aside0.mk (Kd.R_below (rl HO340.out) hb); have n4_ := Aside0.mk (Kd.R_below (rl HO343.out) hb); have n5_ := Aside0.mk (Kd.R_lower (Kd.R_new' (Kd.R_new' ho0 (Kd.R_lt (rl HO_6.out))) (Kd.R_lt (rl HO_9.out))) (below_size (bw HB.out))); have n6_ := Aside0.mk (blk_below (g := gb300) (o := .cells #[.slice A0_0 l0_0.length c0_0] 41 (0, 0)) (bl BK300.out) hb); have n7_ := Aside0.mk (blk_below (g := gb314) (o := .cells #[.slice Ao39 t331.length co39] 26 (0, 0)) (bl BK314.out) hb); have n8_ := Aside0.mk (below_step (bw HB.out) hb); clear HO_6 HO_9 HO_315000 HO340 HO343 BK300 BK314 HB; have HO_6 := n0_; have HO_9 := n1_; have HO_315000 := n2_; have HO340 := n3_; have HO343 := n4_; have HO346 := n5_; have BK300 := n6_; have BK314 := n7_; have HB := n8_; clear n0_ n1_ n2_ n3_ n4_ n5_ n6_ n7_ n8_; (try clear hb); (try clear hb2); (try clear hk); (try clear hi); (try clear ho0); obtain ⟨Ao80, co80, eo80⟩ := Kd.R_slice HO346.out; subst eo80) | ((with_reducible refine gate_callee (f := 62) rfl ?_); refine goesL_ (some 80) rfl rfl Try.func62 (by kernel_rfl) rfl #[.slice Ao80 t344.length co80, .slice Ao47 t308.length co47] rfl ar ?_; (with_reducible refine (laws_eqBoolS.calls kj25 _ _ t344 _ _ t308 true _ ?side1 ?side2 ?side3 ?side4 A68.out).mono ?_); (case side1 => exact cl (Kd.R_reads' HO346.out).2.2); (case side2 => exact (Kd.R_reads' HO346.out).2.1); (case side3 => exact cl (Kd.R_reads' HO_6.out).2.2); (case side4 => exact (Kd.R_reads' HO_6.out).2.1); rintro e w' ⟨rfl, ⟨nd, rfl⟩⟩; refine ⟨_, rfl, ?_⟩) | ((with_reducible refine gate_callee (f := 64) rfl ?_); refine goesL_ (some 84) rfl rfl Try.func64 (by kernel_rfl) rfl #[.slice Ao46 t336.length co46, .int .i64 1] rfl (by (try simp only [List.map_toArray, List.map_cons, List.map_nil]); first | done | (rw [show t336.length = t318.length from (Kd.R_reads' HO_9.out).1.symm] <;> rfl) | rfl | (simp only [List.length_drop, List.length_take]; rfl)) ?_; (with_reducible refine (laws_heldBoolS.calls kj25 _ _ t336 1 t348 _ ?side1 ?side2 A70.out).mono ?_); (case side1 => exact cl (Kd.R_reads' HO_9.out).2.2); (case side2 => rw [show t336.length = t318.length from (Kd.R_reads' HO_9.out).1.symm]; exact (Kd.R_reads' HO_9.out).2.1); rintro e w' ⟨rfl, ⟨nd, rfl⟩⟩; refine ⟨_, rfl, ?_⟩))
             go_ret
             exact ⟨by first | rfl | (simp [errW_none, errW_some] <;> rfl) | (simp [*, errW_none, errW_some] <;> rfl), bw HB.out⟩
            ·rw [if_neg c71] at H
             have c71b0 : decide (t348 < 0) = false := decide_eq_false c71
             clear c71
             by_cases c81 : t348 = t335
             ·rw [if_pos c81] at H
              have c81b0 : (t348 == t335) = true := beq_iff_eq.mpr c81
              have c81b1 : (t348 != t335) = false := bne_eq_false_iff_eq.mpr c81
              clear c81
              obtain rfl := Option.some.inj H
              go_wp2_with (first | ((with_reducible refine gate_callee (f := 63) rfl ?_); refine goesL_ (some 64) rfl rfl Try.func63 (by kernel_rfl) rfl #[.slice Ao46 t318.length co46, .int .i64 1] rfl ar ?_; (with_reducible refine (laws_markBoolS.calls kj25 (fun k_ => some k_ = (.slice Ao46 t318.length co46 : Value).ownBlock) (.slice Ao46 t318.length co46) t318 1 t335 t336 w _ ?side1 ?side2 A60.out).mono ?_); (case side1 => exact bw HB.out); (case side2 => exact Kd.R_tight rfl HO_9.out); rintro e w82 ⟨rfl, hy0, hb, hkp⟩; refine ⟨_, rfl, ?_⟩; have n0_ := Aside0.mk (Kd.R_mono (ok' := fun k_ => some k_ ≠ (.slice Ao46 t318.length co46 : Value).ownBlock) (Kd.R_keptB (HO_6.out) hkp (fun k_ hk_ hs_ => (hk_) hs_)) (fun k_ hk_ => hk_.1)); have n1_ := Aside0.mk (Kd.R_reok rfl hy0 (fun k_ e_ => HO_9.out.1 k_ e_)); have n2_ := Aside0.mk (Kd.R_mono (ok' := fun k_ => True) (Kd.R_keptB ((Kd.R_apart' HO_315000.out (Kd.R_typed HO_9.out) (by decide))) hkp (fun k_ hk_ hs_ => (hk_.2) hs_)) (fun k_ hk_ => trivial)); have n3_ := Aside0.mk (blk_kept (bl BK300.out) hkp (fun hs_ => (fun e_ => (Kd.R_ne HO_9.out BK300.out (by decide)) e_) hs_)); have n4_ := Aside0.mk (blk_kept (bl BK314.out) hkp (fun hs_ => (fun e_ => (Kd.R_ne HO_9.out BK314.out (by decide)) e_) hs_)); have n5_ := Aside0.mk (hb); clear HO_6 HO_9 HO_315000 BK300 BK314 HB; have HO_6 := n0_; have HO_9 := n1_; have HO_315000 := n2_; have BK300 := n3_; have BK314 := n4_; have HB := n5_; clear n0_ n1_ n2_ n3_ n4_ n5_; (try clear hb); (try clear hkp); (try clear hy0)) | ((with_reducible refine gate_callee (f := 64) rfl ?_); refine goesL_ (some 67) rfl rfl Try.func64 (by kernel_rfl) rfl #[.slice Ao46 t336.length co46, .int .i64 1] rfl (by (try simp only [List.map_toArray, List.map_cons, List.map_nil]); first | done | (rw [show t336.length = t318.length from (Kd.R_reads' HO_9.out).1.symm] <;> rfl) | rfl | (simp only [List.length_drop, List.length_take]; rfl)) ?_; (with_reducible refine (laws_heldBoolS.calls kj25 _ _ t336 1 t337 _ ?side1 ?side2 A61.out).mono ?_); (case side1 => exact cl (Kd.R_reads' HO_9.out).2.2); (case side2 => rw [show t336.length = t318.length from (Kd.R_reads' HO_9.out).1.symm]; exact (Kd.R_reads' HO_9.out).2.1); rintro e w' ⟨rfl, ⟨nd, rfl⟩⟩; refine ⟨_, rfl, ?_⟩; have hnb83 := NB300_314.out; have hnc83 := NB314_300.out; have hcz84_0 : w82.cell? ⟨gb300, 0, none⟩ = some (.slice A0_0 l0_0.length c0_0) := (blk_cell BK300.out 0).trans rfl; have hfz84_0 := blk_frozen BK300.out 0) | ((with_reducible refine gate_callee (f := 26) rfl ?_); refine goesL_ (some 74) rfl rfl Try.func26 (by kernel_rfl) rfl #[.agg #[.slice A0_0 l0_0.length c0_0]] rfl ar ?_; (with_reducible refine (laws_toArena.calls kj25 _ _ l0_0 t338 _ ?side1 ?side2 A65.out).mono ?_); (case side1 => exact cl (Kd.C_below HR0_0.out (bw HB.out))); (case side2 => exact HC0_0.out); rintro e w85 ⟨v339, rfl, ho0, hb⟩; refine ⟨_, rfl, ?_⟩; have n0_ := Aside0.mk (Kd.R_below (rl HO_6.out) hb); have n1_ := Aside0.mk (Kd.R_below (rl HO_9.out) hb); have n2_ := Aside0.mk (Kd.R_elder' (rl HO_315000.out) (Kd.R_base ho0) hb); have n3_ := Aside0.mk (Kd.R_lower (Kd.R_new' ho0 (Kd.R_lt (rl HO_315000.out))) (below_size (bw HB.out))); have n4_ := Aside0.mk (blk_below (g := gb300) (o := .cells #[.slice A0_0 l0_0.length c0_0] 41 (0, 0)) (bl BK300.out) hb); have n5_ := Aside0.mk (blk_below (g := gb314) (o := .cells #[.slice Ao39 t331.length co39] 26 (0, 0)) (bl BK314.out) hb); have n6_ := Aside0.mk (below_step (bw HB.out) hb); clear HO_6 HO_9 HO_315000 BK300 BK314 HB; have HO_6 := n0_; have HO_9 := n1_; have HO_315000 := n2_; have HO340 := n3_; have BK300 := n4_; have BK314 := n5_; have HB := n6_; clear n0_ n1_ n2_ n3_ n4_ n5_ n6_; (try clear hb); (try clear hb2); (try clear hk); (try clear hi); (try clear ho0)) | ((with_reducible refine gate_callee (f := 34) rfl ?_); refine goesL_ (some 76) rfl rfl Try.func34 (by kernel_rfl) rfl #[.slice A1 l1.length c1] rfl ar ?_; (with_reducible refine (laws_toIntS.calls kj25 _ _ l1 t341 _ ?side1 ?side2 A66.out).mono ?_); (case side1 => exact cl (Kd.C_below HR1.out HB.out)); (case side2 => exact HC1.out); rintro e w86 ⟨v342, rfl, ho0, hb⟩; refine ⟨_, rfl, ?_⟩; have n0_ := Aside0.mk (Kd.R_below (rl HO_6.out) hb); have n1_ := Aside0.mk (Kd.R_below (rl HO_9.out) hb); have n2_ := Aside0.mk (Kd.R_below (rl HO_315000.out) hb); have n3_ := Aside0.mk (Kd.R_below (rl HO340.out) hb); have n4_ := Aside0.mk (Kd.R_lower ho0 (below_size (bw HB.out))); have n5_ := Aside0.mk (blk_below (g := gb300) (o := .cells #[.slice A0_0 l0_0.length c0_0] 41 (0, 0)) (bl BK300.out) hb); have n6_ := Aside0.mk (blk_below (g := gb314) (o := .cells #[.slice Ao39 t331.length co39] 26 (0, 0)) (bl BK314.out) hb); have n7_ := Aside0.mk (below_step (bw HB.out) hb); clear HO_6 HO_9 HO_315000 HO340 BK300 BK314 HB; have HO_6 := n0_; have HO_9 := n1_; have HO_315000 := n2_; have HO340 := n3_; have HO343 := n4_; have BK300 := n5_; have BK314 := n6_; have HB := n7_; clear n0_ n1_ n2_ n3_ n4_ n5_ n6_ n7_; (try clear hb); (try clear hb2); (try clear hk); (try clear hi); (try clear ho0); obtain ⟨Ao87, co87, eo87⟩ := Kd.R_slice HO340.out; subst eo87; obtain ⟨Ao88, co88, eo88⟩ := Kd.R_slice HO343.out; subst eo88) | ((with_reducible refine gate_callee (f := 16) rfl ?_); refine goesL_ (some 77) rfl rfl Try.func16 (by kernel_rfl) rfl #[.agg #[.slice Ao87 t338.length co87], .slice Ao88 t341.length co88] rfl ar ?_; (with_reducible refine (impl_Reach.calls kj25 _ _ t338 _ _ t341 t344 _ ?side1 ?side2 ?side3 ?side4 A67.out).mono ?_); (case side1 => exact cl (Kd.R_reads' HO340.out).2.2); (case side2 => exact (Kd.R_reads' HO340.out).2.1); (case side3 => exact cl (Kd.R_reads' HO343.out).2.2); (case side4 => exact (Kd.R_reads' HO343.out).2.1); rintro e w89 ⟨v345, rfl, ho0, hb⟩; refine ⟨_, rfl, ?_⟩; have n0_ := Aside0.mk (Kd.R_elder' (rl HO_6.out) (Kd.R_base ho0) hb); have n1_ := Aside0.mk (Kd.R_elder' (rl HO_9.out) (Kd.R_base ho0) hb); have n2_ := Aside0.mk (Kd.R_below (rl HO_315000.out) hb); have n3_ := Aside0.mk (Kd.R_below (rl HO340.out) hb); have n4_ := Aside0.mk (Kd.R_below (rl HO343.out) hb); have n5_ := Aside0.mk (Kd.R_lower (Kd.R_new' (Kd.R_new' ho0 (Kd.R_lt (rl HO_6.out))) (Kd.R_lt (rl HO_9.out))) (below_size (bw HB.out))); have n6_ := Aside0.mk (blk_below (g := gb300) (o := .cells #[.slice A0_0 l0_0.length c0_0] 41 (0, 0)) (bl BK300.out) hb); have n7_ := Aside0.mk (blk_below (g := gb314) (o := .cells #[.slice Ao39 t331.length co39] 26 (0, 0)) (bl BK314.out) hb); have n8_ := Aside0.mk (below_step (bw HB.out) hb); clear HO_6 HO_9 HO_315000 HO340 HO343 BK300 BK314 HB; have HO_6 := n0_; have HO_9 := n1_; have HO_315000 := n2_; have HO340 := n3_; have HO343 := n4_; have HO346 := n5_; have BK300 := n6_; have BK314 := n7_; have HB := n8_; clear n0_ n1_ n2_ n3_ n4_ n5_ n6_ n7_ n8_; (try clear hb); (try clear hb2); (try clear hk); (try clear hi); (try clear ho0); obtain ⟨Ao90, co90, eo90⟩ := Kd.R_slice HO346.out; subst eo90) | ((with_reducible refine gate_callee (f := 62) rfl ?_); refine goesL_ (some 80) rfl rfl Try.func62 (by kernel_rfl) rfl #[.slice Ao90 t344.length co90, .slice Ao47 t308.length co47] rfl ar ?_; (with_reducible refine (laws_eqBoolS.calls kj25 _ _ t344 _ _ t308 true _ ?side1 ?side2 ?side3 ?side4 A68.out).mono ?_); (case side1 => exact cl (Kd.R_reads' HO346.out).2.2); (case side2 => exact (Kd.R_reads' HO346.out).2.1); (case side3 => exact cl (Kd.R_reads' HO_6.out).2.2); (case side4 => exact (Kd.R_reads' HO_6.out).2.1); rintro e w' ⟨rfl, ⟨nd, rfl⟩⟩; refine ⟨_, rfl, ?_⟩) | ((with_reducible refine gate_callee (f := 64) rfl ?_); refine goesL_ (some 84) rfl rfl Try.func64 (by kernel_rfl) rfl #[.slice Ao46 t336.length co46, .int .i64 1] rfl (by (try simp only [List.map_toArray, List.map_cons, List.map_nil]); first | done | (rw [show t336.length = t318.length from (Kd.R_reads' HO_9.out).1.symm] <;> rfl) | rfl | (simp only [List.length_drop, List.length_take]; rfl)) ?_; (with_reducible refine (laws_heldBoolS.calls kj25 _ _ t336 1 t348 _ ?side1 ?side2 A70.out).mono ?_); (case side1 => exact cl (Kd.R_reads' HO_9.out).2.2); (case side2 => rw [show t336.length = t318.length from (Kd.R_reads' HO_9.out).1.symm]; exact (Kd.R_reads' HO_9.out).2.1); rintro e w' ⟨rfl, ⟨nd, rfl⟩⟩; refine ⟨_, rfl, ?_⟩))
              go_ret
              exact ⟨by first | rfl | (simp [errW_none, errW_some] <;> rfl) | (simp [*, errW_none, errW_some] <;> rfl), bw HB.out⟩
             ·rw [if_neg c81] at H
              have c81b0 : (t348 == t335) = false := beq_eq_false_iff_ne.mpr c81
              have c81b1 : (t348 != t335) = true := bne_iff_ne.mpr c81
              obtain rfl := Option.some.inj H
              go_wp2_with (first | ((with_reducible refine gate_callee (f := 63) rfl ?_); refine goesL_ (some 64) rfl rfl Try.func63 (by kernel_rfl) rfl #[.slice Ao46 t318.length co46, .int .i64 1] rfl ar ?_; (with_reducible refine (laws_markBoolS.calls kj25 (fun k_ => some k_ = (.slice Ao46 t318.length co46 : Value).ownBlock) (.slice Ao46 t318.length co46) t318 1 t335 t336 w _ ?side1 ?side2 A60.out).mono ?_); (case side1 => exact bw HB.out); (case side2 => exact Kd.R_tight rfl HO_9.out); rintro e w91 ⟨rfl, hy0, hb, hkp⟩; refine ⟨_, rfl, ?_⟩; have n0_ := Aside0.mk (Kd.R_mono (ok' := fun k_ => some k_ ≠ (.slice Ao46 t318.length co46 : Value).ownBlock) (Kd.R_keptB (HO_6.out) hkp (fun k_ hk_ hs_ => (hk_) hs_)) (fun k_ hk_ => hk_.1)); have n1_ := Aside0.mk (Kd.R_reok rfl hy0 (fun k_ e_ => HO_9.out.1 k_ e_)); have n2_ := Aside0.mk (Kd.R_mono (ok' := fun k_ => True) (Kd.R_keptB ((Kd.R_apart' HO_315000.out (Kd.R_typed HO_9.out) (by decide))) hkp (fun k_ hk_ hs_ => (hk_.2) hs_)) (fun k_ hk_ => trivial)); have n3_ := Aside0.mk (blk_kept (bl BK300.out) hkp (fun hs_ => (fun e_ => (Kd.R_ne HO_9.out BK300.out (by decide)) e_) hs_)); have n4_ := Aside0.mk (blk_kept (bl BK314.out) hkp (fun hs_ => (fun e_ => (Kd.R_ne HO_9.out BK314.out (by decide)) e_) hs_)); have n5_ := Aside0.mk (hb); clear HO_6 HO_9 HO_315000 BK300 BK314 HB; have HO_6 := n0_; have HO_9 := n1_; have HO_315000 := n2_; have BK300 := n3_; have BK314 := n4_; have HB := n5_; clear n0_ n1_ n2_ n3_ n4_ n5_; (try clear hb); (try clear hkp); (try clear hy0)) | ((with_reducible refine gate_callee (f := 64) rfl ?_); refine goesL_ (some 67) rfl rfl Try.func64 (by kernel_rfl) rfl #[.slice Ao46 t336.length co46, .int .i64 1] rfl (by (try simp only [List.map_toArray, List.map_cons, List.map_nil]); first | done | (rw [show t336.length = t318.length from (Kd.R_reads' HO_9.out).1.symm] <;> rfl) | rfl | (simp only [List.length_drop, List.length_take]; rfl)) ?_; (with_reducible refine (laws_heldBoolS.calls kj25 _ _ t336 1 t337 _ ?side1 ?side2 A61.out).mono ?_); (case side1 => exact cl (Kd.R_reads' HO_9.out).2.2); (case side2 => rw [show t336.length = t318.length from (Kd.R_reads' HO_9.out).1.symm]; exact (Kd.R_reads' HO_9.out).2.1); rintro e w' ⟨rfl, ⟨nd, rfl⟩⟩; refine ⟨_, rfl, ?_⟩; have hnb92 := NB300_314.out; have hnc92 := NB314_300.out; have hcz93_0 : w91.cell? ⟨gb300, 0, none⟩ = some (.slice A0_0 l0_0.length c0_0) := (blk_cell BK300.out 0).trans rfl; have hfz93_0 := blk_frozen BK300.out 0) | ((with_reducible refine gate_callee (f := 26) rfl ?_); refine goesL_ (some 74) rfl rfl Try.func26 (by kernel_rfl) rfl #[.agg #[.slice A0_0 l0_0.length c0_0]] rfl ar ?_; (with_reducible refine (laws_toArena.calls kj25 _ _ l0_0 t338 _ ?side1 ?side2 A65.out).mono ?_); (case side1 => exact cl (Kd.C_below HR0_0.out (bw HB.out))); (case side2 => exact HC0_0.out); rintro e w94 ⟨v339, rfl, ho0, hb⟩; refine ⟨_, rfl, ?_⟩; have n0_ := Aside0.mk (Kd.R_below (rl HO_6.out) hb); have n1_ := Aside0.mk (Kd.R_below (rl HO_9.out) hb); have n2_ := Aside0.mk (Kd.R_elder' (rl HO_315000.out) (Kd.R_base ho0) hb); have n3_ := Aside0.mk (Kd.R_lower (Kd.R_new' ho0 (Kd.R_lt (rl HO_315000.out))) (below_size (bw HB.out))); have n4_ := Aside0.mk (blk_below (g := gb300) (o := .cells #[.slice A0_0 l0_0.length c0_0] 41 (0, 0)) (bl BK300.out) hb); have n5_ := Aside0.mk (blk_below (g := gb314) (o := .cells #[.slice Ao39 t331.length co39] 26 (0, 0)) (bl BK314.out) hb); have n6_ := Aside0.mk (below_step (bw HB.out) hb); clear HO_6 HO_9 HO_315000 BK300 BK314 HB; have HO_6 := n0_; have HO_9 := n1_; have HO_315000 := n2_; have HO340 := n3_; have BK300 := n4_; have BK314 := n5_; have HB := n6_; clear n0_ n1_ n2_ n3_ n4_ n5_ n6_; (try clear hb); (try clear hb2); (try clear hk); (try clear hi); (try clear ho0)) | ((with_reducible refine gate_callee (f := 34) rfl ?_); refine goesL_ (some 76) rfl rfl Try.func34 (by kernel_rfl) rfl #[.slice A1 l1.length c1] rfl ar ?_; (with_reducible refine (laws_toIntS.calls kj25 _ _ l1 t341 _ ?side1 ?side2 A66.out).mono ?_); (case side1 => exact cl (Kd.C_below HR1.out HB.out)); (case side2 => exact HC1.out); rintro e w95 ⟨v342, rfl, ho0, hb⟩; refine ⟨_, rfl, ?_⟩; have n0_ := Aside0.mk (Kd.R_below (rl HO_6.out) hb); have n1_ := Aside0.mk (Kd.R_below (rl HO_9.out) hb); have n2_ := Aside0.mk (Kd.R_below (rl HO_315000.out) hb); have n3_ := Aside0.mk (Kd.R_below (rl HO340.out) hb); have n4_ := Aside0.mk (Kd.R_lower ho0 (below_size (bw HB.out))); have n5_ := Aside0.mk (blk_below (g := gb300) (o := .cells #[.slice A0_0 l0_0.length c0_0] 41 (0, 0)) (bl BK300.out) hb); have n6_ := Aside0.mk (blk_below (g := gb314) (o := .cells #[.slice Ao39 t331.length co39] 26 (0, 0)) (bl BK314.out) hb); have n7_ := Aside0.mk (below_step (bw HB.out) hb); clear HO_6 HO_9 HO_315000 HO340 BK300 BK314 HB; have HO_6 := n0_; have HO_9 := n1_; have HO_315000 := n2_; have HO340 := n3_; have HO343 := n4_; have BK300 := n5_; have BK314 := n6_; have HB := n7_; clear n0_ n1_ n2_ n3_ n4_ n5_ n6_ n7_; (try clear hb); (try clear hb2); (try clear hk); (try clear hi); (try clear ho0); obtain ⟨Ao96, co96, eo96⟩ := Kd.R_slice HO340.out; subst eo96; obtain ⟨Ao97, co97, eo97⟩ := Kd.R_slice HO343.out; subst eo97) | ((with_reducible refine gate_callee (f := 16) rfl ?_); refine goesL_ (some 77) rfl rfl Try.func16 (by kernel_rfl) rfl #[.agg #[.slice Ao96 t338.length co96], .slice Ao97 t341.length co97] rfl ar ?_; (with_reducible refine (impl_Reach.calls kj25 _ _ t338 _ _ t341 t344 _ ?side1 ?side2 ?side3 ?side4 A67.out).mono ?_); (case side1 => exact cl (Kd.R_reads' HO340.out).2.2); (case side2 => exact (Kd.R_reads' HO340.out).2.1); (case side3 => exact cl (Kd.R_reads' HO343.out).2.2); (case side4 => exact (Kd.R_reads' HO343.out).2.1); rintro e w98 ⟨v345, rfl, ho0, hb⟩; refine ⟨_, rfl, ?_⟩; have n0_ := Aside0.mk (Kd.R_elder' (rl HO_6.out) (Kd.R_base ho0) hb); have n1_ := Aside0.mk (Kd.R_elder' (rl HO_9.out) (Kd.R_base ho0) hb); have n2_ := Aside0.mk (Kd.R_below (rl HO_315000.out) hb); have n3_ := Aside0.mk (Kd.R_below (rl HO340.out) hb); have n4_ := Aside0.mk (Kd.R_below (rl HO343.out) hb); have n5_ := Aside0.mk (Kd.R_lower (Kd.R_new' (Kd.R_new' ho0 (Kd.R_lt (rl HO_6.out))) (Kd.R_lt (rl HO_9.out))) (below_size (bw HB.out))); have n6_ := Aside0.mk (blk_below (g := gb300) (o := .cells #[.slice A0_0 l0_0.length c0_0] 41 (0, 0)) (bl BK300.out) hb); have n7_ := Aside0.mk (blk_below (g := gb314) (o := .cells #[.slice Ao39 t331.length co39] 26 (0, 0)) (bl BK314.out) hb); have n8_ := Aside0.mk (below_step (bw HB.out) hb); clear HO_6 HO_9 HO_315000 HO340 HO343 BK300 BK314 HB; have HO_6 := n0_; have HO_9 := n1_; have HO_315000 := n2_; have HO340 := n3_; have HO343 := n4_; have HO346 := n5_; have BK300 := n6_; have BK314 := n7_; have HB := n8_; clear n0_ n1_ n2_ n3_ n4_ n5_ n6_ n7_ n8_; (try clear hb); (try clear hb2); (try clear hk); (try clear hi); (try clear ho0); obtain ⟨Ao99, co99, eo99⟩ := Kd.R_slice HO346.out; subst eo99) | ((with_reducible refine gate_callee (f := 62) rfl ?_); refine goesL_ (some 80) rfl rfl Try.func62 (by kernel_rfl) rfl #[.slice Ao99 t344.length co99, .slice Ao47 t308.length co47] rfl ar ?_; (with_reducible refine (laws_eqBoolS.calls kj25 _ _ t344 _ _ t308 true _ ?side1 ?side2 ?side3 ?side4 A68.out).mono ?_); (case side1 => exact cl (Kd.R_reads' HO346.out).2.2); (case side2 => exact (Kd.R_reads' HO346.out).2.1); (case side3 => exact cl (Kd.R_reads' HO_6.out).2.2); (case side4 => exact (Kd.R_reads' HO_6.out).2.1); rintro e w' ⟨rfl, ⟨nd, rfl⟩⟩; refine ⟨_, rfl, ?_⟩) | ((with_reducible refine gate_callee (f := 64) rfl ?_); refine goesL_ (some 84) rfl rfl Try.func64 (by kernel_rfl) rfl #[.slice Ao46 t336.length co46, .int .i64 1] rfl (by (try simp only [List.map_toArray, List.map_cons, List.map_nil]); first | done | (rw [show t336.length = t318.length from (Kd.R_reads' HO_9.out).1.symm] <;> rfl) | rfl | (simp only [List.length_drop, List.length_take]; rfl)) ?_; (with_reducible refine (laws_heldBoolS.calls kj25 _ _ t336 1 t348 _ ?side1 ?side2 A70.out).mono ?_); (case side1 => exact cl (Kd.R_reads' HO_9.out).2.2); (case side2 => rw [show t336.length = t318.length from (Kd.R_reads' HO_9.out).1.symm]; exact (Kd.R_reads' HO_9.out).2.1); rintro e w' ⟨rfl, ⟨nd, rfl⟩⟩; refine ⟨_, rfl, ?_⟩))
              go_ret
              exact ⟨by first | rfl | (simp [errW_none, errW_some] <;> rfl) | (simp [*, errW_none, errW_some] <;> rfl), bw HB.out⟩
           ·replace c69 := Bool.eq_false_iff.mpr c69
            subst c69
            have H1 : (some false) = some r := by rw [if_neg (show ¬ (false = true) by decide)] at H; exact H
            clear H
            have H := H1
            clear H1
            obtain rfl := Option.some.inj H
            go_wp2_with (first | ((with_reducible refine gate_callee (f := 63) rfl ?_); refine goesL_ (some 64) rfl rfl Try.func63 (by kernel_rfl) rfl #[.slice Ao46 t318.length co46, .int .i64 1] rfl ar ?_; (with_reducible refine (laws_markBoolS.calls kj25 (fun k_ => some k_ = (.slice Ao46 t318.length co46 : Value).ownBlock) (.slice Ao46 t318.length co46) t318 1 t335 t336 w _ ?side1 ?side2 A60.out).mono ?_); (case side1 => exact bw HB.out); (case side2 => exact Kd.R_tight rfl HO_9.out); rintro e w100 ⟨rfl, hy0, hb, hkp⟩; refine ⟨_, rfl, ?_⟩; have n0_ := Aside0.mk (Kd.R_mono (ok' := fun k_ => some k_ ≠ (.slice Ao46 t318.length co46 : Value).ownBlock) (Kd.R_keptB (HO_6.out) hkp (fun k_ hk_ hs_ => (hk_) hs_)) (fun k_ hk_ => hk_.1)); have n1_ := Aside0.mk (Kd.R_reok rfl hy0 (fun k_ e_ => HO_9.out.1 k_ e_)); have n2_ := Aside0.mk (Kd.R_mono (ok' := fun k_ => True) (Kd.R_keptB ((Kd.R_apart' HO_315000.out (Kd.R_typed HO_9.out) (by decide))) hkp (fun k_ hk_ hs_ => (hk_.2) hs_)) (fun k_ hk_ => trivial)); have n3_ := Aside0.mk (blk_kept (bl BK300.out) hkp (fun hs_ => (fun e_ => (Kd.R_ne HO_9.out BK300.out (by decide)) e_) hs_)); have n4_ := Aside0.mk (blk_kept (bl BK314.out) hkp (fun hs_ => (fun e_ => (Kd.R_ne HO_9.out BK314.out (by decide)) e_) hs_)); have n5_ := Aside0.mk (hb); clear HO_6 HO_9 HO_315000 BK300 BK314 HB; have HO_6 := n0_; have HO_9 := n1_; have HO_315000 := n2_; have BK300 := n3_; have BK314 := n4_; have HB := n5_; clear n0_ n1_ n2_ n3_ n4_ n5_; (try clear hb); (try clear hkp); (try clear hy0)) | ((with_reducible refine gate_callee (f := 64) rfl ?_); refine goesL_ (some 67) rfl rfl Try.func64 (by kernel_rfl) rfl #[.slice Ao46 t336.length co46, .int .i64 1] rfl (by (try simp only [List.map_toArray, List.map_cons, List.map_nil]); first | done | (rw [show t336.length = t318.length from (Kd.R_reads' HO_9.out).1.symm] <;> rfl) | rfl | (simp only [List.length_drop, List.length_take]; rfl)) ?_; (with_reducible refine (laws_heldBoolS.calls kj25 _ _ t336 1 t337 _ ?side1 ?side2 A61.out).mono ?_); (case side1 => exact cl (Kd.R_reads' HO_9.out).2.2); (case side2 => rw [show t336.length = t318.length from (Kd.R_reads' HO_9.out).1.symm]; exact (Kd.R_reads' HO_9.out).2.1); rintro e w' ⟨rfl, ⟨nd, rfl⟩⟩; refine ⟨_, rfl, ?_⟩; have hnb101 := NB300_314.out; have hnc101 := NB314_300.out; have hcz102_0 : w100.cell? ⟨gb300, 0, none⟩ = some (.slice A0_0 l0_0.length c0_0) := (blk_cell BK300.out 0).trans rfl; have hfz102_0 := blk_frozen BK300.out 0) | ((with_reducible refine gate_callee (f := 26) rfl ?_); refine goesL_ (some 74) rfl rfl Try.func26 (by kernel_rfl) rfl #[.agg #[.slice A0_0 l0_0.length c0_0]] rfl ar ?_; (with_reducible refine (laws_toArena.calls kj25 _ _ l0_0 t338 _ ?side1 ?side2 A65.out).mono ?_); (case side1 => exact cl (Kd.C_below HR0_0.out (bw HB.out))); (case side2 => exact HC0_0.out); rintro e w103 ⟨v339, rfl, ho0, hb⟩; refine ⟨_, rfl, ?_⟩; have n0_ := Aside0.mk (Kd.R_below (rl HO_6.out) hb); have n1_ := Aside0.mk (Kd.R_below (rl HO_9.out) hb); have n2_ := Aside0.mk (Kd.R_elder' (rl HO_315000.out) (Kd.R_base ho0) hb); have n3_ := Aside0.mk (Kd.R_lower (Kd.R_new' ho0 (Kd.R_lt (rl HO_315000.out))) (below_size (bw HB.out))); have n4_ := Aside0.mk (blk_below (g := gb300) (o := .cells #[.slice A0_0 l0_0.length c0_0] 41 (0, 0)) (bl BK300.out) hb); have n5_ := Aside0.mk (blk_below (g := gb314) (o := .cells #[.slice Ao39 t331.length co39] 26 (0, 0)) (bl BK314.out) hb); have n6_ := Aside0.mk (below_step (bw HB.out) hb); clear HO_6 HO_9 HO_315000 BK300 BK314 HB; have HO_6 := n0_; have HO_9 := n1_; have HO_315000 := n2_; have HO340 := n3_; have BK300 := n4_; have BK314 := n5_; have HB := n6_; clear n0_ n1_ n2_ n3_ n4_ n5_ n6_; (try clear hb); (try clear hb2); (try clear hk); (try clear hi); (try clear ho0)) | ((with_reducible refine gate_callee (f := 34) rfl ?_); refine goesL_ (some 76) rfl rfl Try.func34 (by kernel_rfl) rfl #[.slice A1 l1.length c1] rfl ar ?_; (with_reducible refine (laws_toIntS.calls kj25 _ _ l1 t341 _ ?side1 ?side2 A66.out).mono ?_); (case side1 => exact cl (Kd.C_below HR1.out HB.out)); (case side2 => exact HC1.out); rintro e w104 ⟨v342, rfl, ho0, hb⟩; refine ⟨_, rfl, ?_⟩; have n0_ := Aside0.mk (Kd.R_below (rl HO_6.out) hb); have n1_ := Aside0.mk (Kd.R_below (rl HO_9.out) hb); have n2_ := Aside0.mk (Kd.R_below (rl HO_315000.out) hb); have n3_ := Aside0.mk (Kd.R_below (rl HO340.out) hb); have n4_ := Aside0.mk (Kd.R_lower ho0 (below_size (bw HB.out))); have n5_ := Aside0.mk (blk_below (g := gb300) (o := .cells #[.slice A0_0 l0_0.length c0_0] 41 (0, 0)) (bl BK300.out) hb); have n6_ := Aside0.mk (blk_below (g := gb314) (o := .cells #[.slice Ao39 t331.length co39] 26 (0, 0)) (bl BK314.out) hb); have n7_ := Aside0.mk (below_step (bw HB.out) hb); clear HO_6 HO_9 HO_315000 HO340 BK300 BK314 HB; have HO_6 := n0_; have HO_9 := n1_; have HO_315000 := n2_; have HO340 := n3_; have HO343 := n4_; have BK300 := n5_; have BK314 := n6_; have HB := n7_; clear n0_ n1_ n2_ n3_ n4_ n5_ n6_ n7_; (try clear hb); (try clear hb2); (try clear hk); (try clear hi); (try clear ho0); obtain ⟨Ao105, co105, eo105⟩ := Kd.R_slice HO340.out; subst eo105; obtain ⟨Ao106, co106, eo106⟩ := Kd.R_slice HO343.out; subst eo106) | ((with_reducible refine gate_callee (f := 16) rfl ?_); refine goesL_ (some 77) rfl rfl Try.func16 (by kernel_rfl) rfl #[.agg #[.slice Ao105 t338.length co105], .slice Ao106 t341.length co106] rfl ar ?_; (with_reducible refine (impl_Reach.calls kj25 _ _ t338 _ _ t341 t344 _ ?side1 ?side2 ?side3 ?side4 A67.out).mono ?_); (case side1 => exact cl (Kd.R_reads' HO340.out).2.2); (case side2 => exact (Kd.R_reads' HO340.out).2.1); (case side3 => exact cl (Kd.R_reads' HO343.out).2.2); (case side4 => exact (Kd.R_reads' HO343.out).2.1); rintro e w107 ⟨v345, rfl, ho0, hb⟩; refine ⟨_, rfl, ?_⟩; have n0_ := Aside0.mk (Kd.R_elder' (rl HO_6.out) (Kd.R_base ho0) hb); have n1_ := Aside0.mk (Kd.R_elder' (rl HO_9.out) (Kd.R_base ho0) hb); have n2_ := Aside0.mk (Kd.R_below (rl HO_315000.out) hb); have n3_ := Aside0.mk (Kd.R_below (rl HO340.out) hb); have n4_ := Aside0.mk (Kd.R_below (rl HO343.out) hb); have n5_ := Aside0.mk (Kd.R_lower (Kd.R_new' (Kd.R_new' ho0 (Kd.R_lt (rl HO_6.out))) (Kd.R_lt (rl HO_9.out))) (below_size (bw HB.out))); have n6_ := Aside0.mk (blk_below (g := gb300) (o := .cells #[.slice A0_0 l0_0.length c0_0] 41 (0, 0)) (bl BK300.out) hb); have n7_ := Aside0.mk (blk_below (g := gb314) (o := .cells #[.slice Ao39 t331.length co39] 26 (0, 0)) (bl BK314.out) hb); have n8_ := Aside0.mk (below_step (bw HB.out) hb); clear HO_6 HO_9 HO_315000 HO340 HO343 BK300 BK314 HB; have HO_6 := n0_; have HO_9 := n1_; have HO_315000 := n2_; have HO340 := n3_; have HO343 := n4_; have HO346 := n5_; have BK300 := n6_; have BK314 := n7_; have HB := n8_; clear n0_ n1_ n2_ n3_ n4_ n5_ n6_ n7_ n8_; (try clear hb); (try clear hb2); (try clear hk); (try clear hi); (try clear ho0); obtain ⟨Ao108, co108, eo108⟩ := Kd.R_slice HO346.out; subst eo108) | ((with_reducible refine gate_callee (f := 62) rfl ?_); refine goesL_ (some 80) rfl rfl Try.func62 (by kernel_rfl) rfl #[.slice Ao108 t344.length co108, .slice Ao47 t308.length co47] rfl ar ?_; (with_reducible refine (laws_eqBoolS.calls kj25 _ _ t344 _ _ t308 false _ ?side1 ?side2 ?side3 ?side4 A68.out).mono ?_); (case side1 => exact cl (Kd.R_reads' HO346.out).2.2); (case side2 => exact (Kd.R_reads' HO346.out).2.1); (case side3 => exact cl (Kd.R_reads' HO_6.out).2.2); (case side4 => exact (Kd.R_reads' HO_6.out).2.1); rintro e w' ⟨rfl, ⟨nd, rfl⟩⟩; refine ⟨_, rfl, ?_⟩))
            go_ret
            exact ⟨by first | rfl | (simp [errW_none, errW_some] <;> rfl) | (simp [*, errW_none, errW_some] <;> rfl), bw HB.out⟩
          ·rw [if_neg c64] at H
           have c64b0 : (t337 == t335) = false := beq_eq_false_iff_ne.mpr c64
           have c64b1 : (t337 != t335) = true := bne_iff_ne.mpr c64
           obtain rfl := Option.some.inj H
           go_wp2_with (first | ((with_reducible refine gate_callee (f := 63) rfl ?_); refine goesL_ (some 64) rfl rfl Try.func63 (by kernel_rfl) rfl #[.slice Ao46 t318.length co46, .int .i64 1] rfl ar ?_; (with_reducible refine (laws_markBoolS.calls kj25 (fun k_ => some k_ = (.slice Ao46 t318.length co46 : Value).ownBlock) (.slice Ao46 t318.length co46) t318 1 t335 t336 w _ ?side1 ?side2 A60.out).mono ?_); (case side1 => exact bw HB.out); (case side2 => exact Kd.R_tight rfl HO_9.out); rintro e w109 ⟨rfl, hy0, hb, hkp⟩; refine ⟨_, rfl, ?_⟩; have n0_ := Aside0.mk (Kd.R_mono (ok' := fun k_ => some k_ ≠ (.slice Ao46 t318.length co46 : Value).ownBlock) (Kd.R_keptB (HO_6.out) hkp (fun k_ hk_ hs_ => (hk_) hs_)) (fun k_ hk_ => hk_.1)); have n1_ := Aside0.mk (Kd.R_reok rfl hy0 (fun k_ e_ => HO_9.out.1 k_ e_)); have n2_ := Aside0.mk (Kd.R_mono (ok' := fun k_ => True) (Kd.R_keptB ((Kd.R_apart' HO_315000.out (Kd.R_typed HO_9.out) (by decide))) hkp (fun k_ hk_ hs_ => (hk_.2) hs_)) (fun k_ hk_ => trivial)); have n3_ := Aside0.mk (blk_kept (bl BK300.out) hkp (fun hs_ => (fun e_ => (Kd.R_ne HO_9.out BK300.out (by decide)) e_) hs_)); have n4_ := Aside0.mk (blk_kept (bl BK314.out) hkp (fun hs_ => (fun e_ => (Kd.R_ne HO_9.out BK314.out (by decide)) e_) hs_)); have n5_ := Aside0.mk (hb); clear HO_6 HO_9 HO_315000 BK300 BK314 HB; have HO_6 := n0_; have HO_9 := n1_; have HO_315000 := n2_; have BK300 := n3_; have BK314 := n4_; have HB := n5_; clear n0_ n1_ n2_ n3_ n4_ n5_; (try clear hb); (try clear hkp); (try clear hy0)) | ((with_reducible refine gate_callee (f := 64) rfl ?_); refine goesL_ (some 67) rfl rfl Try.func64 (by kernel_rfl) rfl #[.slice Ao46 t336.length co46, .int .i64 1] rfl (by (try simp only [List.map_toArray, List.map_cons, List.map_nil]); first | done | (rw [show t336.length = t318.length from (Kd.R_reads' HO_9.out).1.symm] <;> rfl) | rfl | (simp only [List.length_drop, List.length_take]; rfl)) ?_; (with_reducible refine (laws_heldBoolS.calls kj25 _ _ t336 1 t337 _ ?side1 ?side2 A61.out).mono ?_); (case side1 => exact cl (Kd.R_reads' HO_9.out).2.2); (case side2 => rw [show t336.length = t318.length from (Kd.R_reads' HO_9.out).1.symm]; exact (Kd.R_reads' HO_9.out).2.1); rintro e w' ⟨rfl, ⟨nd, rfl⟩⟩; refine ⟨_, rfl, ?_⟩))
           go_ret
           exact ⟨by first | rfl | (simp [errW_none, errW_some] <;> rfl) | (simp [*, errW_none, errW_some] <;> rfl), bw HB.out⟩
     ·replace c23 := Bool.eq_false_iff.mpr c23
      subst c23
      have H1 : (some false) = some r := by rw [if_neg (show ¬ (false = true) by decide)] at H; exact H
      clear H
      have H := H1
      clear H1
      obtain rfl := Option.some.inj H
      go_enter Try.func11, Try.ntmps11
      try go_wp2_with (first | ((with_reducible refine gate_dst (N := 2) rfl ?_); refine box_event ?hg (N := 2) ?hd (cs := #[.slice A0_0 l0_0.length c0_0]) (t := 41) ?hr ?_; (case hd => rfl); (case hg => rfl); (case hr => first | (go_simp; done) | (go_simp; rfl)); intro gb300 hg w110 hbox hb; have n0_ := Aside0.mk (below_step (bw HB.out) hb); have n1_ := Aside0.mk (hbox); have n2_ := Aside0.mk ((by rw [hg]; exact (below_size (bw HB.out)) : w.heap.size ≤ gb300)); have n3_ := Aside0.mk ((by rw [hg]; exact (below_size (bw HB.out)) : w.heap.size ≤ gb300)); clear HB; have HB := n0_; have BK300 := n1_; have GW300 := n2_; have GE300 := n3_; clear n0_ n1_ n2_ n3_ hb hbox hg; have hcz111_0 : w110.cell? ⟨gb300, 0, none⟩ = some (.slice A0_0 l0_0.length c0_0) := (blk_cell BK300.out 0).trans rfl; have hfz111_0 := blk_frozen BK300.out 0) | ((with_reducible refine gate_callee (f := 24) rfl ?_); refine goesL_ (some 19) rfl rfl Try.func24 (by kernel_rfl) rfl #[.agg #[.slice A0_0 l0_0.length c0_0], .int .i64 1048576] rfl ar ?_; (with_reducible refine (laws_szArena.calls _ _ l0_0 1048576 t301 _ ?side1 ?side2 A5.out).mono ?_); (case side1 => exact cl (Kd.C_below HR0_0.out HB.out)); (case side2 => exact HC0_0.out); rintro e w112 ⟨rfl, hb⟩; refine ⟨_, rfl, ?_⟩; have n0_ := Aside0.mk (blk_below (g := gb300) (o := .cells #[.slice A0_0 l0_0.length c0_0] 41 (0, 0)) (bl BK300.out) hb); have n1_ := Aside0.mk (below_step (bw HB.out) hb); clear BK300 HB; have BK300 := n0_; have HB := n1_; clear n0_ n1_; (try clear hb); (try clear hb2); (try clear hk); (try clear hi); have hcz113_0 : w112.cell? ⟨gb300, 0, none⟩ = some (.slice A0_0 l0_0.length c0_0) := (blk_cell BK300.out 0).trans rfl; have hfz113_0 := blk_frozen BK300.out 0) | ((with_reducible refine gate_callee (f := 26) rfl ?_); refine goesL_ (some 23) rfl rfl Try.func26 (by kernel_rfl) rfl #[.agg #[.slice A0_0 l0_0.length c0_0]] rfl ar ?_; (with_reducible refine (laws_toArena.calls k _ _ l0_0 t302 _ ?side1 ?side2 A10.out).mono ?_); (case side1 => exact cl (Kd.C_below HR0_0.out HB.out)); (case side2 => exact HC0_0.out); rintro e w114 ⟨v303, rfl, ho0, hb⟩; refine ⟨_, rfl, ?_⟩; have n0_ := Aside0.mk (Kd.R_lower ho0 (below_size (bw HB.out))); have n1_ := Aside0.mk (blk_below (g := gb300) (o := .cells #[.slice A0_0 l0_0.length c0_0] 41 (0, 0)) (bl BK300.out) hb); have n2_ := Aside0.mk (below_step (bw HB.out) hb); clear BK300 HB; have HO304 := n0_; have BK300 := n1_; have HB := n2_; clear n0_ n1_ n2_; (try clear hb); (try clear hb2); (try clear hk); (try clear hi); (try clear ho0)) | ((with_reducible refine gate_callee (f := 34) rfl ?_); refine goesL_ (some 25) rfl rfl Try.func34 (by kernel_rfl) rfl #[.slice A1 l1.length c1] rfl ar ?_; (with_reducible refine (laws_toIntS.calls k _ _ l1 t305 _ ?side1 ?side2 A11.out).mono ?_); (case side1 => exact cl (Kd.C_below HR1.out HB.out)); (case side2 => exact HC1.out); rintro e w115 ⟨v306, rfl, ho0, hb⟩; refine ⟨_, rfl, ?_⟩; have n0_ := Aside0.mk (Kd.R_below (rl HO304.out) hb); have n1_ := Aside0.mk (Kd.R_lower ho0 (below_size (bw HB.out))); have n2_ := Aside0.mk (blk_below (g := gb300) (o := .cells #[.slice A0_0 l0_0.length c0_0] 41 (0, 0)) (bl BK300.out) hb); have n3_ := Aside0.mk (below_step (bw HB.out) hb); clear HO304 BK300 HB; have HO304 := n0_; have HO307 := n1_; have BK300 := n2_; have HB := n3_; clear n0_ n1_ n2_ n3_; (try clear hb); (try clear hb2); (try clear hk); (try clear hi); (try clear ho0); obtain ⟨Ao116, co116, eo116⟩ := Kd.R_slice HO304.out; subst eo116; obtain ⟨Ao117, co117, eo117⟩ := Kd.R_slice HO307.out; subst eo117) | ((with_reducible refine gate_callee (f := 22) rfl ?_); refine goesL_ (some 26) rfl rfl Try.func22 (by kernel_rfl) rfl #[.agg #[.slice Ao116 t302.length co116], .slice Ao117 t305.length co117] rfl ar ?_; (with_reducible refine (spec_Reach.calls k _ _ t302 _ _ t305 t308 _ ?side1 ?side2 ?side3 ?side4 A12.out).mono ?_); (case side1 => exact cl (Kd.R_reads' HO304.out).2.2); (case side2 => exact (Kd.R_reads' HO304.out).2.1); (case side3 => exact cl (Kd.R_reads' HO307.out).2.2); (case side4 => exact (Kd.R_reads' HO307.out).2.1); rintro e w118 ⟨v309, rfl, ho0, hb⟩; refine ⟨_, rfl, ?_⟩; have n0_ := Aside0.mk (Kd.R_below (rl HO304.out) hb); have n1_ := Aside0.mk (Kd.R_below (rl HO307.out) hb); have n2_ := Aside0.mk (Kd.R_lower ho0 (below_size (bw HB.out))); have n3_ := Aside0.mk (blk_below (g := gb300) (o := .cells #[.slice A0_0 l0_0.length c0_0] 41 (0, 0)) (bl BK300.out) hb); have n4_ := Aside0.mk (below_step (bw HB.out) hb); clear HO304 HO307 BK300 HB; have HO304 := n0_; have HO307 := n1_; have HO310 := n2_; have BK300 := n3_; have HB := n4_; clear n0_ n1_ n2_ n3_ n4_; (try clear hb); (try clear hb2); (try clear hk); (try clear hi); (try clear ho0); have hcz119_0 : w118.cell? ⟨gb300, 0, none⟩ = some (.slice A0_0 l0_0.length c0_0) := (blk_cell BK300.out 0).trans rfl; have hfz119_0 := blk_frozen BK300.out 0) | ((with_reducible refine gate_callee (f := 26) rfl ?_); refine goesL_ (some 28) rfl rfl Try.func26 (by kernel_rfl) rfl #[.agg #[.slice A0_0 l0_0.length c0_0]] rfl ar ?_; (with_reducible refine (laws_toArena.calls k _ _ l0_0 t311 _ ?side1 ?side2 A13.out).mono ?_); (case side1 => exact cl (Kd.C_below HR0_0.out HB.out)); (case side2 => exact HC0_0.out); rintro e w120 ⟨v312, rfl, ho0, hb⟩; refine ⟨_, rfl, ?_⟩; have n0_ := Aside0.mk (Kd.R_elder' (rl HO304.out) (Kd.R_base ho0) hb); have n1_ := Aside0.mk (Kd.R_below (rl HO307.out) hb); have n2_ := Aside0.mk (Kd.R_below (rl HO310.out) hb); have n3_ := Aside0.mk (Kd.R_lower (Kd.R_new' ho0 (Kd.R_lt (rl HO304.out))) (below_size (bw HB.out))); have n4_ := Aside0.mk (blk_below (g := gb300) (o := .cells #[.slice A0_0 l0_0.length c0_0] 41 (0, 0)) (bl BK300.out) hb); have n5_ := Aside0.mk (below_step (bw HB.out) hb); clear HO304 HO307 HO310 BK300 HB; have HO304 := n0_; have HO307 := n1_; have HO310 := n2_; have HO313 := n3_; have BK300 := n4_; have HB := n5_; clear n0_ n1_ n2_ n3_ n4_ n5_; (try clear hb); (try clear hb2); (try clear hk); (try clear hi); (try clear ho0)) | ((with_reducible refine gate_dst (N := 7) rfl ?_); refine box_event ?hg (N := 7) ?hd (cs := #[.slice none 0 0]) (t := 26) ?hr ?_; (case hd => rfl); (case hg => rfl); (case hr => first | (go_simp; done) | (go_simp; rfl)); intro gb314 hg w121 hbox hb; have n0_ := Aside0.mk (Kd.R_below (rl HO304.out) hb); have n1_ := Aside0.mk (Kd.R_below (rl HO307.out) hb); have n2_ := Aside0.mk (Kd.R_below (rl HO310.out) hb); have n3_ := Aside0.mk (Kd.R_below (rl HO313.out) hb); have n4_ := Aside0.mk (blk_below (g := gb300) (o := .cells #[.slice A0_0 l0_0.length c0_0] 41 (0, 0)) (bl BK300.out) hb); have n5_ := Aside0.mk (below_step (bw HB.out) hb); have n6_ := Aside0.mk (hbox); have n7_ := Aside0.mk ((by rw [hg]; exact (below_size (bw HB.out)) : w.heap.size ≤ gb314)); have n8_ := Aside0.mk ((by rw [hg]; exact (below_size (bw HB.out)) : w.heap.size ≤ gb314)); have n9_ := Aside0.mk ((by rw [hg]; exact Nat.ne_of_lt (blk_lt (g := gb300) (o := .cells #[.slice A0_0 l0_0.length c0_0] 41 (0, 0)) (bl BK300.out)) : gb300 ≠ gb314)); have n10_ := Aside0.mk ((by rw [hg]; exact Nat.ne_of_gt (blk_lt (g := gb300) (o := .cells #[.slice A0_0 l0_0.length c0_0] 41 (0, 0)) (bl BK300.out)) : gb314 ≠ gb300)); clear HO304 HO307 HO310 HO313 BK300 HB; have HO304 := n0_; have HO307 := n1_; have HO310 := n2_; have HO313 := n3_; have BK300 := n4_; have HB := n5_; have BK314 := n6_; have GW314 := n7_; have GE314 := n8_; have NB300_314 := n9_; have NB314_300 := n10_; clear n0_ n1_ n2_ n3_ n4_ n5_ n6_ n7_ n8_ n9_ n10_ hb hbox hg; obtain ⟨Ao122, co122, eo122⟩ := Kd.R_slice HO313.out; subst eo122; have hnb123 := NB314_300.out; have hnc123 := NB300_314.out; have hcz124_0 : w121.cell? ⟨gb314, 0, none⟩ = some (.slice none 0 0) := (blk_cell BK314.out 0).trans rfl; have hfz124_0 := blk_frozen BK314.out 0) | ((with_reducible refine gate_callee (f := 34) rfl ?_); refine goesL_ (some 30) rfl rfl Try.func34 (by kernel_rfl) rfl #[.slice A1 l1.length c1] rfl ar ?_; (with_reducible refine (laws_toIntS.calls k _ _ l1 t315 _ ?side1 ?side2 A14.out).mono ?_); (case side1 => exact Kd.C_below HR1.out (bw HB.out)); (case side2 => exact HC1.out); rintro e w125 ⟨v316, rfl, ho0, hb⟩; refine ⟨_, rfl, ?_⟩; have n0_ := Aside0.mk (Kd.R_below (by (with_reducible repeat (first | apply Kd.R_alloc | apply Kd.R_drewN | apply Kd.R_drew)); exact (Kd.R_mono (Kd.R_far (p := ⟨gb314, 0, none⟩) (Kd.R_types HO304.out BK314.out (by decide)) (fun _ hk => hk.2) (.slice Ao122 t311.length co122)) (fun _ h_ => h_.1))) hb); have n1_ := Aside0.mk (Kd.R_elder' (by (with_reducible repeat (first | apply Kd.R_alloc | apply Kd.R_drewN | apply Kd.R_drew)); exact (Kd.R_mono (Kd.R_far (p := ⟨gb314, 0, none⟩) (Kd.R_types HO307.out BK314.out (by decide)) (fun _ hk => hk.2) (.slice Ao122 t311.length co122)) (fun _ h_ => h_.1))) (Kd.R_base ho0) hb); have n2_ := Aside0.mk (Kd.R_below (by (with_reducible repeat (first | apply Kd.R_alloc | apply Kd.R_drewN | apply Kd.R_drew)); exact (Kd.R_mono (Kd.R_far (p := ⟨gb314, 0, none⟩) (Kd.R_types HO310.out BK314.out (by decide)) (fun _ hk => hk.2) (.slice Ao122 t311.length co122)) (fun _ h_ => h_.1))) hb); have n3_ := Aside0.mk (Kd.R_below (by (with_reducible repeat (first | apply Kd.R_alloc | apply Kd.R_drewN | apply Kd.R_drew)); exact (Kd.R_mono (Kd.R_far (p := ⟨gb314, 0, none⟩) (Kd.R_types HO313.out BK314.out (by decide)) (fun _ hk => hk.2) (.slice Ao122 t311.length co122)) (fun _ h_ => h_.1))) hb); have n4_ := Aside0.mk (Kd.R_lower (Kd.R_new' ho0 (Kd.R_lt (by (with_reducible repeat (first | apply Kd.R_alloc | apply Kd.R_drewN | apply Kd.R_drew)); exact (Kd.R_mono (Kd.R_far (p := ⟨gb314, 0, none⟩) (Kd.R_types HO307.out BK314.out (by decide)) (fun _ hk => hk.2) (.slice Ao122 t311.length co122)) (fun _ h_ => h_.1))))) (below_size (bw HB.out))); have n5_ := Aside0.mk (blk_below (g := gb300) (o := .cells #[.slice A0_0 l0_0.length c0_0] 41 (0, 0)) (by (with_reducible repeat (first | refine blk_drewN ?_ _ | refine blk_drew ?_ | refine blk_alloc ?_ _)); refine blk_far ?_ NB300_314.out _; (with_reducible repeat (first | refine blk_drewN ?_ _ | refine blk_drew ?_ | refine blk_alloc ?_ _)); exact BK300.out) hb); have n6_ := Aside0.mk (blk_below (g := gb314) (o := .cells #[.slice Ao122 t311.length co122] 26 (0, 0)) (by (with_reducible repeat (first | refine blk_drewN ?_ _ | refine blk_drew ?_ | refine blk_alloc ?_ _)); refine blk_put (cs := #[.slice none 0 0]) ?_ 0 _ rfl; (with_reducible repeat (first | refine blk_drewN ?_ _ | refine blk_drew ?_ | refine blk_alloc ?_ _)); exact BK314.out) hb); have n7_ := Aside0.mk (below_step (bw HB.out) hb); clear HO304 HO307 HO310 HO313 BK300 BK314 HB; have HO304 := n0_; have HO307 := n1_; have HO310 := n2_; have HO313 := n3_; have HO317 := n4_; have BK300 := n5_; have BK314 := n6_; have HB := n7_; clear n0_ n1_ n2_ n3_ n4_ n5_ n6_ n7_; (try clear hb); (try clear hb2); (try clear hk); (try clear hi); (try clear ho0); have hcz126_0 : w125.cell? ⟨gb314, 0, none⟩ = some (.slice Ao122 t311.length co122) := (blk_cell BK314.out 0).trans rfl; have hfz126_0 := blk_frozen BK314.out 0; obtain ⟨Ao127, co127, eo127⟩ := Kd.R_slice HO317.out; subst eo127) | ((with_reducible refine gate_callee (f := 16) rfl ?_); refine goesL_ (some 33) rfl rfl Try.func16 (by kernel_rfl) rfl #[.agg #[.slice Ao122 t311.length co122], .slice Ao127 t315.length co127] rfl ar ?_; (with_reducible refine (impl_Reach.calls k _ _ t311 _ _ t315 t318 _ ?side1 ?side2 ?side3 ?side4 A15.out).mono ?_); (case side1 => exact cl (Kd.R_reads' HO313.out).2.2); (case side2 => exact (Kd.R_reads' HO313.out).2.1); (case side3 => exact cl (Kd.R_reads' HO317.out).2.2); (case side4 => exact (Kd.R_reads' HO317.out).2.1); rintro e w128 ⟨v319, rfl, ho0, hb⟩; refine ⟨_, rfl, ?_⟩; have n0_ := Aside0.mk (Kd.R_below (rl HO304.out) hb); have n1_ := Aside0.mk (Kd.R_below (rl HO307.out) hb); have n2_ := Aside0.mk (Kd.R_elder' (rl HO310.out) (Kd.R_base ho0) hb); have n3_ := Aside0.mk (Kd.R_below (rl HO313.out) hb); have n4_ := Aside0.mk (Kd.R_below (rl HO317.out) hb); have n5_ := Aside0.mk (Kd.R_lower (Kd.R_new' ho0 (Kd.R_lt (rl HO310.out))) (below_size (bw HB.out))); have n6_ := Aside0.mk (blk_below (g := gb300) (o := .cells #[.slice A0_0 l0_0.length c0_0] 41 (0, 0)) (bl BK300.out) hb); have n7_ := Aside0.mk (blk_below (g := gb314) (o := .cells #[.slice Ao122 t311.length co122] 26 (0, 0)) (bl BK314.out) hb); have n8_ := Aside0.mk (below_step (bw HB.out) hb); clear HO304 HO307 HO310 HO313 HO317 BK300 BK314 HB; have HO304 := n0_; have HO307 := n1_; have HO310 := n2_; have HO313 := n3_; have HO317 := n4_; have HO320 := n5_; have BK300 := n6_; have BK314 := n7_; have HB := n8_; clear n0_ n1_ n2_ n3_ n4_ n5_ n6_ n7_ n8_; (try clear hb); (try clear hb2); (try clear hk); (try clear hi); (try clear ho0); obtain ⟨Ao129, co129, eo129⟩ := Kd.R_slice HO320.out; subst eo129; obtain ⟨Ao130, co130, eo130⟩ := Kd.R_slice HO310.out; subst eo130) | ((with_reducible refine gate_callee (f := 62) rfl ?_); refine goesL_ (some 36) rfl rfl Try.func62 (by kernel_rfl) rfl #[.slice Ao129 t318.length co129, .slice Ao130 t308.length co130] rfl ar ?_; (with_reducible refine (laws_eqBoolS.calls k _ _ t318 _ _ t308 true _ ?side1 ?side2 ?side3 ?side4 A16.out).mono ?_); (case side1 => exact cl (Kd.R_reads' HO320.out).2.2); (case side2 => exact (Kd.R_reads' HO320.out).2.1); (case side3 => exact cl (Kd.R_reads' HO310.out).2.2); (case side4 => exact (Kd.R_reads' HO310.out).2.1); rintro e w' ⟨rfl, ⟨nd, rfl⟩⟩; refine ⟨_, rfl, ?_⟩))
      (try (rw [drewN_self w128]; generalize hq_ : World.drewN w128 _ = w128; have n0_ : Aside0 (Kd.R k34 34 w128 w.heap.size (fun k_ => some k_ ≠ (.slice Ao122 t311.length co122 : Value).ownBlock) (.slice Ao116 t302.length co116) t302) := ⟨by rw [← hq_]; exact (by (with_reducible repeat (first | apply Kd.R_alloc | apply Kd.R_drewN | apply Kd.R_drew)); exact Kd.R_mono HO304.out (fun _ hk => hk.2))⟩; have n1_ : Aside0 (Kd.R (Kd.int .i64) 3 w128 w.heap.size (fun k_ => some k_ ≠ (.slice Ao127 t315.length co127 : Value).ownBlock) (.slice Ao117 t305.length co117) t305) := ⟨by rw [← hq_]; exact (by (with_reducible repeat (first | apply Kd.R_alloc | apply Kd.R_drewN | apply Kd.R_drew)); exact Kd.R_mono HO307.out (fun _ hk => hk.2))⟩; have n2_ : Aside0 (Kd.R Kd.bool 4 w128 w.heap.size (fun k_ => some k_ ≠ (.slice Ao129 t318.length co129 : Value).ownBlock) (.slice Ao130 t308.length co130) t308) := ⟨by rw [← hq_]; exact (by (with_reducible repeat (first | apply Kd.R_alloc | apply Kd.R_drewN | apply Kd.R_drew)); exact Kd.R_mono HO310.out (fun _ hk => hk.2))⟩; have n3_ : Aside0 (Kd.R k34 34 w128 w.heap.size (fun k_ => some k_ ≠ (.slice Ao116 t302.length co116 : Value).ownBlock) (.slice Ao122 t311.length co122) t311) := ⟨by rw [← hq_]; exact (by (with_reducible repeat (first | apply Kd.R_alloc | apply Kd.R_drewN | apply Kd.R_drew)); exact Kd.R_mono HO313.out (fun _ hk => hk.2))⟩; have n4_ : Aside0 (Kd.R (Kd.int .i64) 3 w128 w.heap.size (fun k_ => some k_ ≠ (.slice Ao117 t305.length co117 : Value).ownBlock) (.slice Ao127 t315.length co127) t315) := ⟨by rw [← hq_]; exact (by (with_reducible repeat (first | apply Kd.R_alloc | apply Kd.R_drewN | apply Kd.R_drew)); exact Kd.R_mono HO317.out (fun _ hk => hk.2))⟩; have n5_ : Aside0 (Kd.R Kd.bool 4 w128 w.heap.size (fun k_ => some k_ ≠ (.slice Ao130 t308.length co130 : Value).ownBlock) (.slice Ao129 t318.length co129) t318) := ⟨by rw [← hq_]; exact (by (with_reducible repeat (first | apply Kd.R_alloc | apply Kd.R_drewN | apply Kd.R_drew)); exact Kd.R_mono HO320.out (fun _ hk => hk.2))⟩; have n6_ : Aside0 (w128.heap[gb300]? = some (.cells #[.slice A0_0 l0_0.length c0_0] 41 (0, 0))) := ⟨by rw [← hq_]; exact (bl BK300.out)⟩; have n7_ : Aside0 (w128.heap[gb314]? = some (.cells #[.slice Ao122 t311.length co122] 26 (0, 0))) := ⟨by rw [← hq_]; exact (bl BK314.out)⟩; have n8_ : Aside0 (Below w.heap.size w w128) := ⟨by rw [← hq_]; exact (bw HB.out)⟩; clear HO304 HO307 HO310 HO313 HO317 HO320 BK300 BK314 HB hq_; have HO304 := n0_; have HO307 := n1_; have HO310 := n2_; have HO313 := n3_; have HO317 := n4_; have HO320 := n5_; have BK300 := n6_; have BK314 := n7_; have HB := n8_; clear n0_ n1_ n2_ n3_ n4_ n5_ n6_ n7_ n8_))
      have n0_ := Aside0.mk (Kd.R_drew HO304.out)
      have n1_ := Aside0.mk (Kd.R_drew HO307.out)
      have n2_ := Aside0.mk (Kd.R_drew HO310.out)
      have n3_ := Aside0.mk (Kd.R_drew HO313.out)
      have n4_ := Aside0.mk (Kd.R_drew HO317.out)
      have n5_ := Aside0.mk (Kd.R_drew HO320.out)
      have n6_ := Aside0.mk (blk_drew BK300.out)
      have n7_ := Aside0.mk (blk_drew BK314.out)
      have n8_ := Aside0.mk (below_drew1 HB.out)
      clear HO304
      clear HO307
      clear HO310
      clear HO313
      clear HO317
      clear HO320
      clear BK300
      clear BK314
      clear HB
      have HO304 := n0_
      have HO307 := n1_
      have HO310 := n2_
      have HO313 := n3_
      have HO317 := n4_
      have HO320 := n5_
      have BK300 := n6_
      have BK314 := n7_
      have HB := n8_
      clear n0_ n1_ n2_ n3_ n4_ n5_ n6_ n7_ n8_
      refine start_ (n := 5) (S := fun w' => w'.cell? ⟨gb314, 0, none⟩ = some (.slice Ao122 t311.length co122) ∧ w'.cell? ⟨gb300, 0, none⟩ = some (.slice A0_0 l0_0.length c0_0)) (ds := []) #[false, false, false, false, false] (by kernel_rfl) rfl rfl ⟨(blk_cell BK314.out 0).trans rfl, (blk_cell BK300.out 0).trans rfl⟩ (fun hHeld => ?_)
      generalize w128.drew = w131 at HO304 HO307 HO310 HO313 HO317 HO320 BK300 BK314 HB hHeld ⊢
      refine take_ (i := 0) (N := some 38) (v := ?_) (a' := ?_) #[true, false, false, false, false] rfl rfl (by kernel_rfl) (fun _ _ _ h => h) (Or.inl ⟨by rfl, ?_⟩) hHeld ?_ ?_
      rotate_left
      ·rintro w' ⟨s0, s1⟩
       go_simp
       with_reducible rfl
      rotate_left
      ·simp only [Act.put, List.setIfInBounds_toArray, List.set_cons_zero, List.set_cons_succ, i64_w, i32_w]
       rfl
      refine take_ (i := 1) (N := some 39) (v := ?_) (a' := ?_) #[true, true, false, false, false] rfl rfl (by kernel_rfl) (fun _ _ _ h => h) (Or.inl ⟨by rfl, ?_⟩) hHeld ?_ ?_
      rotate_left
      ·rintro w' ⟨s0, s1⟩
       go_simp
       with_reducible rfl
      rotate_left
      ·simp only [Act.put, List.setIfInBounds_toArray, List.set_cons_zero, List.set_cons_succ, i64_w, i32_w]
       rfl
      refine one_ (i := 2) (N := some 40) #[true, true, true, false, false] rfl rfl (by kernel_rfl) (by decide) (fun K hK => ?_)
      refine goes_ Try.func26 (by kernel_rfl) rfl #[.agg #[.slice A0_0 l0_0.length c0_0]] (by rfl) rfl rfl ar ?_
      with_reducible refine (laws_toArena.calls k _ _ l0_0 t322 _ ?side1 ?side2 A18.out).mono ?_
      (case side1 => exact cl (Kd.C_below HR0_0.out HB.out))
      (case side2 => exact HC0_0.out)
      rintro e w132 ⟨v323, rfl, ho0, hb⟩
      refine ⟨_, rfl, ?_⟩
      have n0_ := Aside0.mk (Kd.R_elder' (rl HO304.out) (Kd.R_base ho0) hb)
      have n1_ := Aside0.mk (Kd.R_below (rl HO307.out) hb)
      have n2_ := Aside0.mk (Kd.R_below (rl HO310.out) hb)
      have n3_ := Aside0.mk (Kd.R_elder' (rl HO313.out) (Kd.R_base ho0) hb)
      have n4_ := Aside0.mk (Kd.R_below (rl HO317.out) hb)
      have n5_ := Aside0.mk (Kd.R_below (rl HO320.out) hb)
      have n6_ := Aside0.mk (Kd.R_lower (Kd.R_new' (Kd.R_new' ho0 (Kd.R_lt (rl HO304.out))) (Kd.R_lt (rl HO313.out))) (below_size (bw HB.out)))
      have n7_ := Aside0.mk (blk_below (g := gb300) (o := .cells #[.slice A0_0 l0_0.length c0_0] 41 (0, 0)) (bl BK300.out) hb)
      have n8_ := Aside0.mk (blk_below (g := gb314) (o := .cells #[.slice Ao122 t311.length co122] 26 (0, 0)) (bl BK314.out) hb)
      have n9_ := Aside0.mk (below_step (bw HB.out) hb)
      clear HO304
      clear HO307
      clear HO310
      clear HO313
      clear HO317
      clear HO320
      clear BK300
      clear BK314
      clear HB
      have HO304 := n0_
      have HO307 := n1_
      have HO310 := n2_
      have HO313 := n3_
      have HO317 := n4_
      have HO320 := n5_
      have HO324 := n6_
      have BK300 := n7_
      have BK314 := n8_
      have HB := n9_
      clear n0_ n1_ n2_ n3_ n4_ n5_ n6_ n7_ n8_ n9_
      (try clear hb)
      (try clear hb2)
      (try clear hk)
      (try clear hi)
      (try clear ho0)
      obtain ⟨Ao133, co133, eo133⟩ := Kd.R_slice HO324.out
      (first | subst eo133 | (injection eo133 with f1_ f2_ f3_; have f4_ := f1_.symm; have f5_ := f3_.symm; clear f1_ f2_ f3_; subst f4_; subst f5_))
      refine hK.out _ _ ⟨(blk_cell BK314.out 0).trans rfl, (blk_cell BK300.out 0).trans rfl⟩ (fun hHeld => ?_)
      clear hK K
      refine norm_ (a' := ?_) ?_ ?_
      rotate_left
      ·show Act.put _ (some 40) _ = _
       simp only [Act.put, List.setIfInBounds_toArray, List.set_cons_zero, List.set_cons_succ, i64_w, i32_w]
       rfl
      refine one_ (i := 3) (N := some 41) #[true, true, true, true, false] rfl rfl (by kernel_rfl) (by decide) (fun K hK => ?_)
      refine goes_ Try.func28 (by kernel_rfl) rfl #[.agg #[.slice Ao122 t311.length co122], .agg #[.slice Ao133 t322.length co133]] (by rfl) rfl rfl ar ?_
      with_reducible refine (laws_eqArena.calls k _ _ t311 _ _ t322 true _ ?side1 ?side2 ?side3 ?side4 A19.out).mono ?_
      (case side1 => exact cl (Kd.R_reads' HO313.out).2.2)
      (case side2 => exact (Kd.R_reads' HO313.out).2.1)
      (case side3 => exact cl (Kd.R_reads' HO324.out).2.2)
      (case side4 => exact (Kd.R_reads' HO324.out).2.1)
      rintro e w134 ⟨rfl, hb⟩
      refine ⟨_, rfl, ?_⟩
      have n0_ := Aside0.mk (Kd.R_below (rl HO304.out) hb)
      have n1_ := Aside0.mk (Kd.R_below (rl HO307.out) hb)
      have n2_ := Aside0.mk (Kd.R_below (rl HO310.out) hb)
      have n3_ := Aside0.mk (Kd.R_below (rl HO313.out) hb)
      have n4_ := Aside0.mk (Kd.R_below (rl HO317.out) hb)
      have n5_ := Aside0.mk (Kd.R_below (rl HO320.out) hb)
      have n6_ := Aside0.mk (Kd.R_below (rl HO324.out) hb)
      have n7_ := Aside0.mk (blk_below (g := gb300) (o := .cells #[.slice A0_0 l0_0.length c0_0] 41 (0, 0)) (bl BK300.out) hb)
      have n8_ := Aside0.mk (blk_below (g := gb314) (o := .cells #[.slice Ao122 t311.length co122] 26 (0, 0)) (bl BK314.out) hb)
      have n9_ := Aside0.mk (below_step (bw HB.out) hb)
      clear HO304
      clear HO307
      clear HO310
      clear HO313
      clear HO317
      clear HO320
      clear HO324
      clear BK300
      clear BK314
      clear HB
      have HO304 := n0_
      have HO307 := n1_
      have HO310 := n2_
      have HO313 := n3_
      have HO317 := n4_
      have HO320 := n5_
      have HO324 := n6_
      have BK300 := n7_
      have BK314 := n8_
      have HB := n9_
      clear n0_ n1_ n2_ n3_ n4_ n5_ n6_ n7_ n8_ n9_
      (try clear hb)
      (try clear hb2)
      (try clear hk)
      (try clear hi)
      refine hK.out _ _ ⟨(blk_cell BK314.out 0).trans rfl, (blk_cell BK300.out 0).trans rfl⟩ (fun hHeld => ?_)
      clear hK K
      refine norm_ (a' := ?_) ?_ ?_
      rotate_left
      ·show Act.put _ (some 41) _ = _
       simp only [Act.put, List.setIfInBounds_toArray, List.set_cons_zero, List.set_cons_succ, i64_w, i32_w]
       rfl
      refine pure_ (i := 4) (N := some 42) (v := ?_) (a' := ?_) #[true, true, true, true, true] rfl rfl (by kernel_rfl) (fun _ _ _ h => h) (Or.inl ⟨by rfl, ?_⟩) ?_ ?_
      rotate_left
      ·intro w'
       go_simp
       with_reducible rfl
      rotate_left
      ·simp only [Act.put, List.setIfInBounds_toArray, List.set_cons_zero, List.set_cons_succ, i64_w, i32_w]
       rfl
      refine done_ (by kernel_rfl) ?_
      try go_wp2_with (first | ((with_reducible refine gate_callee (f := 34) rfl ?_); refine goesL_ (some 45) rfl rfl Try.func34 (by kernel_rfl) rfl #[.slice A1 l1.length c1] rfl ar ?_; (with_reducible refine (laws_toIntS.calls k _ _ l1 t326 _ ?side1 ?side2 A21.out).mono ?_); (case side1 => exact cl (Kd.C_below HR1.out HB.out)); (case side2 => exact HC1.out); rintro e w135 ⟨v327, rfl, ho0, hb⟩; refine ⟨_, rfl, ?_⟩; have n0_ := Aside0.mk (Kd.R_below (rl HO304.out) hb); have n1_ := Aside0.mk (Kd.R_elder' (rl HO307.out) (Kd.R_base ho0) hb); have n2_ := Aside0.mk (Kd.R_below (rl HO310.out) hb); have n3_ := Aside0.mk (Kd.R_below (rl HO313.out) hb); have n4_ := Aside0.mk (Kd.R_elder' (rl HO317.out) (Kd.R_base ho0) hb); have n5_ := Aside0.mk (Kd.R_below (rl HO320.out) hb); have n6_ := Aside0.mk (Kd.R_below (rl HO324.out) hb); have n7_ := Aside0.mk (Kd.R_lower (Kd.R_new' (Kd.R_new' ho0 (Kd.R_lt (rl HO307.out))) (Kd.R_lt (rl HO317.out))) (below_size (bw HB.out))); have n8_ := Aside0.mk (blk_below (g := gb300) (o := .cells #[.slice A0_0 l0_0.length c0_0] 41 (0, 0)) (bl BK300.out) hb); have n9_ := Aside0.mk (blk_below (g := gb314) (o := .cells #[.slice Ao122 t311.length co122] 26 (0, 0)) (bl BK314.out) hb); have n10_ := Aside0.mk (below_step (bw HB.out) hb); clear HO304 HO307 HO310 HO313 HO317 HO320 HO324 BK300 BK314 HB; have HO304 := n0_; have HO307 := n1_; have HO310 := n2_; have HO313 := n3_; have HO317 := n4_; have HO320 := n5_; have HO324 := n6_; have HO328 := n7_; have BK300 := n8_; have BK314 := n9_; have HB := n10_; clear n0_ n1_ n2_ n3_ n4_ n5_ n6_ n7_ n8_ n9_ n10_; (try clear hb); (try clear hb2); (try clear hk); (try clear hi); (try clear ho0); obtain ⟨Ao136, co136, eo136⟩ := Kd.R_slice HO328.out; subst eo136) | ((with_reducible refine gate_callee (f := 36) rfl ?_); refine goesL_ (some 46) rfl rfl Try.func36 (by kernel_rfl) rfl #[.slice Ao127 t315.length co127, .slice Ao136 t326.length co136] rfl ar ?_; (with_reducible refine (laws_eqIntS.calls k _ _ t315 _ _ t326 false _ ?side1 ?side2 ?side3 ?side4 A22.out).mono ?_); (case side1 => exact cl (Kd.R_reads' HO317.out).2.2); (case side2 => exact (Kd.R_reads' HO317.out).2.1); (case side3 => exact cl (Kd.R_reads' HO328.out).2.2); (case side4 => exact (Kd.R_reads' HO328.out).2.1); rintro e w' ⟨rfl, ⟨nd, rfl⟩⟩; refine ⟨_, rfl, ?_⟩))
      go_ret
      exact ⟨by first | rfl | (simp [errW_none, errW_some] <;> rfl) | (simp [*, errW_none, errW_some] <;> rfl), bw HB.out⟩
    ·replace c20 := Bool.eq_false_iff.mpr c20
     subst c20
     have H1 : (some false) = some r := by rw [if_neg (show ¬ (false = true) by decide)] at H; exact H
     clear H
     have H := H1
     clear H1
     obtain rfl := Option.some.inj H
     go_enter Try.func11, Try.ntmps11
     try go_wp2_with (first | ((with_reducible refine gate_dst (N := 2) rfl ?_); refine box_event ?hg (N := 2) ?hd (cs := #[.slice A0_0 l0_0.length c0_0]) (t := 41) ?hr ?_; (case hd => rfl); (case hg => rfl); (case hr => first | (go_simp; done) | (go_simp; rfl)); intro gb300 hg w137 hbox hb; have n0_ := Aside0.mk (below_step (bw HB.out) hb); have n1_ := Aside0.mk (hbox); have n2_ := Aside0.mk ((by rw [hg]; exact (below_size (bw HB.out)) : w.heap.size ≤ gb300)); have n3_ := Aside0.mk ((by rw [hg]; exact (below_size (bw HB.out)) : w.heap.size ≤ gb300)); clear HB; have HB := n0_; have BK300 := n1_; have GW300 := n2_; have GE300 := n3_; clear n0_ n1_ n2_ n3_ hb hbox hg; have hcz138_0 : w137.cell? ⟨gb300, 0, none⟩ = some (.slice A0_0 l0_0.length c0_0) := (blk_cell BK300.out 0).trans rfl; have hfz138_0 := blk_frozen BK300.out 0) | ((with_reducible refine gate_callee (f := 24) rfl ?_); refine goesL_ (some 19) rfl rfl Try.func24 (by kernel_rfl) rfl #[.agg #[.slice A0_0 l0_0.length c0_0], .int .i64 1048576] rfl ar ?_; (with_reducible refine (laws_szArena.calls _ _ l0_0 1048576 t301 _ ?side1 ?side2 A5.out).mono ?_); (case side1 => exact cl (Kd.C_below HR0_0.out HB.out)); (case side2 => exact HC0_0.out); rintro e w139 ⟨rfl, hb⟩; refine ⟨_, rfl, ?_⟩; have n0_ := Aside0.mk (blk_below (g := gb300) (o := .cells #[.slice A0_0 l0_0.length c0_0] 41 (0, 0)) (bl BK300.out) hb); have n1_ := Aside0.mk (below_step (bw HB.out) hb); clear BK300 HB; have BK300 := n0_; have HB := n1_; clear n0_ n1_; (try clear hb); (try clear hb2); (try clear hk); (try clear hi); have hcz140_0 : w139.cell? ⟨gb300, 0, none⟩ = some (.slice A0_0 l0_0.length c0_0) := (blk_cell BK300.out 0).trans rfl; have hfz140_0 := blk_frozen BK300.out 0) | ((with_reducible refine gate_callee (f := 26) rfl ?_); refine goesL_ (some 23) rfl rfl Try.func26 (by kernel_rfl) rfl #[.agg #[.slice A0_0 l0_0.length c0_0]] rfl ar ?_; (with_reducible refine (laws_toArena.calls k _ _ l0_0 t302 _ ?side1 ?side2 A10.out).mono ?_); (case side1 => exact cl (Kd.C_below HR0_0.out HB.out)); (case side2 => exact HC0_0.out); rintro e w141 ⟨v303, rfl, ho0, hb⟩; refine ⟨_, rfl, ?_⟩; have n0_ := Aside0.mk (Kd.R_lower ho0 (below_size (bw HB.out))); have n1_ := Aside0.mk (blk_below (g := gb300) (o := .cells #[.slice A0_0 l0_0.length c0_0] 41 (0, 0)) (bl BK300.out) hb); have n2_ := Aside0.mk (below_step (bw HB.out) hb); clear BK300 HB; have HO304 := n0_; have BK300 := n1_; have HB := n2_; clear n0_ n1_ n2_; (try clear hb); (try clear hb2); (try clear hk); (try clear hi); (try clear ho0)) | ((with_reducible refine gate_callee (f := 34) rfl ?_); refine goesL_ (some 25) rfl rfl Try.func34 (by kernel_rfl) rfl #[.slice A1 l1.length c1] rfl ar ?_; (with_reducible refine (laws_toIntS.calls k _ _ l1 t305 _ ?side1 ?side2 A11.out).mono ?_); (case side1 => exact cl (Kd.C_below HR1.out HB.out)); (case side2 => exact HC1.out); rintro e w142 ⟨v306, rfl, ho0, hb⟩; refine ⟨_, rfl, ?_⟩; have n0_ := Aside0.mk (Kd.R_below (rl HO304.out) hb); have n1_ := Aside0.mk (Kd.R_lower ho0 (below_size (bw HB.out))); have n2_ := Aside0.mk (blk_below (g := gb300) (o := .cells #[.slice A0_0 l0_0.length c0_0] 41 (0, 0)) (bl BK300.out) hb); have n3_ := Aside0.mk (below_step (bw HB.out) hb); clear HO304 BK300 HB; have HO304 := n0_; have HO307 := n1_; have BK300 := n2_; have HB := n3_; clear n0_ n1_ n2_ n3_; (try clear hb); (try clear hb2); (try clear hk); (try clear hi); (try clear ho0); obtain ⟨Ao143, co143, eo143⟩ := Kd.R_slice HO304.out; subst eo143; obtain ⟨Ao144, co144, eo144⟩ := Kd.R_slice HO307.out; subst eo144) | ((with_reducible refine gate_callee (f := 22) rfl ?_); refine goesL_ (some 26) rfl rfl Try.func22 (by kernel_rfl) rfl #[.agg #[.slice Ao143 t302.length co143], .slice Ao144 t305.length co144] rfl ar ?_; (with_reducible refine (spec_Reach.calls k _ _ t302 _ _ t305 t308 _ ?side1 ?side2 ?side3 ?side4 A12.out).mono ?_); (case side1 => exact cl (Kd.R_reads' HO304.out).2.2); (case side2 => exact (Kd.R_reads' HO304.out).2.1); (case side3 => exact cl (Kd.R_reads' HO307.out).2.2); (case side4 => exact (Kd.R_reads' HO307.out).2.1); rintro e w145 ⟨v309, rfl, ho0, hb⟩; refine ⟨_, rfl, ?_⟩; have n0_ := Aside0.mk (Kd.R_below (rl HO304.out) hb); have n1_ := Aside0.mk (Kd.R_below (rl HO307.out) hb); have n2_ := Aside0.mk (Kd.R_lower ho0 (below_size (bw HB.out))); have n3_ := Aside0.mk (blk_below (g := gb300) (o := .cells #[.slice A0_0 l0_0.length c0_0] 41 (0, 0)) (bl BK300.out) hb); have n4_ := Aside0.mk (below_step (bw HB.out) hb); clear HO304 HO307 BK300 HB; have HO304 := n0_; have HO307 := n1_; have HO310 := n2_; have BK300 := n3_; have HB := n4_; clear n0_ n1_ n2_ n3_ n4_; (try clear hb); (try clear hb2); (try clear hk); (try clear hi); (try clear ho0); have hcz146_0 : w145.cell? ⟨gb300, 0, none⟩ = some (.slice A0_0 l0_0.length c0_0) := (blk_cell BK300.out 0).trans rfl; have hfz146_0 := blk_frozen BK300.out 0) | ((with_reducible refine gate_callee (f := 26) rfl ?_); refine goesL_ (some 28) rfl rfl Try.func26 (by kernel_rfl) rfl #[.agg #[.slice A0_0 l0_0.length c0_0]] rfl ar ?_; (with_reducible refine (laws_toArena.calls k _ _ l0_0 t311 _ ?side1 ?side2 A13.out).mono ?_); (case side1 => exact cl (Kd.C_below HR0_0.out HB.out)); (case side2 => exact HC0_0.out); rintro e w147 ⟨v312, rfl, ho0, hb⟩; refine ⟨_, rfl, ?_⟩; have n0_ := Aside0.mk (Kd.R_elder' (rl HO304.out) (Kd.R_base ho0) hb); have n1_ := Aside0.mk (Kd.R_below (rl HO307.out) hb); have n2_ := Aside0.mk (Kd.R_below (rl HO310.out) hb); have n3_ := Aside0.mk (Kd.R_lower (Kd.R_new' ho0 (Kd.R_lt (rl HO304.out))) (below_size (bw HB.out))); have n4_ := Aside0.mk (blk_below (g := gb300) (o := .cells #[.slice A0_0 l0_0.length c0_0] 41 (0, 0)) (bl BK300.out) hb); have n5_ := Aside0.mk (below_step (bw HB.out) hb); clear HO304 HO307 HO310 BK300 HB; have HO304 := n0_; have HO307 := n1_; have HO310 := n2_; have HO313 := n3_; have BK300 := n4_; have HB := n5_; clear n0_ n1_ n2_ n3_ n4_ n5_; (try clear hb); (try clear hb2); (try clear hk); (try clear hi); (try clear ho0)) | ((with_reducible refine gate_dst (N := 7) rfl ?_); refine box_event ?hg (N := 7) ?hd (cs := #[.slice none 0 0]) (t := 26) ?hr ?_; (case hd => rfl); (case hg => rfl); (case hr => first | (go_simp; done) | (go_simp; rfl)); intro gb314 hg w148 hbox hb; have n0_ := Aside0.mk (Kd.R_below (rl HO304.out) hb); have n1_ := Aside0.mk (Kd.R_below (rl HO307.out) hb); have n2_ := Aside0.mk (Kd.R_below (rl HO310.out) hb); have n3_ := Aside0.mk (Kd.R_below (rl HO313.out) hb); have n4_ := Aside0.mk (blk_below (g := gb300) (o := .cells #[.slice A0_0 l0_0.length c0_0] 41 (0, 0)) (bl BK300.out) hb); have n5_ := Aside0.mk (below_step (bw HB.out) hb); have n6_ := Aside0.mk (hbox); have n7_ := Aside0.mk ((by rw [hg]; exact (below_size (bw HB.out)) : w.heap.size ≤ gb314)); have n8_ := Aside0.mk ((by rw [hg]; exact (below_size (bw HB.out)) : w.heap.size ≤ gb314)); have n9_ := Aside0.mk ((by rw [hg]; exact Nat.ne_of_lt (blk_lt (g := gb300) (o := .cells #[.slice A0_0 l0_0.length c0_0] 41 (0, 0)) (bl BK300.out)) : gb300 ≠ gb314)); have n10_ := Aside0.mk ((by rw [hg]; exact Nat.ne_of_gt (blk_lt (g := gb300) (o := .cells #[.slice A0_0 l0_0.length c0_0] 41 (0, 0)) (bl BK300.out)) : gb314 ≠ gb300)); clear HO304 HO307 HO310 HO313 BK300 HB; have HO304 := n0_; have HO307 := n1_; have HO310 := n2_; have HO313 := n3_; have BK300 := n4_; have HB := n5_; have BK314 := n6_; have GW314 := n7_; have GE314 := n8_; have NB300_314 := n9_; have NB314_300 := n10_; clear n0_ n1_ n2_ n3_ n4_ n5_ n6_ n7_ n8_ n9_ n10_ hb hbox hg; obtain ⟨Ao149, co149, eo149⟩ := Kd.R_slice HO313.out; subst eo149; have hnb150 := NB314_300.out; have hnc150 := NB300_314.out; have hcz151_0 : w148.cell? ⟨gb314, 0, none⟩ = some (.slice none 0 0) := (blk_cell BK314.out 0).trans rfl; have hfz151_0 := blk_frozen BK314.out 0) | ((with_reducible refine gate_callee (f := 34) rfl ?_); refine goesL_ (some 30) rfl rfl Try.func34 (by kernel_rfl) rfl #[.slice A1 l1.length c1] rfl ar ?_; (with_reducible refine (laws_toIntS.calls k _ _ l1 t315 _ ?side1 ?side2 A14.out).mono ?_); (case side1 => exact Kd.C_below HR1.out (bw HB.out)); (case side2 => exact HC1.out); rintro e w152 ⟨v316, rfl, ho0, hb⟩; refine ⟨_, rfl, ?_⟩; have n0_ := Aside0.mk (Kd.R_below (by (with_reducible repeat (first | apply Kd.R_alloc | apply Kd.R_drewN | apply Kd.R_drew)); exact (Kd.R_mono (Kd.R_far (p := ⟨gb314, 0, none⟩) (Kd.R_types HO304.out BK314.out (by decide)) (fun _ hk => hk.2) (.slice Ao149 t311.length co149)) (fun _ h_ => h_.1))) hb); have n1_ := Aside0.mk (Kd.R_elder' (by (with_reducible repeat (first | apply Kd.R_alloc | apply Kd.R_drewN | apply Kd.R_drew)); exact (Kd.R_mono (Kd.R_far (p := ⟨gb314, 0, none⟩) (Kd.R_types HO307.out BK314.out (by decide)) (fun _ hk => hk.2) (.slice Ao149 t311.length co149)) (fun _ h_ => h_.1))) (Kd.R_base ho0) hb); have n2_ := Aside0.mk (Kd.R_below (by (with_reducible repeat (first | apply Kd.R_alloc | apply Kd.R_drewN | apply Kd.R_drew)); exact (Kd.R_mono (Kd.R_far (p := ⟨gb314, 0, none⟩) (Kd.R_types HO310.out BK314.out (by decide)) (fun _ hk => hk.2) (.slice Ao149 t311.length co149)) (fun _ h_ => h_.1))) hb); have n3_ := Aside0.mk (Kd.R_below (by (with_reducible repeat (first | apply Kd.R_alloc | apply Kd.R_drewN | apply Kd.R_drew)); exact (Kd.R_mono (Kd.R_far (p := ⟨gb314, 0, none⟩) (Kd.R_types HO313.out BK314.out (by decide)) (fun _ hk => hk.2) (.slice Ao149 t311.length co149)) (fun _ h_ => h_.1))) hb); have n4_ := Aside0.mk (Kd.R_lower (Kd.R_new' ho0 (Kd.R_lt (by (with_reducible repeat (first | apply Kd.R_alloc | apply Kd.R_drewN | apply Kd.R_drew)); exact (Kd.R_mono (Kd.R_far (p := ⟨gb314, 0, none⟩) (Kd.R_types HO307.out BK314.out (by decide)) (fun _ hk => hk.2) (.slice Ao149 t311.length co149)) (fun _ h_ => h_.1))))) (below_size (bw HB.out))); have n5_ := Aside0.mk (blk_below (g := gb300) (o := .cells #[.slice A0_0 l0_0.length c0_0] 41 (0, 0)) (by (with_reducible repeat (first | refine blk_drewN ?_ _ | refine blk_drew ?_ | refine blk_alloc ?_ _)); refine blk_far ?_ NB300_314.out _; (with_reducible repeat (first | refine blk_drewN ?_ _ | refine blk_drew ?_ | refine blk_alloc ?_ _)); exact BK300.out) hb); have n6_ := Aside0.mk (blk_below (g := gb314) (o := .cells #[.slice Ao149 t311.length co149] 26 (0, 0)) (by (with_reducible repeat (first | refine blk_drewN ?_ _ | refine blk_drew ?_ | refine blk_alloc ?_ _)); refine blk_put (cs := #[.slice none 0 0]) ?_ 0 _ rfl; (with_reducible repeat (first | refine blk_drewN ?_ _ | refine blk_drew ?_ | refine blk_alloc ?_ _)); exact BK314.out) hb); have n7_ := Aside0.mk (below_step (bw HB.out) hb); clear HO304 HO307 HO310 HO313 BK300 BK314 HB; have HO304 := n0_; have HO307 := n1_; have HO310 := n2_; have HO313 := n3_; have HO317 := n4_; have BK300 := n5_; have BK314 := n6_; have HB := n7_; clear n0_ n1_ n2_ n3_ n4_ n5_ n6_ n7_; (try clear hb); (try clear hb2); (try clear hk); (try clear hi); (try clear ho0); have hcz153_0 : w152.cell? ⟨gb314, 0, none⟩ = some (.slice Ao149 t311.length co149) := (blk_cell BK314.out 0).trans rfl; have hfz153_0 := blk_frozen BK314.out 0; obtain ⟨Ao154, co154, eo154⟩ := Kd.R_slice HO317.out; subst eo154) | ((with_reducible refine gate_callee (f := 16) rfl ?_); refine goesL_ (some 33) rfl rfl Try.func16 (by kernel_rfl) rfl #[.agg #[.slice Ao149 t311.length co149], .slice Ao154 t315.length co154] rfl ar ?_; (with_reducible refine (impl_Reach.calls k _ _ t311 _ _ t315 t318 _ ?side1 ?side2 ?side3 ?side4 A15.out).mono ?_); (case side1 => exact cl (Kd.R_reads' HO313.out).2.2); (case side2 => exact (Kd.R_reads' HO313.out).2.1); (case side3 => exact cl (Kd.R_reads' HO317.out).2.2); (case side4 => exact (Kd.R_reads' HO317.out).2.1); rintro e w155 ⟨v319, rfl, ho0, hb⟩; refine ⟨_, rfl, ?_⟩; have n0_ := Aside0.mk (Kd.R_below (rl HO304.out) hb); have n1_ := Aside0.mk (Kd.R_below (rl HO307.out) hb); have n2_ := Aside0.mk (Kd.R_elder' (rl HO310.out) (Kd.R_base ho0) hb); have n3_ := Aside0.mk (Kd.R_below (rl HO313.out) hb); have n4_ := Aside0.mk (Kd.R_below (rl HO317.out) hb); have n5_ := Aside0.mk (Kd.R_lower (Kd.R_new' ho0 (Kd.R_lt (rl HO310.out))) (below_size (bw HB.out))); have n6_ := Aside0.mk (blk_below (g := gb300) (o := .cells #[.slice A0_0 l0_0.length c0_0] 41 (0, 0)) (bl BK300.out) hb); have n7_ := Aside0.mk (blk_below (g := gb314) (o := .cells #[.slice Ao149 t311.length co149] 26 (0, 0)) (bl BK314.out) hb); have n8_ := Aside0.mk (below_step (bw HB.out) hb); clear HO304 HO307 HO310 HO313 HO317 BK300 BK314 HB; have HO304 := n0_; have HO307 := n1_; have HO310 := n2_; have HO313 := n3_; have HO317 := n4_; have HO320 := n5_; have BK300 := n6_; have BK314 := n7_; have HB := n8_; clear n0_ n1_ n2_ n3_ n4_ n5_ n6_ n7_ n8_; (try clear hb); (try clear hb2); (try clear hk); (try clear hi); (try clear ho0); obtain ⟨Ao156, co156, eo156⟩ := Kd.R_slice HO320.out; subst eo156; obtain ⟨Ao157, co157, eo157⟩ := Kd.R_slice HO310.out; subst eo157) | ((with_reducible refine gate_callee (f := 62) rfl ?_); refine goesL_ (some 36) rfl rfl Try.func62 (by kernel_rfl) rfl #[.slice Ao156 t318.length co156, .slice Ao157 t308.length co157] rfl ar ?_; (with_reducible refine (laws_eqBoolS.calls k _ _ t318 _ _ t308 true _ ?side1 ?side2 ?side3 ?side4 A16.out).mono ?_); (case side1 => exact cl (Kd.R_reads' HO320.out).2.2); (case side2 => exact (Kd.R_reads' HO320.out).2.1); (case side3 => exact cl (Kd.R_reads' HO310.out).2.2); (case side4 => exact (Kd.R_reads' HO310.out).2.1); rintro e w' ⟨rfl, ⟨nd, rfl⟩⟩; refine ⟨_, rfl, ?_⟩))
     (try (rw [drewN_self w155]; generalize hq_ : World.drewN w155 _ = w155; have n0_ : Aside0 (Kd.R k34 34 w155 w.heap.size (fun k_ => some k_ ≠ (.slice Ao149 t311.length co149 : Value).ownBlock) (.slice Ao143 t302.length co143) t302) := ⟨by rw [← hq_]; exact (by (with_reducible repeat (first | apply Kd.R_alloc | apply Kd.R_drewN | apply Kd.R_drew)); exact Kd.R_mono HO304.out (fun _ hk => hk.2))⟩; have n1_ : Aside0 (Kd.R (Kd.int .i64) 3 w155 w.heap.size (fun k_ => some k_ ≠ (.slice Ao154 t315.length co154 : Value).ownBlock) (.slice Ao144 t305.length co144) t305) := ⟨by rw [← hq_]; exact (by (with_reducible repeat (first | apply Kd.R_alloc | apply Kd.R_drewN | apply Kd.R_drew)); exact Kd.R_mono HO307.out (fun _ hk => hk.2))⟩; have n2_ : Aside0 (Kd.R Kd.bool 4 w155 w.heap.size (fun k_ => some k_ ≠ (.slice Ao156 t318.length co156 : Value).ownBlock) (.slice Ao157 t308.length co157) t308) := ⟨by rw [← hq_]; exact (by (with_reducible repeat (first | apply Kd.R_alloc | apply Kd.R_drewN | apply Kd.R_drew)); exact Kd.R_mono HO310.out (fun _ hk => hk.2))⟩; have n3_ : Aside0 (Kd.R k34 34 w155 w.heap.size (fun k_ => some k_ ≠ (.slice Ao143 t302.length co143 : Value).ownBlock) (.slice Ao149 t311.length co149) t311) := ⟨by rw [← hq_]; exact (by (with_reducible repeat (first | apply Kd.R_alloc | apply Kd.R_drewN | apply Kd.R_drew)); exact Kd.R_mono HO313.out (fun _ hk => hk.2))⟩; have n4_ : Aside0 (Kd.R (Kd.int .i64) 3 w155 w.heap.size (fun k_ => some k_ ≠ (.slice Ao144 t305.length co144 : Value).ownBlock) (.slice Ao154 t315.length co154) t315) := ⟨by rw [← hq_]; exact (by (with_reducible repeat (first | apply Kd.R_alloc | apply Kd.R_drewN | apply Kd.R_drew)); exact Kd.R_mono HO317.out (fun _ hk => hk.2))⟩; have n5_ : Aside0 (Kd.R Kd.bool 4 w155 w.heap.size (fun k_ => some k_ ≠ (.slice Ao157 t308.length co157 : Value).ownBlock) (.slice Ao156 t318.length co156) t318) := ⟨by rw [← hq_]; exact (by (with_reducible repeat (first | apply Kd.R_alloc | apply Kd.R_drewN | apply Kd.R_drew)); exact Kd.R_mono HO320.out (fun _ hk => hk.2))⟩; have n6_ : Aside0 (w155.heap[gb300]? = some (.cells #[.slice A0_0 l0_0.length c0_0] 41 (0, 0))) := ⟨by rw [← hq_]; exact (bl BK300.out)⟩; have n7_ : Aside0 (w155.heap[gb314]? = some (.cells #[.slice Ao149 t311.length co149] 26 (0, 0))) := ⟨by rw [← hq_]; exact (bl BK314.out)⟩; have n8_ : Aside0 (Below w.heap.size w w155) := ⟨by rw [← hq_]; exact (bw HB.out)⟩; clear HO304 HO307 HO310 HO313 HO317 HO320 BK300 BK314 HB hq_; have HO304 := n0_; have HO307 := n1_; have HO310 := n2_; have HO313 := n3_; have HO317 := n4_; have HO320 := n5_; have BK300 := n6_; have BK314 := n7_; have HB := n8_; clear n0_ n1_ n2_ n3_ n4_ n5_ n6_ n7_ n8_))
     have n0_ := Aside0.mk (Kd.R_drew HO304.out)
     have n1_ := Aside0.mk (Kd.R_drew HO307.out)
     have n2_ := Aside0.mk (Kd.R_drew HO310.out)
     have n3_ := Aside0.mk (Kd.R_drew HO313.out)
     have n4_ := Aside0.mk (Kd.R_drew HO317.out)
     have n5_ := Aside0.mk (Kd.R_drew HO320.out)
     have n6_ := Aside0.mk (blk_drew BK300.out)
     have n7_ := Aside0.mk (blk_drew BK314.out)
     have n8_ := Aside0.mk (below_drew1 HB.out)
     clear HO304
     clear HO307
     clear HO310
     clear HO313
     clear HO317
     clear HO320
     clear BK300
     clear BK314
     clear HB
     have HO304 := n0_
     have HO307 := n1_
     have HO310 := n2_
     have HO313 := n3_
     have HO317 := n4_
     have HO320 := n5_
     have BK300 := n6_
     have BK314 := n7_
     have HB := n8_
     clear n0_ n1_ n2_ n3_ n4_ n5_ n6_ n7_ n8_
     refine start_ (n := 5) (S := fun w' => w'.cell? ⟨gb314, 0, none⟩ = some (.slice Ao149 t311.length co149) ∧ w'.cell? ⟨gb300, 0, none⟩ = some (.slice A0_0 l0_0.length c0_0)) (ds := []) #[false, false, false, false, false] (by kernel_rfl) rfl rfl ⟨(blk_cell BK314.out 0).trans rfl, (blk_cell BK300.out 0).trans rfl⟩ (fun hHeld => ?_)
     generalize w155.drew = w158 at HO304 HO307 HO310 HO313 HO317 HO320 BK300 BK314 HB hHeld ⊢
     refine take_ (i := 0) (N := some 38) (v := ?_) (a' := ?_) #[true, false, false, false, false] rfl rfl (by kernel_rfl) (fun _ _ _ h => h) (Or.inl ⟨by rfl, ?_⟩) hHeld ?_ ?_
     rotate_left
     ·rintro w' ⟨s0, s1⟩
      go_simp
      with_reducible rfl
     rotate_left
     ·simp only [Act.put, List.setIfInBounds_toArray, List.set_cons_zero, List.set_cons_succ, i64_w, i32_w]
      rfl
     refine take_ (i := 1) (N := some 39) (v := ?_) (a' := ?_) #[true, true, false, false, false] rfl rfl (by kernel_rfl) (fun _ _ _ h => h) (Or.inl ⟨by rfl, ?_⟩) hHeld ?_ ?_
     rotate_left
     ·rintro w' ⟨s0, s1⟩
      go_simp
      with_reducible rfl
     rotate_left
     ·simp only [Act.put, List.setIfInBounds_toArray, List.set_cons_zero, List.set_cons_succ, i64_w, i32_w]
      rfl
     refine one_ (i := 2) (N := some 40) #[true, true, true, false, false] rfl rfl (by kernel_rfl) (by decide) (fun K hK => ?_)
     refine goes_ Try.func26 (by kernel_rfl) rfl #[.agg #[.slice A0_0 l0_0.length c0_0]] (by rfl) rfl rfl ar ?_
     with_reducible refine (laws_toArena.calls k _ _ l0_0 t322 _ ?side1 ?side2 A18.out).mono ?_
     (case side1 => exact cl (Kd.C_below HR0_0.out HB.out))
     (case side2 => exact HC0_0.out)
     rintro e w159 ⟨v323, rfl, ho0, hb⟩
     refine ⟨_, rfl, ?_⟩
     have n0_ := Aside0.mk (Kd.R_elder' (rl HO304.out) (Kd.R_base ho0) hb)
     have n1_ := Aside0.mk (Kd.R_below (rl HO307.out) hb)
     have n2_ := Aside0.mk (Kd.R_below (rl HO310.out) hb)
     have n3_ := Aside0.mk (Kd.R_elder' (rl HO313.out) (Kd.R_base ho0) hb)
     have n4_ := Aside0.mk (Kd.R_below (rl HO317.out) hb)
     have n5_ := Aside0.mk (Kd.R_below (rl HO320.out) hb)
     have n6_ := Aside0.mk (Kd.R_lower (Kd.R_new' (Kd.R_new' ho0 (Kd.R_lt (rl HO304.out))) (Kd.R_lt (rl HO313.out))) (below_size (bw HB.out)))
     have n7_ := Aside0.mk (blk_below (g := gb300) (o := .cells #[.slice A0_0 l0_0.length c0_0] 41 (0, 0)) (bl BK300.out) hb)
     have n8_ := Aside0.mk (blk_below (g := gb314) (o := .cells #[.slice Ao149 t311.length co149] 26 (0, 0)) (bl BK314.out) hb)
     have n9_ := Aside0.mk (below_step (bw HB.out) hb)
     clear HO304
     clear HO307
     clear HO310
     clear HO313
     clear HO317
     clear HO320
     clear BK300
     clear BK314
     clear HB
     have HO304 := n0_
     have HO307 := n1_
     have HO310 := n2_
     have HO313 := n3_
     have HO317 := n4_
     have HO320 := n5_
     have HO324 := n6_
     have BK300 := n7_
     have BK314 := n8_
     have HB := n9_
     clear n0_ n1_ n2_ n3_ n4_ n5_ n6_ n7_ n8_ n9_
     (try clear hb)
     (try clear hb2)
     (try clear hk)
     (try clear hi)
     (try clear ho0)
     obtain ⟨Ao160, co160, eo160⟩ := Kd.R_slice HO324.out
     (first | subst eo160 | (injection eo160 with f1_ f2_ f3_; have f4_ := f1_.symm; have f5_ := f3_.symm; clear f1_ f2_ f3_; subst f4_; subst f5_))
     refine hK.out _ _ ⟨(blk_cell BK314.out 0).trans rfl, (blk_cell BK300.out 0).trans rfl⟩ (fun hHeld => ?_)
     clear hK K
     refine norm_ (a' := ?_) ?_ ?_
     rotate_left
     ·show Act.put _ (some 40) _ = _
      simp only [Act.put, List.setIfInBounds_toArray, List.set_cons_zero, List.set_cons_succ, i64_w, i32_w]
      rfl
     refine one_ (i := 3) (N := some 41) #[true, true, true, true, false] rfl rfl (by kernel_rfl) (by decide) (fun K hK => ?_)
     refine goes_ Try.func28 (by kernel_rfl) rfl #[.agg #[.slice Ao149 t311.length co149], .agg #[.slice Ao160 t322.length co160]] (by rfl) rfl rfl ar ?_
     with_reducible refine (laws_eqArena.calls k _ _ t311 _ _ t322 false _ ?side1 ?side2 ?side3 ?side4 A19.out).mono ?_
     (case side1 => exact cl (Kd.R_reads' HO313.out).2.2)
     (case side2 => exact (Kd.R_reads' HO313.out).2.1)
     (case side3 => exact cl (Kd.R_reads' HO324.out).2.2)
     (case side4 => exact (Kd.R_reads' HO324.out).2.1)
     rintro e w161 ⟨rfl, hb⟩
     refine ⟨_, rfl, ?_⟩
     have n0_ := Aside0.mk (Kd.R_below (rl HO304.out) hb)
     have n1_ := Aside0.mk (Kd.R_below (rl HO307.out) hb)
     have n2_ := Aside0.mk (Kd.R_below (rl HO310.out) hb)
     have n3_ := Aside0.mk (Kd.R_below (rl HO313.out) hb)
     have n4_ := Aside0.mk (Kd.R_below (rl HO317.out) hb)
     have n5_ := Aside0.mk (Kd.R_below (rl HO320.out) hb)
     have n6_ := Aside0.mk (Kd.R_below (rl HO324.out) hb)
     have n7_ := Aside0.mk (blk_below (g := gb300) (o := .cells #[.slice A0_0 l0_0.length c0_0] 41 (0, 0)) (bl BK300.out) hb)
     have n8_ := Aside0.mk (blk_below (g := gb314) (o := .cells #[.slice Ao149 t311.length co149] 26 (0, 0)) (bl BK314.out) hb)
     have n9_ := Aside0.mk (below_step (bw HB.out) hb)
     clear HO304
     clear HO307
     clear HO310
     clear HO313
     clear HO317
     clear HO320
     clear HO324
     clear BK300
     clear BK314
     clear HB
     have HO304 := n0_
     have HO307 := n1_
     have HO310 := n2_
     have HO313 := n3_
     have HO317 := n4_
     have HO320 := n5_
     have HO324 := n6_
     have BK300 := n7_
     have BK314 := n8_
     have HB := n9_
     clear n0_ n1_ n2_ n3_ n4_ n5_ n6_ n7_ n8_ n9_
     (try clear hb)
     (try clear hb2)
     (try clear hk)
     (try clear hi)
     refine hK.out _ _ ⟨(blk_cell BK314.out 0).trans rfl, (blk_cell BK300.out 0).trans rfl⟩ (fun hHeld => ?_)
     clear hK K
     refine norm_ (a' := ?_) ?_ ?_
     rotate_left
     ·show Act.put _ (some 41) _ = _
      simp only [Act.put, List.setIfInBounds_toArray, List.set_cons_zero, List.set_cons_succ, i64_w, i32_w]
      rfl
     refine pure_ (i := 4) (N := some 42) (v := ?_) (a' := ?_) #[true, true, true, true, true] rfl rfl (by kernel_rfl) (fun _ _ _ h => h) (Or.inl ⟨by rfl, ?_⟩) ?_ ?_
     rotate_left
     ·intro w'
      go_simp
      with_reducible rfl
     rotate_left
     ·simp only [Act.put, List.setIfInBounds_toArray, List.set_cons_zero, List.set_cons_succ, i64_w, i32_w]
      rfl
     refine done_ (by kernel_rfl) ?_
     try go_wp2
     go_ret
     exact ⟨by first | rfl | (simp [errW_none, errW_some] <;> rfl) | (simp [*, errW_none, errW_some] <;> rfl), bw HB.out⟩
   ·replace c17 := Bool.eq_false_iff.mpr c17
    subst c17
    have H1 : (some false) = some r := by rw [if_neg (show ¬ (false = true) by decide)] at H; exact H
    clear H
    have H := H1
    clear H1
    obtain rfl := Option.some.inj H
    go_enter Try.func11, Try.ntmps11
    go_wp2_with (first | ((with_reducible refine gate_dst (N := 2) rfl ?_); refine box_event ?hg (N := 2) ?hd (cs := #[.slice A0_0 l0_0.length c0_0]) (t := 41) ?hr ?_; (case hd => rfl); (case hg => rfl); (case hr => first | (go_simp; done) | (go_simp; rfl)); intro gb300 hg w162 hbox hb; have n0_ := Aside0.mk (below_step (bw HB.out) hb); have n1_ := Aside0.mk (hbox); have n2_ := Aside0.mk ((by rw [hg]; exact (below_size (bw HB.out)) : w.heap.size ≤ gb300)); have n3_ := Aside0.mk ((by rw [hg]; exact (below_size (bw HB.out)) : w.heap.size ≤ gb300)); clear HB; have HB := n0_; have BK300 := n1_; have GW300 := n2_; have GE300 := n3_; clear n0_ n1_ n2_ n3_ hb hbox hg; have hcz163_0 : w162.cell? ⟨gb300, 0, none⟩ = some (.slice A0_0 l0_0.length c0_0) := (blk_cell BK300.out 0).trans rfl; have hfz163_0 := blk_frozen BK300.out 0) | ((with_reducible refine gate_callee (f := 24) rfl ?_); refine goesL_ (some 19) rfl rfl Try.func24 (by kernel_rfl) rfl #[.agg #[.slice A0_0 l0_0.length c0_0], .int .i64 1048576] rfl ar ?_; (with_reducible refine (laws_szArena.calls _ _ l0_0 1048576 t301 _ ?side1 ?side2 A5.out).mono ?_); (case side1 => exact cl (Kd.C_below HR0_0.out HB.out)); (case side2 => exact HC0_0.out); rintro e w164 ⟨rfl, hb⟩; refine ⟨_, rfl, ?_⟩; have n0_ := Aside0.mk (blk_below (g := gb300) (o := .cells #[.slice A0_0 l0_0.length c0_0] 41 (0, 0)) (bl BK300.out) hb); have n1_ := Aside0.mk (below_step (bw HB.out) hb); clear BK300 HB; have BK300 := n0_; have HB := n1_; clear n0_ n1_; (try clear hb); (try clear hb2); (try clear hk); (try clear hi); have hcz165_0 : w164.cell? ⟨gb300, 0, none⟩ = some (.slice A0_0 l0_0.length c0_0) := (blk_cell BK300.out 0).trans rfl; have hfz165_0 := blk_frozen BK300.out 0) | ((with_reducible refine gate_callee (f := 26) rfl ?_); refine goesL_ (some 23) rfl rfl Try.func26 (by kernel_rfl) rfl #[.agg #[.slice A0_0 l0_0.length c0_0]] rfl ar ?_; (with_reducible refine (laws_toArena.calls k _ _ l0_0 t302 _ ?side1 ?side2 A10.out).mono ?_); (case side1 => exact cl (Kd.C_below HR0_0.out HB.out)); (case side2 => exact HC0_0.out); rintro e w166 ⟨v303, rfl, ho0, hb⟩; refine ⟨_, rfl, ?_⟩; have n0_ := Aside0.mk (Kd.R_lower ho0 (below_size (bw HB.out))); have n1_ := Aside0.mk (blk_below (g := gb300) (o := .cells #[.slice A0_0 l0_0.length c0_0] 41 (0, 0)) (bl BK300.out) hb); have n2_ := Aside0.mk (below_step (bw HB.out) hb); clear BK300 HB; have HO304 := n0_; have BK300 := n1_; have HB := n2_; clear n0_ n1_ n2_; (try clear hb); (try clear hb2); (try clear hk); (try clear hi); (try clear ho0)) | ((with_reducible refine gate_callee (f := 34) rfl ?_); refine goesL_ (some 25) rfl rfl Try.func34 (by kernel_rfl) rfl #[.slice A1 l1.length c1] rfl ar ?_; (with_reducible refine (laws_toIntS.calls k _ _ l1 t305 _ ?side1 ?side2 A11.out).mono ?_); (case side1 => exact cl (Kd.C_below HR1.out HB.out)); (case side2 => exact HC1.out); rintro e w167 ⟨v306, rfl, ho0, hb⟩; refine ⟨_, rfl, ?_⟩; have n0_ := Aside0.mk (Kd.R_below (rl HO304.out) hb); have n1_ := Aside0.mk (Kd.R_lower ho0 (below_size (bw HB.out))); have n2_ := Aside0.mk (blk_below (g := gb300) (o := .cells #[.slice A0_0 l0_0.length c0_0] 41 (0, 0)) (bl BK300.out) hb); have n3_ := Aside0.mk (below_step (bw HB.out) hb); clear HO304 BK300 HB; have HO304 := n0_; have HO307 := n1_; have BK300 := n2_; have HB := n3_; clear n0_ n1_ n2_ n3_; (try clear hb); (try clear hb2); (try clear hk); (try clear hi); (try clear ho0); obtain ⟨Ao168, co168, eo168⟩ := Kd.R_slice HO304.out; subst eo168; obtain ⟨Ao169, co169, eo169⟩ := Kd.R_slice HO307.out; subst eo169) | ((with_reducible refine gate_callee (f := 22) rfl ?_); refine goesL_ (some 26) rfl rfl Try.func22 (by kernel_rfl) rfl #[.agg #[.slice Ao168 t302.length co168], .slice Ao169 t305.length co169] rfl ar ?_; (with_reducible refine (spec_Reach.calls k _ _ t302 _ _ t305 t308 _ ?side1 ?side2 ?side3 ?side4 A12.out).mono ?_); (case side1 => exact cl (Kd.R_reads' HO304.out).2.2); (case side2 => exact (Kd.R_reads' HO304.out).2.1); (case side3 => exact cl (Kd.R_reads' HO307.out).2.2); (case side4 => exact (Kd.R_reads' HO307.out).2.1); rintro e w170 ⟨v309, rfl, ho0, hb⟩; refine ⟨_, rfl, ?_⟩; have n0_ := Aside0.mk (Kd.R_below (rl HO304.out) hb); have n1_ := Aside0.mk (Kd.R_below (rl HO307.out) hb); have n2_ := Aside0.mk (Kd.R_lower ho0 (below_size (bw HB.out))); have n3_ := Aside0.mk (blk_below (g := gb300) (o := .cells #[.slice A0_0 l0_0.length c0_0] 41 (0, 0)) (bl BK300.out) hb); have n4_ := Aside0.mk (below_step (bw HB.out) hb); clear HO304 HO307 BK300 HB; have HO304 := n0_; have HO307 := n1_; have HO310 := n2_; have BK300 := n3_; have HB := n4_; clear n0_ n1_ n2_ n3_ n4_; (try clear hb); (try clear hb2); (try clear hk); (try clear hi); (try clear ho0); have hcz171_0 : w170.cell? ⟨gb300, 0, none⟩ = some (.slice A0_0 l0_0.length c0_0) := (blk_cell BK300.out 0).trans rfl; have hfz171_0 := blk_frozen BK300.out 0) | ((with_reducible refine gate_callee (f := 26) rfl ?_); refine goesL_ (some 28) rfl rfl Try.func26 (by kernel_rfl) rfl #[.agg #[.slice A0_0 l0_0.length c0_0]] rfl ar ?_; (with_reducible refine (laws_toArena.calls k _ _ l0_0 t311 _ ?side1 ?side2 A13.out).mono ?_); (case side1 => exact cl (Kd.C_below HR0_0.out HB.out)); (case side2 => exact HC0_0.out); rintro e w172 ⟨v312, rfl, ho0, hb⟩; refine ⟨_, rfl, ?_⟩; have n0_ := Aside0.mk (Kd.R_elder' (rl HO304.out) (Kd.R_base ho0) hb); have n1_ := Aside0.mk (Kd.R_below (rl HO307.out) hb); have n2_ := Aside0.mk (Kd.R_below (rl HO310.out) hb); have n3_ := Aside0.mk (Kd.R_lower (Kd.R_new' ho0 (Kd.R_lt (rl HO304.out))) (below_size (bw HB.out))); have n4_ := Aside0.mk (blk_below (g := gb300) (o := .cells #[.slice A0_0 l0_0.length c0_0] 41 (0, 0)) (bl BK300.out) hb); have n5_ := Aside0.mk (below_step (bw HB.out) hb); clear HO304 HO307 HO310 BK300 HB; have HO304 := n0_; have HO307 := n1_; have HO310 := n2_; have HO313 := n3_; have BK300 := n4_; have HB := n5_; clear n0_ n1_ n2_ n3_ n4_ n5_; (try clear hb); (try clear hb2); (try clear hk); (try clear hi); (try clear ho0)) | ((with_reducible refine gate_dst (N := 7) rfl ?_); refine box_event ?hg (N := 7) ?hd (cs := #[.slice none 0 0]) (t := 26) ?hr ?_; (case hd => rfl); (case hg => rfl); (case hr => first | (go_simp; done) | (go_simp; rfl)); intro gb314 hg w173 hbox hb; have n0_ := Aside0.mk (Kd.R_below (rl HO304.out) hb); have n1_ := Aside0.mk (Kd.R_below (rl HO307.out) hb); have n2_ := Aside0.mk (Kd.R_below (rl HO310.out) hb); have n3_ := Aside0.mk (Kd.R_below (rl HO313.out) hb); have n4_ := Aside0.mk (blk_below (g := gb300) (o := .cells #[.slice A0_0 l0_0.length c0_0] 41 (0, 0)) (bl BK300.out) hb); have n5_ := Aside0.mk (below_step (bw HB.out) hb); have n6_ := Aside0.mk (hbox); have n7_ := Aside0.mk ((by rw [hg]; exact (below_size (bw HB.out)) : w.heap.size ≤ gb314)); have n8_ := Aside0.mk ((by rw [hg]; exact (below_size (bw HB.out)) : w.heap.size ≤ gb314)); have n9_ := Aside0.mk ((by rw [hg]; exact Nat.ne_of_lt (blk_lt (g := gb300) (o := .cells #[.slice A0_0 l0_0.length c0_0] 41 (0, 0)) (bl BK300.out)) : gb300 ≠ gb314)); have n10_ := Aside0.mk ((by rw [hg]; exact Nat.ne_of_gt (blk_lt (g := gb300) (o := .cells #[.slice A0_0 l0_0.length c0_0] 41 (0, 0)) (bl BK300.out)) : gb314 ≠ gb300)); clear HO304 HO307 HO310 HO313 BK300 HB; have HO304 := n0_; have HO307 := n1_; have HO310 := n2_; have HO313 := n3_; have BK300 := n4_; have HB := n5_; have BK314 := n6_; have GW314 := n7_; have GE314 := n8_; have NB300_314 := n9_; have NB314_300 := n10_; clear n0_ n1_ n2_ n3_ n4_ n5_ n6_ n7_ n8_ n9_ n10_ hb hbox hg; obtain ⟨Ao174, co174, eo174⟩ := Kd.R_slice HO313.out; subst eo174; have hnb175 := NB314_300.out; have hnc175 := NB300_314.out; have hcz176_0 : w173.cell? ⟨gb314, 0, none⟩ = some (.slice none 0 0) := (blk_cell BK314.out 0).trans rfl; have hfz176_0 := blk_frozen BK314.out 0) | ((with_reducible refine gate_callee (f := 34) rfl ?_); refine goesL_ (some 30) rfl rfl Try.func34 (by kernel_rfl) rfl #[.slice A1 l1.length c1] rfl ar ?_; (with_reducible refine (laws_toIntS.calls k _ _ l1 t315 _ ?side1 ?side2 A14.out).mono ?_); (case side1 => exact Kd.C_below HR1.out (bw HB.out)); (case side2 => exact HC1.out); rintro e w177 ⟨v316, rfl, ho0, hb⟩; refine ⟨_, rfl, ?_⟩; have n0_ := Aside0.mk (Kd.R_below (by (with_reducible repeat (first | apply Kd.R_alloc | apply Kd.R_drewN | apply Kd.R_drew)); exact (Kd.R_mono (Kd.R_far (p := ⟨gb314, 0, none⟩) (Kd.R_types HO304.out BK314.out (by decide)) (fun _ hk => hk.2) (.slice Ao174 t311.length co174)) (fun _ h_ => h_.1))) hb); have n1_ := Aside0.mk (Kd.R_elder' (by (with_reducible repeat (first | apply Kd.R_alloc | apply Kd.R_drewN | apply Kd.R_drew)); exact (Kd.R_mono (Kd.R_far (p := ⟨gb314, 0, none⟩) (Kd.R_types HO307.out BK314.out (by decide)) (fun _ hk => hk.2) (.slice Ao174 t311.length co174)) (fun _ h_ => h_.1))) (Kd.R_base ho0) hb); have n2_ := Aside0.mk (Kd.R_below (by (with_reducible repeat (first | apply Kd.R_alloc | apply Kd.R_drewN | apply Kd.R_drew)); exact (Kd.R_mono (Kd.R_far (p := ⟨gb314, 0, none⟩) (Kd.R_types HO310.out BK314.out (by decide)) (fun _ hk => hk.2) (.slice Ao174 t311.length co174)) (fun _ h_ => h_.1))) hb); have n3_ := Aside0.mk (Kd.R_below (by (with_reducible repeat (first | apply Kd.R_alloc | apply Kd.R_drewN | apply Kd.R_drew)); exact (Kd.R_mono (Kd.R_far (p := ⟨gb314, 0, none⟩) (Kd.R_types HO313.out BK314.out (by decide)) (fun _ hk => hk.2) (.slice Ao174 t311.length co174)) (fun _ h_ => h_.1))) hb); have n4_ := Aside0.mk (Kd.R_lower (Kd.R_new' ho0 (Kd.R_lt (by (with_reducible repeat (first | apply Kd.R_alloc | apply Kd.R_drewN | apply Kd.R_drew)); exact (Kd.R_mono (Kd.R_far (p := ⟨gb314, 0, none⟩) (Kd.R_types HO307.out BK314.out (by decide)) (fun _ hk => hk.2) (.slice Ao174 t311.length co174)) (fun _ h_ => h_.1))))) (below_size (bw HB.out))); have n5_ := Aside0.mk (blk_below (g := gb300) (o := .cells #[.slice A0_0 l0_0.length c0_0] 41 (0, 0)) (by (with_reducible repeat (first | refine blk_drewN ?_ _ | refine blk_drew ?_ | refine blk_alloc ?_ _)); refine blk_far ?_ NB300_314.out _; (with_reducible repeat (first | refine blk_drewN ?_ _ | refine blk_drew ?_ | refine blk_alloc ?_ _)); exact BK300.out) hb); have n6_ := Aside0.mk (blk_below (g := gb314) (o := .cells #[.slice Ao174 t311.length co174] 26 (0, 0)) (by (with_reducible repeat (first | refine blk_drewN ?_ _ | refine blk_drew ?_ | refine blk_alloc ?_ _)); refine blk_put (cs := #[.slice none 0 0]) ?_ 0 _ rfl; (with_reducible repeat (first | refine blk_drewN ?_ _ | refine blk_drew ?_ | refine blk_alloc ?_ _)); exact BK314.out) hb); have n7_ := Aside0.mk (below_step (bw HB.out) hb); clear HO304 HO307 HO310 HO313 BK300 BK314 HB; have HO304 := n0_; have HO307 := n1_; have HO310 := n2_; have HO313 := n3_; have HO317 := n4_; have BK300 := n5_; have BK314 := n6_; have HB := n7_; clear n0_ n1_ n2_ n3_ n4_ n5_ n6_ n7_; (try clear hb); (try clear hb2); (try clear hk); (try clear hi); (try clear ho0); have hcz178_0 : w177.cell? ⟨gb314, 0, none⟩ = some (.slice Ao174 t311.length co174) := (blk_cell BK314.out 0).trans rfl; have hfz178_0 := blk_frozen BK314.out 0; obtain ⟨Ao179, co179, eo179⟩ := Kd.R_slice HO317.out; subst eo179) | ((with_reducible refine gate_callee (f := 16) rfl ?_); refine goesL_ (some 33) rfl rfl Try.func16 (by kernel_rfl) rfl #[.agg #[.slice Ao174 t311.length co174], .slice Ao179 t315.length co179] rfl ar ?_; (with_reducible refine (impl_Reach.calls k _ _ t311 _ _ t315 t318 _ ?side1 ?side2 ?side3 ?side4 A15.out).mono ?_); (case side1 => exact cl (Kd.R_reads' HO313.out).2.2); (case side2 => exact (Kd.R_reads' HO313.out).2.1); (case side3 => exact cl (Kd.R_reads' HO317.out).2.2); (case side4 => exact (Kd.R_reads' HO317.out).2.1); rintro e w180 ⟨v319, rfl, ho0, hb⟩; refine ⟨_, rfl, ?_⟩; have n0_ := Aside0.mk (Kd.R_below (rl HO304.out) hb); have n1_ := Aside0.mk (Kd.R_below (rl HO307.out) hb); have n2_ := Aside0.mk (Kd.R_elder' (rl HO310.out) (Kd.R_base ho0) hb); have n3_ := Aside0.mk (Kd.R_below (rl HO313.out) hb); have n4_ := Aside0.mk (Kd.R_below (rl HO317.out) hb); have n5_ := Aside0.mk (Kd.R_lower (Kd.R_new' ho0 (Kd.R_lt (rl HO310.out))) (below_size (bw HB.out))); have n6_ := Aside0.mk (blk_below (g := gb300) (o := .cells #[.slice A0_0 l0_0.length c0_0] 41 (0, 0)) (bl BK300.out) hb); have n7_ := Aside0.mk (blk_below (g := gb314) (o := .cells #[.slice Ao174 t311.length co174] 26 (0, 0)) (bl BK314.out) hb); have n8_ := Aside0.mk (below_step (bw HB.out) hb); clear HO304 HO307 HO310 HO313 HO317 BK300 BK314 HB; have HO304 := n0_; have HO307 := n1_; have HO310 := n2_; have HO313 := n3_; have HO317 := n4_; have HO320 := n5_; have BK300 := n6_; have BK314 := n7_; have HB := n8_; clear n0_ n1_ n2_ n3_ n4_ n5_ n6_ n7_ n8_; (try clear hb); (try clear hb2); (try clear hk); (try clear hi); (try clear ho0); obtain ⟨Ao181, co181, eo181⟩ := Kd.R_slice HO320.out; subst eo181; obtain ⟨Ao182, co182, eo182⟩ := Kd.R_slice HO310.out; subst eo182) | ((with_reducible refine gate_callee (f := 62) rfl ?_); refine goesL_ (some 36) rfl rfl Try.func62 (by kernel_rfl) rfl #[.slice Ao181 t318.length co181, .slice Ao182 t308.length co182] rfl ar ?_; (with_reducible refine (laws_eqBoolS.calls k _ _ t318 _ _ t308 false _ ?side1 ?side2 ?side3 ?side4 A16.out).mono ?_); (case side1 => exact cl (Kd.R_reads' HO320.out).2.2); (case side2 => exact (Kd.R_reads' HO320.out).2.1); (case side3 => exact cl (Kd.R_reads' HO310.out).2.2); (case side4 => exact (Kd.R_reads' HO310.out).2.1); rintro e w' ⟨rfl, ⟨nd, rfl⟩⟩; refine ⟨_, rfl, ?_⟩))
    go_ret
    exact ⟨by first | rfl | (simp [errW_none, errW_some] <;> rfl) | (simp [*, errW_none, errW_some] <;> rfl), bw HB.out⟩

end Go.Proofs.Ytkckdibalopagaa.SFnExactReach
