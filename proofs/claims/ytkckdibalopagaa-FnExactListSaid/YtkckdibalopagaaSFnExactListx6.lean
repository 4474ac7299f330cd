-- Began as a print of the kit over stubs (wip/stub.py); the sections that are named OWN are this session's.
import Derived.Test.YtkckdibalopagaaSFnExactListx0
import Derived.Test.YtkckdibalopagaaSFnExactListx2
import Derived.Test.YtkckdibalopagaaSFnExactListx3
import Derived.Test.YtkckdibalopagaaSFnExactListx4
import Derived.Test.YtkckdibalopagaaSFnExactListx5
namespace Go.Proofs.Ytkckdibalopagaa.SFnExactList
open Go.RowKit Go.Proofs.YtkckdibalopagaaW.PrintWords Go.Proofs.YtkckdibalopagaaW.PrintLast Go.Proofs.YtkckdibalopagaaW.PrintMore
attribute [local go_sem] max2_int min2_int max_two min_two max_three min_three max_four min_four   -- for this text's walks alone
set_option linter.unusedVariables false
set_option linter.unusedSimpArgs false

/-! ### laws_FnExactList: function 7 -/
mutual
def laws_FnExactList.j0 : Nat → List Int → Int → List Int → Int → Bool → List (S126) → List (S34) → List (S34) → List (S34) → Option (Bool)
  | 0, _, _, _, _, _, _, _, _, _ => none
  | k + 1, x1, x7, x9, x11, x51, x212000, x224000, x228000, x236000 => if x51 = true then (some false) else ((laws_toArena.f k x212000).bind fun t237 => ((laws_eqArena.f k x228000 t237).bind fun t240 => (if t240 = true then ((laws_toIntS.f k x1).bind fun t241 => ((laws_eqIntS.f k x9 t241).bind fun t244 => (if t244 = true then ((laws_markArena.f k x228000 1).bind fun bt245 => ((laws_markIntS.f k x9 bt245.1).bind fun bt247 => (if bt247.1 < 0 then (laws_FnExactList.j1 k x1 x7 true x212000 x224000 x236000) else ((laws_eqArena.f k x236000 x224000).bind fun t249 => (if t249 = true then (laws_FnExactList.j1 k x1 x7 (x11 != x7) x212000 x224000 x236000) else (laws_FnExactList.j1 k x1 x7 true x212000 x224000 x236000)))))) else (some false)))) else (some false))))
def laws_FnExactList.j1 : Nat → List Int → Int → Bool → List (S126) → List (S34) → List (S34) → Option (Bool)
  | 0, _, _, _, _, _, _ => none
  | k + 1, x1, x7, x80, x212000, x224000, x236000 => if x80 = true then (some false) else ((laws_markArena.f k x236000 1).bind fun bt250 => ((laws_heldArena.f k bt250.2 1).bind fun t252 => (if t252 < 0 then (some false) else (if t252 = bt250.1 then ((laws_toArena.f k x212000).bind fun t253 => ((laws_toIntS.f k x1).bind fun t256 => ((impl_List.f t253 t256).bind fun bt259 => ((laws_eqArena.f k bt259.1 x224000).bind fun t264 => (if t264 = true then (laws_FnExactList.j2 k bt250.1 (bt259.2 != x7) bt250.2) else (laws_FnExactList.j2 k bt250.1 true bt250.2)))))) else (some false)))))
def laws_FnExactList.j2 : Nat → Int → Bool → List (S34) → Option (Bool)
  | 0, _, _, _ => none
  | k + 1, x13, x108, x236000 => if x108 = true then (some false) else ((laws_heldArena.f k x236000 1).bind fun t265 => (if t265 < 0 then (some false) else (if t265 = x13 then (some true) else (some false))))
end
def laws_FnExactList.f (k : Nat) (l0_0 : List (S126)) (l1 : List Int) : Option (Bool) := if (l1.length : Int) > 1048576 then (some true) else ((laws_szArena.f l0_0 1048576).bind fun t212 => (if t212 < 0 then (some true) else ((laws_toArena.f k l0_0).bind fun t213 => ((laws_toIntS.f k l1).bind fun t216 => ((spec_List.f t213 t216).bind fun bt219 => ((laws_toArena.f k l0_0).bind fun t224 => ((laws_toIntS.f k l1).bind fun t228 => ((impl_List.f t224 t228).bind fun bt231 => ((laws_eqArena.f k bt231.1 bt219.1).bind fun t236 => (if t236 = true then (laws_FnExactList.j0 k l1 bt219.2 t228 bt231.2 (bt231.2 != bt219.2) l0_0 bt219.1 t224 bt231.1) else (laws_FnExactList.j0 k l1 bt219.2 t228 bt231.2 true l0_0 bt219.1 t224 bt231.1)))))))))))
theorem laws_FnExactList.mono_l : ∀ k, (∀ y0 y1 y2 y3 y4 y5 y6 y7 y8, LeO (laws_FnExactList.j0 k y0 y1 y2 y3 y4 y5 y6 y7 y8) (laws_FnExactList.j0 (k + 1) y0 y1 y2 y3 y4 y5 y6 y7 y8)) ∧ (∀ y0 y1 y2 y3 y4 y5, LeO (laws_FnExactList.j1 k y0 y1 y2 y3 y4 y5) (laws_FnExactList.j1 (k + 1) y0 y1 y2 y3 y4 y5)) ∧ (∀ y0 y1 y2, LeO (laws_FnExactList.j2 k y0 y1 y2) (laws_FnExactList.j2 (k + 1) y0 y1 y2))
  | 0 => ⟨fun _ _ _ _ _ _ _ _ _ r h => by simp [laws_FnExactList.j0] at h, fun _ _ _ _ _ _ r h => by simp [laws_FnExactList.j1] at h, fun _ _ _ r h => by simp [laws_FnExactList.j2] at h⟩
  | k + 1 => by
    obtain ⟨ih0, ih1, ih2⟩ := laws_FnExactList.mono_l k
    refine ⟨?_, ?_, ?_⟩
    · intro y0 y1 y2 y3 y4 y5 y6 y7 y8
      unfold laws_FnExactList.j0
      repeat' first
      | (with_reducible exact ih0 _ _ _ _ _ _ _ _ _)
      | (with_reducible exact ih1 _ _ _ _ _ _)
      | (with_reducible exact ih2 _ _ _)
      | (with_reducible exact laws_eqArena.mono _ _ _)
      | (with_reducible exact laws_eqIntS.mono _ _ _)
      | (with_reducible exact laws_heldArena.mono _ _ _)
      | (with_reducible exact laws_markArena.mono _ _ _)
      | (with_reducible exact laws_markIntS.mono _ _ _)
      | (with_reducible exact laws_toArena.mono _ _)
      | (with_reducible exact laws_toIntS.mono _ _)
      | (with_reducible exact LeO.refl _)
      | (with_reducible exact LeO.none _)
      | (with_reducible refine LeO.ite ?_ ?_)
      | (with_reducible refine LeO.bind ?_ (fun _ => ?_))
      | exact ih0 _ _ _ _ _ _ _ _ _
      | exact ih1 _ _ _ _ _ _
      | exact ih2 _ _ _
      | exact laws_eqArena.mono _ _ _
      | exact laws_eqIntS.mono _ _ _
      | exact laws_heldArena.mono _ _ _
      | exact laws_markArena.mono _ _ _
      | exact laws_markIntS.mono _ _ _
      | exact laws_toArena.mono _ _
      | exact laws_toIntS.mono _ _
      | exact LeO.none _
      | refine LeO.ite ?_ ?_
      | refine LeO.bind ?_ (fun _ => ?_)
    · intro y0 y1 y2 y3 y4 y5
      unfold laws_FnExactList.j1
      repeat' first
      | (with_reducible exact ih0 _ _ _ _ _ _ _ _ _)
      | (with_reducible exact ih1 _ _ _ _ _ _)
      | (with_reducible exact ih2 _ _ _)
      | (with_reducible exact laws_eqArena.mono _ _ _)
      | (with_reducible exact laws_eqIntS.mono _ _ _)
      | (with_reducible exact laws_heldArena.mono _ _ _)
      | (with_reducible exact laws_markArena.mono _ _ _)
      | (with_reducible exact laws_markIntS.mono _ _ _)
      | (with_reducible exact laws_toArena.mono _ _)
      | (with_reducible exact laws_toIntS.mono _ _)
      | (with_reducible exact LeO.refl _)
      | (with_reducible exact LeO.none _)
      | (with_reducible refine LeO.ite ?_ ?_)
      | (with_reducible refine LeO.bind ?_ (fun _ => ?_))
      | exact ih0 _ _ _ _ _ _ _ _ _
      | exact ih1 _ _ _ _ _ _
      | exact ih2 _ _ _
      | exact laws_eqArena.mono _ _ _
      | exact laws_eqIntS.mono _ _ _
      | exact laws_heldArena.mono _ _ _
      | exact laws_markArena.mono _ _ _
      | exact laws_markIntS.mono _ _ _
      | exact laws_toArena.mono _ _
      | exact laws_toIntS.mono _ _
      | exact LeO.none _
      | refine LeO.ite ?_ ?_
      | refine LeO.bind ?_ (fun _ => ?_)
    · intro y0 y1 y2
      unfold laws_FnExactList.j2
      repeat' first
      | (with_reducible exact ih0 _ _ _ _ _ _ _ _ _)
      | (with_reducible exact ih1 _ _ _ _ _ _)
      | (with_reducible exact ih2 _ _ _)
      | (with_reducible exact laws_eqArena.mono _ _ _)
      | (with_reducible exact laws_eqIntS.mono _ _ _)
      | (with_reducible exact laws_heldArena.mono _ _ _)
      | (with_reducible exact laws_markArena.mono _ _ _)
      | (with_reducible exact laws_markIntS.mono _ _ _)
      | (with_reducible exact laws_toArena.mono _ _)
      | (with_reducible exact laws_toIntS.mono _ _)
      | (with_reducible exact LeO.refl _)
      | (with_reducible exact LeO.none _)
      | (with_reducible refine LeO.ite ?_ ?_)
      | (with_reducible refine LeO.bind ?_ (fun _ => ?_))
      | exact ih0 _ _ _ _ _ _ _ _ _
      | exact ih1 _ _ _ _ _ _
      | exact ih2 _ _ _
      | exact laws_eqArena.mono _ _ _
      | exact laws_eqIntS.mono _ _ _
      | exact laws_heldArena.mono _ _ _
      | exact laws_markArena.mono _ _ _
      | exact laws_markIntS.mono _ _ _
      | exact laws_toArena.mono _ _
      | exact laws_toIntS.mono _ _
      | exact LeO.none _
      | refine LeO.ite ?_ ?_
      | refine LeO.bind ?_ (fun _ => ?_)
theorem laws_FnExactList.mono : ∀ a0 a1 k, LeO (laws_FnExactList.f k a0 a1) (laws_FnExactList.f (k + 1) a0 a1) := by
  intro a0 a1 k
  obtain ⟨ih0, ih1, ih2⟩ := laws_FnExactList.mono_l k
  unfold laws_FnExactList.f
  repeat' first
      | (with_reducible exact ih0 _ _ _ _ _ _ _ _ _)
      | (with_reducible exact ih1 _ _ _ _ _ _)
      | (with_reducible exact ih2 _ _ _)
      | (with_reducible exact laws_eqArena.mono _ _ _)
      | (with_reducible exact laws_eqIntS.mono _ _ _)
      | (with_reducible exact laws_heldArena.mono _ _ _)
      | (with_reducible exact laws_markArena.mono _ _ _)
      | (with_reducible exact laws_markIntS.mono _ _ _)
      | (with_reducible exact laws_toArena.mono _ _)
      | (with_reducible exact laws_toIntS.mono _ _)
      | (with_reducible exact LeO.refl _)
      | (with_reducible exact LeO.none _)
      | (with_reducible refine LeO.ite ?_ ?_)
      | (with_reducible refine LeO.bind ?_ (fun _ => ?_))
      | exact ih0 _ _ _ _ _ _ _ _ _
      | exact ih1 _ _ _ _ _ _
      | exact ih2 _ _ _
      | exact laws_eqArena.mono _ _ _
      | exact laws_eqIntS.mono _ _ _
      | exact laws_heldArena.mono _ _ _
      | exact laws_markArena.mono _ _ _
      | exact laws_markIntS.mono _ _ _
      | exact laws_toArena.mono _ _
      | exact laws_toIntS.mono _ _
      | exact LeO.none _
      | refine LeO.ite ?_ ?_
      | refine LeO.bind ?_ (fun _ => ?_)
set_option maxHeartbeats 8000000 in
set_option maxRecDepth 100000 in
theorem laws_FnExactList.calls (k : Nat) (A0_0 : Option Addr) (c0_0 : Nat) (l0_0 : List (S126)) (A1 : Option Addr) (c1 : Nat) (l1 : List Int) (r : Bool) (w : World) (hr0_0 : Kd.C k126 w A0_0 l0_0.length l0_0) (hc0_0 : l0_0.length ≤ c0_0) (hr1 : Kd.C (Kd.int .i64) w A1 l1.length l1) (hc1 : l1.length ≤ c1) (h : laws_FnExactList.f k l0_0 l1 = some r) :
    Calls Try.prog 7 #[.agg #[.slice A0_0 l0_0.length c0_0], .slice A1 l1.length c1] w fun e w' => e = .returned (.bool r) ∧ Below w.heap.size w w' := by
  have hu41 := Try.underlying41
  have hu26 := Try.underlying26
  have HR0_0 := Aside0.mk hr0_0
  have HC0_0 := Aside0.mk hc0_0
  clear hr0_0 hc0_0
  have HR1 := Aside0.mk hr1
  have HC1 := Aside0.mk hc1
  clear hr1 hc1
  have HB := Aside0.mk (Below.refl w.heap.size w)
  have H : (if (l1.length : Int) > 1048576 then (some true) else ((laws_szArena.f l0_0 1048576).bind fun t212 => (if t212 < 0 then (some true) else ((laws_toArena.f k l0_0).bind fun t213 => ((laws_toIntS.f k l1).bind fun t216 => ((spec_List.f t213 t216).bind fun bt219 => ((laws_toArena.f k l0_0).bind fun t224 => ((laws_toIntS.f k l1).bind fun t228 => ((impl_List.f t224 t228).bind fun bt231 => ((laws_eqArena.f k bt231.1 bt219.1).bind fun t236 => (if t236 = true then (laws_FnExactList.j0 k l1 bt219.2 t228 bt231.2 (bt231.2 != bt219.2) l0_0 bt219.1 t224 bt231.1) else (laws_FnExactList.j0 k l1 bt219.2 t228 bt231.2 true l0_0 bt219.1 t224 bt231.1)))))))))))) = some r := h
  clear h
  by_cases c3 : (l1.length : Int) > 1048576
  · rw [if_pos c3] at H
    have c3b0 : decide (1048576 < (l1.length : Int)) = true := decide_eq_true c3
    have c3b1 : decide (1048576 < l1.length) = true := decide_eq_true (by omega)
    clear c3
    obtain rfl := Option.some.inj H
    go_enter Try.func7, Try.ntmps7
    go_wp2_with (first | ((with_reducible refine gate_dst (N := 2) rfl ?_); refine box_event ?hg (N := 2) ?hd (cs := #[.slice A0_0 l0_0.length c0_0]) (t := 41) ?hr ?_; (case hd => rfl); (case hg => rfl); (case hr => first | (go_simp; done) | (go_simp; rfl)); intro gb211 hg w4 hbox hb; have n0_ := Aside0.mk (below_step (by repeat (first | (with_reducible first | exact HB.out | apply below_alloc | apply pw_below_drewN | apply below_drew1) | exact HB.out)) hb); have n1_ := Aside0.mk (hbox); have n2_ := Aside0.mk ((by rw [hg]; exact (below_size (by repeat (first | (with_reducible first | exact HB.out | apply below_alloc | apply pw_below_drewN | apply below_drew1) | exact HB.out))) : w.heap.size ≤ gb211)); have n3_ := Aside0.mk ((by rw [hg]; exact (below_size (by repeat (first | (with_reducible first | exact HB.out | apply below_alloc | apply pw_below_drewN | apply below_drew1) | exact HB.out))) : w.heap.size ≤ gb211)); clear HB; have HB := n0_; have BK211 := n1_; have GW211 := n2_; have GE211 := n3_; clear n0_ n1_ n2_ n3_; clear hb hbox hg))
    go_ret
    exact ⟨by first | rfl | (simp [errW_none, errW_some] <;> rfl) | (simp [*, errW_none, errW_some] <;> rfl), by repeat (first | (with_reducible first | exact HB.out | apply below_alloc | apply pw_below_drewN | apply below_drew1 | refine below_set ?_ GE211.out) | exact HB.out)⟩
  · rw [if_neg c3] at H
    have c3b0 : decide (1048576 < (l1.length : Int)) = false := decide_eq_false c3
    have c3b1 : decide (1048576 < l1.length) = false := decide_eq_false (by omega)
    clear c3
    replace H := Option.bind_eq_some_iff.mp H
    obtain ⟨t212, A50, H⟩ := H
    replace H : (if t212 < 0 then (some true) else ((laws_toArena.f k l0_0).bind fun t213 => ((laws_toIntS.f k l1).bind fun t216 => ((spec_List.f t213 t216).bind fun bt219 => ((laws_toArena.f k l0_0).bind fun t224 => ((laws_toIntS.f k l1).bind fun t228 => ((impl_List.f t224 t228).bind fun bt231 => ((laws_eqArena.f k bt231.1 bt219.1).bind fun t236 => (if t236 = true then (laws_FnExactList.j0 k l1 bt219.2 t228 bt231.2 (bt231.2 != bt219.2) l0_0 bt219.1 t224 bt231.1) else (laws_FnExactList.j0 k l1 bt219.2 t228 bt231.2 true l0_0 bt219.1 t224 bt231.1)))))))))) = some r := H
    have A5 := Aside0.mk A50
    clear A50
    by_cases c6 : t212 < 0
    · rw [if_pos c6] at H
      have c6b0 : decide (t212 < 0) = true := decide_eq_true c6
      clear c6
      obtain rfl := Option.some.inj H
      go_enter Try.func7, Try.ntmps7
      go_wp2_with (first | ((with_reducible refine gate_dst (N := 2) rfl ?_); refine box_event ?hg (N := 2) ?hd (cs := #[.slice A0_0 l0_0.length c0_0]) (t := 41) ?hr ?_; (case hd => rfl); (case hg => rfl); (case hr => first | (go_simp; done) | (go_simp; rfl)); intro gb211 hg w7 hbox hb; have n0_ := Aside0.mk (below_step (by repeat (first | (with_reducible first | exact HB.out | apply below_alloc | apply pw_below_drewN | apply below_drew1) | exact HB.out)) hb); have n1_ := Aside0.mk (hbox); have n2_ := Aside0.mk ((by rw [hg]; exact (below_size (by repeat (first | (with_reducible first | exact HB.out | apply below_alloc | apply pw_below_drewN | apply below_drew1) | exact HB.out))) : w.heap.size ≤ gb211)); have n3_ := Aside0.mk ((by rw [hg]; exact (below_size (by repeat (first | (with_reducible first | exact HB.out | apply below_alloc | apply pw_below_drewN | apply below_drew1) | exact HB.out))) : w.heap.size ≤ gb211)); clear HB; have HB := n0_; have BK211 := n1_; have GW211 := n2_; have GE211 := n3_; clear n0_ n1_ n2_ n3_; clear hb hbox hg; have hcz8_0 : w7.cell? ⟨gb211, 0, none⟩ = some (.slice A0_0 l0_0.length c0_0) := (blk_cell BK211.out 0).trans rfl; have hfz8_0 := blk_frozen BK211.out 0) | ((with_reducible refine gate_callee (f := 24) rfl ?_); refine goesL_ (some 22) rfl rfl Try.func24 (by kernel_rfl) rfl #[.agg #[.slice A0_0 l0_0.length c0_0], .int .i64 1048576] rfl (by (try simp only [List.map_toArray, List.map_cons, List.map_nil]); first | done | rfl | (simp only [List.length_drop, List.length_take]; rfl)) ?_; (with_reducible refine (laws_szArena.calls _ _ l0_0 1048576 t212 _ ?side1 ?side2 A5.out).mono ?_); (case side1 => repeat (first | exact (Kd.C_below HR0_0.out HB.out) | (with_reducible refine Kd.C_alloc ?_ _) | (with_reducible refine Kd.C_drewN ?_ _) | (with_reducible refine Kd.C_drew ?_))); (case side2 => exact HC0_0.out); rintro e w9 ⟨rfl, hb⟩; refine ⟨_, rfl, ?_⟩; have n0_ := Aside0.mk (blk_below (g := gb211) (o := .cells #[.slice A0_0 l0_0.length c0_0] 41 (0, 0)) (by (with_reducible repeat (first | refine blk_drewN ?_ _ | refine blk_drew ?_ | refine blk_alloc ?_ _)); exact BK211.out) hb); have n1_ := Aside0.mk (below_step (by repeat (first | (with_reducible first | exact HB.out | apply below_alloc | apply pw_below_drewN | apply below_drew1 | refine below_set ?_ GE211.out) | exact HB.out)) hb); clear BK211; clear HB; have BK211 := n0_; have HB := n1_; clear n0_ n1_; (try clear hb); (try clear hb2); (try clear hk); (try clear hi)))
      go_ret
      exact ⟨by first | rfl | (simp [errW_none, errW_some] <;> rfl) | (simp [*, errW_none, errW_some] <;> rfl), by repeat (first | (with_reducible first | exact HB.out | apply below_alloc | apply pw_below_drewN | apply below_drew1 | refine below_set ?_ GE211.out) | exact HB.out)⟩
    · rw [if_neg c6] at H
      have c6b0 : decide (t212 < 0) = false := decide_eq_false c6
      clear c6
      replace H := Option.bind_eq_some_iff.mp H
      obtain ⟨t213, A100, H⟩ := H
      replace H : ((laws_toIntS.f k l1).bind fun t216 => ((spec_List.f t213 t216).bind fun bt219 => ((laws_toArena.f k l0_0).bind fun t224 => ((laws_toIntS.f k l1).bind fun t228 => ((impl_List.f t224 t228).bind fun bt231 => ((laws_eqArena.f k bt231.1 bt219.1).bind fun t236 => (if t236 = true then (laws_FnExactList.j0 k l1 bt219.2 t228 bt231.2 (bt231.2 != bt219.2) l0_0 bt219.1 t224 bt231.1) else (laws_FnExactList.j0 k l1 bt219.2 t228 bt231.2 true l0_0 bt219.1 t224 bt231.1)))))))) = some r := H
      have A10 := Aside0.mk A100
      clear A100
      replace H := Option.bind_eq_some_iff.mp H
      obtain ⟨t216, A110, H⟩ := H
      replace H : ((spec_List.f t213 t216).bind fun bt219 => ((laws_toArena.f k l0_0).bind fun t224 => ((laws_toIntS.f k l1).bind fun t228 => ((impl_List.f t224 t228).bind fun bt231 => ((laws_eqArena.f k bt231.1 bt219.1).bind fun t236 => (if t236 = true then (laws_FnExactList.j0 k l1 bt219.2 t228 bt231.2 (bt231.2 != bt219.2) l0_0 bt219.1 t224 bt231.1) else (laws_FnExactList.j0 k l1 bt219.2 t228 bt231.2 true l0_0 bt219.1 t224 bt231.1))))))) = some r := H
      have A11 := Aside0.mk A110
      clear A110
      replace H := Option.bind_eq_some_iff.mp H
      obtain ⟨⟨t219, t222⟩, A120, H⟩ := H
      replace H : ((laws_toArena.f k l0_0).bind fun t224 => ((laws_toIntS.f k l1).bind fun t228 => ((impl_List.f t224 t228).bind fun bt231 => ((laws_eqArena.f k bt231.1 t219).bind fun t236 => (if t236 = true then (laws_FnExactList.j0 k l1 t222 t228 bt231.2 (bt231.2 != t222) l0_0 t219 t224 bt231.1) else (laws_FnExactList.j0 k l1 t222 t228 bt231.2 true l0_0 t219 t224 bt231.1)))))) = some r := H
      have A12 := Aside0.mk A120
      clear A120
      replace H := Option.bind_eq_some_iff.mp H
      obtain ⟨t224, A130, H⟩ := H
      replace H : ((laws_toIntS.f k l1).bind fun t228 => ((impl_List.f t224 t228).bind fun bt231 => ((laws_eqArena.f k bt231.1 t219).bind fun t236 => (if t236 = true then (laws_FnExactList.j0 k l1 t222 t228 bt231.2 (bt231.2 != t222) l0_0 t219 t224 bt231.1) else (laws_FnExactList.j0 k l1 t222 t228 bt231.2 true l0_0 t219 t224 bt231.1))))) = some r := H
      have A13 := Aside0.mk A130
      clear A130
      replace H := Option.bind_eq_some_iff.mp H
      obtain ⟨t228, A140, H⟩ := H
      replace H : ((impl_List.f t224 t228).bind fun bt231 => ((laws_eqArena.f k bt231.1 t219).bind fun t236 => (if t236 = true then (laws_FnExactList.j0 k l1 t222 t228 bt231.2 (bt231.2 != t222) l0_0 t219 t224 bt231.1) else (laws_FnExactList.j0 k l1 t222 t228 bt231.2 true l0_0 t219 t224 bt231.1)))) = some r := H
      have A14 := Aside0.mk A140
      clear A140
      replace H := Option.bind_eq_some_iff.mp H
      obtain ⟨⟨t231, t234⟩, A150, H⟩ := H
      replace H : ((laws_eqArena.f k t231 t219).bind fun t236 => (if t236 = true then (laws_FnExactList.j0 k l1 t222 t228 t234 (t234 != t222) l0_0 t219 t224 t231) else (laws_FnExactList.j0 k l1 t222 t228 t234 true l0_0 t219 t224 t231))) = some r := H
      have A15 := Aside0.mk A150
      clear A150
      have HC16 := Aside0.mk H
      clear H
      go_enter Try.func7, Try.ntmps7
      go_upto_region 11 with (first | ((with_reducible refine gate_dst (N := 2) rfl ?_); refine box_event ?hg (N := 2) ?hd (cs := #[.slice A0_0 l0_0.length c0_0]) (t := 41) ?hr ?_; (case hd => rfl); (case hg => rfl); (case hr => first | (go_simp; done) | (go_simp; rfl)); intro gb211 hg w17 hbox hb; have n0_ := Aside0.mk (below_step (by repeat (first | (with_reducible first | exact HB.out | apply below_alloc | apply pw_below_drewN | apply below_drew1) | exact HB.out)) hb); have n1_ := Aside0.mk (hbox); have n2_ := Aside0.mk ((by rw [hg]; exact (below_size (by repeat (first | (with_reducible first | exact HB.out | apply below_alloc | apply pw_below_drewN | apply below_drew1) | exact HB.out))) : w.heap.size ≤ gb211)); have n3_ := Aside0.mk ((by rw [hg]; exact (below_size (by repeat (first | (with_reducible first | exact HB.out | apply below_alloc | apply pw_below_drewN | apply below_drew1) | exact HB.out))) : w.heap.size ≤ gb211)); clear HB; have HB := n0_; have BK211 := n1_; have GW211 := n2_; have GE211 := n3_; clear n0_ n1_ n2_ n3_; clear hb hbox hg; have hcz18_0 : w17.cell? ⟨gb211, 0, none⟩ = some (.slice A0_0 l0_0.length c0_0) := (blk_cell BK211.out 0).trans rfl; have hfz18_0 := blk_frozen BK211.out 0) | ((with_reducible refine gate_callee (f := 24) rfl ?_); refine goesL_ (some 22) rfl rfl Try.func24 (by kernel_rfl) rfl #[.agg #[.slice A0_0 l0_0.length c0_0], .int .i64 1048576] rfl (by (try simp only [List.map_toArray, List.map_cons, List.map_nil]); first | done | rfl | (simp only [List.length_drop, List.length_take]; rfl)) ?_; (with_reducible refine (laws_szArena.calls _ _ l0_0 1048576 t212 _ ?side1 ?side2 A5.out).mono ?_); (case side1 => repeat (first | exact (Kd.C_below HR0_0.out HB.out) | (with_reducible refine Kd.C_alloc ?_ _) | (with_reducible refine Kd.C_drewN ?_ _) | (with_reducible refine Kd.C_drew ?_))); (case side2 => exact HC0_0.out); rintro e w19 ⟨rfl, hb⟩; refine ⟨_, rfl, ?_⟩; have n0_ := Aside0.mk (blk_below (g := gb211) (o := .cells #[.slice A0_0 l0_0.length c0_0] 41 (0, 0)) (by (with_reducible repeat (first | refine blk_drewN ?_ _ | refine blk_drew ?_ | refine blk_alloc ?_ _)); exact BK211.out) hb); have n1_ := Aside0.mk (below_step (by repeat (first | (with_reducible first | exact HB.out | apply below_alloc | apply pw_below_drewN | apply below_drew1 | refine below_set ?_ GE211.out) | exact HB.out)) hb); clear BK211; clear HB; have BK211 := n0_; have HB := n1_; clear n0_ n1_; (try clear hb); (try clear hb2); (try clear hk); (try clear hi); have hcz20_0 : w19.cell? ⟨gb211, 0, none⟩ = some (.slice A0_0 l0_0.length c0_0) := (blk_cell BK211.out 0).trans rfl; have hfz20_0 := blk_frozen BK211.out 0) | ((with_reducible refine gate_callee (f := 26) rfl ?_); refine goesL_ (some 27) rfl rfl Try.func26 (by kernel_rfl) rfl #[.agg #[.slice A0_0 l0_0.length c0_0]] rfl (by (try simp only [List.map_toArray, List.map_cons, List.map_nil]); first | done | rfl | (simp only [List.length_drop, List.length_take]; rfl)) ?_; (with_reducible refine (laws_toArena.calls k _ _ l0_0 t213 _ ?side1 ?side2 A10.out).mono ?_); (case side1 => repeat (first | exact (Kd.C_below HR0_0.out HB.out) | (with_reducible refine Kd.C_alloc ?_ _) | (with_reducible refine Kd.C_drewN ?_ _) | (with_reducible refine Kd.C_drew ?_))); (case side2 => exact HC0_0.out); rintro e w21 ⟨v214, rfl, ho0, hb⟩; refine ⟨_, rfl, ?_⟩; have n0_ := Aside0.mk (Kd.R_lower ho0 (below_size (by repeat (first | (with_reducible first | exact HB.out | apply below_alloc | apply pw_below_drewN | apply below_drew1 | refine below_set ?_ GE211.out) | exact HB.out)))); have n1_ := Aside0.mk (blk_below (g := gb211) (o := .cells #[.slice A0_0 l0_0.length c0_0] 41 (0, 0)) (by (with_reducible repeat (first | refine blk_drewN ?_ _ | refine blk_drew ?_ | refine blk_alloc ?_ _)); exact BK211.out) hb); have n2_ := Aside0.mk (below_step (by repeat (first | (with_reducible first | exact HB.out | apply below_alloc | apply pw_below_drewN | apply below_drew1 | refine below_set ?_ GE211.out) | exact HB.out)) hb); clear BK211; clear HB; have HO215 := n0_; have BK211 := n1_; have HB := n2_; clear n0_ n1_ n2_; (try clear hb); (try clear hb2); (try clear hk); (try clear hi); (try clear ho0)) | ((with_reducible refine gate_callee (f := 34) rfl ?_); refine goesL_ (some 29) rfl rfl Try.func34 (by kernel_rfl) rfl #[.slice A1 l1.length c1] rfl (by (try simp only [List.map_toArray, List.map_cons, List.map_nil]); first | done | rfl | (simp only [List.length_drop, List.length_take]; rfl)) ?_; (with_reducible refine (laws_toIntS.calls k _ _ l1 t216 _ ?side1 ?side2 A11.out).mono ?_); (case side1 => repeat (first | exact (Kd.C_below HR1.out HB.out) | (with_reducible refine Kd.C_alloc ?_ _) | (with_reducible refine Kd.C_drewN ?_ _) | (with_reducible refine Kd.C_drew ?_))); (case side2 => exact HC1.out); rintro e w22 ⟨v217, rfl, ho0, hb⟩; refine ⟨_, rfl, ?_⟩; have n0_ := Aside0.mk (Kd.R_below (by (with_reducible repeat (first | apply Kd.R_alloc | apply Kd.R_drewN | apply Kd.R_drew)); exact HO215.out) hb); have n1_ := Aside0.mk (Kd.R_lower ho0 (below_size (by repeat (first | (with_reducible first | exact HB.out | apply below_alloc | apply pw_below_drewN | apply below_drew1 | refine below_set ?_ GE211.out) | exact HB.out)))); have n2_ := Aside0.mk (blk_below (g := gb211) (o := .cells #[.slice A0_0 l0_0.length c0_0] 41 (0, 0)) (by (with_reducible repeat (first | refine blk_drewN ?_ _ | refine blk_drew ?_ | refine blk_alloc ?_ _)); exact BK211.out) hb); have n3_ := Aside0.mk (below_step (by repeat (first | (with_reducible first | exact HB.out | apply below_alloc | apply pw_below_drewN | apply below_drew1 | refine below_set ?_ GE211.out) | exact HB.out)) hb); clear HO215; clear BK211; clear HB; have HO215 := n0_; have HO218 := n1_; have BK211 := n2_; have HB := n3_; clear n0_ n1_ n2_ n3_; (try clear hb); (try clear hb2); (try clear hk); (try clear hi); (try clear ho0); obtain ⟨Ao23, co23, eo23⟩ := Kd.R_slice HO215.out; subst eo23; obtain ⟨Ao24, co24, eo24⟩ := Kd.R_slice HO218.out; subst eo24) | ((with_reducible refine gate_callee (f := 33) rfl ?_); refine goesL_ (some 30) rfl rfl Try.func33 (by kernel_rfl) rfl #[.agg #[.slice Ao23 t213.length co23], .slice Ao24 t216.length co24] rfl (by (try simp only [List.map_toArray, List.map_cons, List.map_nil]); first | done | rfl | (simp only [List.length_drop, List.length_take]; rfl)) ?_; (with_reducible refine (spec_List.calls _ _ t213 _ _ t216 t219 t222 _ ?side1 ?side2 ?side3 ?side4 A12.out).mono ?_); (case side1 => repeat (first | exact (Kd.R_reads' HO215.out).2.2 | (with_reducible refine Kd.C_alloc ?_ _) | (with_reducible refine Kd.C_drewN ?_ _) | (with_reducible refine Kd.C_drew ?_))); (case side2 => exact (Kd.R_reads' HO215.out).2.1); (case side3 => repeat (first | exact (Kd.R_reads' HO218.out).2.2 | (with_reducible refine Kd.C_alloc ?_ _) | (with_reducible refine Kd.C_drewN ?_ _) | (with_reducible refine Kd.C_drew ?_))); (case side4 => exact (Kd.R_reads' HO218.out).2.1); rintro e w25 ⟨v220, rfl, ho0, hb⟩; refine ⟨_, rfl, ?_⟩; have n0_ := Aside0.mk (Kd.R_elder' (by (with_reducible repeat (first | apply Kd.R_alloc | apply Kd.R_drewN | apply Kd.R_drew)); exact HO215.out) (Kd.R_base ho0) hb); have n1_ := Aside0.mk (Kd.R_below (by (with_reducible repeat (first | apply Kd.R_alloc | apply Kd.R_drewN | apply Kd.R_drew)); exact HO218.out) hb); have n2_ := Aside0.mk (Kd.R_lower (Kd.R_new' ho0 (Kd.R_lt (by (with_reducible repeat (first | apply Kd.R_alloc | apply Kd.R_drewN | apply Kd.R_drew)); exact HO215.out))) (below_size (by repeat (first | (with_reducible first | exact HB.out | apply below_alloc | apply pw_below_drewN | apply below_drew1 | refine below_set ?_ GE211.out) | exact HB.out)))); have n3_ := Aside0.mk (blk_below (g := gb211) (o := .cells #[.slice A0_0 l0_0.length c0_0] 41 (0, 0)) (by (with_reducible repeat (first | refine blk_drewN ?_ _ | refine blk_drew ?_ | refine blk_alloc ?_ _)); exact BK211.out) hb); have n4_ := Aside0.mk (below_step (by repeat (first | (with_reducible first | exact HB.out | apply below_alloc | apply pw_below_drewN | apply below_drew1 | refine below_set ?_ GE211.out) | exact HB.out)) hb); clear HO215; clear HO218; clear BK211; clear HB; have HO215 := n0_; have HO218 := n1_; have HO221 := n2_; have BK211 := n3_; have HB := n4_; clear n0_ n1_ n2_ n3_ n4_; (try clear hb); (try clear hb2); (try clear hk); (try clear hi); (try clear ho0)) | ((with_reducible refine gate_dst (N := 6) rfl ?_); refine box_event ?hg (N := 6) ?hd (cs := #[.slice none 0 0]) (t := 26) ?hr ?_; (case hd => rfl); (case hg => rfl); (case hr => first | (go_simp; done) | (go_simp; rfl)); intro gb223 hg w26 hbox hb; have n0_ := Aside0.mk (Kd.R_below (by (with_reducible repeat (first | apply Kd.R_alloc | apply Kd.R_drewN | apply Kd.R_drew)); exact HO215.out) hb); have n1_ := Aside0.mk (Kd.R_below (by (with_reducible repeat (first | apply Kd.R_alloc | apply Kd.R_drewN | apply Kd.R_drew)); exact HO218.out) hb); have n2_ := Aside0.mk (Kd.R_below (by (with_reducible repeat (first | apply Kd.R_alloc | apply Kd.R_drewN | apply Kd.R_drew)); exact HO221.out) hb); have n3_ := Aside0.mk (blk_below (g := gb211) (o := .cells #[.slice A0_0 l0_0.length c0_0] 41 (0, 0)) (by (with_reducible repeat (first | refine blk_drewN ?_ _ | refine blk_drew ?_ | refine blk_alloc ?_ _)); exact BK211.out) hb); have n4_ := Aside0.mk (below_step (by repeat (first | (with_reducible first | exact HB.out | apply below_alloc | apply pw_below_drewN | apply below_drew1 | refine below_set ?_ GE211.out) | exact HB.out)) hb); have n5_ := Aside0.mk (hbox); have n6_ := Aside0.mk ((by rw [hg]; exact (below_size (by repeat (first | (with_reducible first | exact HB.out | apply below_alloc | apply pw_below_drewN | apply below_drew1 | refine below_set ?_ GE211.out) | exact HB.out))) : w.heap.size ≤ gb223)); have n7_ := Aside0.mk ((by rw [hg]; exact (below_size (by repeat (first | (with_reducible first | exact HB.out | apply below_alloc | apply pw_below_drewN | apply below_drew1 | refine below_set ?_ GE211.out) | exact HB.out))) : w.heap.size ≤ gb223)); have n8_ := Aside0.mk ((by rw [hg]; exact Nat.ne_of_lt (blk_lt (g := gb211) (o := .cells #[.slice A0_0 l0_0.length c0_0] 41 (0, 0)) (by (with_reducible repeat (first | refine blk_drewN ?_ _ | refine blk_drew ?_ | refine blk_alloc ?_ _)); exact BK211.out)) : gb211 ≠ gb223)); have n9_ := Aside0.mk ((by rw [hg]; exact Nat.ne_of_gt (blk_lt (g := gb211) (o := .cells #[.slice A0_0 l0_0.length c0_0] 41 (0, 0)) (by (with_reducible repeat (first | refine blk_drewN ?_ _ | refine blk_drew ?_ | refine blk_alloc ?_ _)); exact BK211.out)) : gb223 ≠ gb211)); clear HO215; clear HO218; clear HO221; clear BK211; clear HB; have HO215 := n0_; have HO218 := n1_; have HO221 := n2_; have BK211 := n3_; have HB := n4_; have BK223 := n5_; have GW223 := n6_; have GE223 := n7_; have NB211_223 := n8_; have NB223_211 := n9_; clear n0_ n1_ n2_ n3_ n4_ n5_ n6_ n7_ n8_ n9_; clear hb hbox hg; obtain ⟨Ao27, co27, eo27⟩ := Kd.R_slice HO221.out; subst eo27; have hnb28 := NB223_211.out; have hnc28 := NB211_223.out; have hcz29_0 : w26.cell? ⟨gb223, 0, none⟩ = some (.slice none 0 0) := (blk_cell BK223.out 0).trans rfl; have hfz29_0 := blk_frozen BK223.out 0; have hcz30_0 : w26.cell? ⟨gb211, 0, none⟩ = some (.slice A0_0 l0_0.length c0_0) := (blk_cell BK211.out 0).trans rfl; have hfz30_0 := blk_frozen BK211.out 0) | ((with_reducible refine gate_callee (f := 26) rfl ?_); refine goesL_ (some 34) rfl rfl Try.func26 (by kernel_rfl) rfl #[.agg #[.slice A0_0 l0_0.length c0_0]] rfl (by (try simp only [List.map_toArray, List.map_cons, List.map_nil]); first | done | rfl | (simp only [List.length_drop, List.length_take]; rfl)) ?_; (with_reducible refine (laws_toArena.calls k _ _ l0_0 t224 _ ?side1 ?side2 A13.out).mono ?_); (case side1 => exact Kd.C_below HR0_0.out (by repeat (first | (with_reducible first | exact HB.out | apply below_alloc | apply pw_below_drewN | apply below_drew1 | refine below_set ?_ GE211.out | refine below_set ?_ GE223.out) | exact HB.out))); (case side2 => exact HC0_0.out); rintro e w31 ⟨v225, rfl, ho0, hb⟩; refine ⟨_, rfl, ?_⟩; have n0_ := Aside0.mk (Kd.R_elder' (by (with_reducible repeat (first | apply Kd.R_alloc | apply Kd.R_drewN | apply Kd.R_drew)); exact (Kd.R_mono (Kd.R_far (p := ⟨gb223, 0, none⟩) (Kd.R_types HO215.out BK223.out (by decide)) (fun _ hk => hk.2) (.slice Ao27 t219.length co27)) (fun _ h_ => h_.1))) (Kd.R_base ho0) hb); have n1_ := Aside0.mk (Kd.R_below (by (with_reducible repeat (first | apply Kd.R_alloc | apply Kd.R_drewN | apply Kd.R_drew)); exact (Kd.R_mono (Kd.R_far (p := ⟨gb223, 0, none⟩) (Kd.R_types HO218.out BK223.out (by decide)) (fun _ hk => hk.2) (.slice Ao27 t219.length co27)) (fun _ h_ => h_.1))) hb); have n2_ := Aside0.mk (Kd.R_elder' (by (with_reducible repeat (first | apply Kd.R_alloc | apply Kd.R_drewN | apply Kd.R_drew)); exact (Kd.R_mono (Kd.R_far (p := ⟨gb223, 0, none⟩) (Kd.R_types HO221.out BK223.out (by decide)) (fun _ hk => hk.2) (.slice Ao27 t219.length co27)) (fun _ h_ => h_.1))) (Kd.R_base ho0) hb); have n3_ := Aside0.mk (Kd.R_lower (Kd.R_new' (Kd.R_new' ho0 (Kd.R_lt (by (with_reducible repeat (first | apply Kd.R_alloc | apply Kd.R_drewN | apply Kd.R_drew)); exact (Kd.R_mono (Kd.R_far (p := ⟨gb223, 0, none⟩) (Kd.R_types HO215.out BK223.out (by decide)) (fun _ hk => hk.2) (.slice Ao27 t219.length co27)) (fun _ h_ => h_.1))))) (Kd.R_lt (by (with_reducible repeat (first | apply Kd.R_alloc | apply Kd.R_drewN | apply Kd.R_drew)); exact (Kd.R_mono (Kd.R_far (p := ⟨gb223, 0, none⟩) (Kd.R_types HO221.out BK223.out (by decide)) (fun _ hk => hk.2) (.slice Ao27 t219.length co27)) (fun _ h_ => h_.1))))) (below_size (by repeat (first | (with_reducible first | exact HB.out | apply below_alloc | apply pw_below_drewN | apply below_drew1 | refine below_set ?_ GE211.out | refine below_set ?_ GE223.out) | exact HB.out)))); have n4_ := Aside0.mk (blk_below (g := gb211) (o := .cells #[.slice A0_0 l0_0.length c0_0] 41 (0, 0)) (by (with_reducible repeat (first | refine blk_drewN ?_ _ | refine blk_drew ?_ | refine blk_alloc ?_ _)); refine blk_far ?_ NB211_223.out _; (with_reducible repeat (first | refine blk_drewN ?_ _ | refine blk_drew ?_ | refine blk_alloc ?_ _)); exact BK211.out) hb); have n5_ := Aside0.mk (blk_below (g := gb223) (o := .cells #[.slice Ao27 t219.length co27] 26 (0, 0)) (by (with_reducible repeat (first | refine blk_drewN ?_ _ | refine blk_drew ?_ | refine blk_alloc ?_ _)); refine blk_put (cs := #[.slice none 0 0]) ?_ 0 _ rfl; (with_reducible repeat (first | refine blk_drewN ?_ _ | refine blk_drew ?_ | refine blk_alloc ?_ _)); exact BK223.out) hb); have n6_ := Aside0.mk (below_step (by repeat (first | (with_reducible first | exact HB.out | apply below_alloc | apply pw_below_drewN | apply below_drew1 | refine below_set ?_ GE211.out | refine below_set ?_ GE223.out) | exact HB.out)) hb); clear HO215; clear HO218; clear HO221; clear BK211; clear BK223; clear HB; have HO215 := n0_; have HO218 := n1_; have HO221 := n2_; have HO226 := n3_; have BK211 := n4_; have BK223 := n5_; have HB := n6_; clear n0_ n1_ n2_ n3_ n4_ n5_ n6_; (try clear hb); (try clear hb2); (try clear hk); (try clear hi); (try clear ho0)) | ((with_reducible refine gate_dst (N := 8) rfl ?_); refine box_event ?hg (N := 8) ?hd (cs := #[.slice none 0 0]) (t := 26) ?hr ?_; (case hd => rfl); (case hg => rfl); (case hr => first | (go_simp; done) | (go_simp; rfl)); intro gb227 hg w32 hbox hb; have n0_ := Aside0.mk (Kd.R_below (by (with_reducible repeat (first | apply Kd.R_alloc | apply Kd.R_drewN | apply Kd.R_drew)); exact HO215.out) hb); have n1_ := Aside0.mk (Kd.R_below (by (with_reducible repeat (first | apply Kd.R_alloc | apply Kd.R_drewN | apply Kd.R_drew)); exact HO218.out) hb); have n2_ := Aside0.mk (Kd.R_below (by (with_reducible repeat (first | apply Kd.R_alloc | apply Kd.R_drewN | apply Kd.R_drew)); exact HO221.out) hb); have n3_ := Aside0.mk (Kd.R_below (by (with_reducible repeat (first | apply Kd.R_alloc | apply Kd.R_drewN | apply Kd.R_drew)); exact HO226.out) hb); have n4_ := Aside0.mk (blk_below (g := gb211) (o := .cells #[.slice A0_0 l0_0.length c0_0] 41 (0, 0)) (by (with_reducible repeat (first | refine blk_drewN ?_ _ | refine blk_drew ?_ | refine blk_alloc ?_ _)); exact BK211.out) hb); have n5_ := Aside0.mk (blk_below (g := gb223) (o := .cells #[.slice Ao27 t219.length co27] 26 (0, 0)) (by (with_reducible repeat (first | refine blk_drewN ?_ _ | refine blk_drew ?_ | refine blk_alloc ?_ _)); exact BK223.out) hb); have n6_ := Aside0.mk (below_step (by repeat (first | (with_reducible first | exact HB.out | apply below_alloc | apply pw_below_drewN | apply below_drew1 | refine below_set ?_ GE211.out | refine below_set ?_ GE223.out) | exact HB.out)) hb); have n7_ := Aside0.mk (hbox); have n8_ := Aside0.mk ((by rw [hg]; exact (below_size (by repeat (first | (with_reducible first | exact HB.out | apply below_alloc | apply pw_below_drewN | apply below_drew1 | refine below_set ?_ GE211.out | refine below_set ?_ GE223.out) | exact HB.out))) : w.heap.size ≤ gb227)); have n9_ := Aside0.mk ((by rw [hg]; exact (below_size (by repeat (first | (with_reducible first | exact HB.out | apply below_alloc | apply pw_below_drewN | apply below_drew1 | refine below_set ?_ GE211.out | refine below_set ?_ GE223.out) | exact HB.out))) : w.heap.size ≤ gb227)); have n10_ := Aside0.mk ((by rw [hg]; exact Nat.ne_of_lt (blk_lt (g := gb211) (o := .cells #[.slice A0_0 l0_0.length c0_0] 41 (0, 0)) (by (with_reducible repeat (first | refine blk_drewN ?_ _ | refine blk_drew ?_ | refine blk_alloc ?_ _)); exact BK211.out)) : gb211 ≠ gb227)); have n11_ := Aside0.mk ((by rw [hg]; exact Nat.ne_of_gt (blk_lt (g := gb211) (o := .cells #[.slice A0_0 l0_0.length c0_0] 41 (0, 0)) (by (with_reducible repeat (first | refine blk_drewN ?_ _ | refine blk_drew ?_ | refine blk_alloc ?_ _)); exact BK211.out)) : gb227 ≠ gb211)); have n12_ := Aside0.mk ((by rw [hg]; exact Nat.ne_of_lt (blk_lt (g := gb223) (o := .cells #[.slice Ao27 t219.length co27] 26 (0, 0)) (by (with_reducible repeat (first | refine blk_drewN ?_ _ | refine blk_drew ?_ | refine blk_alloc ?_ _)); exact BK223.out)) : gb223 ≠ gb227)); have n13_ := Aside0.mk ((by rw [hg]; exact Nat.ne_of_gt (blk_lt (g := gb223) (o := .cells #[.slice Ao27 t219.length co27] 26 (0, 0)) (by (with_reducible repeat (first | refine blk_drewN ?_ _ | refine blk_drew ?_ | refine blk_alloc ?_ _)); exact BK223.out)) : gb227 ≠ gb223)); clear HO215; clear HO218; clear HO221; clear HO226; clear BK211; clear BK223; clear HB; have HO215 := n0_; have HO218 := n1_; have HO221 := n2_; have HO226 := n3_; have BK211 := n4_; have BK223 := n5_; have HB := n6_; have BK227 := n7_; have GW227 := n8_; have GE227 := n9_; have NB211_227 := n10_; have NB227_211 := n11_; have NB223_227 := n12_; have NB227_223 := n13_; clear n0_ n1_ n2_ n3_ n4_ n5_ n6_ n7_ n8_ n9_ n10_ n11_ n12_ n13_; clear hb hbox hg; obtain ⟨Ao33, co33, eo33⟩ := Kd.R_slice HO226.out; subst eo33; have hnb34 := NB227_211.out; have hnc34 := NB211_227.out; have hnb35 := NB227_223.out; have hnc35 := NB223_227.out; have hcz36_0 : w32.cell? ⟨gb227, 0, none⟩ = some (.slice none 0 0) := (blk_cell BK227.out 0).trans rfl; have hfz36_0 := blk_frozen BK227.out 0) | ((with_reducible refine gate_callee (f := 34) rfl ?_); refine goesL_ (some 36) rfl rfl Try.func34 (by kernel_rfl) rfl #[.slice A1 l1.length c1] rfl (by (try simp only [List.map_toArray, List.map_cons, List.map_nil]); first | done | rfl | (simp only [List.length_drop, List.length_take]; rfl)) ?_; (with_reducible refine (laws_toIntS.calls k _ _ l1 t228 _ ?side1 ?side2 A14.out).mono ?_); (case side1 => exact Kd.C_below HR1.out (by repeat (first | (with_reducible first | exact HB.out | apply below_alloc | apply pw_below_drewN | apply below_drew1 | refine below_set ?_ GE211.out | refine below_set ?_ GE223.out | refine below_set ?_ GE227.out) | exact HB.out))); (case side2 => exact HC1.out); rintro e w37 ⟨v229, rfl, ho0, hb⟩; refine ⟨_, rfl, ?_⟩; have n0_ := Aside0.mk (Kd.R_below (by (with_reducible repeat (first | apply Kd.R_alloc | apply Kd.R_drewN | apply Kd.R_drew)); exact (Kd.R_mono (Kd.R_far (p := ⟨gb227, 0, none⟩) (Kd.R_types HO215.out BK227.out (by decide)) (fun _ hk => hk.2) (.slice Ao33 t224.length co33)) (fun _ h_ => h_.1))) hb); have n1_ := Aside0.mk (Kd.R_elder' (by (with_reducible repeat (first | apply Kd.R_alloc | apply Kd.R_drewN | apply Kd.R_drew)); exact (Kd.R_mono (Kd.R_far (p := ⟨gb227, 0, none⟩) (Kd.R_types HO218.out BK227.out (by decide)) (fun _ hk => hk.2) (.slice Ao33 t224.length co33)) (fun _ h_ => h_.1))) (Kd.R_base ho0) hb); have n2_ := Aside0.mk (Kd.R_below (by (with_reducible repeat (first | apply Kd.R_alloc | apply Kd.R_drewN | apply Kd.R_drew)); exact (Kd.R_mono (Kd.R_far (p := ⟨gb227, 0, none⟩) (Kd.R_types HO221.out BK227.out (by decide)) (fun _ hk => hk.2) (.slice Ao33 t224.length co33)) (fun _ h_ => h_.1))) hb); have n3_ := Aside0.mk (Kd.R_below (by (with_reducible repeat (first | apply Kd.R_alloc | apply Kd.R_drewN | apply Kd.R_drew)); exact (Kd.R_mono (Kd.R_far (p := ⟨gb227, 0, none⟩) (Kd.R_types HO226.out BK227.out (by decide)) (fun _ hk => hk.2) (.slice Ao33 t224.length co33)) (fun _ h_ => h_.1))) hb); have n4_ := Aside0.mk (Kd.R_lower (Kd.R_new' ho0 (Kd.R_lt (by (with_reducible repeat (first | apply Kd.R_alloc | apply Kd.R_drewN | apply Kd.R_drew)); exact (Kd.R_mono (Kd.R_far (p := ⟨gb227, 0, none⟩) (Kd.R_types HO218.out BK227.out (by decide)) (fun _ hk => hk.2) (.slice Ao33 t224.length co33)) (fun _ h_ => h_.1))))) (below_size (by repeat (first | (with_reducible first | exact HB.out | apply below_alloc | apply pw_below_drewN | apply below_drew1 | refine below_set ?_ GE211.out | refine below_set ?_ GE223.out | refine below_set ?_ GE227.out) | exact HB.out)))); have n5_ := Aside0.mk (blk_below (g := gb211) (o := .cells #[.slice A0_0 l0_0.length c0_0] 41 (0, 0)) (by (with_reducible repeat (first | refine blk_drewN ?_ _ | refine blk_drew ?_ | refine blk_alloc ?_ _)); refine blk_far ?_ NB211_227.out _; (with_reducible repeat (first | refine blk_drewN ?_ _ | refine blk_drew ?_ | refine blk_alloc ?_ _)); exact BK211.out) hb); have n6_ := Aside0.mk (blk_below (g := gb223) (o := .cells #[.slice Ao27 t219.length co27] 26 (0, 0)) (by (with_reducible repeat (first | refine blk_drewN ?_ _ | refine blk_drew ?_ | refine blk_alloc ?_ _)); refine blk_far ?_ NB223_227.out _; (with_reducible repeat (first | refine blk_drewN ?_ _ | refine blk_drew ?_ | refine blk_alloc ?_ _)); exact BK223.out) hb); have n7_ := Aside0.mk (blk_below (g := gb227) (o := .cells #[.slice Ao33 t224.length co33] 26 (0, 0)) (by (with_reducible repeat (first | refine blk_drewN ?_ _ | refine blk_drew ?_ | refine blk_alloc ?_ _)); refine blk_put (cs := #[.slice none 0 0]) ?_ 0 _ rfl; (with_reducible repeat (first | refine blk_drewN ?_ _ | refine blk_drew ?_ | refine blk_alloc ?_ _)); exact BK227.out) hb); have n8_ := Aside0.mk (below_step (by repeat (first | (with_reducible first | exact HB.out | apply below_alloc | apply pw_below_drewN | apply below_drew1 | refine below_set ?_ GE211.out | refine below_set ?_ GE223.out | refine below_set ?_ GE227.out) | exact HB.out)) hb); clear HO215; clear HO218; clear HO221; clear HO226; clear BK211; clear BK223; clear BK227; clear HB; have HO215 := n0_; have HO218 := n1_; have HO221 := n2_; have HO226 := n3_; have HO230 := n4_; have BK211 := n5_; have BK223 := n6_; have BK227 := n7_; have HB := n8_; clear n0_ n1_ n2_ n3_ n4_ n5_ n6_ n7_ n8_; (try clear hb); (try clear hb2); (try clear hk); (try clear hi); (try clear ho0); have hcz38_0 : w37.cell? ⟨gb227, 0, none⟩ = some (.slice Ao33 t224.length co33) := (blk_cell BK227.out 0).trans rfl; have hfz38_0 := blk_frozen BK227.out 0; obtain ⟨Ao39, co39, eo39⟩ := Kd.R_slice HO230.out; subst eo39) | ((with_reducible refine gate_callee (f := 35) rfl ?_); refine goesL_ (some 40) rfl rfl Try.func35 (by kernel_rfl) rfl #[.agg #[.slice Ao33 t224.length co33], .slice Ao39 t228.length co39] rfl (by (try simp only [List.map_toArray, List.map_cons, List.map_nil]); first | done | rfl | (simp only [List.length_drop, List.length_take]; rfl)) ?_; (with_reducible refine (impl_List.calls _ _ t224 _ _ t228 t231 t234 _ ?side1 ?side2 ?side3 ?side4 A15.out).mono ?_); (case side1 => repeat (first | exact (Kd.R_reads' HO226.out).2.2 | (with_reducible refine Kd.C_alloc ?_ _) | (with_reducible refine Kd.C_drewN ?_ _) | (with_reducible refine Kd.C_drew ?_))); (case side2 => exact (Kd.R_reads' HO226.out).2.1); (case side3 => repeat (first | exact (Kd.R_reads' HO230.out).2.2 | (with_reducible refine Kd.C_alloc ?_ _) | (with_reducible refine Kd.C_drewN ?_ _) | (with_reducible refine Kd.C_drew ?_))); (case side4 => exact (Kd.R_reads' HO230.out).2.1); rintro e w40 ⟨v232, rfl, ho0, hb⟩; refine ⟨_, rfl, ?_⟩; have n0_ := Aside0.mk (Kd.R_elder' (by (with_reducible repeat (first | apply Kd.R_alloc | apply Kd.R_drewN | apply Kd.R_drew)); exact HO215.out) (Kd.R_base ho0) hb); have n1_ := Aside0.mk (Kd.R_below (by (with_reducible repeat (first | apply Kd.R_alloc | apply Kd.R_drewN | apply Kd.R_drew)); exact HO218.out) hb); have n2_ := Aside0.mk (Kd.R_elder' (by (with_reducible repeat (first | apply Kd.R_alloc | apply Kd.R_drewN | apply Kd.R_drew)); exact HO221.out) (Kd.R_base ho0) hb); have n3_ := Aside0.mk (Kd.R_elder' (by (with_reducible repeat (first | apply Kd.R_alloc | apply Kd.R_drewN | apply Kd.R_drew)); exact HO226.out) (Kd.R_base ho0) hb); have n4_ := Aside0.mk (Kd.R_below (by (with_reducible repeat (first | apply Kd.R_alloc | apply Kd.R_drewN | apply Kd.R_drew)); exact HO230.out) hb); have n5_ := Aside0.mk (Kd.R_lower (Kd.R_new' (Kd.R_new' (Kd.R_new' ho0 (Kd.R_lt (by (with_reducible repeat (first | apply Kd.R_alloc | apply Kd.R_drewN | apply Kd.R_drew)); exact HO215.out))) (Kd.R_lt (by (with_reducible repeat (first | apply Kd.R_alloc | apply Kd.R_drewN | apply Kd.R_drew)); exact HO221.out))) (Kd.R_lt (by (with_reducible repeat (first | apply Kd.R_alloc | apply Kd.R_drewN | apply Kd.R_drew)); exact HO226.out))) (below_size (by repeat (first | (with_reducible first | exact HB.out | apply below_alloc | apply pw_below_drewN | apply below_drew1 | refine below_set ?_ GE211.out | refine below_set ?_ GE223.out | refine below_set ?_ GE227.out) | exact HB.out)))); have n6_ := Aside0.mk (blk_below (g := gb211) (o := .cells #[.slice A0_0 l0_0.length c0_0] 41 (0, 0)) (by (with_reducible repeat (first | refine blk_drewN ?_ _ | refine blk_drew ?_ | refine blk_alloc ?_ _)); exact BK211.out) hb); have n7_ := Aside0.mk (blk_below (g := gb223) (o := .cells #[.slice Ao27 t219.length co27] 26 (0, 0)) (by (with_reducible repeat (first | refine blk_drewN ?_ _ | refine blk_drew ?_ | refine blk_alloc ?_ _)); exact BK223.out) hb); have n8_ := Aside0.mk (blk_below (g := gb227) (o := .cells #[.slice Ao33 t224.length co33] 26 (0, 0)) (by (with_reducible repeat (first | refine blk_drewN ?_ _ | refine blk_drew ?_ | refine blk_alloc ?_ _)); exact BK227.out) hb); have n9_ := Aside0.mk (below_step (by repeat (first | (with_reducible first | exact HB.out | apply below_alloc | apply pw_below_drewN | apply below_drew1 | refine below_set ?_ GE211.out | refine below_set ?_ GE223.out | refine below_set ?_ GE227.out) | exact HB.out)) hb); clear HO215; clear HO218; clear HO221; clear HO226; clear HO230; clear BK211; clear BK223; clear BK227; clear HB; have HO215 := n0_; have HO218 := n1_; have HO221 := n2_; have HO226 := n3_; have HO230 := n4_; have HO233 := n5_; have BK211 := n6_; have BK223 := n7_; have BK227 := n8_; have HB := n9_; clear n0_ n1_ n2_ n3_ n4_ n5_ n6_ n7_ n8_ n9_; (try clear hb); (try clear hb2); (try clear hk); (try clear hi); (try clear ho0)) | ((with_reducible refine gate_dst (N := 10) rfl ?_); refine box_event ?hg (N := 10) ?hd (cs := #[.slice none 0 0]) (t := 26) ?hr ?_; (case hd => rfl); (case hg => rfl); (case hr => first | (go_simp; done) | (go_simp; rfl)); intro gb235 hg w41 hbox hb; have n0_ := Aside0.mk (Kd.R_below (by (with_reducible repeat (first | apply Kd.R_alloc | apply Kd.R_drewN | apply Kd.R_drew)); exact HO215.out) hb); have n1_ := Aside0.mk (Kd.R_below (by (with_reducible repeat (first | apply Kd.R_alloc | apply Kd.R_drewN | apply Kd.R_drew)); exact HO218.out) hb); have n2_ := Aside0.mk (Kd.R_below (by (with_reducible repeat (first | apply Kd.R_alloc | apply Kd.R_drewN | apply Kd.R_drew)); exact HO221.out) hb); have n3_ := Aside0.mk (Kd.R_below (by (with_reducible repeat (first | apply Kd.R_alloc | apply Kd.R_drewN | apply Kd.R_drew)); exact HO226.out) hb); have n4_ := Aside0.mk (Kd.R_below (by (with_reducible repeat (first | apply Kd.R_alloc | apply Kd.R_drewN | apply Kd.R_drew)); exact HO230.out) hb); have n5_ := Aside0.mk (Kd.R_below (by (with_reducible repeat (first | apply Kd.R_alloc | apply Kd.R_drewN | apply Kd.R_drew)); exact HO233.out) hb); have n6_ := Aside0.mk (blk_below (g := gb211) (o := .cells #[.slice A0_0 l0_0.length c0_0] 41 (0, 0)) (by (with_reducible repeat (first | refine blk_drewN ?_ _ | refine blk_drew ?_ | refine blk_alloc ?_ _)); exact BK211.out) hb); have n7_ := Aside0.mk (blk_below (g := gb223) (o := .cells #[.slice Ao27 t219.length co27] 26 (0, 0)) (by (with_reducible repeat (first | refine blk_drewN ?_ _ | refine blk_drew ?_ | refine blk_alloc ?_ _)); exact BK223.out) hb); have n8_ := Aside0.mk (blk_below (g := gb227) (o := .cells #[.slice Ao33 t224.length co33] 26 (0, 0)) (by (with_reducible repeat (first | refine blk_drewN ?_ _ | refine blk_drew ?_ | refine blk_alloc ?_ _)); exact BK227.out) hb); have n9_ := Aside0.mk (below_step (by repeat (first | (with_reducible first | exact HB.out | apply below_alloc | apply pw_below_drewN | apply below_drew1 | refine below_set ?_ GE211.out | refine below_set ?_ GE223.out | refine below_set ?_ GE227.out) | exact HB.out)) hb); have n10_ := Aside0.mk (hbox); have n11_ := Aside0.mk ((by rw [hg]; exact (below_size (by repeat (first | (with_reducible first | exact HB.out | apply below_alloc | apply pw_below_drewN | apply below_drew1 | refine below_set ?_ GE211.out | refine below_set ?_ GE223.out | refine below_set ?_ GE227.out) | exact HB.out))) : w.heap.size ≤ gb235)); have n12_ := Aside0.mk ((by rw [hg]; exact (below_size (by repeat (first | (with_reducible first | exact HB.out | apply below_alloc | apply pw_below_drewN | apply below_drew1 | refine below_set ?_ GE211.out | refine below_set ?_ GE223.out | refine below_set ?_ GE227.out) | exact HB.out))) : w.heap.size ≤ gb235)); have n13_ := Aside0.mk ((by rw [hg]; exact Nat.ne_of_lt (blk_lt (g := gb211) (o := .cells #[.slice A0_0 l0_0.length c0_0] 41 (0, 0)) (by (with_reducible repeat (first | refine blk_drewN ?_ _ | refine blk_drew ?_ | refine blk_alloc ?_ _)); exact BK211.out)) : gb211 ≠ gb235)); have n14_ := Aside0.mk ((by rw [hg]; exact Nat.ne_of_gt (blk_lt (g := gb211) (o := .cells #[.slice A0_0 l0_0.length c0_0] 41 (0, 0)) (by (with_reducible repeat (first | refine blk_drewN ?_ _ | refine blk_drew ?_ | refine blk_alloc ?_ _)); exact BK211.out)) : gb235 ≠ gb211)); have n15_ := Aside0.mk ((by rw [hg]; exact Nat.ne_of_lt (blk_lt (g := gb223) (o := .cells #[.slice Ao27 t219.length co27] 26 (0, 0)) (by (with_reducible repeat (first | refine blk_drewN ?_ _ | refine blk_drew ?_ | refine blk_alloc ?_ _)); exact BK223.out)) : gb223 ≠ gb235)); have n16_ := Aside0.mk ((by rw [hg]; exact Nat.ne_of_gt (blk_lt (g := gb223) (o := .cells #[.slice Ao27 t219.length co27] 26 (0, 0)) (by (with_reducible repeat (first | refine blk_drewN ?_ _ | refine blk_drew ?_ | refine blk_alloc ?_ _)); exact BK223.out)) : gb235 ≠ gb223)); have n17_ := Aside0.mk ((by rw [hg]; exact Nat.ne_of_lt (blk_lt (g := gb227) (o := .cells #[.slice Ao33 t224.length co33] 26 (0, 0)) (by (with_reducible repeat (first | refine blk_drewN ?_ _ | refine blk_drew ?_ | refine blk_alloc ?_ _)); exact BK227.out)) : gb227 ≠ gb235)); have n18_ := Aside0.mk ((by rw [hg]; exact Nat.ne_of_gt (blk_lt (g := gb227) (o := .cells #[.slice Ao33 t224.length co33] 26 (0, 0)) (by (with_reducible repeat (first | refine blk_drewN ?_ _ | refine blk_drew ?_ | refine blk_alloc ?_ _)); exact BK227.out)) : gb235 ≠ gb227)); clear HO215; clear HO218; clear HO221; clear HO226; clear HO230; clear HO233; clear BK211; clear BK223; clear BK227; clear HB; have HO215 := n0_; have HO218 := n1_; have HO221 := n2_; have HO226 := n3_; have HO230 := n4_; have HO233 := n5_; have BK211 := n6_; have BK223 := n7_; have BK227 := n8_; have HB := n9_; have BK235 := n10_; have GW235 := n11_; have GE235 := n12_; have NB211_235 := n13_; have NB235_211 := n14_; have NB223_235 := n15_; have NB235_223 := n16_; have NB227_235 := n17_; have NB235_227 := n18_; clear n0_ n1_ n2_ n3_ n4_ n5_ n6_ n7_ n8_ n9_ n10_ n11_ n12_ n13_ n14_ n15_ n16_ n17_ n18_; clear hb hbox hg; obtain ⟨Ao42, co42, eo42⟩ := Kd.R_slice HO233.out; subst eo42; have hnb43 := NB235_211.out; have hnc43 := NB211_235.out; have hnb44 := NB235_223.out; have hnc44 := NB223_235.out; have hnb45 := NB235_227.out; have hnc45 := NB227_235.out; have hcz46_0 : w41.cell? ⟨gb235, 0, none⟩ = some (.slice none 0 0) := (blk_cell BK235.out 0).trans rfl; have hfz46_0 := blk_frozen BK235.out 0))
      (try simp only [Act.put, List.setIfInBounds_toArray, List.set_cons_zero, List.set_cons_succ])
      go_cut [51] (fun v51 wc => ∃ (kq : Nat) (x51_15 : Bool), v51 = .bool x51_15 ∧ Aside0 (laws_FnExactList.j0 kq l1 t222 t228 t234 x51_15 l0_0 t219 t224 t231 = some r) ∧ Aside0 (kq ≤ k) ∧ Aside0 (Kd.R (Kd.int .i64) 3 wc w.heap.size (fun _ => True) (.slice Ao39 t228.length co39) t228) ∧ Aside0 (Kd.R k34 34 wc w.heap.size (fun k_ => some k_ ≠ ((.slice Ao33 t224.length co33) : Value).ownBlock ∧ some k_ ≠ ((.slice Ao42 t231.length co42) : Value).ownBlock) (.slice Ao27 t219.length co27) t219) ∧ Aside0 (Kd.R k34 34 wc w.heap.size (fun k_ => some k_ ≠ ((.slice Ao27 t219.length co27) : Value).ownBlock ∧ some k_ ≠ ((.slice Ao42 t231.length co42) : Value).ownBlock) (.slice Ao33 t224.length co33) t224) ∧ Aside0 (Kd.R k34 34 wc w.heap.size (fun k_ => some k_ ≠ ((.slice Ao27 t219.length co27) : Value).ownBlock ∧ some k_ ≠ ((.slice Ao33 t224.length co33) : Value).ownBlock) (.slice Ao42 t231.length co42) t231) ∧ Aside0 (wc.heap[gb211]? = some (.cells #[(.slice A0_0 l0_0.length c0_0)] 41 (0, 0))) ∧ Aside0 (wc.heap[gb223]? = some (.cells #[(.slice Ao27 t219.length co27)] 26 (0, 0))) ∧ Aside0 (wc.heap[gb227]? = some (.cells #[(.slice Ao33 t224.length co33)] 26 (0, 0))) ∧ Aside0 (wc.heap[gb235]? = some (.cells #[(.slice Ao42 t231.length co42)] 26 (0, 0))) ∧ Aside0 (Below w.heap.size w wc))
      case first =>
        have H := HC16.out
        clear HC16
        replace H := Option.bind_eq_some_iff.mp H
        obtain ⟨t236, A470, H⟩ := H
        replace H : (if t236 = true then (laws_FnExactList.j0 k l1 t222 t228 t234 (t234 != t222) l0_0 t219 t224 t231) else (laws_FnExactList.j0 k l1 t222 t228 t234 true l0_0 t219 t224 t231)) = some r := H
        have A47 := Aside0.mk A470
        clear A470
        by_cases c48 : t236 = true
        · subst c48
          have H1 : (laws_FnExactList.j0 k l1 t222 t228 t234 (t234 != t222) l0_0 t219 t224 t231) = some r := by rw [if_pos rfl] at H; exact H
          clear H
          have H := H1
          clear H1
          have H' := Aside0.mk H
          clear H
          have hnb49 := NB235_211.out
          have hnc49 := NB211_235.out
          have hnb50 := NB235_223.out
          have hnc50 := NB223_235.out
          have hnb51 := NB235_227.out
          have hnc51 := NB227_235.out
          have hcz52_0 : w41.cell? ⟨gb235, 0, none⟩ = some (.slice none 0 0) := (blk_cell BK235.out 0).trans rfl
          have hfz52_0 := blk_frozen BK235.out 0
          have hnb53 := NB223_211.out
          have hnc53 := NB211_223.out
          have hnb54 := NB223_227.out
          have hnc54 := NB227_223.out
          have hcz55_0 : w41.cell? ⟨gb223, 0, none⟩ = some (.slice Ao27 t219.length co27) := (blk_cell BK223.out 0).trans rfl
          have hfz55_0 := blk_frozen BK223.out 0
          go_wp2_with (first | ((with_reducible refine gate_callee (f := 28) rfl ?_); refine goesL_ (some 45) rfl rfl Try.func28 (by kernel_rfl) rfl #[.agg #[.slice Ao42 t231.length co42], .agg #[.slice Ao27 t219.length co27]] rfl (by (try simp only [List.map_toArray, List.map_cons, List.map_nil]); first | done | rfl | (simp only [List.length_drop, List.length_take]; rfl)) ?_; (with_reducible refine (laws_eqArena.calls k _ _ t231 _ _ t219 true _ ?side1 ?side2 ?side3 ?side4 A47.out).mono ?_); (case side1 => refine (Kd.R_reads' (e := 34) (base := w.heap.size) (ok := fun k_ => (((True ∧ some k_ ≠ (.slice Ao23 t213.length co23 : Value).ownBlock) ∧ some k_ ≠ (.slice Ao27 t219.length co27 : Value).ownBlock) ∧ some k_ ≠ (.slice Ao33 t224.length co33 : Value).ownBlock)) (n := t231.length) (c := co42) ?_).2.2; exact (by (with_reducible repeat (first | apply Kd.R_alloc | apply Kd.R_drewN | apply Kd.R_drew)); exact (Kd.R_mono (Kd.R_far (p := ⟨gb235, 0, none⟩) (Kd.R_types HO233.out BK235.out (by decide)) (fun _ hk => hk.2) (.slice Ao42 t231.length co42)) (fun _ h_ => h_.1)))); (case side2 => exact (Kd.R_reads' HO233.out).2.1); (case side3 => refine (Kd.R_reads' (e := 34) (base := w.heap.size) (ok := fun k_ => (((True ∧ some k_ ≠ (.slice Ao23 t213.length co23 : Value).ownBlock) ∧ some k_ ≠ (.slice Ao33 t224.length co33 : Value).ownBlock) ∧ some k_ ≠ (.slice Ao42 t231.length co42 : Value).ownBlock)) (n := t219.length) (c := co27) ?_).2.2; exact (by (with_reducible repeat (first | apply Kd.R_alloc | apply Kd.R_drewN | apply Kd.R_drew)); exact (Kd.R_mono (Kd.R_far (p := ⟨gb235, 0, none⟩) (Kd.R_types HO221.out BK235.out (by decide)) (fun _ hk => hk.2) (.slice Ao42 t231.length co42)) (fun _ h_ => h_.1)))); (case side4 => exact (Kd.R_reads' HO221.out).2.1); rintro e w56 ⟨rfl, hb⟩; refine ⟨_, rfl, ?_⟩; have n0_ := Aside0.mk (Kd.R_below (by (with_reducible repeat (first | apply Kd.R_alloc | apply Kd.R_drewN | apply Kd.R_drew)); exact (Kd.R_mono (Kd.R_far (p := ⟨gb235, 0, none⟩) (Kd.R_types HO215.out BK235.out (by decide)) (fun _ hk => hk.2) (.slice Ao42 t231.length co42)) (fun _ h_ => h_.1))) hb); have n1_ := Aside0.mk (Kd.R_below (by (with_reducible repeat (first | apply Kd.R_alloc | apply Kd.R_drewN | apply Kd.R_drew)); exact (Kd.R_mono (Kd.R_far (p := ⟨gb235, 0, none⟩) (Kd.R_types HO218.out BK235.out (by decide)) (fun _ hk => hk.2) (.slice Ao42 t231.length co42)) (fun _ h_ => h_.1))) hb); have n2_ := Aside0.mk (Kd.R_below (by (with_reducible repeat (first | apply Kd.R_alloc | apply Kd.R_drewN | apply Kd.R_drew)); exact (Kd.R_mono (Kd.R_far (p := ⟨gb235, 0, none⟩) (Kd.R_types HO221.out BK235.out (by decide)) (fun _ hk => hk.2) (.slice Ao42 t231.length co42)) (fun _ h_ => h_.1))) hb); have n3_ := Aside0.mk (Kd.R_below (by (with_reducible repeat (first | apply Kd.R_alloc | apply Kd.R_drewN | apply Kd.R_drew)); exact (Kd.R_mono (Kd.R_far (p := ⟨gb235, 0, none⟩) (Kd.R_types HO226.out BK235.out (by decide)) (fun _ hk => hk.2) (.slice Ao42 t231.length co42)) (fun _ h_ => h_.1))) hb); have n4_ := Aside0.mk (Kd.R_below (by (with_reducible repeat (first | apply Kd.R_alloc | apply Kd.R_drewN | apply Kd.R_drew)); exact (Kd.R_mono (Kd.R_far (p := ⟨gb235, 0, none⟩) (Kd.R_types HO230.out BK235.out (by decide)) (fun _ hk => hk.2) (.slice Ao42 t231.length co42)) (fun _ h_ => h_.1))) hb); have n5_ := Aside0.mk (Kd.R_below (by (with_reducible repeat (first | apply Kd.R_alloc | apply Kd.R_drewN | apply Kd.R_drew)); exact (Kd.R_mono (Kd.R_far (p := ⟨gb235, 0, none⟩) (Kd.R_types HO233.out BK235.out (by decide)) (fun _ hk => hk.2) (.slice Ao42 t231.length co42)) (fun _ h_ => h_.1))) hb); have n6_ := Aside0.mk (blk_below (g := gb211) (o := .cells #[.slice A0_0 l0_0.length c0_0] 41 (0, 0)) (by (with_reducible repeat (first | refine blk_drewN ?_ _ | refine blk_drew ?_ | refine blk_alloc ?_ _)); refine blk_far ?_ NB211_235.out _; (with_reducible repeat (first | refine blk_drewN ?_ _ | refine blk_drew ?_ | refine blk_alloc ?_ _)); exact BK211.out) hb); have n7_ := Aside0.mk (blk_below (g := gb223) (o := .cells #[.slice Ao27 t219.length co27] 26 (0, 0)) (by (with_reducible repeat (first | refine blk_drewN ?_ _ | refine blk_drew ?_ | refine blk_alloc ?_ _)); refine blk_far ?_ NB223_235.out _; (with_reducible repeat (first | refine blk_drewN ?_ _ | refine blk_drew ?_ | refine blk_alloc ?_ _)); exact BK223.out) hb); have n8_ := Aside0.mk (blk_below (g := gb227) (o := .cells #[.slice Ao33 t224.length co33] 26 (0, 0)) (by (with_reducible repeat (first | refine blk_drewN ?_ _ | refine blk_drew ?_ | refine blk_alloc ?_ _)); refine blk_far ?_ NB227_235.out _; (with_reducible repeat (first | refine blk_drewN ?_ _ | refine blk_drew ?_ | refine blk_alloc ?_ _)); exact BK227.out) hb); have n9_ := Aside0.mk (blk_below (g := gb235) (o := .cells #[.slice Ao42 t231.length co42] 26 (0, 0)) (by (with_reducible repeat (first | refine blk_drewN ?_ _ | refine blk_drew ?_ | refine blk_alloc ?_ _)); refine blk_put (cs := #[.slice none 0 0]) ?_ 0 _ rfl; (with_reducible repeat (first | refine blk_drewN ?_ _ | refine blk_drew ?_ | refine blk_alloc ?_ _)); exact BK235.out) hb); have n10_ := Aside0.mk (below_step (by repeat (first | (with_reducible first | exact HB.out | apply below_alloc | apply pw_below_drewN | apply below_drew1 | refine below_set ?_ GE211.out | refine below_set ?_ GE223.out | refine below_set ?_ GE227.out | refine below_set ?_ GE235.out) | exact HB.out)) hb); clear HO215; clear HO218; clear HO221; clear HO226; clear HO230; clear HO233; clear BK211; clear BK223; clear BK227; clear BK235; clear HB; have HO215 := n0_; have HO218 := n1_; have HO221 := n2_; have HO226 := n3_; have HO230 := n4_; have HO233 := n5_; have BK211 := n6_; have BK223 := n7_; have BK227 := n8_; have BK235 := n9_; have HB := n10_; clear n0_ n1_ n2_ n3_ n4_ n5_ n6_ n7_ n8_ n9_ n10_; (try clear hb); (try clear hb2); (try clear hk); (try clear hi)))
          go_meet
          case rel => exact ⟨_, ((t234 != t222)), (by first | rfl | (simp; done) | (simp [*]; done)), H', ⟨by first | omega | exact Nat.le_refl _⟩, ⟨by (with_reducible repeat (first | apply Kd.R_alloc | apply Kd.R_drewN | apply Kd.R_drew)); exact Kd.R_mono HO230.out (fun _ hk => trivial)⟩, ⟨by (with_reducible repeat (first | apply Kd.R_alloc | apply Kd.R_drewN | apply Kd.R_drew)); exact Kd.R_mono HO221.out (fun _ hk => ⟨hk.1.2, hk.2⟩)⟩, ⟨by (with_reducible repeat (first | apply Kd.R_alloc | apply Kd.R_drewN | apply Kd.R_drew)); exact Kd.R_mono HO226.out (fun _ hk => ⟨hk.1.2, hk.2⟩)⟩, ⟨by (with_reducible repeat (first | apply Kd.R_alloc | apply Kd.R_drewN | apply Kd.R_drew)); exact Kd.R_mono HO233.out (fun _ hk => ⟨hk.1.2, hk.2⟩)⟩, ⟨by (with_reducible repeat (first | refine blk_drewN ?_ _ | refine blk_drew ?_ | refine blk_alloc ?_ _)); exact BK211.out⟩, ⟨by (with_reducible repeat (first | refine blk_drewN ?_ _ | refine blk_drew ?_ | refine blk_alloc ?_ _)); exact BK223.out⟩, ⟨by (with_reducible repeat (first | refine blk_drewN ?_ _ | refine blk_drew ?_ | refine blk_alloc ?_ _)); exact BK227.out⟩, ⟨by (with_reducible repeat (first | refine blk_drewN ?_ _ | refine blk_drew ?_ | refine blk_alloc ?_ _)); exact BK235.out⟩, ⟨by repeat (first | (with_reducible first | exact HB.out | apply below_alloc | apply pw_below_drewN | apply below_drew1 | refine below_set ?_ GE211.out | refine below_set ?_ GE223.out | refine below_set ?_ GE227.out | refine below_set ?_ GE235.out) | exact HB.out)⟩⟩
        · replace c48 := Bool.eq_false_iff.mpr c48
          subst c48
          have H1 : (laws_FnExactList.j0 k l1 t222 t228 t234 true l0_0 t219 t224 t231) = some r := by rw [if_neg (show ¬ (false = true) by decide)] at H; exact H
          clear H
          have H := H1
          clear H1
          have H' := Aside0.mk H
          clear H
          have hnb57 := NB235_211.out
          have hnc57 := NB211_235.out
          have hnb58 := NB235_223.out
          have hnc58 := NB223_235.out
          have hnb59 := NB235_227.out
          have hnc59 := NB227_235.out
          have hcz60_0 : w41.cell? ⟨gb235, 0, none⟩ = some (.slice none 0 0) := (blk_cell BK235.out 0).trans rfl
          have hfz60_0 := blk_frozen BK235.out 0
          have hnb61 := NB223_211.out
          have hnc61 := NB211_223.out
          have hnb62 := NB223_227.out
          have hnc62 := NB227_223.out
          have hcz63_0 : w41.cell? ⟨gb223, 0, none⟩ = some (.slice Ao27 t219.length co27) := (blk_cell BK223.out 0).trans rfl
          have hfz63_0 := blk_frozen BK223.out 0
          go_wp2_with (first | ((with_reducible refine gate_callee (f := 28) rfl ?_); refine goesL_ (some 45) rfl rfl Try.func28 (by kernel_rfl) rfl #[.agg #[.slice Ao42 t231.length co42], .agg #[.slice Ao27 t219.length co27]] rfl (by (try simp only [List.map_toArray, List.map_cons, List.map_nil]); first | done | rfl | (simp only [List.length_drop, List.length_take]; rfl)) ?_; (with_reducible refine (laws_eqArena.calls k _ _ t231 _ _ t219 false _ ?side1 ?side2 ?side3 ?side4 A47.out).mono ?_); (case side1 => refine (Kd.R_reads' (e := 34) (base := w.heap.size) (ok := fun k_ => (((True ∧ some k_ ≠ (.slice Ao23 t213.length co23 : Value).ownBlock) ∧ some k_ ≠ (.slice Ao27 t219.length co27 : Value).ownBlock) ∧ some k_ ≠ (.slice Ao33 t224.length co33 : Value).ownBlock)) (n := t231.length) (c := co42) ?_).2.2; exact (by (with_reducible repeat (first | apply Kd.R_alloc | apply Kd.R_drewN | apply Kd.R_drew)); exact (Kd.R_mono (Kd.R_far (p := ⟨gb235, 0, none⟩) (Kd.R_types HO233.out BK235.out (by decide)) (fun _ hk => hk.2) (.slice Ao42 t231.length co42)) (fun _ h_ => h_.1)))); (case side2 => exact (Kd.R_reads' HO233.out).2.1); (case side3 => refine (Kd.R_reads' (e := 34) (base := w.heap.size) (ok := fun k_ => (((True ∧ some k_ ≠ (.slice Ao23 t213.length co23 : Value).ownBlock) ∧ some k_ ≠ (.slice Ao33 t224.length co33 : Value).ownBlock) ∧ some k_ ≠ (.slice Ao42 t231.length co42 : Value).ownBlock)) (n := t219.length) (c := co27) ?_).2.2; exact (by (with_reducible repeat (first | apply Kd.R_alloc | apply Kd.R_drewN | apply Kd.R_drew)); exact (Kd.R_mono (Kd.R_far (p := ⟨gb235, 0, none⟩) (Kd.R_types HO221.out BK235.out (by decide)) (fun _ hk => hk.2) (.slice Ao42 t231.length co42)) (fun _ h_ => h_.1)))); (case side4 => exact (Kd.R_reads' HO221.out).2.1); rintro e w64 ⟨rfl, hb⟩; refine ⟨_, rfl, ?_⟩; have n0_ := Aside0.mk (Kd.R_below (by (with_reducible repeat (first | apply Kd.R_alloc | apply Kd.R_drewN | apply Kd.R_drew)); exact (Kd.R_mono (Kd.R_far (p := ⟨gb235, 0, none⟩) (Kd.R_types HO215.out BK235.out (by decide)) (fun _ hk => hk.2) (.slice Ao42 t231.length co42)) (fun _ h_ => h_.1))) hb); have n1_ := Aside0.mk (Kd.R_below (by (with_reducible repeat (first | apply Kd.R_alloc | apply Kd.R_drewN | apply Kd.R_drew)); exact (Kd.R_mono (Kd.R_far (p := ⟨gb235, 0, none⟩) (Kd.R_types HO218.out BK235.out (by decide)) (fun _ hk => hk.2) (.slice Ao42 t231.length co42)) (fun _ h_ => h_.1))) hb); have n2_ := Aside0.mk (Kd.R_below (by (with_reducible repeat (first | apply Kd.R_alloc | apply Kd.R_drewN | apply Kd.R_drew)); exact (Kd.R_mono (Kd.R_far (p := ⟨gb235, 0, none⟩) (Kd.R_types HO221.out BK235.out (by decide)) (fun _ hk => hk.2) (.slice Ao42 t231.length co42)) (fun _ h_ => h_.1))) hb); have n3_ := Aside0.mk (Kd.R_below (by (with_reducible repeat (first | apply Kd.R_alloc | apply Kd.R_drewN | apply Kd.R_drew)); exact (Kd.R_mono (Kd.R_far (p := ⟨gb235, 0, none⟩) (Kd.R_types HO226.out BK235.out (by decide)) (fun _ hk => hk.2) (.slice Ao42 t231.length co42)) (fun _ h_ => h_.1))) hb); have n4_ := Aside0.mk (Kd.R_below (by (with_reducible repeat (first | apply Kd.R_alloc | apply Kd.R_drewN | apply Kd.R_drew)); exact (Kd.R_mono (Kd.R_far (p := ⟨gb235, 0, none⟩) (Kd.R_types HO230.out BK235.out (by decide)) (fun _ hk => hk.2) (.slice Ao42 t231.length co42)) (fun _ h_ => h_.1))) hb); have n5_ := Aside0.mk (Kd.R_below (by (with_reducible repeat (first | apply Kd.R_alloc | apply Kd.R_drewN | apply Kd.R_drew)); exact (Kd.R_mono (Kd.R_far (p := ⟨gb235, 0, none⟩) (Kd.R_types HO233.out BK235.out (by decide)) (fun _ hk => hk.2) (.slice Ao42 t231.length co42)) (fun _ h_ => h_.1))) hb); have n6_ := Aside0.mk (blk_below (g := gb211) (o := .cells #[.slice A0_0 l0_0.length c0_0] 41 (0, 0)) (by (with_reducible repeat (first | refine blk_drewN ?_ _ | refine blk_drew ?_ | refine blk_alloc ?_ _)); refine blk_far ?_ NB211_235.out _; (with_reducible repeat (first | refine blk_drewN ?_ _ | refine blk_drew ?_ | refine blk_alloc ?_ _)); exact BK211.out) hb); have n7_ := Aside0.mk (blk_below (g := gb223) (o := .cells #[.slice Ao27 t219.length co27] 26 (0, 0)) (by (with_reducible repeat (first | refine blk_drewN ?_ _ | refine blk_drew ?_ | refine blk_alloc ?_ _)); refine blk_far ?_ NB223_235.out _; (with_reducible repeat (first | refine blk_drewN ?_ _ | refine blk_drew ?_ | refine blk_alloc ?_ _)); exact BK223.out) hb); have n8_ := Aside0.mk (blk_below (g := gb227) (o := .cells #[.slice Ao33 t224.length co33] 26 (0, 0)) (by (with_reducible repeat (first | refine blk_drewN ?_ _ | refine blk_drew ?_ | refine blk_alloc ?_ _)); refine blk_far ?_ NB227_235.out _; (with_reducible repeat (first | refine blk_drewN ?_ _ | refine blk_drew ?_ | refine blk_alloc ?_ _)); exact BK227.out) hb); have n9_ := Aside0.mk (blk_below (g := gb235) (o := .cells #[.slice Ao42 t231.length co42] 26 (0, 0)) (by (with_reducible repeat (first | refine blk_drewN ?_ _ | refine blk_drew ?_ | refine blk_alloc ?_ _)); refine blk_put (cs := #[.slice none 0 0]) ?_ 0 _ rfl; (with_reducible repeat (first | refine blk_drewN ?_ _ | refine blk_drew ?_ | refine blk_alloc ?_ _)); exact BK235.out) hb); have n10_ := Aside0.mk (below_step (by repeat (first | (with_reducible first | exact HB.out | apply below_alloc | apply pw_below_drewN | apply below_drew1 | refine below_set ?_ GE211.out | refine below_set ?_ GE223.out | refine below_set ?_ GE227.out | refine below_set ?_ GE235.out) | exact HB.out)) hb); clear HO215; clear HO218; clear HO221; clear HO226; clear HO230; clear HO233; clear BK211; clear BK223; clear BK227; clear BK235; clear HB; have HO215 := n0_; have HO218 := n1_; have HO221 := n2_; have HO226 := n3_; have HO230 := n4_; have HO233 := n5_; have BK211 := n6_; have BK223 := n7_; have BK227 := n8_; have BK235 := n9_; have HB := n10_; clear n0_ n1_ n2_ n3_ n4_ n5_ n6_ n7_ n8_ n9_ n10_; (try clear hb); (try clear hb2); (try clear hk); (try clear hi)))
          go_meet
          case rel => exact ⟨_, (true), (by first | rfl | (simp; done) | (simp [*]; done)), H', ⟨by first | omega | exact Nat.le_refl _⟩, ⟨by (with_reducible repeat (first | apply Kd.R_alloc | apply Kd.R_drewN | apply Kd.R_drew)); exact Kd.R_mono HO230.out (fun _ hk => trivial)⟩, ⟨by (with_reducible repeat (first | apply Kd.R_alloc | apply Kd.R_drewN | apply Kd.R_drew)); exact Kd.R_mono HO221.out (fun _ hk => ⟨hk.1.2, hk.2⟩)⟩, ⟨by (with_reducible repeat (first | apply Kd.R_alloc | apply Kd.R_drewN | apply Kd.R_drew)); exact Kd.R_mono HO226.out (fun _ hk => ⟨hk.1.2, hk.2⟩)⟩, ⟨by (with_reducible repeat (first | apply Kd.R_alloc | apply Kd.R_drewN | apply Kd.R_drew)); exact Kd.R_mono HO233.out (fun _ hk => ⟨hk.1.2, hk.2⟩)⟩, ⟨by (with_reducible repeat (first | refine blk_drewN ?_ _ | refine blk_drew ?_ | refine blk_alloc ?_ _)); exact BK211.out⟩, ⟨by (with_reducible repeat (first | refine blk_drewN ?_ _ | refine blk_drew ?_ | refine blk_alloc ?_ _)); exact BK223.out⟩, ⟨by (with_reducible repeat (first | refine blk_drewN ?_ _ | refine blk_drew ?_ | refine blk_alloc ?_ _)); exact BK227.out⟩, ⟨by (with_reducible repeat (first | refine blk_drewN ?_ _ | refine blk_drew ?_ | refine blk_alloc ?_ _)); exact BK235.out⟩, ⟨by repeat (first | (with_reducible first | exact HB.out | apply below_alloc | apply pw_below_drewN | apply below_drew1 | refine below_set ?_ GE211.out | refine below_set ?_ GE223.out | refine below_set ?_ GE227.out | refine below_set ?_ GE235.out) | exact HB.out)⟩⟩
      case rest =>
        clear HC16
        try clear c1
        try clear c2
        try clear p2
        try clear c3
        try clear c3b0
        try clear c3b1
        try clear c4
        try clear c5
        try clear c6
        try clear c6b0
        try clear c7
        try clear c24
        try clear c26
        try clear c28
        try clear c33
        try clear c34
        try clear c35
        try clear c43
        try clear c44
        try clear c45
        try clear c48
        try clear c49
        try clear c50
        try clear c51
        try clear c53
        try clear c54
        try clear c57
        try clear c58
        try clear c59
        try clear c61
        try clear c62
        try clear hcz18_0
        try clear hcz20_0
        try clear hcz29_0
        try clear hcz30_0
        try clear hcz36_0
        try clear hcz38_0
        try clear hcz46_0
        try clear hcz52_0
        try clear hcz55_0
        try clear hcz60_0
        try clear hcz63_0
        try clear hcz8_0
        try clear hfz18_0
        try clear hfz20_0
        try clear hfz29_0
        try clear hfz30_0
        try clear hfz36_0
        try clear hfz38_0
        try clear hfz46_0
        try clear hfz52_0
        try clear hfz55_0
        try clear hfz60_0
        try clear hfz63_0
        try clear hfz8_0
        obtain ⟨kq, x51_15, rfl, HA, HJ15, HO_9, HO_224000, HO_228000, HO_236000, BK211, BK223, BK227, BK235, HB⟩ := hcut
        cases kq with
        | zero => exact absurd HA.out (by simp [laws_FnExactList.j0])
        | succ kj15 =>
          have H := HA.out
          clear HA
          simp only [laws_FnExactList.j0] at H
          by_cases c65 : x51_15 = true
          · subst c65
            have H1 : (some false) = some r := by rw [if_pos rfl] at H; exact H
            clear H
            have H := H1
            clear H1
            obtain rfl := Option.some.inj H
            go_wp2
            go_ret
            exact ⟨by first | rfl | (simp [errW_none, errW_some] <;> rfl) | (simp [*, errW_none, errW_some] <;> rfl), by repeat (first | (with_reducible first | exact HB.out | apply below_alloc | apply pw_below_drewN | apply below_drew1 | refine below_set ?_ GE211.out | refine below_set ?_ GE223.out | refine below_set ?_ GE227.out | refine below_set ?_ GE235.out) | exact HB.out)⟩
          · replace c65 := Bool.eq_false_iff.mpr c65
            subst c65
            have H1 : ((laws_toArena.f kj15 l0_0).bind fun t237 => ((laws_eqArena.f kj15 t224 t237).bind fun t240 => (if t240 = true then ((laws_toIntS.f kj15 l1).bind fun t241 => ((laws_eqIntS.f kj15 t228 t241).bind fun t244 => (if t244 = true then ((laws_markArena.f kj15 t224 1).bind fun bt245 => ((laws_markIntS.f kj15 t228 bt245.1).bind fun bt247 => (if bt247.1 < 0 then (laws_FnExactList.j1 kj15 l1 t222 true l0_0 t219 t231) else ((laws_eqArena.f kj15 t231 t219).bind fun t249 => (if t249 = true then (laws_FnExactList.j1 kj15 l1 t222 (t234 != t222) l0_0 t219 t231) else (laws_FnExactList.j1 kj15 l1 t222 true l0_0 t219 t231)))))) else (some false)))) else (some false)))) = some r := by rw [if_neg (show ¬ (false = true) by decide)] at H; exact H
            clear H
            have H := H1
            clear H1
            replace H := Option.bind_eq_some_iff.mp H
            obtain ⟨t237, A660, H⟩ := H
            replace H : ((laws_eqArena.f kj15 t224 t237).bind fun t240 => (if t240 = true then ((laws_toIntS.f kj15 l1).bind fun t241 => ((laws_eqIntS.f kj15 t228 t241).bind fun t244 => (if t244 = true then ((laws_markArena.f kj15 t224 1).bind fun bt245 => ((laws_markIntS.f kj15 t228 bt245.1).bind fun bt247 => (if bt247.1 < 0 then (laws_FnExactList.j1 kj15 l1 t222 true l0_0 t219 t231) else ((laws_eqArena.f kj15 t231 t219).bind fun t249 => (if t249 = true then (laws_FnExactList.j1 kj15 l1 t222 (t234 != t222) l0_0 t219 t231) else (laws_FnExactList.j1 kj15 l1 t222 true l0_0 t219 t231)))))) else (some false)))) else (some false))) = some r := H
            have A66 := Aside0.mk A660
            clear A660
            replace H := Option.bind_eq_some_iff.mp H
            obtain ⟨t240, A670, H⟩ := H
            replace H : (if t240 = true then ((laws_toIntS.f kj15 l1).bind fun t241 => ((laws_eqIntS.f kj15 t228 t241).bind fun t244 => (if t244 = true then ((laws_markArena.f kj15 t224 1).bind fun bt245 => ((laws_markIntS.f kj15 t228 bt245.1).bind fun bt247 => (if bt247.1 < 0 then (laws_FnExactList.j1 kj15 l1 t222 true l0_0 t219 t231) else ((laws_eqArena.f kj15 t231 t219).bind fun t249 => (if t249 = true then (laws_FnExactList.j1 kj15 l1 t222 (t234 != t222) l0_0 t219 t231) else (laws_FnExactList.j1 kj15 l1 t222 true l0_0 t219 t231)))))) else (some false)))) else (some false)) = some r := H
            have A67 := Aside0.mk A670
            clear A670
            by_cases c68 : t240 = true
            · subst c68
              have H1 : ((laws_toIntS.f kj15 l1).bind fun t241 => ((laws_eqIntS.f kj15 t228 t241).bind fun t244 => (if t244 = true then ((laws_markArena.f kj15 t224 1).bind fun bt245 => ((laws_markIntS.f kj15 t228 bt245.1).bind fun bt247 => (if bt247.1 < 0 then (laws_FnExactList.j1 kj15 l1 t222 true l0_0 t219 t231) else ((laws_eqArena.f kj15 t231 t219).bind fun t249 => (if t249 = true then (laws_FnExactList.j1 kj15 l1 t222 (t234 != t222) l0_0 t219 t231) else (laws_FnExactList.j1 kj15 l1 t222 true l0_0 t219 t231)))))) else (some false)))) = some r := by rw [if_pos rfl] at H; exact H
              clear H
              have H := H1
              clear H1
              replace H := Option.bind_eq_some_iff.mp H
              obtain ⟨t241, A690, H⟩ := H
              replace H : ((laws_eqIntS.f kj15 t228 t241).bind fun t244 => (if t244 = true then ((laws_markArena.f kj15 t224 1).bind fun bt245 => ((laws_markIntS.f kj15 t228 bt245.1).bind fun bt247 => (if bt247.1 < 0 then (laws_FnExactList.j1 kj15 l1 t222 true l0_0 t219 t231) else ((laws_eqArena.f kj15 t231 t219).bind fun t249 => (if t249 = true then (laws_FnExactList.j1 kj15 l1 t222 (t234 != t222) l0_0 t219 t231) else (laws_FnExactList.j1 kj15 l1 t222 true l0_0 t219 t231)))))) else (some false))) = some r := H
              have A69 := Aside0.mk A690
              clear A690
              replace H := Option.bind_eq_some_iff.mp H
              obtain ⟨t244, A700, H⟩ := H
              replace H : (if t244 = true then ((laws_markArena.f kj15 t224 1).bind fun bt245 => ((laws_markIntS.f kj15 t228 bt245.1).bind fun bt247 => (if bt247.1 < 0 then (laws_FnExactList.j1 kj15 l1 t222 true l0_0 t219 t231) else ((laws_eqArena.f kj15 t231 t219).bind fun t249 => (if t249 = true then (laws_FnExactList.j1 kj15 l1 t222 (t234 != t222) l0_0 t219 t231) else (laws_FnExactList.j1 kj15 l1 t222 true l0_0 t219 t231)))))) else (some false)) = some r := H
              have A70 := Aside0.mk A700
              clear A700
              by_cases c71 : t244 = true
              · subst c71
                have H1 : ((laws_markArena.f kj15 t224 1).bind fun bt245 => ((laws_markIntS.f kj15 t228 bt245.1).bind fun bt247 => (if bt247.1 < 0 then (laws_FnExactList.j1 kj15 l1 t222 true l0_0 t219 t231) else ((laws_eqArena.f kj15 t231 t219).bind fun t249 => (if t249 = true then (laws_FnExactList.j1 kj15 l1 t222 (t234 != t222) l0_0 t219 t231) else (laws_FnExactList.j1 kj15 l1 t222 true l0_0 t219 t231)))))) = some r := by rw [if_pos rfl] at H; exact H
                clear H
                have H := H1
                clear H1
                replace H := Option.bind_eq_some_iff.mp H
                obtain ⟨⟨t245, t246⟩, A720, H⟩ := H
                replace H : ((laws_markIntS.f kj15 t228 t245).bind fun bt247 => (if bt247.1 < 0 then (laws_FnExactList.j1 kj15 l1 t222 true l0_0 t219 t231) else ((laws_eqArena.f kj15 t231 t219).bind fun t249 => (if t249 = true then (laws_FnExactList.j1 kj15 l1 t222 (t234 != t222) l0_0 t219 t231) else (laws_FnExactList.j1 kj15 l1 t222 true l0_0 t219 t231))))) = some r := H
                have A72 := Aside0.mk A720
                clear A720
                replace H := Option.bind_eq_some_iff.mp H
                obtain ⟨⟨t247, t248⟩, A730, H⟩ := H
                replace H : (if t247 < 0 then (laws_FnExactList.j1 kj15 l1 t222 true l0_0 t219 t231) else ((laws_eqArena.f kj15 t231 t219).bind fun t249 => (if t249 = true then (laws_FnExactList.j1 kj15 l1 t222 (t234 != t222) l0_0 t219 t231) else (laws_FnExactList.j1 kj15 l1 t222 true l0_0 t219 t231)))) = some r := H
                have A73 := Aside0.mk A730
                clear A730
                have HC74 := Aside0.mk H
                clear H
                try go_wp2
                have n0_ := Aside0.mk (Kd.R_drew HO_9.out)
                have n1_ := Aside0.mk (Kd.R_drew HO_224000.out)
                have n2_ := Aside0.mk (Kd.R_drew HO_228000.out)
                have n3_ := Aside0.mk (Kd.R_drew HO_236000.out)
                have n4_ := Aside0.mk (blk_drew BK211.out)
                have n5_ := Aside0.mk (blk_drew BK223.out)
                have n6_ := Aside0.mk (blk_drew BK227.out)
                have n7_ := Aside0.mk (blk_drew BK235.out)
                have n8_ := Aside0.mk (below_drew1 HB.out)
                clear HO_9
                clear HO_224000
                clear HO_228000
                clear HO_236000
                clear BK211
                clear BK223
                clear BK227
                clear BK235
                clear HB
                have HO_9 := n0_
                have HO_224000 := n1_
                have HO_228000 := n2_
                have HO_236000 := n3_
                have BK211 := n4_
                have BK223 := n5_
                have BK227 := n6_
                have BK235 := n7_
                have HB := n8_
                clear n0_ n1_ n2_ n3_ n4_ n5_ n6_ n7_ n8_
                refine start_ (n := 5) (S := fun w' => w'.cell? ⟨gb227, 0, none⟩ = some (.slice Ao33 t224.length co33) ∧ w'.cell? ⟨gb211, 0, none⟩ = some (.slice A0_0 l0_0.length c0_0)) (ds := []) #[false, false, false, false, false] (by kernel_rfl) rfl rfl ⟨(blk_cell BK227.out 0).trans rfl, (blk_cell BK211.out 0).trans rfl⟩ (fun hHeld => ?_)
                generalize wc.drew = w75 at HO_9 HO_224000 HO_228000 HO_236000 BK211 BK223 BK227 BK235 HB hHeld ⊢
                refine take_ (i := 0) (N := some 52) (v := ?_) (a' := ?_) #[true, false, false, false, false] rfl rfl (by kernel_rfl) (fun _ _ _ h => h) (Or.inl ⟨by rfl, ?_⟩) hHeld ?_ ?_
                rotate_left
                · rintro w' ⟨s0, s1⟩
                  go_simp
                  with_reducible rfl
                rotate_left
                · simp only [Act.put, List.setIfInBounds_toArray, List.set_cons_zero, List.set_cons_succ, i64_w, i32_w]
                  rfl
                refine take_ (i := 1) (N := some 53) (v := ?_) (a' := ?_) #[true, true, false, false, false] rfl rfl (by kernel_rfl) (fun _ _ _ h => h) (Or.inl ⟨by rfl, ?_⟩) hHeld ?_ ?_
                rotate_left
                · rintro w' ⟨s0, s1⟩
                  go_simp
                  with_reducible rfl
                rotate_left
                · simp only [Act.put, List.setIfInBounds_toArray, List.set_cons_zero, List.set_cons_succ, i64_w, i32_w]
                  rfl
                refine one_ (i := 2) (N := some 54) #[true, true, true, false, false] rfl rfl (by kernel_rfl) (by decide) (fun K hK => ?_)
                refine goes_ Try.func26 (by kernel_rfl) rfl #[.agg #[.slice A0_0 l0_0.length c0_0]] (by rfl) rfl rfl (by (try simp only [List.map_toArray, List.map_cons, List.map_nil]); first | done | rfl | (simp only [List.length_drop, List.length_take]; rfl)) ?_
                with_reducible refine (laws_toArena.calls kj15 _ _ l0_0 t237 _ ?side1 ?side2 A66.out).mono ?_
                (case side1 => repeat (first | exact (Kd.C_below HR0_0.out HB.out) | (with_reducible refine Kd.C_alloc ?_ _) | (with_reducible refine Kd.C_drewN ?_ _) | (with_reducible refine Kd.C_drew ?_)))
                (case side2 => exact HC0_0.out)
                rintro e w76 ⟨v238, rfl, ho0, hb⟩
                refine ⟨_, rfl, ?_⟩
                have n0_ := Aside0.mk (Kd.R_below (by (with_reducible repeat (first | apply Kd.R_alloc | apply Kd.R_drewN | apply Kd.R_drew)); exact HO_9.out) hb)
                have n1_ := Aside0.mk (Kd.R_elder' (by (with_reducible repeat (first | apply Kd.R_alloc | apply Kd.R_drewN | apply Kd.R_drew)); exact HO_224000.out) (Kd.R_base ho0) hb)
                have n2_ := Aside0.mk (Kd.R_elder' (by (with_reducible repeat (first | apply Kd.R_alloc | apply Kd.R_drewN | apply Kd.R_drew)); exact HO_228000.out) (Kd.R_base ho0) hb)
                have n3_ := Aside0.mk (Kd.R_elder' (by (with_reducible repeat (first | apply Kd.R_alloc | apply Kd.R_drewN | apply Kd.R_drew)); exact HO_236000.out) (Kd.R_base ho0) hb)
                have n4_ := Aside0.mk (Kd.R_lower (Kd.R_new' (Kd.R_new' (Kd.R_new' ho0 (Kd.R_lt (by (with_reducible repeat (first | apply Kd.R_alloc | apply Kd.R_drewN | apply Kd.R_drew)); exact HO_224000.out))) (Kd.R_lt (by (with_reducible repeat (first | apply Kd.R_alloc | apply Kd.R_drewN | apply Kd.R_drew)); exact HO_228000.out))) (Kd.R_lt (by (with_reducible repeat (first | apply Kd.R_alloc | apply Kd.R_drewN | apply Kd.R_drew)); exact HO_236000.out))) (below_size (by repeat (first | (with_reducible first | exact HB.out | apply below_alloc | apply pw_below_drewN | apply below_drew1 | refine below_set ?_ GE211.out | refine below_set ?_ GE223.out | refine below_set ?_ GE227.out | refine below_set ?_ GE235.out) | exact HB.out))))
                have n5_ := Aside0.mk (blk_below (g := gb211) (o := .cells #[.slice A0_0 l0_0.length c0_0] 41 (0, 0)) (by (with_reducible repeat (first | refine blk_drewN ?_ _ | refine blk_drew ?_ | refine blk_alloc ?_ _)); exact BK211.out) hb)
                have n6_ := Aside0.mk (blk_below (g := gb223) (o := .cells #[.slice Ao27 t219.length co27] 26 (0, 0)) (by (with_reducible repeat (first | refine blk_drewN ?_ _ | refine blk_drew ?_ | refine blk_alloc ?_ _)); exact BK223.out) hb)
                have n7_ := Aside0.mk (blk_below (g := gb227) (o := .cells #[.slice Ao33 t224.length co33] 26 (0, 0)) (by (with_reducible repeat (first | refine blk_drewN ?_ _ | refine blk_drew ?_ | refine blk_alloc ?_ _)); exact BK227.out) hb)
                have n8_ := Aside0.mk (blk_below (g := gb235) (o := .cells #[.slice Ao42 t231.length co42] 26 (0, 0)) (by (with_reducible repeat (first | refine blk_drewN ?_ _ | refine blk_drew ?_ | refine blk_alloc ?_ _)); exact BK235.out) hb)
                have n9_ := Aside0.mk (below_step (by repeat (first | (with_reducible first | exact HB.out | apply below_alloc | apply pw_below_drewN | apply below_drew1 | refine below_set ?_ GE211.out | refine below_set ?_ GE223.out | refine below_set ?_ GE227.out | refine below_set ?_ GE235.out) | exact HB.out)) hb)
                clear HO_9
                clear HO_224000
                clear HO_228000
                clear HO_236000
                clear BK211
                clear BK223
                clear BK227
                clear BK235
                clear HB
                have HO_9 := n0_
                have HO_224000 := n1_
                have HO_228000 := n2_
                have HO_236000 := n3_
                have HO239 := n4_
                have BK211 := n5_
                have BK223 := n6_
                have BK227 := n7_
                have BK235 := n8_
                have HB := n9_
                clear n0_ n1_ n2_ n3_ n4_ n5_ n6_ n7_ n8_ n9_
                (try clear hb)
                (try clear hb2)
                (try clear hk)
                (try clear hi)
                (try clear ho0)
                obtain ⟨Ao77, co77, eo77⟩ := Kd.R_slice HO239.out
                (first | subst eo77 | (injection eo77 with f1_ f2_ f3_; have f4_ := f1_.symm; have f5_ := f3_.symm; clear f1_ f2_ f3_; subst f4_; subst f5_))
                refine hK.out _ _ ⟨(blk_cell BK227.out 0).trans rfl, (blk_cell BK211.out 0).trans rfl⟩ (fun hHeld => ?_)
                clear hK K
                refine norm_ (a' := ?_) ?_ ?_
                rotate_left
                · show Act.put _ (some 54) _ = _
                  simp only [Act.put, List.setIfInBounds_toArray, List.set_cons_zero, List.set_cons_succ, i64_w, i32_w]
                  rfl
                refine one_ (i := 3) (N := some 55) #[true, true, true, true, false] rfl rfl (by kernel_rfl) (by decide) (fun K hK => ?_)
                refine goes_ Try.func28 (by kernel_rfl) rfl #[.agg #[.slice Ao33 t224.length co33], .agg #[.slice Ao77 t237.length co77]] (by rfl) rfl rfl (by (try simp only [List.map_toArray, List.map_cons, List.map_nil]); first | done | rfl | (simp only [List.length_drop, List.length_take]; rfl)) ?_
                with_reducible refine (laws_eqArena.calls kj15 _ _ t224 _ _ t237 true _ ?side1 ?side2 ?side3 ?side4 A67.out).mono ?_
                (case side1 => repeat (first | exact (Kd.R_reads' HO_228000.out).2.2 | (with_reducible refine Kd.C_alloc ?_ _) | (with_reducible refine Kd.C_drewN ?_ _) | (with_reducible refine Kd.C_drew ?_)))
                (case side2 => exact (Kd.R_reads' HO_228000.out).2.1)
                (case side3 => repeat (first | exact (Kd.R_reads' HO239.out).2.2 | (with_reducible refine Kd.C_alloc ?_ _) | (with_reducible refine Kd.C_drewN ?_ _) | (with_reducible refine Kd.C_drew ?_)))
                (case side4 => exact (Kd.R_reads' HO239.out).2.1)
                rintro e w78 ⟨rfl, hb⟩
                refine ⟨_, rfl, ?_⟩
                have n0_ := Aside0.mk (Kd.R_below (by (with_reducible repeat (first | apply Kd.R_alloc | apply Kd.R_drewN | apply Kd.R_drew)); exact HO_9.out) hb)
                have n1_ := Aside0.mk (Kd.R_below (by (with_reducible repeat (first | apply Kd.R_alloc | apply Kd.R_drewN | apply Kd.R_drew)); exact HO_224000.out) hb)
                have n2_ := Aside0.mk (Kd.R_below (by (with_reducible repeat (first | apply Kd.R_alloc | apply Kd.R_drewN | apply Kd.R_drew)); exact HO_228000.out) hb)
                have n3_ := Aside0.mk (Kd.R_below (by (with_reducible repeat (first | apply Kd.R_alloc | apply Kd.R_drewN | apply Kd.R_drew)); exact HO_236000.out) hb)
                have n4_ := Aside0.mk (Kd.R_below (by (with_reducible repeat (first | apply Kd.R_alloc | apply Kd.R_drewN | apply Kd.R_drew)); exact HO239.out) hb)
                have n5_ := Aside0.mk (blk_below (g := gb211) (o := .cells #[.slice A0_0 l0_0.length c0_0] 41 (0, 0)) (by (with_reducible repeat (first | refine blk_drewN ?_ _ | refine blk_drew ?_ | refine blk_alloc ?_ _)); exact BK211.out) hb)
                have n6_ := Aside0.mk (blk_below (g := gb223) (o := .cells #[.slice Ao27 t219.length co27] 26 (0, 0)) (by (with_reducible repeat (first | refine blk_drewN ?_ _ | refine blk_drew ?_ | refine blk_alloc ?_ _)); exact BK223.out) hb)
                have n7_ := Aside0.mk (blk_below (g := gb227) (o := .cells #[.slice Ao33 t224.length co33] 26 (0, 0)) (by (with_reducible repeat (first | refine blk_drewN ?_ _ | refine blk_drew ?_ | refine blk_alloc ?_ _)); exact BK227.out) hb)
                have n8_ := Aside0.mk (blk_below (g := gb235) (o := .cells #[.slice Ao42 t231.length co42] 26 (0, 0)) (by (with_reducible repeat (first | refine blk_drewN ?_ _ | refine blk_drew ?_ | refine blk_alloc ?_ _)); exact BK235.out) hb)
                have n9_ := Aside0.mk (below_step (by repeat (first | (with_reducible first | exact HB.out | apply below_alloc | apply pw_below_drewN | apply below_drew1 | refine below_set ?_ GE211.out | refine below_set ?_ GE223.out | refine below_set ?_ GE227.out | refine below_set ?_ GE235.out) | exact HB.out)) hb)
                clear HO_9
                clear HO_224000
                clear HO_228000
                clear HO_236000
                clear HO239
                clear BK211
                clear BK223
                clear BK227
                clear BK235
                clear HB
                have HO_9 := n0_
                have HO_224000 := n1_
                have HO_228000 := n2_
                have HO_236000 := n3_
                have HO239 := n4_
                have BK211 := n5_
                have BK223 := n6_
                have BK227 := n7_
                have BK235 := n8_
                have HB := n9_
                clear n0_ n1_ n2_ n3_ n4_ n5_ n6_ n7_ n8_ n9_
                (try clear hb)
                (try clear hb2)
                (try clear hk)
                (try clear hi)
                refine hK.out _ _ ⟨(blk_cell BK227.out 0).trans rfl, (blk_cell BK211.out 0).trans rfl⟩ (fun hHeld => ?_)
                clear hK K
                refine norm_ (a' := ?_) ?_ ?_
                rotate_left
                · show Act.put _ (some 55) _ = _
                  simp only [Act.put, List.setIfInBounds_toArray, List.set_cons_zero, List.set_cons_succ, i64_w, i32_w]
                  rfl
                refine pure_ (i := 4) (N := some 56) (v := ?_) (a' := ?_) #[true, true, true, true, true] rfl rfl (by kernel_rfl) (fun _ _ _ h => h) (Or.inl ⟨by rfl, ?_⟩) ?_ ?_
                rotate_left
                · intro w'
                  go_simp
                  with_reducible rfl
                rotate_left
                · simp only [Act.put, List.setIfInBounds_toArray, List.set_cons_zero, List.set_cons_succ, i64_w, i32_w]
                  rfl
                refine done_ (by kernel_rfl) ?_
                go_upto_region 20 with (first | ((with_reducible refine gate_callee (f := 34) rfl ?_); refine goesL_ (some 59) rfl rfl Try.func34 (by kernel_rfl) rfl #[.slice A1 l1.length c1] rfl (by (try simp only [List.map_toArray, List.map_cons, List.map_nil]); first | done | rfl | (simp only [List.length_drop, List.length_take]; rfl)) ?_; (with_reducible refine (laws_toIntS.calls kj15 _ _ l1 t241 _ ?side1 ?side2 A69.out).mono ?_); (case side1 => repeat (first | exact (Kd.C_below HR1.out HB.out) | (with_reducible refine Kd.C_alloc ?_ _) | (with_reducible refine Kd.C_drewN ?_ _) | (with_reducible refine Kd.C_drew ?_))); (case side2 => exact HC1.out); rintro e w79 ⟨v242, rfl, ho0, hb⟩; refine ⟨_, rfl, ?_⟩; have n0_ := Aside0.mk (Kd.R_elder' (by (with_reducible repeat (first | apply Kd.R_alloc | apply Kd.R_drewN | apply Kd.R_drew)); exact HO_9.out) (Kd.R_base ho0) hb); have n1_ := Aside0.mk (Kd.R_below (by (with_reducible repeat (first | apply Kd.R_alloc | apply Kd.R_drewN | apply Kd.R_drew)); exact HO_224000.out) hb); have n2_ := Aside0.mk (Kd.R_below (by (with_reducible repeat (first | apply Kd.R_alloc | apply Kd.R_drewN | apply Kd.R_drew)); exact HO_228000.out) hb); have n3_ := Aside0.mk (Kd.R_below (by (with_reducible repeat (first | apply Kd.R_alloc | apply Kd.R_drewN | apply Kd.R_drew)); exact HO_236000.out) hb); have n4_ := Aside0.mk (Kd.R_below (by (with_reducible repeat (first | apply Kd.R_alloc | apply Kd.R_drewN | apply Kd.R_drew)); exact HO239.out) hb); have n5_ := Aside0.mk (Kd.R_lower (Kd.R_new' ho0 (Kd.R_lt (by (with_reducible repeat (first | apply Kd.R_alloc | apply Kd.R_drewN | apply Kd.R_drew)); exact HO_9.out))) (below_size (by repeat (first | (with_reducible first | exact HB.out | apply below_alloc | apply pw_below_drewN | apply below_drew1 | refine below_set ?_ GE211.out | refine below_set ?_ GE223.out | refine below_set ?_ GE227.out | refine below_set ?_ GE235.out) | exact HB.out)))); have n6_ := Aside0.mk (blk_below (g := gb211) (o := .cells #[.slice A0_0 l0_0.length c0_0] 41 (0, 0)) (by (with_reducible repeat (first | refine blk_drewN ?_ _ | refine blk_drew ?_ | refine blk_alloc ?_ _)); exact BK211.out) hb); have n7_ := Aside0.mk (blk_below (g := gb223) (o := .cells #[.slice Ao27 t219.length co27] 26 (0, 0)) (by (with_reducible repeat (first | refine blk_drewN ?_ _ | refine blk_drew ?_ | refine blk_alloc ?_ _)); exact BK223.out) hb); have n8_ := Aside0.mk (blk_below (g := gb227) (o := .cells #[.slice Ao33 t224.length co33] 26 (0, 0)) (by (with_reducible repeat (first | refine blk_drewN ?_ _ | refine blk_drew ?_ | refine blk_alloc ?_ _)); exact BK227.out) hb); have n9_ := Aside0.mk (blk_below (g := gb235) (o := .cells #[.slice Ao42 t231.length co42] 26 (0, 0)) (by (with_reducible repeat (first | refine blk_drewN ?_ _ | refine blk_drew ?_ | refine blk_alloc ?_ _)); exact BK235.out) hb); have n10_ := Aside0.mk (below_step (by repeat (first | (with_reducible first | exact HB.out | apply below_alloc | apply pw_below_drewN | apply below_drew1 | refine below_set ?_ GE211.out | refine below_set ?_ GE223.out | refine below_set ?_ GE227.out | refine below_set ?_ GE235.out) | exact HB.out)) hb); clear HO_9; clear HO_224000; clear HO_228000; clear HO_236000; clear HO239; clear BK211; clear BK223; clear BK227; clear BK235; clear HB; have HO_9 := n0_; have HO_224000 := n1_; have HO_228000 := n2_; have HO_236000 := n3_; have HO239 := n4_; have HO243 := n5_; have BK211 := n6_; have BK223 := n7_; have BK227 := n8_; have BK235 := n9_; have HB := n10_; clear n0_ n1_ n2_ n3_ n4_ n5_ n6_ n7_ n8_ n9_ n10_; (try clear hb); (try clear hb2); (try clear hk); (try clear hi); (try clear ho0); obtain ⟨Ao80, co80, eo80⟩ := Kd.R_slice HO243.out; subst eo80) | ((with_reducible refine gate_callee (f := 36) rfl ?_); refine goesL_ (some 60) rfl rfl Try.func36 (by kernel_rfl) rfl #[.slice Ao39 t228.length co39, .slice Ao80 t241.length co80] rfl (by (try simp only [List.map_toArray, List.map_cons, List.map_nil]); first | done | rfl | (simp only [List.length_drop, List.length_take]; rfl)) ?_; (with_reducible refine (laws_eqIntS.calls kj15 _ _ t228 _ _ t241 true _ ?side1 ?side2 ?side3 ?side4 A70.out).mono ?_); (case side1 => repeat (first | exact (Kd.R_reads' HO_9.out).2.2 | (with_reducible refine Kd.C_alloc ?_ _) | (with_reducible refine Kd.C_drewN ?_ _) | (with_reducible refine Kd.C_drew ?_))); (case side2 => exact (Kd.R_reads' HO_9.out).2.1); (case side3 => repeat (first | exact (Kd.R_reads' HO243.out).2.2 | (with_reducible refine Kd.C_alloc ?_ _) | (with_reducible refine Kd.C_drewN ?_ _) | (with_reducible refine Kd.C_drew ?_))); (case side4 => exact (Kd.R_reads' HO243.out).2.1); rintro e w' ⟨rfl, ⟨nd, rfl⟩⟩; refine ⟨_, rfl, ?_⟩; have hnb81 := NB227_211.out; have hnc81 := NB211_227.out; have hnb82 := NB227_223.out; have hnc82 := NB223_227.out; have hnb83 := NB227_235.out; have hnc83 := NB235_227.out; have hcz84_0 : w79.cell? ⟨gb227, 0, none⟩ = some (.slice Ao33 t224.length co33) := (blk_cell BK227.out 0).trans rfl; have hfz84_0 := blk_frozen BK227.out 0) | ((with_reducible refine gate_callee (f := 37) rfl ?_); refine goesL_ (some 64) rfl rfl Try.func37 (by kernel_rfl) rfl #[.agg #[.slice Ao33 t224.length co33], .int .i64 1] rfl (by (try simp only [List.map_toArray, List.map_cons, List.map_nil]); first | done | rfl | (simp only [List.length_drop, List.length_take]; rfl)) ?_; (with_reducible refine (laws_markArena.calls kj15 (fun k_ => some k_ = (.slice Ao33 t224.length co33 : Value).ownBlock) (.slice Ao33 t224.length co33) t224 1 t245 t246 w _ ?side1 ?side2 A72.out).mono ?_); (case side1 => repeat (first | (with_reducible first | exact HB.out | apply below_alloc | apply pw_below_drewN | apply below_drew1 | refine below_set ?_ GE211.out | refine below_set ?_ GE223.out | refine below_set ?_ GE227.out | refine below_set ?_ GE235.out) | exact HB.out)); (case side2 => exact Kd.R_tight rfl HO_228000.out); rintro e w85 ⟨rfl, hy0, hb, hkp⟩; refine ⟨_, rfl, ?_⟩; have n0_ := Aside0.mk (Kd.R_mono (ok' := fun k_ => some k_ ≠ (.slice Ao80 t241.length co80 : Value).ownBlock) (Kd.R_keptB ((Kd.R_apart' HO_9.out (Kd.R_typed HO_228000.out) (by decide))) hkp (fun k_ hk_ hs_ => (hk_.2) hs_)) (fun k_ hk_ => hk_.1.1.2)); have n1_ := Aside0.mk (Kd.R_mono (ok' := fun k_ => some k_ ≠ (.slice Ao33 t224.length co33 : Value).ownBlock ∧ some k_ ≠ (.slice Ao42 t231.length co42 : Value).ownBlock ∧ some k_ ≠ (.slice Ao77 t237.length co77 : Value).ownBlock) (Kd.R_keptB (HO_224000.out) hkp (fun k_ hk_ hs_ => (hk_.1.1) hs_)) (fun k_ hk_ => ⟨hk_.1.1.1, hk_.1.1.2, hk_.1.2⟩)); have n2_ := Aside0.mk (Kd.R_reok rfl hy0 (fun k_ e_ => HO_228000.out.1 k_ e_)); have n3_ := Aside0.mk (Kd.R_mono (ok' := fun k_ => some k_ ≠ (.slice Ao27 t219.length co27 : Value).ownBlock ∧ some k_ ≠ (.slice Ao33 t224.length co33 : Value).ownBlock ∧ some k_ ≠ (.slice Ao77 t237.length co77 : Value).ownBlock) (Kd.R_keptB (HO_236000.out) hkp (fun k_ hk_ hs_ => (hk_.1.2) hs_)) (fun k_ hk_ => ⟨hk_.1.1.1, hk_.1.1.2, hk_.1.2⟩)); have n4_ := Aside0.mk (blk_kept (by (with_reducible repeat (first | refine blk_drewN ?_ _ | refine blk_drew ?_ | refine blk_alloc ?_ _)); exact BK211.out) hkp (fun hs_ => (fun e_ => (Kd.R_ne HO_228000.out BK211.out (by decide)) e_) hs_)); have n5_ := Aside0.mk (blk_kept (by (with_reducible repeat (first | refine blk_drewN ?_ _ | refine blk_drew ?_ | refine blk_alloc ?_ _)); exact BK223.out) hkp (fun hs_ => (fun e_ => (Kd.R_ne HO_228000.out BK223.out (by decide)) e_) hs_)); have n6_ := Aside0.mk (blk_kept (by (with_reducible repeat (first | refine blk_drewN ?_ _ | refine blk_drew ?_ | refine blk_alloc ?_ _)); exact BK227.out) hkp (fun hs_ => (fun e_ => (Kd.R_ne HO_228000.out BK227.out (by decide)) e_) hs_)); have n7_ := Aside0.mk (blk_kept (by (with_reducible repeat (first | refine blk_drewN ?_ _ | refine blk_drew ?_ | refine blk_alloc ?_ _)); exact BK235.out) hkp (fun hs_ => (fun e_ => (Kd.R_ne HO_228000.out BK235.out (by decide)) e_) hs_)); have n8_ := Aside0.mk (Kd.R_mono (ok' := fun k_ => some k_ ≠ (.slice Ao27 t219.length co27 : Value).ownBlock ∧ some k_ ≠ (.slice Ao33 t224.length co33 : Value).ownBlock ∧ some k_ ≠ (.slice Ao42 t231.length co42 : Value).ownBlock) (Kd.R_keptB (HO239.out) hkp (fun k_ hk_ hs_ => (hk_.1.2) hs_)) (fun k_ hk_ => ⟨hk_.1.1.1.2, hk_.1.1.2, hk_.1.2⟩)); have n9_ := Aside0.mk (Kd.R_mono (ok' := fun k_ => some k_ ≠ (.slice Ao39 t228.length co39 : Value).ownBlock) (Kd.R_keptB ((Kd.R_apart' HO243.out (Kd.R_typed HO_228000.out) (by decide))) hkp (fun k_ hk_ hs_ => (hk_.2) hs_)) (fun k_ hk_ => hk_.1.1.2)); have n10_ := Aside0.mk (hb); clear HO_9; clear HO_224000; clear HO_228000; clear HO_236000; clear BK211; clear BK223; clear BK227; clear BK235; clear HO239; clear HO243; clear HB; have HO_9 := n0_; have HO_224000 := n1_; have HO_228000 := n2_; have HO_236000 := n3_; have BK211 := n4_; have BK223 := n5_; have BK227 := n6_; have BK235 := n7_; have HO239 := n8_; have HO243 := n9_; have HB := n10_; clear n0_ n1_ n2_ n3_ n4_ n5_ n6_ n7_ n8_ n9_ n10_; (try clear hb); (try clear hkp); (try clear hy0)) | ((with_reducible refine gate_callee (f := 38) rfl ?_); refine goesL_ (some 67) rfl rfl Try.func38 (by kernel_rfl) rfl #[.slice Ao39 t228.length co39, .int .i64 t245] rfl (by (try simp only [List.map_toArray, List.map_cons, List.map_nil]); first | done | rfl | (simp only [List.length_drop, List.length_take]; rfl)) ?_; (with_reducible refine (laws_markIntS.calls kj15 (fun k_ => some k_ = (.slice Ao39 t228.length co39 : Value).ownBlock) (.slice Ao39 t228.length co39) t228 t245 t247 t248 w _ ?side1 ?side2 A73.out).mono ?_); (case side1 => repeat (first | (with_reducible first | exact HB.out | apply below_alloc | apply pw_below_drewN | apply below_drew1 | refine below_set ?_ GE211.out | refine below_set ?_ GE223.out | refine below_set ?_ GE227.out | refine below_set ?_ GE235.out) | exact HB.out)); (case side2 => exact Kd.R_tight rfl HO_9.out); rintro e w86 ⟨rfl, hy0, hb, hkp⟩; refine ⟨_, rfl, ?_⟩; have n0_ := Aside0.mk (Kd.R_reok rfl hy0 (fun k_ e_ => HO_9.out.1 k_ e_)); have n1_ := Aside0.mk (Kd.R_mono (ok' := fun k_ => some k_ ≠ (.slice Ao33 t224.length co33 : Value).ownBlock ∧ some k_ ≠ (.slice Ao42 t231.length co42 : Value).ownBlock ∧ some k_ ≠ (.slice Ao77 t237.length co77 : Value).ownBlock) (Kd.R_keptB ((Kd.R_apart' HO_224000.out (Kd.R_typed HO_9.out) (by decide))) hkp (fun k_ hk_ hs_ => (hk_.2) hs_)) (fun k_ hk_ => ⟨hk_.1.1.1, hk_.1.1.2.1, hk_.1.1.2.2⟩)); have n2_ := Aside0.mk (Kd.R_mono (ok' := fun k_ => some k_ ≠ (.slice Ao27 t219.length co27 : Value).ownBlock ∧ some k_ ≠ (.slice Ao42 t231.length co42 : Value).ownBlock ∧ some k_ ≠ (.slice Ao77 t237.length co77 : Value).ownBlock) (Kd.R_keptB ((Kd.R_apart' HO_228000.out (Kd.R_typed HO_9.out) (by decide))) hkp (fun k_ hk_ hs_ => (hk_.2) hs_)) (fun k_ hk_ => ⟨hk_.1.1.1.1, hk_.1.1.1.2, hk_.1.1.2⟩)); have n3_ := Aside0.mk (Kd.R_mono (ok' := fun k_ => some k_ ≠ (.slice Ao27 t219.length co27 : Value).ownBlock ∧ some k_ ≠ (.slice Ao33 t224.length co33 : Value).ownBlock ∧ some k_ ≠ (.slice Ao77 t237.length co77 : Value).ownBlock) (Kd.R_keptB ((Kd.R_apart' HO_236000.out (Kd.R_typed HO_9.out) (by decide))) hkp (fun k_ hk_ hs_ => (hk_.2) hs_)) (fun k_ hk_ => ⟨hk_.1.1.1, hk_.1.1.2.1, hk_.1.1.2.2⟩)); have n4_ := Aside0.mk (blk_kept (by (with_reducible repeat (first | refine blk_drewN ?_ _ | refine blk_drew ?_ | refine blk_alloc ?_ _)); exact BK211.out) hkp (fun hs_ => (fun e_ => (Kd.R_ne HO_9.out BK211.out (by decide)) e_) hs_)); have n5_ := Aside0.mk (blk_kept (by (with_reducible repeat (first | refine blk_drewN ?_ _ | refine blk_drew ?_ | refine blk_alloc ?_ _)); exact BK223.out) hkp (fun hs_ => (fun e_ => (Kd.R_ne HO_9.out BK223.out (by decide)) e_) hs_)); have n6_ := Aside0.mk (blk_kept (by (with_reducible repeat (first | refine blk_drewN ?_ _ | refine blk_drew ?_ | refine blk_alloc ?_ _)); exact BK227.out) hkp (fun hs_ => (fun e_ => (Kd.R_ne HO_9.out BK227.out (by decide)) e_) hs_)); have n7_ := Aside0.mk (blk_kept (by (with_reducible repeat (first | refine blk_drewN ?_ _ | refine blk_drew ?_ | refine blk_alloc ?_ _)); exact BK235.out) hkp (fun hs_ => (fun e_ => (Kd.R_ne HO_9.out BK235.out (by decide)) e_) hs_)); have n8_ := Aside0.mk (Kd.R_mono (ok' := fun k_ => some k_ ≠ (.slice Ao27 t219.length co27 : Value).ownBlock ∧ some k_ ≠ (.slice Ao33 t224.length co33 : Value).ownBlock ∧ some k_ ≠ (.slice Ao42 t231.length co42 : Value).ownBlock) (Kd.R_keptB ((Kd.R_apart' HO239.out (Kd.R_typed HO_9.out) (by decide))) hkp (fun k_ hk_ hs_ => (hk_.2) hs_)) (fun k_ hk_ => ⟨hk_.1.1.1, hk_.1.1.2.1, hk_.1.1.2.2⟩)); have n9_ := Aside0.mk (Kd.R_mono (ok' := fun k_ => some k_ ≠ (.slice Ao39 t228.length co39 : Value).ownBlock) (Kd.R_keptB (HO243.out) hkp (fun k_ hk_ hs_ => (hk_) hs_)) (fun k_ hk_ => hk_.1)); have n10_ := Aside0.mk (hb); clear HO_9; clear HO_224000; clear HO_228000; clear HO_236000; clear BK211; clear BK223; clear BK227; clear BK235; clear HO239; clear HO243; clear HB; have HO_9 := n0_; have HO_224000 := n1_; have HO_228000 := n2_; have HO_236000 := n3_; have BK211 := n4_; have BK223 := n5_; have BK227 := n6_; have BK235 := n7_; have HO239 := n8_; have HO243 := n9_; have HB := n10_; clear n0_ n1_ n2_ n3_ n4_ n5_ n6_ n7_ n8_ n9_ n10_; (try clear hb); (try clear hkp); (try clear hy0)))
                (try simp only [Act.put, List.setIfInBounds_toArray, List.set_cons_zero, List.set_cons_succ])
                go_cut [80] (fun v80 wc => ∃ (kq : Nat) (x80_73 : Bool), v80 = .bool x80_73 ∧ Aside0 (laws_FnExactList.j1 kq l1 t222 x80_73 l0_0 t219 t231 = some r) ∧ Aside0 (kq ≤ kj15) ∧ Aside0 (Kd.R k34 34 wc w.heap.size (fun k_ => some k_ ≠ ((.slice Ao33 t224.length co33) : Value).ownBlock ∧ some k_ ≠ ((.slice Ao42 t231.length co42) : Value).ownBlock) (.slice Ao27 t219.length co27) t219) ∧ Aside0 (Kd.R k34 34 wc w.heap.size (fun k_ => some k_ ≠ ((.slice Ao27 t219.length co27) : Value).ownBlock ∧ some k_ ≠ ((.slice Ao42 t231.length co42) : Value).ownBlock) (.slice Ao33 t224.length co33) t246) ∧ Aside0 (Kd.R k34 34 wc w.heap.size (fun k_ => some k_ ≠ ((.slice Ao27 t219.length co27) : Value).ownBlock ∧ some k_ ≠ ((.slice Ao33 t224.length co33) : Value).ownBlock) (.slice Ao42 t231.length co42) t231) ∧ Aside0 (wc.heap[gb211]? = some (.cells #[(.slice A0_0 l0_0.length c0_0)] 41 (0, 0))) ∧ Aside0 (wc.heap[gb223]? = some (.cells #[(.slice Ao27 t219.length co27)] 26 (0, 0))) ∧ Aside0 (wc.heap[gb227]? = some (.cells #[(.slice Ao33 t224.length co33)] 26 (0, 0))) ∧ Aside0 (wc.heap[gb235]? = some (.cells #[(.slice Ao42 t231.length co42)] 26 (0, 0))) ∧ Aside0 (Below w.heap.size w wc))
                case first =>
                  have H := HC74.out
                  clear HC74
                  by_cases c87 : t247 < 0
                  · rw [if_pos c87] at H
                    have c87b0 : decide (t247 < 0) = true := decide_eq_true c87
                    clear c87
                    (first | rw [c87b0] | (simp only [i64_w, i32_w]; rw [c87b0]) | skip)
                    have H' := Aside0.mk H
                    clear H
                    go_wp2
                    go_meet
                    case rel => exact ⟨_, (true), (by first | rfl | (simp; done) | (simp [*]; done)), H', ⟨by have := HJ15.out; first | omega | exact Nat.le_refl _⟩, ⟨by (with_reducible repeat (first | apply Kd.R_alloc | apply Kd.R_drewN | apply Kd.R_drew)); exact Kd.R_mono HO_224000.out (fun _ hk => ⟨hk.1, hk.2.1⟩)⟩, ⟨by (with_reducible repeat (first | apply Kd.R_alloc | apply Kd.R_drewN | apply Kd.R_drew)); exact Kd.R_mono HO_228000.out (fun _ hk => ⟨hk.1, hk.2.1⟩)⟩, ⟨by (with_reducible repeat (first | apply Kd.R_alloc | apply Kd.R_drewN | apply Kd.R_drew)); exact Kd.R_mono HO_236000.out (fun _ hk => ⟨hk.1, hk.2.1⟩)⟩, ⟨by (with_reducible repeat (first | refine blk_drewN ?_ _ | refine blk_drew ?_ | refine blk_alloc ?_ _)); exact BK211.out⟩, ⟨by (with_reducible repeat (first | refine blk_drewN ?_ _ | refine blk_drew ?_ | refine blk_alloc ?_ _)); exact BK223.out⟩, ⟨by (with_reducible repeat (first | refine blk_drewN ?_ _ | refine blk_drew ?_ | refine blk_alloc ?_ _)); exact BK227.out⟩, ⟨by (with_reducible repeat (first | refine blk_drewN ?_ _ | refine blk_drew ?_ | refine blk_alloc ?_ _)); exact BK235.out⟩, ⟨by repeat (first | (with_reducible first | exact HB.out | apply below_alloc | apply pw_below_drewN | apply below_drew1 | refine below_set ?_ GE211.out | refine below_set ?_ GE223.out | refine below_set ?_ GE227.out | refine below_set ?_ GE235.out) | exact HB.out)⟩⟩
                  · rw [if_neg c87] at H
                    have c87b0 : decide (t247 < 0) = false := decide_eq_false c87
                    clear c87
                    (first | rw [c87b0] | (simp only [i64_w, i32_w]; rw [c87b0]) | skip)
                    replace H := Option.bind_eq_some_iff.mp H
                    obtain ⟨t249, A880, H⟩ := H
                    replace H : (if t249 = true then (laws_FnExactList.j1 kj15 l1 t222 (t234 != t222) l0_0 t219 t231) else (laws_FnExactList.j1 kj15 l1 t222 true l0_0 t219 t231)) = some r := H
                    have A88 := Aside0.mk A880
                    clear A880
                    by_cases c89 : t249 = true
                    · subst c89
                      have H1 : (laws_FnExactList.j1 kj15 l1 t222 (t234 != t222) l0_0 t219 t231) = some r := by rw [if_pos rfl] at H; exact H
                      clear H
                      have H := H1
                      clear H1
                      have H' := Aside0.mk H
                      clear H
                      have hnb90 := NB235_211.out
                      have hnc90 := NB211_235.out
                      have hnb91 := NB235_223.out
                      have hnc91 := NB223_235.out
                      have hnb92 := NB235_227.out
                      have hnc92 := NB227_235.out
                      have hcz93_0 : w86.cell? ⟨gb235, 0, none⟩ = some (.slice Ao42 t231.length co42) := (blk_cell BK235.out 0).trans rfl
                      have hfz93_0 := blk_frozen BK235.out 0
                      have hnb94 := NB223_211.out
                      have hnc94 := NB211_223.out
                      have hnb95 := NB223_227.out
                      have hnc95 := NB227_223.out
                      have hcz96_0 : w86.cell? ⟨gb223, 0, none⟩ = some (.slice Ao27 t219.length co27) := (blk_cell BK223.out 0).trans rfl
                      have hfz96_0 := blk_frozen BK223.out 0
                      go_wp2_with (first | (go_at_call 28; (with_reducible refine (laws_eqArena.calls kj15 _ _ t231 _ _ t219 true _ ?side1 ?side2 ?side3 ?side4 A88.out).mono ?_); (case side1 => repeat (first | exact (Kd.R_reads' HO_236000.out).2.2 | (with_reducible refine Kd.C_alloc ?_ _) | (with_reducible refine Kd.C_drewN ?_ _) | (with_reducible refine Kd.C_drew ?_))); (case side2 => exact (Kd.R_reads' HO_236000.out).2.1); (case side3 => repeat (first | exact (Kd.R_reads' HO_224000.out).2.2 | (with_reducible refine Kd.C_alloc ?_ _) | (with_reducible refine Kd.C_drewN ?_ _) | (with_reducible refine Kd.C_drew ?_))); (case side4 => exact (Kd.R_reads' HO_224000.out).2.1); rintro e w97 ⟨rfl, hb⟩; have n0_ := Aside0.mk (Kd.R_below (by (with_reducible repeat (first | apply Kd.R_alloc | apply Kd.R_drewN | apply Kd.R_drew)); exact HO_9.out) hb); have n1_ := Aside0.mk (Kd.R_below (by (with_reducible repeat (first | apply Kd.R_alloc | apply Kd.R_drewN | apply Kd.R_drew)); exact HO_224000.out) hb); have n2_ := Aside0.mk (Kd.R_below (by (with_reducible repeat (first | apply Kd.R_alloc | apply Kd.R_drewN | apply Kd.R_drew)); exact HO_228000.out) hb); have n3_ := Aside0.mk (Kd.R_below (by (with_reducible repeat (first | apply Kd.R_alloc | apply Kd.R_drewN | apply Kd.R_drew)); exact HO_236000.out) hb); have n4_ := Aside0.mk (Kd.R_below (by (with_reducible repeat (first | apply Kd.R_alloc | apply Kd.R_drewN | apply Kd.R_drew)); exact HO239.out) hb); have n5_ := Aside0.mk (Kd.R_below (by (with_reducible repeat (first | apply Kd.R_alloc | apply Kd.R_drewN | apply Kd.R_drew)); exact HO243.out) hb); have n6_ := Aside0.mk (blk_below (g := gb211) (o := .cells #[.slice A0_0 l0_0.length c0_0] 41 (0, 0)) (by (with_reducible repeat (first | refine blk_drewN ?_ _ | refine blk_drew ?_ | refine blk_alloc ?_ _)); exact BK211.out) hb); have n7_ := Aside0.mk (blk_below (g := gb223) (o := .cells #[.slice Ao27 t219.length co27] 26 (0, 0)) (by (with_reducible repeat (first | refine blk_drewN ?_ _ | refine blk_drew ?_ | refine blk_alloc ?_ _)); exact BK223.out) hb); have n8_ := Aside0.mk (blk_below (g := gb227) (o := .cells #[.slice Ao33 t224.length co33] 26 (0, 0)) (by (with_reducible repeat (first | refine blk_drewN ?_ _ | refine blk_drew ?_ | refine blk_alloc ?_ _)); exact BK227.out) hb); have n9_ := Aside0.mk (blk_below (g := gb235) (o := .cells #[.slice Ao42 t231.length co42] 26 (0, 0)) (by (with_reducible repeat (first | refine blk_drewN ?_ _ | refine blk_drew ?_ | refine blk_alloc ?_ _)); exact BK235.out) hb); have n10_ := Aside0.mk (below_step (by repeat (first | (with_reducible first | exact HB.out | apply below_alloc | apply pw_below_drewN | apply below_drew1 | refine below_set ?_ GE211.out | refine below_set ?_ GE223.out | refine below_set ?_ GE227.out | refine below_set ?_ GE235.out) | exact HB.out)) hb); clear HO_9; clear HO_224000; clear HO_228000; clear HO_236000; clear HO239; clear HO243; clear BK211; clear BK223; clear BK227; clear BK235; clear HB; have HO_9 := n0_; have HO_224000 := n1_; have HO_228000 := n2_; have HO_236000 := n3_; have HO239 := n4_; have HO243 := n5_; have BK211 := n6_; have BK223 := n7_; have BK227 := n8_; have BK235 := n9_; have HB := n10_; clear n0_ n1_ n2_ n3_ n4_ n5_ n6_ n7_ n8_ n9_ n10_; (try clear hb); (try clear hb2); (try clear hk); (try clear hi)))
                      go_meet
                      case rel => exact ⟨_, ((t234 != t222)), (by first | rfl | (simp; done) | (simp [*]; done)), H', ⟨by have := HJ15.out; first | omega | exact Nat.le_refl _⟩, ⟨by (with_reducible repeat (first | apply Kd.R_alloc | apply Kd.R_drewN | apply Kd.R_drew)); exact Kd.R_mono HO_224000.out (fun _ hk => ⟨hk.1, hk.2.1⟩)⟩, ⟨by (with_reducible repeat (first | apply Kd.R_alloc | apply Kd.R_drewN | apply Kd.R_drew)); exact Kd.R_mono HO_228000.out (fun _ hk => ⟨hk.1, hk.2.1⟩)⟩, ⟨by (with_reducible repeat (first | apply Kd.R_alloc | apply Kd.R_drewN | apply Kd.R_drew)); exact Kd.R_mono HO_236000.out (fun _ hk => ⟨hk.1, hk.2.1⟩)⟩, ⟨by (with_reducible repeat (first | refine blk_drewN ?_ _ | refine blk_drew ?_ | refine blk_alloc ?_ _)); exact BK211.out⟩, ⟨by (with_reducible repeat (first | refine blk_drewN ?_ _ | refine blk_drew ?_ | refine blk_alloc ?_ _)); exact BK223.out⟩, ⟨by (with_reducible repeat (first | refine blk_drewN ?_ _ | refine blk_drew ?_ | refine blk_alloc ?_ _)); exact BK227.out⟩, ⟨by (with_reducible repeat (first | refine blk_drewN ?_ _ | refine blk_drew ?_ | refine blk_alloc ?_ _)); exact BK235.out⟩, ⟨by repeat (first | (with_reducible first | exact HB.out | apply below_alloc | apply pw_below_drewN | apply below_drew1 | refine below_set ?_ GE211.out | refine below_set ?_ GE223.out | refine below_set ?_ GE227.out | refine below_set ?_ GE235.out) | exact HB.out)⟩⟩
                    · replace c89 := Bool.eq_false_iff.mpr c89
                      subst c89
                      have H1 : (laws_FnExactList.j1 kj15 l1 t222 true l0_0 t219 t231) = some r := by rw [if_neg (show ¬ (false = true) by decide)] at H; exact H
                      clear H
                      have H := H1
                      clear H1
                      have H' := Aside0.mk H
                      clear H
                      have hnb98 := NB235_211.out
                      have hnc98 := NB211_235.out
                      have hnb99 := NB235_223.out
                      have hnc99 := NB223_235.out
                      have hnb100 := NB235_227.out
                      have hnc100 := NB227_235.out
                      have hcz101_0 : w86.cell? ⟨gb235, 0, none⟩ = some (.slice Ao42 t231.length co42) := (blk_cell BK235.out 0).trans rfl
                      have hfz101_0 := blk_frozen BK235.out 0
                      have hnb102 := NB223_211.out
                      have hnc102 := NB211_223.out
                      have hnb103 := NB223_227.out
                      have hnc103 := NB227_223.out
                      have hcz104_0 : w86.cell? ⟨gb223, 0, none⟩ = some (.slice Ao27 t219.length co27) := (blk_cell BK223.out 0).trans rfl
                      have hfz104_0 := blk_frozen BK223.out 0
                      go_wp2_with (first | (go_at_call 28; (with_reducible refine (laws_eqArena.calls kj15 _ _ t231 _ _ t219 false _ ?side1 ?side2 ?side3 ?side4 A88.out).mono ?_); (case side1 => repeat (first | exact (Kd.R_reads' HO_236000.out).2.2 | (with_reducible refine Kd.C_alloc ?_ _) | (with_reducible refine Kd.C_drewN ?_ _) | (with_reducible refine Kd.C_drew ?_))); (case side2 => exact (Kd.R_reads' HO_236000.out).2.1); (case side3 => repeat (first | exact (Kd.R_reads' HO_224000.out).2.2 | (with_reducible refine Kd.C_alloc ?_ _) | (with_reducible refine Kd.C_drewN ?_ _) | (with_reducible refine Kd.C_drew ?_))); (case side4 => exact (Kd.R_reads' HO_224000.out).2.1); rintro e w105 ⟨rfl, hb⟩; have n0_ := Aside0.mk (Kd.R_below (by (with_reducible repeat (first | apply Kd.R_alloc | apply Kd.R_drewN | apply Kd.R_drew)); exact HO_9.out) hb); have n1_ := Aside0.mk (Kd.R_below (by (with_reducible repeat (first | apply Kd.R_alloc | apply Kd.R_drewN | apply Kd.R_drew)); exact HO_224000.out) hb); have n2_ := Aside0.mk (Kd.R_below (by (with_reducible repeat (first | apply Kd.R_alloc | apply Kd.R_drewN | apply Kd.R_drew)); exact HO_228000.out) hb); have n3_ := Aside0.mk (Kd.R_below (by (with_reducible repeat (first | apply Kd.R_alloc | apply Kd.R_drewN | apply Kd.R_drew)); exact HO_236000.out) hb); have n4_ := Aside0.mk (Kd.R_below (by (with_reducible repeat (first | apply Kd.R_alloc | apply Kd.R_drewN | apply Kd.R_drew)); exact HO239.out) hb); have n5_ := Aside0.mk (Kd.R_below (by (with_reducible repeat (first | apply Kd.R_alloc | apply Kd.R_drewN | apply Kd.R_drew)); exact HO243.out) hb); have n6_ := Aside0.mk (blk_below (g := gb211) (o := .cells #[.slice A0_0 l0_0.length c0_0] 41 (0, 0)) (by (with_reducible repeat (first | refine blk_drewN ?_ _ | refine blk_drew ?_ | refine blk_alloc ?_ _)); exact BK211.out) hb); have n7_ := Aside0.mk (blk_below (g := gb223) (o := .cells #[.slice Ao27 t219.length co27] 26 (0, 0)) (by (with_reducible repeat (first | refine blk_drewN ?_ _ | refine blk_drew ?_ | refine blk_alloc ?_ _)); exact BK223.out) hb); have n8_ := Aside0.mk (blk_below (g := gb227) (o := .cells #[.slice Ao33 t224.length co33] 26 (0, 0)) (by (with_reducible repeat (first | refine blk_drewN ?_ _ | refine blk_drew ?_ | refine blk_alloc ?_ _)); exact BK227.out) hb); have n9_ := Aside0.mk (blk_below (g := gb235) (o := .cells #[.slice Ao42 t231.length co42] 26 (0, 0)) (by (with_reducible repeat (first | refine blk_drewN ?_ _ | refine blk_drew ?_ | refine blk_alloc ?_ _)); exact BK235.out) hb); have n10_ := Aside0.mk (below_step (by repeat (first | (with_reducible first | exact HB.out | apply below_alloc | apply pw_below_drewN | apply below_drew1 | refine below_set ?_ GE211.out | refine below_set ?_ GE223.out | refine below_set ?_ GE227.out | refine below_set ?_ GE235.out) | exact HB.out)) hb); clear HO_9; clear HO_224000; clear HO_228000; clear HO_236000; clear HO239; clear HO243; clear BK211; clear BK223; clear BK227; clear BK235; clear HB; have HO_9 := n0_; have HO_224000 := n1_; have HO_228000 := n2_; have HO_236000 := n3_; have HO239 := n4_; have HO243 := n5_; have BK211 := n6_; have BK223 := n7_; have BK227 := n8_; have BK235 := n9_; have HB := n10_; clear n0_ n1_ n2_ n3_ n4_ n5_ n6_ n7_ n8_ n9_ n10_; (try clear hb); (try clear hb2); (try clear hk); (try clear hi)))
                      go_meet
                      case rel => exact ⟨_, (true), (by first | rfl | (simp; done) | (simp [*]; done)), H', ⟨by have := HJ15.out; first | omega | exact Nat.le_refl _⟩, ⟨by (with_reducible repeat (first | apply Kd.R_alloc | apply Kd.R_drewN | apply Kd.R_drew)); exact Kd.R_mono HO_224000.out (fun _ hk => ⟨hk.1, hk.2.1⟩)⟩, ⟨by (with_reducible repeat (first | apply Kd.R_alloc | apply Kd.R_drewN | apply Kd.R_drew)); exact Kd.R_mono HO_228000.out (fun _ hk => ⟨hk.1, hk.2.1⟩)⟩, ⟨by (with_reducible repeat (first | apply Kd.R_alloc | apply Kd.R_drewN | apply Kd.R_drew)); exact Kd.R_mono HO_236000.out (fun _ hk => ⟨hk.1, hk.2.1⟩)⟩, ⟨by (with_reducible repeat (first | refine blk_drewN ?_ _ | refine blk_drew ?_ | refine blk_alloc ?_ _)); exact BK211.out⟩, ⟨by (with_reducible repeat (first | refine blk_drewN ?_ _ | refine blk_drew ?_ | refine blk_alloc ?_ _)); exact BK223.out⟩, ⟨by (with_reducible repeat (first | refine blk_drewN ?_ _ | refine blk_drew ?_ | refine blk_alloc ?_ _)); exact BK227.out⟩, ⟨by (with_reducible repeat (first | refine blk_drewN ?_ _ | refine blk_drew ?_ | refine blk_alloc ?_ _)); exact BK235.out⟩, ⟨by repeat (first | (with_reducible first | exact HB.out | apply below_alloc | apply pw_below_drewN | apply below_drew1 | refine below_set ?_ GE211.out | refine below_set ?_ GE223.out | refine below_set ?_ GE227.out | refine below_set ?_ GE235.out) | exact HB.out)⟩⟩
                case rest =>
                  clear HC74
                  try clear c1
                  try clear c2
                  try clear p2
                  try clear c3
                  try clear c3b0
                  try clear c3b1
                  try clear c4
                  try clear c5
                  try clear c6
                  try clear c6b0
                  try clear c7
                  try clear c8
                  try clear c9
                  try clear c10
                  try clear c24
                  try clear c26
                  try clear c28
                  try clear c33
                  try clear c34
                  try clear c35
                  try clear c36
                  try clear c37
                  try clear c38
                  try clear c43
                  try clear c44
                  try clear c45
                  try clear c48
                  try clear c49
                  try clear c50
                  try clear c51
                  try clear c53
                  try clear c54
                  try clear c57
                  try clear c58
                  try clear c59
                  try clear c61
                  try clear c62
                  try clear c65
                  try clear c68
                  try clear c71
                  try clear c81
                  try clear c82
                  try clear c83
                  try clear c87
                  try clear c87b0
                  try clear c89
                  try clear c90
                  try clear c91
                  try clear c92
                  try clear c94
                  try clear c95
                  try clear c98
                  try clear c99
                  try clear c100
                  try clear c102
                  try clear c103
                  try clear hcz101_0
                  try clear hcz104_0
                  try clear hcz18_0
                  try clear hcz20_0
                  try clear hcz29_0
                  try clear hcz30_0
                  try clear hcz36_0
                  try clear hcz38_0
                  try clear hcz46_0
                  try clear hcz52_0
                  try clear hcz55_0
                  try clear hcz60_0
                  try clear hcz63_0
                  try clear hcz84_0
                  try clear hcz8_0
                  try clear hcz93_0
                  try clear hcz96_0
                  try clear hfz101_0
                  try clear hfz104_0
                  try clear hfz18_0
                  try clear hfz20_0
                  try clear hfz29_0
                  try clear hfz30_0
                  try clear hfz36_0
                  try clear hfz38_0
                  try clear hfz46_0
                  try clear hfz52_0
                  try clear hfz55_0
                  try clear hfz60_0
                  try clear hfz63_0
                  try clear hfz84_0
                  try clear hfz8_0
                  try clear hfz93_0
                  try clear hfz96_0
                  try clear p2
                  obtain ⟨kq, x80_73, rfl, HA, HJ73, HO_224000, HO_228000, HO_236000, BK211, BK223, BK227, BK235, HB⟩ := hcut
                  have hl228000_73 := (Kd.R_reads' HO_228000.out).1
                  rw [hl228000_73] at HO_228000
                  (try simp only [hl228000_73])
                  (try simp only [hl228000_73] at BK211)
                  (try simp only [hl228000_73] at BK223)
                  (try simp only [hl228000_73] at BK227)
                  (try simp only [hl228000_73] at BK235)
                  (try simp only [hl228000_73] at HO_224000)
                  (try simp only [hl228000_73] at HO_236000)
                  cases kq with
                  | zero => exact absurd HA.out (by simp [laws_FnExactList.j1])
                  | succ kj73 =>
                    have H := HA.out
                    clear HA
                    simp only [laws_FnExactList.j1] at H
                    by_cases c106 : x80_73 = true
                    · subst c106
                      have H1 : (some false) = some r := by rw [if_pos rfl] at H; exact H
                      clear H
                      have H := H1
                      clear H1
                      obtain rfl := Option.some.inj H
                      go_wp2
                      go_ret
                      exact ⟨by first | rfl | (simp [errW_none, errW_some] <;> rfl) | (simp [*, errW_none, errW_some] <;> rfl), by repeat (first | (with_reducible first | exact HB.out | apply below_alloc | apply pw_below_drewN | apply below_drew1 | refine below_set ?_ GE211.out | refine below_set ?_ GE223.out | refine below_set ?_ GE227.out | refine below_set ?_ GE235.out) | exact HB.out)⟩
                    · replace c106 := Bool.eq_false_iff.mpr c106
                      subst c106
                      have H1 : ((laws_markArena.f kj73 t231 1).bind fun bt250 => ((laws_heldArena.f kj73 bt250.2 1).bind fun t252 => (if t252 < 0 then (some false) else (if t252 = bt250.1 then ((laws_toArena.f kj73 l0_0).bind fun t253 => ((laws_toIntS.f kj73 l1).bind fun t256 => ((impl_List.f t253 t256).bind fun bt259 => ((laws_eqArena.f kj73 bt259.1 t219).bind fun t264 => (if t264 = true then (laws_FnExactList.j2 kj73 bt250.1 (bt259.2 != t222) bt250.2) else (laws_FnExactList.j2 kj73 bt250.1 true bt250.2)))))) else (some false))))) = some r := by rw [if_neg (show ¬ (false = true) by decide)] at H; exact H
                      clear H
                      have H := H1
                      clear H1
                      replace H := Option.bind_eq_some_iff.mp H
                      obtain ⟨⟨t250, t251⟩, A1070, H⟩ := H
                      replace H : ((laws_heldArena.f kj73 t251 1).bind fun t252 => (if t252 < 0 then (some false) else (if t252 = t250 then ((laws_toArena.f kj73 l0_0).bind fun t253 => ((laws_toIntS.f kj73 l1).bind fun t256 => ((impl_List.f t253 t256).bind fun bt259 => ((laws_eqArena.f kj73 bt259.1 t219).bind fun t264 => (if t264 = true then (laws_FnExactList.j2 kj73 t250 (bt259.2 != t222) t251) else (laws_FnExactList.j2 kj73 t250 true t251)))))) else (some false)))) = some r := H
                      have A107 := Aside0.mk A1070
                      clear A1070
                      replace H := Option.bind_eq_some_iff.mp H
                      obtain ⟨t252, A1080, H⟩ := H
                      replace H : (if t252 < 0 then (some false) else (if t252 = t250 then ((laws_toArena.f kj73 l0_0).bind fun t253 => ((laws_toIntS.f kj73 l1).bind fun t256 => ((impl_List.f t253 t256).bind fun bt259 => ((laws_eqArena.f kj73 bt259.1 t219).bind fun t264 => (if t264 = true then (laws_FnExactList.j2 kj73 t250 (bt259.2 != t222) t251) else (laws_FnExactList.j2 kj73 t250 true t251)))))) else (some false))) = some r := H
                      have A108 := Aside0.mk A1080
                      clear A1080
                      by_cases c109 : t252 < 0
                      · rw [if_pos c109] at H
                        have c109b0 : decide (t252 < 0) = true := decide_eq_true c109
                        clear c109
                        obtain rfl := Option.some.inj H
                        have hnb110 := NB235_211.out
                        have hnc110 := NB211_235.out
                        have hnb111 := NB235_223.out
                        have hnc111 := NB223_235.out
                        have hnb112 := NB235_227.out
                        have hnc112 := NB227_235.out
                        have hcz113_0 : wc.cell? ⟨gb235, 0, none⟩ = some (.slice Ao42 t231.length co42) := (blk_cell BK235.out 0).trans rfl
                        have hfz113_0 := blk_frozen BK235.out 0
                        go_wp2_with (first | ((with_reducible refine gate_callee (f := 37) rfl ?_); refine goesL_ (some 83) rfl rfl Try.func37 (by kernel_rfl) rfl #[.agg #[.slice Ao42 t231.length co42], .int .i64 1] rfl (by (try simp only [List.map_toArray, List.map_cons, List.map_nil]); first | done | rfl | (simp only [List.length_drop, List.length_take]; rfl)) ?_; (with_reducible refine (laws_markArena.calls kj73 (fun k_ => some k_ = (.slice Ao42 t231.length co42 : Value).ownBlock) (.slice Ao42 t231.length co42) t231 1 t250 t251 w _ ?side1 ?side2 A107.out).mono ?_); (case side1 => repeat (first | (with_reducible first | exact HB.out | apply below_alloc | apply pw_below_drewN | apply below_drew1 | refine below_set ?_ GE211.out | refine below_set ?_ GE223.out | refine below_set ?_ GE227.out | refine below_set ?_ GE235.out) | exact HB.out)); (case side2 => exact Kd.R_tight rfl HO_236000.out); rintro e w114 ⟨rfl, hy0, hb, hkp⟩; refine ⟨_, rfl, ?_⟩; have n0_ := Aside0.mk (Kd.R_mono (ok' := fun k_ => some k_ ≠ (.slice Ao33 t246.length co33 : Value).ownBlock ∧ some k_ ≠ (.slice Ao42 t231.length co42 : Value).ownBlock) (Kd.R_keptB (HO_224000.out) hkp (fun k_ hk_ hs_ => (hk_.2) hs_)) (fun k_ hk_ => ⟨hk_.1.1, hk_.1.2⟩)); have n1_ := Aside0.mk (Kd.R_mono (ok' := fun k_ => some k_ ≠ (.slice Ao27 t219.length co27 : Value).ownBlock ∧ some k_ ≠ (.slice Ao42 t231.length co42 : Value).ownBlock) (Kd.R_keptB (HO_228000.out) hkp (fun k_ hk_ hs_ => (hk_.2) hs_)) (fun k_ hk_ => ⟨hk_.1.1, hk_.1.2⟩)); have n2_ := Aside0.mk (Kd.R_reok rfl hy0 (fun k_ e_ => HO_236000.out.1 k_ e_)); have n3_ := Aside0.mk (blk_kept (by (with_reducible repeat (first | refine blk_drewN ?_ _ | refine blk_drew ?_ | refine blk_alloc ?_ _)); exact BK211.out) hkp (fun hs_ => (fun e_ => (Kd.R_ne HO_236000.out BK211.out (by decide)) e_) hs_)); have n4_ := Aside0.mk (blk_kept (by (with_reducible repeat (first | refine blk_drewN ?_ _ | refine blk_drew ?_ | refine blk_alloc ?_ _)); exact BK223.out) hkp (fun hs_ => (fun e_ => (Kd.R_ne HO_236000.out BK223.out (by decide)) e_) hs_)); have n5_ := Aside0.mk (blk_kept (by (with_reducible repeat (first | refine blk_drewN ?_ _ | refine blk_drew ?_ | refine blk_alloc ?_ _)); exact BK227.out) hkp (fun hs_ => (fun e_ => (Kd.R_ne HO_236000.out BK227.out (by decide)) e_) hs_)); have n6_ := Aside0.mk (blk_kept (by (with_reducible repeat (first | refine blk_drewN ?_ _ | refine blk_drew ?_ | refine blk_alloc ?_ _)); exact BK235.out) hkp (fun hs_ => (fun e_ => (Kd.R_ne HO_236000.out BK235.out (by decide)) e_) hs_)); have n7_ := Aside0.mk (hb); clear HO_224000; clear HO_228000; clear HO_236000; clear BK211; clear BK223; clear BK227; clear BK235; clear HB; have HO_224000 := n0_; have HO_228000 := n1_; have HO_236000 := n2_; have BK211 := n3_; have BK223 := n4_; have BK227 := n5_; have BK235 := n6_; have HB := n7_; clear n0_ n1_ n2_ n3_ n4_ n5_ n6_ n7_; (try clear hb); (try clear hkp); (try clear hy0); have hcz115_0 : w114.cell? ⟨gb235, 0, none⟩ = some (.slice Ao42 t231.length co42) := (blk_cell BK235.out 0).trans rfl; have hfz115_0 := blk_frozen BK235.out 0) | ((with_reducible refine gate_callee (f := 39) rfl ?_); refine goesL_ (some 86) rfl rfl Try.func39 (by kernel_rfl) rfl #[.agg #[.slice Ao42 t251.length co42], .int .i64 1] rfl (by (try simp only [List.map_toArray, List.map_cons, List.map_nil]); first | done | (rw [show t251.length = t231.length from (Kd.R_reads' HO_236000.out).1.symm] <;> rfl) | rfl | (simp only [List.length_drop, List.length_take]; rfl)) ?_; (with_reducible refine (laws_heldArena.calls kj73 _ _ t251 1 t252 _ ?side1 ?side2 A108.out).mono ?_); (case side1 => repeat (first | exact (Kd.R_reads' HO_236000.out).2.2 | (with_reducible refine Kd.C_alloc ?_ _) | (with_reducible refine Kd.C_drewN ?_ _) | (with_reducible refine Kd.C_drew ?_))); (case side2 => rw [show t251.length = t231.length from (Kd.R_reads' HO_236000.out).1.symm]; exact (Kd.R_reads' HO_236000.out).2.1); rintro e w116 ⟨rfl, hb⟩; refine ⟨_, rfl, ?_⟩; have n0_ := Aside0.mk (Kd.R_below (by (with_reducible repeat (first | apply Kd.R_alloc | apply Kd.R_drewN | apply Kd.R_drew)); exact HO_224000.out) hb); have n1_ := Aside0.mk (Kd.R_below (by (with_reducible repeat (first | apply Kd.R_alloc | apply Kd.R_drewN | apply Kd.R_drew)); exact HO_228000.out) hb); have n2_ := Aside0.mk (Kd.R_below (by (with_reducible repeat (first | apply Kd.R_alloc | apply Kd.R_drewN | apply Kd.R_drew)); exact HO_236000.out) hb); have n3_ := Aside0.mk (blk_below (g := gb211) (o := .cells #[.slice A0_0 l0_0.length c0_0] 41 (0, 0)) (by (with_reducible repeat (first | refine blk_drewN ?_ _ | refine blk_drew ?_ | refine blk_alloc ?_ _)); exact BK211.out) hb); have n4_ := Aside0.mk (blk_below (g := gb223) (o := .cells #[.slice Ao27 t219.length co27] 26 (0, 0)) (by (with_reducible repeat (first | refine blk_drewN ?_ _ | refine blk_drew ?_ | refine blk_alloc ?_ _)); exact BK223.out) hb); have n5_ := Aside0.mk (blk_below (g := gb227) (o := .cells #[.slice Ao33 t246.length co33] 26 (0, 0)) (by (with_reducible repeat (first | refine blk_drewN ?_ _ | refine blk_drew ?_ | refine blk_alloc ?_ _)); exact BK227.out) hb); have n6_ := Aside0.mk (blk_below (g := gb235) (o := .cells #[.slice Ao42 t231.length co42] 26 (0, 0)) (by (with_reducible repeat (first | refine blk_drewN ?_ _ | refine blk_drew ?_ | refine blk_alloc ?_ _)); exact BK235.out) hb); have n7_ := Aside0.mk (below_step (by repeat (first | (with_reducible first | exact HB.out | apply below_alloc | apply pw_below_drewN | apply below_drew1 | refine below_set ?_ GE211.out | refine below_set ?_ GE223.out | refine below_set ?_ GE227.out | refine below_set ?_ GE235.out) | exact HB.out)) hb); clear HO_224000; clear HO_228000; clear HO_236000; clear BK211; clear BK223; clear BK227; clear BK235; clear HB; have HO_224000 := n0_; have HO_228000 := n1_; have HO_236000 := n2_; have BK211 := n3_; have BK223 := n4_; have BK227 := n5_; have BK235 := n6_; have HB := n7_; clear n0_ n1_ n2_ n3_ n4_ n5_ n6_ n7_; (try clear hb); (try clear hb2); (try clear hk); (try clear hi)))
                        go_ret
                        exact ⟨by first | rfl | (simp [errW_none, errW_some] <;> rfl) | (simp [*, errW_none, errW_some] <;> rfl), by repeat (first | (with_reducible first | exact HB.out | apply below_alloc | apply pw_below_drewN | apply below_drew1 | refine below_set ?_ GE211.out | refine below_set ?_ GE223.out | refine below_set ?_ GE227.out | refine below_set ?_ GE235.out) | exact HB.out)⟩
                      · rw [if_neg c109] at H
                        have c109b0 : decide (t252 < 0) = false := decide_eq_false c109
                        clear c109
                        by_cases c117 : t252 = t250
                        · rw [if_pos c117] at H
                          have c117b0 : (t252 == t250) = true := beq_iff_eq.mpr c117
                          have c117b1 : (t252 != t250) = false := bne_eq_false_iff_eq.mpr c117
                          clear c117
                          replace H := Option.bind_eq_some_iff.mp H
                          obtain ⟨t253, A1180, H⟩ := H
                          replace H : ((laws_toIntS.f kj73 l1).bind fun t256 => ((impl_List.f t253 t256).bind fun bt259 => ((laws_eqArena.f kj73 bt259.1 t219).bind fun t264 => (if t264 = true then (laws_FnExactList.j2 kj73 t250 (bt259.2 != t222) t251) else (laws_FnExactList.j2 kj73 t250 true t251))))) = some r := H
                          have A118 := Aside0.mk A1180
                          clear A1180
                          replace H := Option.bind_eq_some_iff.mp H
                          obtain ⟨t256, A1190, H⟩ := H
                          replace H : ((impl_List.f t253 t256).bind fun bt259 => ((laws_eqArena.f kj73 bt259.1 t219).bind fun t264 => (if t264 = true then (laws_FnExactList.j2 kj73 t250 (bt259.2 != t222) t251) else (laws_FnExactList.j2 kj73 t250 true t251)))) = some r := H
                          have A119 := Aside0.mk A1190
                          clear A1190
                          replace H := Option.bind_eq_some_iff.mp H
                          obtain ⟨⟨t259, t262⟩, A1200, H⟩ := H
                          replace H : ((laws_eqArena.f kj73 t259 t219).bind fun t264 => (if t264 = true then (laws_FnExactList.j2 kj73 t250 (t262 != t222) t251) else (laws_FnExactList.j2 kj73 t250 true t251))) = some r := H
                          have A120 := Aside0.mk A1200
                          clear A1200
                          have HC121 := Aside0.mk H
                          clear H
                          have hnb122 := NB235_211.out
                          have hnc122 := NB211_235.out
                          have hnb123 := NB235_223.out
                          have hnc123 := NB223_235.out
                          have hnb124 := NB235_227.out
                          have hnc124 := NB227_235.out
                          have hcz125_0 : wc.cell? ⟨gb235, 0, none⟩ = some (.slice Ao42 t231.length co42) := (blk_cell BK235.out 0).trans rfl
                          have hfz125_0 := blk_frozen BK235.out 0
                          go_upto_region 31 with (first | ((with_reducible refine gate_callee (f := 37) rfl ?_); refine goesL_ (some 83) rfl rfl Try.func37 (by kernel_rfl) rfl #[.agg #[.slice Ao42 t231.length co42], .int .i64 1] rfl (by (try simp only [List.map_toArray, List.map_cons, List.map_nil]); first | done | rfl | (simp only [List.length_drop, List.length_take]; rfl)) ?_; (with_reducible refine (laws_markArena.calls kj73 (fun k_ => some k_ = (.slice Ao42 t231.length co42 : Value).ownBlock) (.slice Ao42 t231.length co42) t231 1 t250 t251 w _ ?side1 ?side2 A107.out).mono ?_); (case side1 => repeat (first | (with_reducible first | exact HB.out | apply below_alloc | apply pw_below_drewN | apply below_drew1 | refine below_set ?_ GE211.out | refine below_set ?_ GE223.out | refine below_set ?_ GE227.out | refine below_set ?_ GE235.out) | exact HB.out)); (case side2 => exact Kd.R_tight rfl HO_236000.out); rintro e w126 ⟨rfl, hy0, hb, hkp⟩; refine ⟨_, rfl, ?_⟩; have n0_ := Aside0.mk (Kd.R_mono (ok' := fun k_ => some k_ ≠ (.slice Ao33 t246.length co33 : Value).ownBlock ∧ some k_ ≠ (.slice Ao42 t231.length co42 : Value).ownBlock) (Kd.R_keptB (HO_224000.out) hkp (fun k_ hk_ hs_ => (hk_.2) hs_)) (fun k_ hk_ => ⟨hk_.1.1, hk_.1.2⟩)); have n1_ := Aside0.mk (Kd.R_mono (ok' := fun k_ => some k_ ≠ (.slice Ao27 t219.length co27 : Value).ownBlock ∧ some k_ ≠ (.slice Ao42 t231.length co42 : Value).ownBlock) (Kd.R_keptB (HO_228000.out) hkp (fun k_ hk_ hs_ => (hk_.2) hs_)) (fun k_ hk_ => ⟨hk_.1.1, hk_.1.2⟩)); have n2_ := Aside0.mk (Kd.R_reok rfl hy0 (fun k_ e_ => HO_236000.out.1 k_ e_)); have n3_ := Aside0.mk (blk_kept (by (with_reducible repeat (first | refine blk_drewN ?_ _ | refine blk_drew ?_ | refine blk_alloc ?_ _)); exact BK211.out) hkp (fun hs_ => (fun e_ => (Kd.R_ne HO_236000.out BK211.out (by decide)) e_) hs_)); have n4_ := Aside0.mk (blk_kept (by (with_reducible repeat (first | refine blk_drewN ?_ _ | refine blk_drew ?_ | refine blk_alloc ?_ _)); exact BK223.out) hkp (fun hs_ => (fun e_ => (Kd.R_ne HO_236000.out BK223.out (by decide)) e_) hs_)); have n5_ := Aside0.mk (blk_kept (by (with_reducible repeat (first | refine blk_drewN ?_ _ | refine blk_drew ?_ | refine blk_alloc ?_ _)); exact BK227.out) hkp (fun hs_ => (fun e_ => (Kd.R_ne HO_236000.out BK227.out (by decide)) e_) hs_)); have n6_ := Aside0.mk (blk_kept (by (with_reducible repeat (first | refine blk_drewN ?_ _ | refine blk_drew ?_ | refine blk_alloc ?_ _)); exact BK235.out) hkp (fun hs_ => (fun e_ => (Kd.R_ne HO_236000.out BK235.out (by decide)) e_) hs_)); have n7_ := Aside0.mk (hb); clear HO_224000; clear HO_228000; clear HO_236000; clear BK211; clear BK223; clear BK227; clear BK235; clear HB; have HO_224000 := n0_; have HO_228000 := n1_; have HO_236000 := n2_; have BK211 := n3_; have BK223 := n4_; have BK227 := n5_; have BK235 := n6_; have HB := n7_; clear n0_ n1_ n2_ n3_ n4_ n5_ n6_ n7_; (try clear hb); (try clear hkp); (try clear hy0); have hcz127_0 : w126.cell? ⟨gb235, 0, none⟩ = some (.slice Ao42 t231.length co42) := (blk_cell BK235.out 0).trans rfl; have hfz127_0 := blk_frozen BK235.out 0) | ((with_reducible refine gate_callee (f := 39) rfl ?_); refine goesL_ (some 86) rfl rfl Try.func39 (by kernel_rfl) rfl #[.agg #[.slice Ao42 t251.length co42], .int .i64 1] rfl (by (try simp only [List.map_toArray, List.map_cons, List.map_nil]); first | done | (rw [show t251.length = t231.length from (Kd.R_reads' HO_236000.out).1.symm] <;> rfl) | rfl | (simp only [List.length_drop, List.length_take]; rfl)) ?_; (with_reducible refine (laws_heldArena.calls kj73 _ _ t251 1 t252 _ ?side1 ?side2 A108.out).mono ?_); (case side1 => repeat (first | exact (Kd.R_reads' HO_236000.out).2.2 | (with_reducible refine Kd.C_alloc ?_ _) | (with_reducible refine Kd.C_drewN ?_ _) | (with_reducible refine Kd.C_drew ?_))); (case side2 => rw [show t251.length = t231.length from (Kd.R_reads' HO_236000.out).1.symm]; exact (Kd.R_reads' HO_236000.out).2.1); rintro e w128 ⟨rfl, hb⟩; refine ⟨_, rfl, ?_⟩; have n0_ := Aside0.mk (Kd.R_below (by (with_reducible repeat (first | apply Kd.R_alloc | apply Kd.R_drewN | apply Kd.R_drew)); exact HO_224000.out) hb); have n1_ := Aside0.mk (Kd.R_below (by (with_reducible repeat (first | apply Kd.R_alloc | apply Kd.R_drewN | apply Kd.R_drew)); exact HO_228000.out) hb); have n2_ := Aside0.mk (Kd.R_below (by (with_reducible repeat (first | apply Kd.R_alloc | apply Kd.R_drewN | apply Kd.R_drew)); exact HO_236000.out) hb); have n3_ := Aside0.mk (blk_below (g := gb211) (o := .cells #[.slice A0_0 l0_0.length c0_0] 41 (0, 0)) (by (with_reducible repeat (first | refine blk_drewN ?_ _ | refine blk_drew ?_ | refine blk_alloc ?_ _)); exact BK211.out) hb); have n4_ := Aside0.mk (blk_below (g := gb223) (o := .cells #[.slice Ao27 t219.length co27] 26 (0, 0)) (by (with_reducible repeat (first | refine blk_drewN ?_ _ | refine blk_drew ?_ | refine blk_alloc ?_ _)); exact BK223.out) hb); have n5_ := Aside0.mk (blk_below (g := gb227) (o := .cells #[.slice Ao33 t246.length co33] 26 (0, 0)) (by (with_reducible repeat (first | refine blk_drewN ?_ _ | refine blk_drew ?_ | refine blk_alloc ?_ _)); exact BK227.out) hb); have n6_ := Aside0.mk (blk_below (g := gb235) (o := .cells #[.slice Ao42 t231.length co42] 26 (0, 0)) (by (with_reducible repeat (first | refine blk_drewN ?_ _ | refine blk_drew ?_ | refine blk_alloc ?_ _)); exact BK235.out) hb); have n7_ := Aside0.mk (below_step (by repeat (first | (with_reducible first | exact HB.out | apply below_alloc | apply pw_below_drewN | apply below_drew1 | refine below_set ?_ GE211.out | refine below_set ?_ GE223.out | refine below_set ?_ GE227.out | refine below_set ?_ GE235.out) | exact HB.out)) hb); clear HO_224000; clear HO_228000; clear HO_236000; clear BK211; clear BK223; clear BK227; clear BK235; clear HB; have HO_224000 := n0_; have HO_228000 := n1_; have HO_236000 := n2_; have BK211 := n3_; have BK223 := n4_; have BK227 := n5_; have BK235 := n6_; have HB := n7_; clear n0_ n1_ n2_ n3_ n4_ n5_ n6_ n7_; (try clear hb); (try clear hb2); (try clear hk); (try clear hi); have hnb129 := NB211_223.out; have hnc129 := NB223_211.out; have hnb130 := NB211_227.out; have hnc130 := NB227_211.out; have hcz131_0 : w128.cell? ⟨gb211, 0, none⟩ = some (.slice A0_0 l0_0.length c0_0) := (blk_cell BK211.out 0).trans rfl; have hfz131_0 := blk_frozen BK211.out 0) | ((with_reducible refine gate_callee (f := 26) rfl ?_); refine goesL_ (some 94) rfl rfl Try.func26 (by kernel_rfl) rfl #[.agg #[.slice A0_0 l0_0.length c0_0]] rfl (by (try simp only [List.map_toArray, List.map_cons, List.map_nil]); first | done | rfl | (simp only [List.length_drop, List.length_take]; rfl)) ?_; (with_reducible refine (laws_toArena.calls kj73 _ _ l0_0 t253 _ ?side1 ?side2 A118.out).mono ?_); (case side1 => repeat (first | exact (Kd.C_below HR0_0.out HB.out) | (with_reducible refine Kd.C_alloc ?_ _) | (with_reducible refine Kd.C_drewN ?_ _) | (with_reducible refine Kd.C_drew ?_))); (case side2 => exact HC0_0.out); rintro e w132 ⟨v254, rfl, ho0, hb⟩; refine ⟨_, rfl, ?_⟩; have n0_ := Aside0.mk (Kd.R_elder' (by (with_reducible repeat (first | apply Kd.R_alloc | apply Kd.R_drewN | apply Kd.R_drew)); exact HO_224000.out) (Kd.R_base ho0) hb); have n1_ := Aside0.mk (Kd.R_elder' (by (with_reducible repeat (first | apply Kd.R_alloc | apply Kd.R_drewN | apply Kd.R_drew)); exact HO_228000.out) (Kd.R_base ho0) hb); have n2_ := Aside0.mk (Kd.R_elder' (by (with_reducible repeat (first | apply Kd.R_alloc | apply Kd.R_drewN | apply Kd.R_drew)); exact HO_236000.out) (Kd.R_base ho0) hb); have n3_ := Aside0.mk (Kd.R_lower (Kd.R_new' (Kd.R_new' (Kd.R_new' ho0 (Kd.R_lt (by (with_reducible repeat (first | apply Kd.R_alloc | apply Kd.R_drewN | apply Kd.R_drew)); exact HO_224000.out))) (Kd.R_lt (by (with_reducible repeat (first | apply Kd.R_alloc | apply Kd.R_drewN | apply Kd.R_drew)); exact HO_228000.out))) (Kd.R_lt (by (with_reducible repeat (first | apply Kd.R_alloc | apply Kd.R_drewN | apply Kd.R_drew)); exact HO_236000.out))) (below_size (by repeat (first | (with_reducible first | exact HB.out | apply below_alloc | apply pw_below_drewN | apply below_drew1 | refine below_set ?_ GE211.out | refine below_set ?_ GE223.out | refine below_set ?_ GE227.out | refine below_set ?_ GE235.out) | exact HB.out)))); have n4_ := Aside0.mk (blk_below (g := gb211) (o := .cells #[.slice A0_0 l0_0.length c0_0] 41 (0, 0)) (by (with_reducible repeat (first | refine blk_drewN ?_ _ | refine blk_drew ?_ | refine blk_alloc ?_ _)); exact BK211.out) hb); have n5_ := Aside0.mk (blk_below (g := gb223) (o := .cells #[.slice Ao27 t219.length co27] 26 (0, 0)) (by (with_reducible repeat (first | refine blk_drewN ?_ _ | refine blk_drew ?_ | refine blk_alloc ?_ _)); exact BK223.out) hb); have n6_ := Aside0.mk (blk_below (g := gb227) (o := .cells #[.slice Ao33 t246.length co33] 26 (0, 0)) (by (with_reducible repeat (first | refine blk_drewN ?_ _ | refine blk_drew ?_ | refine blk_alloc ?_ _)); exact BK227.out) hb); have n7_ := Aside0.mk (blk_below (g := gb235) (o := .cells #[.slice Ao42 t231.length co42] 26 (0, 0)) (by (with_reducible repeat (first | refine blk_drewN ?_ _ | refine blk_drew ?_ | refine blk_alloc ?_ _)); exact BK235.out) hb); have n8_ := Aside0.mk (below_step (by repeat (first | (with_reducible first | exact HB.out | apply below_alloc | apply pw_below_drewN | apply below_drew1 | refine below_set ?_ GE211.out | refine below_set ?_ GE223.out | refine below_set ?_ GE227.out | refine below_set ?_ GE235.out) | exact HB.out)) hb); clear HO_224000; clear HO_228000; clear HO_236000; clear BK211; clear BK223; clear BK227; clear BK235; clear HB; have HO_224000 := n0_; have HO_228000 := n1_; have HO_236000 := n2_; have HO255 := n3_; have BK211 := n4_; have BK223 := n5_; have BK227 := n6_; have BK235 := n7_; have HB := n8_; clear n0_ n1_ n2_ n3_ n4_ n5_ n6_ n7_ n8_; (try clear hb); (try clear hb2); (try clear hk); (try clear hi); (try clear ho0)) | ((with_reducible refine gate_callee (f := 34) rfl ?_); refine goesL_ (some 96) rfl rfl Try.func34 (by kernel_rfl) rfl #[.slice A1 l1.length c1] rfl (by (try simp only [List.map_toArray, List.map_cons, List.map_nil]); first | done | rfl | (simp only [List.length_drop, List.length_take]; rfl)) ?_; (with_reducible refine (laws_toIntS.calls kj73 _ _ l1 t256 _ ?side1 ?side2 A119.out).mono ?_); (case side1 => repeat (first | exact (Kd.C_below HR1.out HB.out) | (with_reducible refine Kd.C_alloc ?_ _) | (with_reducible refine Kd.C_drewN ?_ _) | (with_reducible refine Kd.C_drew ?_))); (case side2 => exact HC1.out); rintro e w133 ⟨v257, rfl, ho0, hb⟩; refine ⟨_, rfl, ?_⟩; have n0_ := Aside0.mk (Kd.R_below (by (with_reducible repeat (first | apply Kd.R_alloc | apply Kd.R_drewN | apply Kd.R_drew)); exact HO_224000.out) hb); have n1_ := Aside0.mk (Kd.R_below (by (with_reducible repeat (first | apply Kd.R_alloc | apply Kd.R_drewN | apply Kd.R_drew)); exact HO_228000.out) hb); have n2_ := Aside0.mk (Kd.R_below (by (with_reducible repeat (first | apply Kd.R_alloc | apply Kd.R_drewN | apply Kd.R_drew)); exact HO_236000.out) hb); have n3_ := Aside0.mk (Kd.R_below (by (with_reducible repeat (first | apply Kd.R_alloc | apply Kd.R_drewN | apply Kd.R_drew)); exact HO255.out) hb); have n4_ := Aside0.mk (Kd.R_lower ho0 (below_size (by repeat (first | (with_reducible first | exact HB.out | apply below_alloc | apply pw_below_drewN | apply below_drew1 | refine below_set ?_ GE211.out | refine below_set ?_ GE223.out | refine below_set ?_ GE227.out | refine below_set ?_ GE235.out) | exact HB.out)))); have n5_ := Aside0.mk (blk_below (g := gb211) (o := .cells #[.slice A0_0 l0_0.length c0_0] 41 (0, 0)) (by (with_reducible repeat (first | refine blk_drewN ?_ _ | refine blk_drew ?_ | refine blk_alloc ?_ _)); exact BK211.out) hb); have n6_ := Aside0.mk (blk_below (g := gb223) (o := .cells #[.slice Ao27 t219.length co27] 26 (0, 0)) (by (with_reducible repeat (first | refine blk_drewN ?_ _ | refine blk_drew ?_ | refine blk_alloc ?_ _)); exact BK223.out) hb); have n7_ := Aside0.mk (blk_below (g := gb227) (o := .cells #[.slice Ao33 t246.length co33] 26 (0, 0)) (by (with_reducible repeat (first | refine blk_drewN ?_ _ | refine blk_drew ?_ | refine blk_alloc ?_ _)); exact BK227.out) hb); have n8_ := Aside0.mk (blk_below (g := gb235) (o := .cells #[.slice Ao42 t231.length co42] 26 (0, 0)) (by (with_reducible repeat (first | refine blk_drewN ?_ _ | refine blk_drew ?_ | refine blk_alloc ?_ _)); exact BK235.out) hb); have n9_ := Aside0.mk (below_step (by repeat (first | (with_reducible first | exact HB.out | apply below_alloc | apply pw_below_drewN | apply below_drew1 | refine below_set ?_ GE211.out | refine below_set ?_ GE223.out | refine below_set ?_ GE227.out | refine below_set ?_ GE235.out) | exact HB.out)) hb); clear HO_224000; clear HO_228000; clear HO_236000; clear HO255; clear BK211; clear BK223; clear BK227; clear BK235; clear HB; have HO_224000 := n0_; have HO_228000 := n1_; have HO_236000 := n2_; have HO255 := n3_; have HO258 := n4_; have BK211 := n5_; have BK223 := n6_; have BK227 := n7_; have BK235 := n8_; have HB := n9_; clear n0_ n1_ n2_ n3_ n4_ n5_ n6_ n7_ n8_ n9_; (try clear hb); (try clear hb2); (try clear hk); (try clear hi); (try clear ho0); obtain ⟨Ao134, co134, eo134⟩ := Kd.R_slice HO255.out; subst eo134; obtain ⟨Ao135, co135, eo135⟩ := Kd.R_slice HO258.out; subst eo135) | ((with_reducible refine gate_callee (f := 35) rfl ?_); refine goesL_ (some 97) rfl rfl Try.func35 (by kernel_rfl) rfl #[.agg #[.slice Ao134 t253.length co134], .slice Ao135 t256.length co135] rfl (by (try simp only [List.map_toArray, List.map_cons, List.map_nil]); first | done | rfl | (simp only [List.length_drop, List.length_take]; rfl)) ?_; (with_reducible refine (impl_List.calls _ _ t253 _ _ t256 t259 t262 _ ?side1 ?side2 ?side3 ?side4 A120.out).mono ?_); (case side1 => repeat (first | exact (Kd.R_reads' HO255.out).2.2 | (with_reducible refine Kd.C_alloc ?_ _) | (with_reducible refine Kd.C_drewN ?_ _) | (with_reducible refine Kd.C_drew ?_))); (case side2 => exact (Kd.R_reads' HO255.out).2.1); (case side3 => repeat (first | exact (Kd.R_reads' HO258.out).2.2 | (with_reducible refine Kd.C_alloc ?_ _) | (with_reducible refine Kd.C_drewN ?_ _) | (with_reducible refine Kd.C_drew ?_))); (case side4 => exact (Kd.R_reads' HO258.out).2.1); rintro e w136 ⟨v260, rfl, ho0, hb⟩; refine ⟨_, rfl, ?_⟩; have n0_ := Aside0.mk (Kd.R_elder' (by (with_reducible repeat (first | apply Kd.R_alloc | apply Kd.R_drewN | apply Kd.R_drew)); exact HO_224000.out) (Kd.R_base ho0) hb); have n1_ := Aside0.mk (Kd.R_elder' (by (with_reducible repeat (first | apply Kd.R_alloc | apply Kd.R_drewN | apply Kd.R_drew)); exact HO_228000.out) (Kd.R_base ho0) hb); have n2_ := Aside0.mk (Kd.R_elder' (by (with_reducible repeat (first | apply Kd.R_alloc | apply Kd.R_drewN | apply Kd.R_drew)); exact HO_236000.out) (Kd.R_base ho0) hb); have n3_ := Aside0.mk (Kd.R_elder' (by (with_reducible repeat (first | apply Kd.R_alloc | apply Kd.R_drewN | apply Kd.R_drew)); exact HO255.out) (Kd.R_base ho0) hb); have n4_ := Aside0.mk (Kd.R_below (by (with_reducible repeat (first | apply Kd.R_alloc | apply Kd.R_drewN | apply Kd.R_drew)); exact HO258.out) hb); have n5_ := Aside0.mk (Kd.R_lower (Kd.R_new' (Kd.R_new' (Kd.R_new' (Kd.R_new' ho0 (Kd.R_lt (by (with_reducible repeat (first | apply Kd.R_alloc | apply Kd.R_drewN | apply Kd.R_drew)); exact HO_224000.out))) (Kd.R_lt (by (with_reducible repeat (first | apply Kd.R_alloc | apply Kd.R_drewN | apply Kd.R_drew)); exact HO_228000.out))) (Kd.R_lt (by (with_reducible repeat (first | apply Kd.R_alloc | apply Kd.R_drewN | apply Kd.R_drew)); exact HO_236000.out))) (Kd.R_lt (by (with_reducible repeat (first | apply Kd.R_alloc | apply Kd.R_drewN | apply Kd.R_drew)); exact HO255.out))) (below_size (by repeat (first | (with_reducible first | exact HB.out | apply below_alloc | apply pw_below_drewN | apply below_drew1 | refine below_set ?_ GE211.out | refine below_set ?_ GE223.out | refine below_set ?_ GE227.out | refine below_set ?_ GE235.out) | exact HB.out)))); have n6_ := Aside0.mk (blk_below (g := gb211) (o := .cells #[.slice A0_0 l0_0.length c0_0] 41 (0, 0)) (by (with_reducible repeat (first | refine blk_drewN ?_ _ | refine blk_drew ?_ | refine blk_alloc ?_ _)); exact BK211.out) hb); have n7_ := Aside0.mk (blk_below (g := gb223) (o := .cells #[.slice Ao27 t219.length co27] 26 (0, 0)) (by (with_reducible repeat (first | refine blk_drewN ?_ _ | refine blk_drew ?_ | refine blk_alloc ?_ _)); exact BK223.out) hb); have n8_ := Aside0.mk (blk_below (g := gb227) (o := .cells #[.slice Ao33 t246.length co33] 26 (0, 0)) (by (with_reducible repeat (first | refine blk_drewN ?_ _ | refine blk_drew ?_ | refine blk_alloc ?_ _)); exact BK227.out) hb); have n9_ := Aside0.mk (blk_below (g := gb235) (o := .cells #[.slice Ao42 t231.length co42] 26 (0, 0)) (by (with_reducible repeat (first | refine blk_drewN ?_ _ | refine blk_drew ?_ | refine blk_alloc ?_ _)); exact BK235.out) hb); have n10_ := Aside0.mk (below_step (by repeat (first | (with_reducible first | exact HB.out | apply below_alloc | apply pw_below_drewN | apply below_drew1 | refine below_set ?_ GE211.out | refine below_set ?_ GE223.out | refine below_set ?_ GE227.out | refine below_set ?_ GE235.out) | exact HB.out)) hb); clear HO_224000; clear HO_228000; clear HO_236000; clear HO255; clear HO258; clear BK211; clear BK223; clear BK227; clear BK235; clear HB; have HO_224000 := n0_; have HO_228000 := n1_; have HO_236000 := n2_; have HO255 := n3_; have HO258 := n4_; have HO261 := n5_; have BK211 := n6_; have BK223 := n7_; have BK227 := n8_; have BK235 := n9_; have HB := n10_; clear n0_ n1_ n2_ n3_ n4_ n5_ n6_ n7_ n8_ n9_ n10_; (try clear hb); (try clear hb2); (try clear hk); (try clear hi); (try clear ho0)) | ((with_reducible refine gate_dst (N := 15) rfl ?_); refine box_event ?hg (N := 15) ?hd (cs := #[.slice none 0 0]) (t := 26) ?hr ?_; (case hd => rfl); (case hg => rfl); (case hr => first | (go_simp; done) | (go_simp; rfl)); intro gb263 hg w137 hbox hb; have n0_ := Aside0.mk (Kd.R_below (by (with_reducible repeat (first | apply Kd.R_alloc | apply Kd.R_drewN | apply Kd.R_drew)); exact HO_224000.out) hb); have n1_ := Aside0.mk (Kd.R_below (by (with_reducible repeat (first | apply Kd.R_alloc | apply Kd.R_drewN | apply Kd.R_drew)); exact HO_228000.out) hb); have n2_ := Aside0.mk (Kd.R_below (by (with_reducible repeat (first | apply Kd.R_alloc | apply Kd.R_drewN | apply Kd.R_drew)); exact HO_236000.out) hb); have n3_ := Aside0.mk (Kd.R_below (by (with_reducible repeat (first | apply Kd.R_alloc | apply Kd.R_drewN | apply Kd.R_drew)); exact HO255.out) hb); have n4_ := Aside0.mk (Kd.R_below (by (with_reducible repeat (first | apply Kd.R_alloc | apply Kd.R_drewN | apply Kd.R_drew)); exact HO258.out) hb); have n5_ := Aside0.mk (Kd.R_below (by (with_reducible repeat (first | apply Kd.R_alloc | apply Kd.R_drewN | apply Kd.R_drew)); exact HO261.out) hb); have n6_ := Aside0.mk (blk_below (g := gb211) (o := .cells #[.slice A0_0 l0_0.length c0_0] 41 (0, 0)) (by (with_reducible repeat (first | refine blk_drewN ?_ _ | refine blk_drew ?_ | refine blk_alloc ?_ _)); exact BK211.out) hb); have n7_ := Aside0.mk (blk_below (g := gb223) (o := .cells #[.slice Ao27 t219.length co27] 26 (0, 0)) (by (with_reducible repeat (first | refine blk_drewN ?_ _ | refine blk_drew ?_ | refine blk_alloc ?_ _)); exact BK223.out) hb); have n8_ := Aside0.mk (blk_below (g := gb227) (o := .cells #[.slice Ao33 t246.length co33] 26 (0, 0)) (by (with_reducible repeat (first | refine blk_drewN ?_ _ | refine blk_drew ?_ | refine blk_alloc ?_ _)); exact BK227.out) hb); have n9_ := Aside0.mk (blk_below (g := gb235) (o := .cells #[.slice Ao42 t231.length co42] 26 (0, 0)) (by (with_reducible repeat (first | refine blk_drewN ?_ _ | refine blk_drew ?_ | refine blk_alloc ?_ _)); exact BK235.out) hb); have n10_ := Aside0.mk (below_step (by repeat (first | (with_reducible first | exact HB.out | apply below_alloc | apply pw_below_drewN | apply below_drew1 | refine below_set ?_ GE211.out | refine below_set ?_ GE223.out | refine below_set ?_ GE227.out | refine below_set ?_ GE235.out) | exact HB.out)) hb); have n11_ := Aside0.mk (hbox); have n12_ := Aside0.mk ((by rw [hg]; exact (below_size (by repeat (first | (with_reducible first | exact HB.out | apply below_alloc | apply pw_below_drewN | apply below_drew1 | refine below_set ?_ GE211.out | refine below_set ?_ GE223.out | refine below_set ?_ GE227.out | refine below_set ?_ GE235.out) | exact HB.out))) : w.heap.size ≤ gb263)); have n13_ := Aside0.mk ((by rw [hg]; exact (below_size (by repeat (first | (with_reducible first | exact HB.out | apply below_alloc | apply pw_below_drewN | apply below_drew1 | refine below_set ?_ GE211.out | refine below_set ?_ GE223.out | refine below_set ?_ GE227.out | refine below_set ?_ GE235.out) | exact HB.out))) : w.heap.size ≤ gb263)); have n14_ := Aside0.mk ((by rw [hg]; exact Nat.ne_of_lt (blk_lt (g := gb211) (o := .cells #[.slice A0_0 l0_0.length c0_0] 41 (0, 0)) (by (with_reducible repeat (first | refine blk_drewN ?_ _ | refine blk_drew ?_ | refine blk_alloc ?_ _)); exact BK211.out)) : gb211 ≠ gb263)); have n15_ := Aside0.mk ((by rw [hg]; exact Nat.ne_of_gt (blk_lt (g := gb211) (o := .cells #[.slice A0_0 l0_0.length c0_0] 41 (0, 0)) (by (with_reducible repeat (first | refine blk_drewN ?_ _ | refine blk_drew ?_ | refine blk_alloc ?_ _)); exact BK211.out)) : gb263 ≠ gb211)); have n16_ := Aside0.mk ((by rw [hg]; exact Nat.ne_of_lt (blk_lt (g := gb223) (o := .cells #[.slice Ao27 t219.length co27] 26 (0, 0)) (by (with_reducible repeat (first | refine blk_drewN ?_ _ | refine blk_drew ?_ | refine blk_alloc ?_ _)); exact BK223.out)) : gb223 ≠ gb263)); have n17_ := Aside0.mk ((by rw [hg]; exact Nat.ne_of_gt (blk_lt (g := gb223) (o := .cells #[.slice Ao27 t219.length co27] 26 (0, 0)) (by (with_reducible repeat (first | refine blk_drewN ?_ _ | refine blk_drew ?_ | refine blk_alloc ?_ _)); exact BK223.out)) : gb263 ≠ gb223)); have n18_ := Aside0.mk ((by rw [hg]; exact Nat.ne_of_lt (blk_lt (g := gb227) (o := .cells #[.slice Ao33 t246.length co33] 26 (0, 0)) (by (with_reducible repeat (first | refine blk_drewN ?_ _ | refine blk_drew ?_ | refine blk_alloc ?_ _)); exact BK227.out)) : gb227 ≠ gb263)); have n19_ := Aside0.mk ((by rw [hg]; exact Nat.ne_of_gt (blk_lt (g := gb227) (o := .cells #[.slice Ao33 t246.length co33] 26 (0, 0)) (by (with_reducible repeat (first | refine blk_drewN ?_ _ | refine blk_drew ?_ | refine blk_alloc ?_ _)); exact BK227.out)) : gb263 ≠ gb227)); have n20_ := Aside0.mk ((by rw [hg]; exact Nat.ne_of_lt (blk_lt (g := gb235) (o := .cells #[.slice Ao42 t231.length co42] 26 (0, 0)) (by (with_reducible repeat (first | refine blk_drewN ?_ _ | refine blk_drew ?_ | refine blk_alloc ?_ _)); exact BK235.out)) : gb235 ≠ gb263)); have n21_ := Aside0.mk ((by rw [hg]; exact Nat.ne_of_gt (blk_lt (g := gb235) (o := .cells #[.slice Ao42 t231.length co42] 26 (0, 0)) (by (with_reducible repeat (first | refine blk_drewN ?_ _ | refine blk_drew ?_ | refine blk_alloc ?_ _)); exact BK235.out)) : gb263 ≠ gb235)); clear HO_224000; clear HO_228000; clear HO_236000; clear HO255; clear HO258; clear HO261; clear BK211; clear BK223; clear BK227; clear BK235; clear HB; have HO_224000 := n0_; have HO_228000 := n1_; have HO_236000 := n2_; have HO255 := n3_; have HO258 := n4_; have HO261 := n5_; have BK211 := n6_; have BK223 := n7_; have BK227 := n8_; have BK235 := n9_; have HB := n10_; have BK263 := n11_; have GW263 := n12_; have GE263 := n13_; have NB211_263 := n14_; have NB263_211 := n15_; have NB223_263 := n16_; have NB263_223 := n17_; have NB227_263 := n18_; have NB263_227 := n19_; have NB235_263 := n20_; have NB263_235 := n21_; clear n0_ n1_ n2_ n3_ n4_ n5_ n6_ n7_ n8_ n9_ n10_ n11_ n12_ n13_ n14_ n15_ n16_ n17_ n18_ n19_ n20_ n21_; clear hb hbox hg; obtain ⟨Ao138, co138, eo138⟩ := Kd.R_slice HO261.out; subst eo138; have hnb139 := NB263_211.out; have hnc139 := NB211_263.out; have hnb140 := NB263_223.out; have hnc140 := NB223_263.out; have hnb141 := NB263_227.out; have hnc141 := NB227_263.out; have hnb142 := NB263_235.out; have hnc142 := NB235_263.out; have hcz143_0 : w137.cell? ⟨gb263, 0, none⟩ = some (.slice none 0 0) := (blk_cell BK263.out 0).trans rfl; have hfz143_0 := blk_frozen BK263.out 0))
                          (try simp only [Act.put, List.setIfInBounds_toArray, List.set_cons_zero, List.set_cons_succ])
                          go_cut [108] (fun v108 wc => ∃ (kq : Nat) (x108_120 : Bool), v108 = .bool x108_120 ∧ Aside0 (laws_FnExactList.j2 kq t250 x108_120 t251 = some r) ∧ Aside0 (kq ≤ kj73) ∧ Aside0 (Kd.R k34 34 wc w.heap.size (fun k_ => some k_ ≠ ((.slice Ao33 t246.length co33) : Value).ownBlock ∧ some k_ ≠ ((.slice Ao42 t231.length co42) : Value).ownBlock ∧ some k_ ≠ ((.slice Ao138 t259.length co138) : Value).ownBlock) (.slice Ao27 t219.length co27) t219) ∧ Aside0 (Kd.R k34 34 wc w.heap.size (fun k_ => some k_ ≠ ((.slice Ao27 t219.length co27) : Value).ownBlock ∧ some k_ ≠ ((.slice Ao42 t231.length co42) : Value).ownBlock ∧ some k_ ≠ ((.slice Ao138 t259.length co138) : Value).ownBlock) (.slice Ao33 t246.length co33) t246) ∧ Aside0 (Kd.R k34 34 wc w.heap.size (fun k_ => some k_ ≠ ((.slice Ao27 t219.length co27) : Value).ownBlock ∧ some k_ ≠ ((.slice Ao33 t246.length co33) : Value).ownBlock ∧ some k_ ≠ ((.slice Ao138 t259.length co138) : Value).ownBlock) (.slice Ao42 t231.length co42) t251) ∧ Aside0 (Kd.R k34 34 wc w.heap.size (fun k_ => some k_ ≠ ((.slice Ao27 t219.length co27) : Value).ownBlock ∧ some k_ ≠ ((.slice Ao33 t246.length co33) : Value).ownBlock ∧ some k_ ≠ ((.slice Ao42 t231.length co42) : Value).ownBlock) (.slice Ao138 t259.length co138) t259) ∧ Aside0 (wc.heap[gb211]? = some (.cells #[(.slice A0_0 l0_0.length c0_0)] 41 (0, 0))) ∧ Aside0 (wc.heap[gb223]? = some (.cells #[(.slice Ao27 t219.length co27)] 26 (0, 0))) ∧ Aside0 (wc.heap[gb227]? = some (.cells #[(.slice Ao33 t246.length co33)] 26 (0, 0))) ∧ Aside0 (wc.heap[gb235]? = some (.cells #[(.slice Ao42 t231.length co42)] 26 (0, 0))) ∧ Aside0 (wc.heap[gb263]? = some (.cells #[(.slice Ao138 t259.length co138)] 26 (0, 0))) ∧ Aside0 (Below w.heap.size w wc))
                          case first =>
                            have H := HC121.out
                            clear HC121
                            replace H := Option.bind_eq_some_iff.mp H
                            obtain ⟨t264, A1440, H⟩ := H
                            replace H : (if t264 = true then (laws_FnExactList.j2 kj73 t250 (t262 != t222) t251) else (laws_FnExactList.j2 kj73 t250 true t251)) = some r := H
                            have A144 := Aside0.mk A1440
                            clear A1440
                            by_cases c145 : t264 = true
                            · subst c145
                              have H1 : (laws_FnExactList.j2 kj73 t250 (t262 != t222) t251) = some r := by rw [if_pos rfl] at H; exact H
                              clear H
                              have H := H1
                              clear H1
                              have H' := Aside0.mk H
                              clear H
                              have hnb146 := NB263_211.out
                              have hnc146 := NB211_263.out
                              have hnb147 := NB263_223.out
                              have hnc147 := NB223_263.out
                              have hnb148 := NB263_227.out
                              have hnc148 := NB227_263.out
                              have hnb149 := NB263_235.out
                              have hnc149 := NB235_263.out
                              have hcz150_0 : w137.cell? ⟨gb263, 0, none⟩ = some (.slice none 0 0) := (blk_cell BK263.out 0).trans rfl
                              have hfz150_0 := blk_frozen BK263.out 0
                              have hnb151 := NB223_211.out
                              have hnc151 := NB211_223.out
                              have hnb152 := NB223_227.out
                              have hnc152 := NB227_223.out
                              have hnb153 := NB223_235.out
                              have hnc153 := NB235_223.out
                              have hcz154_0 : w137.cell? ⟨gb223, 0, none⟩ = some (.slice Ao27 t219.length co27) := (blk_cell BK223.out 0).trans rfl
                              have hfz154_0 := blk_frozen BK223.out 0
                              go_wp2_with (first | ((with_reducible refine gate_callee (f := 28) rfl ?_); refine goesL_ (some 102) rfl rfl Try.func28 (by kernel_rfl) rfl #[.agg #[.slice Ao138 t259.length co138], .agg #[.slice Ao27 t219.length co27]] rfl (by (try simp only [List.map_toArray, List.map_cons, List.map_nil]); first | done | rfl | (simp only [List.length_drop, List.length_take]; rfl)) ?_; (with_reducible refine (laws_eqArena.calls kj73 _ _ t259 _ _ t219 true _ ?side1 ?side2 ?side3 ?side4 A144.out).mono ?_); (case side1 => refine (Kd.R_reads' (e := 34) (base := w.heap.size) (ok := fun k_ => ((((True ∧ some k_ ≠ (.slice Ao27 t219.length co27 : Value).ownBlock) ∧ some k_ ≠ (.slice Ao33 t246.length co33 : Value).ownBlock) ∧ some k_ ≠ (.slice Ao42 t231.length co42 : Value).ownBlock) ∧ some k_ ≠ (.slice Ao134 t253.length co134 : Value).ownBlock)) (n := t259.length) (c := co138) ?_).2.2; exact (by (with_reducible repeat (first | apply Kd.R_alloc | apply Kd.R_drewN | apply Kd.R_drew)); exact (Kd.R_mono (Kd.R_far (p := ⟨gb263, 0, none⟩) (Kd.R_types HO261.out BK263.out (by decide)) (fun _ hk => hk.2) (.slice Ao138 t259.length co138)) (fun _ h_ => h_.1)))); (case side2 => exact (Kd.R_reads' HO261.out).2.1); (case side3 => refine (Kd.R_reads' (e := 34) (base := w.heap.size) (ok := fun k_ => (((some k_ ≠ (.slice Ao33 t246.length co33 : Value).ownBlock ∧ some k_ ≠ (.slice Ao42 t231.length co42 : Value).ownBlock) ∧ some k_ ≠ (.slice Ao134 t253.length co134 : Value).ownBlock) ∧ some k_ ≠ (.slice Ao138 t259.length co138 : Value).ownBlock)) (n := t219.length) (c := co27) ?_).2.2; exact (by (with_reducible repeat (first | apply Kd.R_alloc | apply Kd.R_drewN | apply Kd.R_drew)); exact (Kd.R_mono (Kd.R_far (p := ⟨gb263, 0, none⟩) (Kd.R_types HO_224000.out BK263.out (by decide)) (fun _ hk => hk.2) (.slice Ao138 t259.length co138)) (fun _ h_ => h_.1)))); (case side4 => exact (Kd.R_reads' HO_224000.out).2.1); rintro e w155 ⟨rfl, hb⟩; refine ⟨_, rfl, ?_⟩; have n0_ := Aside0.mk (Kd.R_below (by (with_reducible repeat (first | apply Kd.R_alloc | apply Kd.R_drewN | apply Kd.R_drew)); exact (Kd.R_mono (Kd.R_far (p := ⟨gb263, 0, none⟩) (Kd.R_types HO_224000.out BK263.out (by decide)) (fun _ hk => hk.2) (.slice Ao138 t259.length co138)) (fun _ h_ => h_.1))) hb); have n1_ := Aside0.mk (Kd.R_below (by (with_reducible repeat (first | apply Kd.R_alloc | apply Kd.R_drewN | apply Kd.R_drew)); exact (Kd.R_mono (Kd.R_far (p := ⟨gb263, 0, none⟩) (Kd.R_types HO_228000.out BK263.out (by decide)) (fun _ hk => hk.2) (.slice Ao138 t259.length co138)) (fun _ h_ => h_.1))) hb); have n2_ := Aside0.mk (Kd.R_below (by (with_reducible repeat (first | apply Kd.R_alloc | apply Kd.R_drewN | apply Kd.R_drew)); exact (Kd.R_mono (Kd.R_far (p := ⟨gb263, 0, none⟩) (Kd.R_types HO_236000.out BK263.out (by decide)) (fun _ hk => hk.2) (.slice Ao138 t259.length co138)) (fun _ h_ => h_.1))) hb); have n3_ := Aside0.mk (Kd.R_below (by (with_reducible repeat (first | apply Kd.R_alloc | apply Kd.R_drewN | apply Kd.R_drew)); exact (Kd.R_mono (Kd.R_far (p := ⟨gb263, 0, none⟩) (Kd.R_types HO255.out BK263.out (by decide)) (fun _ hk => hk.2) (.slice Ao138 t259.length co138)) (fun _ h_ => h_.1))) hb); have n4_ := Aside0.mk (Kd.R_below (by (with_reducible repeat (first | apply Kd.R_alloc | apply Kd.R_drewN | apply Kd.R_drew)); exact (Kd.R_mono (Kd.R_far (p := ⟨gb263, 0, none⟩) (Kd.R_types HO258.out BK263.out (by decide)) (fun _ hk => hk.2) (.slice Ao138 t259.length co138)) (fun _ h_ => h_.1))) hb); have n5_ := Aside0.mk (Kd.R_below (by (with_reducible repeat (first | apply Kd.R_alloc | apply Kd.R_drewN | apply Kd.R_drew)); exact (Kd.R_mono (Kd.R_far (p := ⟨gb263, 0, none⟩) (Kd.R_types HO261.out BK263.out (by decide)) (fun _ hk => hk.2) (.slice Ao138 t259.length co138)) (fun _ h_ => h_.1))) hb); have n6_ := Aside0.mk (blk_below (g := gb211) (o := .cells #[.slice A0_0 l0_0.length c0_0] 41 (0, 0)) (by (with_reducible repeat (first | refine blk_drewN ?_ _ | refine blk_drew ?_ | refine blk_alloc ?_ _)); refine blk_far ?_ NB211_263.out _; (with_reducible repeat (first | refine blk_drewN ?_ _ | refine blk_drew ?_ | refine blk_alloc ?_ _)); exact BK211.out) hb); have n7_ := Aside0.mk (blk_below (g := gb223) (o := .cells #[.slice Ao27 t219.length co27] 26 (0, 0)) (by (with_reducible repeat (first | refine blk_drewN ?_ _ | refine blk_drew ?_ | refine blk_alloc ?_ _)); refine blk_far ?_ NB223_263.out _; (with_reducible repeat (first | refine blk_drewN ?_ _ | refine blk_drew ?_ | refine blk_alloc ?_ _)); exact BK223.out) hb); have n8_ := Aside0.mk (blk_below (g := gb227) (o := .cells #[.slice Ao33 t246.length co33] 26 (0, 0)) (by (with_reducible repeat (first | refine blk_drewN ?_ _ | refine blk_drew ?_ | refine blk_alloc ?_ _)); refine blk_far ?_ NB227_263.out _; (with_reducible repeat (first | refine blk_drewN ?_ _ | refine blk_drew ?_ | refine blk_alloc ?_ _)); exact BK227.out) hb); have n9_ := Aside0.mk (blk_below (g := gb235) (o := .cells #[.slice Ao42 t231.length co42] 26 (0, 0)) (by (with_reducible repeat (first | refine blk_drewN ?_ _ | refine blk_drew ?_ | refine blk_alloc ?_ _)); refine blk_far ?_ NB235_263.out _; (with_reducible repeat (first | refine blk_drewN ?_ _ | refine blk_drew ?_ | refine blk_alloc ?_ _)); exact BK235.out) hb); have n10_ := Aside0.mk (blk_below (g := gb263) (o := .cells #[.slice Ao138 t259.length co138] 26 (0, 0)) (by (with_reducible repeat (first | refine blk_drewN ?_ _ | refine blk_drew ?_ | refine blk_alloc ?_ _)); refine blk_put (cs := #[.slice none 0 0]) ?_ 0 _ rfl; (with_reducible repeat (first | refine blk_drewN ?_ _ | refine blk_drew ?_ | refine blk_alloc ?_ _)); exact BK263.out) hb); have n11_ := Aside0.mk (below_step (by repeat (first | (with_reducible first | exact HB.out | apply below_alloc | apply pw_below_drewN | apply below_drew1 | refine below_set ?_ GE211.out | refine below_set ?_ GE223.out | refine below_set ?_ GE227.out | refine below_set ?_ GE235.out | refine below_set ?_ GE263.out) | exact HB.out)) hb); clear HO_224000; clear HO_228000; clear HO_236000; clear HO255; clear HO258; clear HO261; clear BK211; clear BK223; clear BK227; clear BK235; clear BK263; clear HB; have HO_224000 := n0_; have HO_228000 := n1_; have HO_236000 := n2_; have HO255 := n3_; have HO258 := n4_; have HO261 := n5_; have BK211 := n6_; have BK223 := n7_; have BK227 := n8_; have BK235 := n9_; have BK263 := n10_; have HB := n11_; clear n0_ n1_ n2_ n3_ n4_ n5_ n6_ n7_ n8_ n9_ n10_ n11_; (try clear hb); (try clear hb2); (try clear hk); (try clear hi)))
                              go_meet
                              case rel => exact ⟨_, ((t262 != t222)), (by first | rfl | (simp; done) | (simp [*]; done)), H', ⟨by have := HJ15.out; have := HJ73.out; first | omega | exact Nat.le_refl _⟩, ⟨by (try simp only [hl228000_73]); (with_reducible repeat (first | apply Kd.R_alloc | apply Kd.R_drewN | apply Kd.R_drew)); exact Kd.R_mono HO_224000.out (fun _ hk => ⟨hk.1.1.1, ⟨hk.1.1.2, hk.2⟩⟩)⟩, ⟨by (try simp only [hl228000_73]); (with_reducible repeat (first | apply Kd.R_alloc | apply Kd.R_drewN | apply Kd.R_drew)); exact Kd.R_mono HO_228000.out (fun _ hk => ⟨hk.1.1.1, ⟨hk.1.1.2, hk.2⟩⟩)⟩, ⟨by (try simp only [hl228000_73]); (with_reducible repeat (first | apply Kd.R_alloc | apply Kd.R_drewN | apply Kd.R_drew)); exact Kd.R_mono HO_236000.out (fun _ hk => ⟨hk.1.1.1, ⟨hk.1.1.2, hk.2⟩⟩)⟩, ⟨by (try simp only [hl228000_73]); (with_reducible repeat (first | apply Kd.R_alloc | apply Kd.R_drewN | apply Kd.R_drew)); exact Kd.R_mono HO261.out (fun _ hk => ⟨hk.1.1.1.2, ⟨hk.1.1.2, hk.1.2⟩⟩)⟩, ⟨by (try simp only [hl228000_73]); (with_reducible repeat (first | refine blk_drewN ?_ _ | refine blk_drew ?_ | refine blk_alloc ?_ _)); exact BK211.out⟩, ⟨by (try simp only [hl228000_73]); (with_reducible repeat (first | refine blk_drewN ?_ _ | refine blk_drew ?_ | refine blk_alloc ?_ _)); exact BK223.out⟩, ⟨by (try simp only [hl228000_73]); (with_reducible repeat (first | refine blk_drewN ?_ _ | refine blk_drew ?_ | refine blk_alloc ?_ _)); exact BK227.out⟩, ⟨by (try simp only [hl228000_73]); (with_reducible repeat (first | refine blk_drewN ?_ _ | refine blk_drew ?_ | refine blk_alloc ?_ _)); exact BK235.out⟩, ⟨by (try simp only [hl228000_73]); (with_reducible repeat (first | refine blk_drewN ?_ _ | refine blk_drew ?_ | refine blk_alloc ?_ _)); exact BK263.out⟩, ⟨by repeat (first | (with_reducible first | exact HB.out | apply below_alloc | apply pw_below_drewN | apply below_drew1 | refine below_set ?_ GE211.out | refine below_set ?_ GE223.out | refine below_set ?_ GE227.out | refine below_set ?_ GE235.out | refine below_set ?_ GE263.out) | exact HB.out)⟩⟩
                            · replace c145 := Bool.eq_false_iff.mpr c145
                              subst c145
                              have H1 : (laws_FnExactList.j2 kj73 t250 true t251) = some r := by rw [if_neg (show ¬ (false = true) by decide)] at H; exact H
                              clear H
                              have H := H1
                              clear H1
                              have H' := Aside0.mk H
                              clear H
                              have hnb156 := NB263_211.out
                              have hnc156 := NB211_263.out
                              have hnb157 := NB263_223.out
                              have hnc157 := NB223_263.out
                              have hnb158 := NB263_227.out
                              have hnc158 := NB227_263.out
                              have hnb159 := NB263_235.out
                              have hnc159 := NB235_263.out
                              have hcz160_0 : w137.cell? ⟨gb263, 0, none⟩ = some (.slice none 0 0) := (blk_cell BK263.out 0).trans rfl
                              have hfz160_0 := blk_frozen BK263.out 0
                              have hnb161 := NB223_211.out
                              have hnc161 := NB211_223.out
                              have hnb162 := NB223_227.out
                              have hnc162 := NB227_223.out
                              have hnb163 := NB223_235.out
                              have hnc163 := NB235_223.out
                              have hcz164_0 : w137.cell? ⟨gb223, 0, none⟩ = some (.slice Ao27 t219.length co27) := (blk_cell BK223.out 0).trans rfl
                              have hfz164_0 := blk_frozen BK223.out 0
                              go_wp2_with (first | ((with_reducible refine gate_callee (f := 28) rfl ?_); refine goesL_ (some 102) rfl rfl Try.func28 (by kernel_rfl) rfl #[.agg #[.slice Ao138 t259.length co138], .agg #[.slice Ao27 t219.length co27]] rfl (by (try simp only [List.map_toArray, List.map_cons, List.map_nil]); first | done | rfl | (simp only [List.length_drop, List.length_take]; rfl)) ?_; (with_reducible refine (laws_eqArena.calls kj73 _ _ t259 _ _ t219 false _ ?side1 ?side2 ?side3 ?side4 A144.out).mono ?_); (case side1 => refine (Kd.R_reads' (e := 34) (base := w.heap.size) (ok := fun k_ => ((((True ∧ some k_ ≠ (.slice Ao27 t219.length co27 : Value).ownBlock) ∧ some k_ ≠ (.slice Ao33 t246.length co33 : Value).ownBlock) ∧ some k_ ≠ (.slice Ao42 t231.length co42 : Value).ownBlock) ∧ some k_ ≠ (.slice Ao134 t253.length co134 : Value).ownBlock)) (n := t259.length) (c := co138) ?_).2.2; exact (by (with_reducible repeat (first | apply Kd.R_alloc | apply Kd.R_drewN | apply Kd.R_drew)); exact (Kd.R_mono (Kd.R_far (p := ⟨gb263, 0, none⟩) (Kd.R_types HO261.out BK263.out (by decide)) (fun _ hk => hk.2) (.slice Ao138 t259.length co138)) (fun _ h_ => h_.1)))); (case side2 => exact (Kd.R_reads' HO261.out).2.1); (case side3 => refine (Kd.R_reads' (e := 34) (base := w.heap.size) (ok := fun k_ => (((some k_ ≠ (.slice Ao33 t246.length co33 : Value).ownBlock ∧ some k_ ≠ (.slice Ao42 t231.length co42 : Value).ownBlock) ∧ some k_ ≠ (.slice Ao134 t253.length co134 : Value).ownBlock) ∧ some k_ ≠ (.slice Ao138 t259.length co138 : Value).ownBlock)) (n := t219.length) (c := co27) ?_).2.2; exact (by (with_reducible repeat (first | apply Kd.R_alloc | apply Kd.R_drewN | apply Kd.R_drew)); exact (Kd.R_mono (Kd.R_far (p := ⟨gb263, 0, none⟩) (Kd.R_types HO_224000.out BK263.out (by decide)) (fun _ hk => hk.2) (.slice Ao138 t259.length co138)) (fun _ h_ => h_.1)))); (case side4 => exact (Kd.R_reads' HO_224000.out).2.1); rintro e w165 ⟨rfl, hb⟩; refine ⟨_, rfl, ?_⟩; have n0_ := Aside0.mk (Kd.R_below (by (with_reducible repeat (first | apply Kd.R_alloc | apply Kd.R_drewN | apply Kd.R_drew)); exact (Kd.R_mono (Kd.R_far (p := ⟨gb263, 0, none⟩) (Kd.R_types HO_224000.out BK263.out (by decide)) (fun _ hk => hk.2) (.slice Ao138 t259.length co138)) (fun _ h_ => h_.1))) hb); have n1_ := Aside0.mk (Kd.R_below (by (with_reducible repeat (first | apply Kd.R_alloc | apply Kd.R_drewN | apply Kd.R_drew)); exact (Kd.R_mono (Kd.R_far (p := ⟨gb263, 0, none⟩) (Kd.R_types HO_228000.out BK263.out (by decide)) (fun _ hk => hk.2) (.slice Ao138 t259.length co138)) (fun _ h_ => h_.1))) hb); have n2_ := Aside0.mk (Kd.R_below (by (with_reducible repeat (first | apply Kd.R_alloc | apply Kd.R_drewN | apply Kd.R_drew)); exact (Kd.R_mono (Kd.R_far (p := ⟨gb263, 0, none⟩) (Kd.R_types HO_236000.out BK263.out (by decide)) (fun _ hk => hk.2) (.slice Ao138 t259.length co138)) (fun _ h_ => h_.1))) hb); have n3_ := Aside0.mk (Kd.R_below (by (with_reducible repeat (first | apply Kd.R_alloc | apply Kd.R_drewN | apply Kd.R_drew)); exact (Kd.R_mono (Kd.R_far (p := ⟨gb263, 0, none⟩) (Kd.R_types HO255.out BK263.out (by decide)) (fun _ hk => hk.2) (.slice Ao138 t259.length co138)) (fun _ h_ => h_.1))) hb); have n4_ := Aside0.mk (Kd.R_below (by (with_reducible repeat (first | apply Kd.R_alloc | apply Kd.R_drewN | apply Kd.R_drew)); exact (Kd.R_mono (Kd.R_far (p := ⟨gb263, 0, none⟩) (Kd.R_types HO258.out BK263.out (by decide)) (fun _ hk => hk.2) (.slice Ao138 t259.length co138)) (fun _ h_ => h_.1))) hb); have n5_ := Aside0.mk (Kd.R_below (by (with_reducible repeat (first | apply Kd.R_alloc | apply Kd.R_drewN | apply Kd.R_drew)); exact (Kd.R_mono (Kd.R_far (p := ⟨gb263, 0, none⟩) (Kd.R_types HO261.out BK263.out (by decide)) (fun _ hk => hk.2) (.slice Ao138 t259.length co138)) (fun _ h_ => h_.1))) hb); have n6_ := Aside0.mk (blk_below (g := gb211) (o := .cells #[.slice A0_0 l0_0.length c0_0] 41 (0, 0)) (by (with_reducible repeat (first | refine blk_drewN ?_ _ | refine blk_drew ?_ | refine blk_alloc ?_ _)); refine blk_far ?_ NB211_263.out _; (with_reducible repeat (first | refine blk_drewN ?_ _ | refine blk_drew ?_ | refine blk_alloc ?_ _)); exact BK211.out) hb); have n7_ := Aside0.mk (blk_below (g := gb223) (o := .cells #[.slice Ao27 t219.length co27] 26 (0, 0)) (by (with_reducible repeat (first | refine blk_drewN ?_ _ | refine blk_drew ?_ | refine blk_alloc ?_ _)); refine blk_far ?_ NB223_263.out _; (with_reducible repeat (first | refine blk_drewN ?_ _ | refine blk_drew ?_ | refine blk_alloc ?_ _)); exact BK223.out) hb); have n8_ := Aside0.mk (blk_below (g := gb227) (o := .cells #[.slice Ao33 t246.length co33] 26 (0, 0)) (by (with_reducible repeat (first | refine blk_drewN ?_ _ | refine blk_drew ?_ | refine blk_alloc ?_ _)); refine blk_far ?_ NB227_263.out _; (with_reducible repeat (first | refine blk_drewN ?_ _ | refine blk_drew ?_ | refine blk_alloc ?_ _)); exact BK227.out) hb); have n9_ := Aside0.mk (blk_below (g := gb235) (o := .cells #[.slice Ao42 t231.length co42] 26 (0, 0)) (by (with_reducible repeat (first | refine blk_drewN ?_ _ | refine blk_drew ?_ | refine blk_alloc ?_ _)); refine blk_far ?_ NB235_263.out _; (with_reducible repeat (first | refine blk_drewN ?_ _ | refine blk_drew ?_ | refine blk_alloc ?_ _)); exact BK235.out) hb); have n10_ := Aside0.mk (blk_below (g := gb263) (o := .cells #[.slice Ao138 t259.length co138] 26 (0, 0)) (by (with_reducible repeat (first | refine blk_drewN ?_ _ | refine blk_drew ?_ | refine blk_alloc ?_ _)); refine blk_put (cs := #[.slice none 0 0]) ?_ 0 _ rfl; (with_reducible repeat (first | refine blk_drewN ?_ _ | refine blk_drew ?_ | refine blk_alloc ?_ _)); exact BK263.out) hb); have n11_ := Aside0.mk (below_step (by repeat (first | (with_reducible first | exact HB.out | apply below_alloc | apply pw_below_drewN | apply below_drew1 | refine below_set ?_ GE211.out | refine below_set ?_ GE223.out | refine below_set ?_ GE227.out | refine below_set ?_ GE235.out | refine below_set ?_ GE263.out) | exact HB.out)) hb); clear HO_224000; clear HO_228000; clear HO_236000; clear HO255; clear HO258; clear HO261; clear BK211; clear BK223; clear BK227; clear BK235; clear BK263; clear HB; have HO_224000 := n0_; have HO_228000 := n1_; have HO_236000 := n2_; have HO255 := n3_; have HO258 := n4_; have HO261 := n5_; have BK211 := n6_; have BK223 := n7_; have BK227 := n8_; have BK235 := n9_; have BK263 := n10_; have HB := n11_; clear n0_ n1_ n2_ n3_ n4_ n5_ n6_ n7_ n8_ n9_ n10_ n11_; (try clear hb); (try clear hb2); (try clear hk); (try clear hi)))
                              go_meet
                              case rel => exact ⟨_, (true), (by first | rfl | (simp; done) | (simp [*]; done)), H', ⟨by have := HJ15.out; have := HJ73.out; first | omega | exact Nat.le_refl _⟩, ⟨by (try simp only [hl228000_73]); (with_reducible repeat (first | apply Kd.R_alloc | apply Kd.R_drewN | apply Kd.R_drew)); exact Kd.R_mono HO_224000.out (fun _ hk => ⟨hk.1.1.1, ⟨hk.1.1.2, hk.2⟩⟩)⟩, ⟨by (try simp only [hl228000_73]); (with_reducible repeat (first | apply Kd.R_alloc | apply Kd.R_drewN | apply Kd.R_drew)); exact Kd.R_mono HO_228000.out (fun _ hk => ⟨hk.1.1.1, ⟨hk.1.1.2, hk.2⟩⟩)⟩, ⟨by (try simp only [hl228000_73]); (with_reducible repeat (first | apply Kd.R_alloc | apply Kd.R_drewN | apply Kd.R_drew)); exact Kd.R_mono HO_236000.out (fun _ hk => ⟨hk.1.1.1, ⟨hk.1.1.2, hk.2⟩⟩)⟩, ⟨by (try simp only [hl228000_73]); (with_reducible repeat (first | apply Kd.R_alloc | apply Kd.R_drewN | apply Kd.R_drew)); exact Kd.R_mono HO261.out (fun _ hk => ⟨hk.1.1.1.2, ⟨hk.1.1.2, hk.1.2⟩⟩)⟩, ⟨by (try simp only [hl228000_73]); (with_reducible repeat (first | refine blk_drewN ?_ _ | refine blk_drew ?_ | refine blk_alloc ?_ _)); exact BK211.out⟩, ⟨by (try simp only [hl228000_73]); (with_reducible repeat (first | refine blk_drewN ?_ _ | refine blk_drew ?_ | refine blk_alloc ?_ _)); exact BK223.out⟩, ⟨by (try simp only [hl228000_73]); (with_reducible repeat (first | refine blk_drewN ?_ _ | refine blk_drew ?_ | refine blk_alloc ?_ _)); exact BK227.out⟩, ⟨by (try simp only [hl228000_73]); (with_reducible repeat (first | refine blk_drewN ?_ _ | refine blk_drew ?_ | refine blk_alloc ?_ _)); exact BK235.out⟩, ⟨by (try simp only [hl228000_73]); (with_reducible repeat (first | refine blk_drewN ?_ _ | refine blk_drew ?_ | refine blk_alloc ?_ _)); exact BK263.out⟩, ⟨by repeat (first | (with_reducible first | exact HB.out | apply below_alloc | apply pw_below_drewN | apply below_drew1 | refine below_set ?_ GE211.out | refine below_set ?_ GE223.out | refine below_set ?_ GE227.out | refine below_set ?_ GE235.out | refine below_set ?_ GE263.out) | exact HB.out)⟩⟩
                          case rest =>
                            clear HC121
                            try clear c1
                            try clear c2
                            try clear p2
                            try clear c3
                            try clear c3b0
                            try clear c3b1
                            try clear c4
                            try clear c5
                            try clear c6
                            try clear c6b0
                            try clear c7
                            try clear c8
                            try clear c9
                            try clear c10
                            try clear c11
                            try clear c12
                            try clear c13
                            try clear c14
                            try clear c15
                            try clear c16
                            try clear c24
                            try clear c26
                            try clear c28
                            try clear c33
                            try clear c34
                            try clear c35
                            try clear c36
                            try clear c37
                            try clear c38
                            try clear c39
                            try clear c43
                            try clear c44
                            try clear c45
                            try clear c48
                            try clear c49
                            try clear c50
                            try clear c51
                            try clear c53
                            try clear c54
                            try clear c57
                            try clear c58
                            try clear c59
                            try clear c61
                            try clear c62
                            try clear c65
                            try clear c68
                            try clear c71
                            try clear c81
                            try clear c82
                            try clear c83
                            try clear c87
                            try clear c87b0
                            try clear c89
                            try clear c90
                            try clear c91
                            try clear c92
                            try clear c94
                            try clear c95
                            try clear c98
                            try clear c99
                            try clear c100
                            try clear c102
                            try clear c103
                            try clear c106
                            try clear c109
                            try clear c109b0
                            try clear c110
                            try clear c111
                            try clear c112
                            try clear c117
                            try clear c117b0
                            try clear c117b1
                            try clear c122
                            try clear c123
                            try clear c124
                            try clear c129
                            try clear c130
                            try clear c139
                            try clear c140
                            try clear c141
                            try clear c142
                            try clear c145
                            try clear c146
                            try clear c147
                            try clear c148
                            try clear c149
                            try clear c151
                            try clear c152
                            try clear c153
                            try clear c156
                            try clear c157
                            try clear c158
                            try clear c159
                            try clear c161
                            try clear c162
                            try clear c163
                            try clear hcz101_0
                            try clear hcz104_0
                            try clear hcz113_0
                            try clear hcz115_0
                            try clear hcz125_0
                            try clear hcz127_0
                            try clear hcz131_0
                            try clear hcz143_0
                            try clear hcz150_0
                            try clear hcz154_0
                            try clear hcz160_0
                            try clear hcz164_0
                            try clear hcz18_0
                            try clear hcz20_0
                            try clear hcz29_0
                            try clear hcz30_0
                            try clear hcz36_0
                            try clear hcz38_0
                            try clear hcz46_0
                            try clear hcz52_0
                            try clear hcz55_0
                            try clear hcz60_0
                            try clear hcz63_0
                            try clear hcz84_0
                            try clear hcz8_0
                            try clear hcz93_0
                            try clear hcz96_0
                            try clear hfz101_0
                            try clear hfz104_0
                            try clear hfz113_0
                            try clear hfz115_0
                            try clear hfz125_0
                            try clear hfz127_0
                            try clear hfz131_0
                            try clear hfz143_0
                            try clear hfz150_0
                            try clear hfz154_0
                            try clear hfz160_0
                            try clear hfz164_0
                            try clear hfz18_0
                            try clear hfz20_0
                            try clear hfz29_0
                            try clear hfz30_0
                            try clear hfz36_0
                            try clear hfz38_0
                            try clear hfz46_0
                            try clear hfz52_0
                            try clear hfz55_0
                            try clear hfz60_0
                            try clear hfz63_0
                            try clear hfz84_0
                            try clear hfz8_0
                            try clear hfz93_0
                            try clear hfz96_0
                            try clear p2
                            obtain ⟨kq, x108_120, rfl, HA, HJ120, HO_224000, HO_228000, HO_236000, HO_264000, BK211, BK223, BK227, BK235, BK263, HB⟩ := hcut
                            have hl236000_120 := (Kd.R_reads' HO_236000.out).1
                            rw [hl236000_120] at HO_236000
                            (try simp only [hl236000_120])
                            (try simp only [hl236000_120] at BK211)
                            (try simp only [hl236000_120] at BK223)
                            (try simp only [hl236000_120] at BK227)
                            (try simp only [hl236000_120] at BK235)
                            (try simp only [hl236000_120] at BK263)
                            (try simp only [hl236000_120] at HO_224000)
                            (try simp only [hl236000_120] at HO_228000)
                            (try simp only [hl236000_120] at HO_264000)
                            cases kq with
                            | zero => exact absurd HA.out (by simp [laws_FnExactList.j2])
                            | succ kj120 =>
                              have H := HA.out
                              clear HA
                              simp only [laws_FnExactList.j2] at H
                              by_cases c166 : x108_120 = true
                              · subst c166
                                have H1 : (some false) = some r := by rw [if_pos rfl] at H; exact H
                                clear H
                                have H := H1
                                clear H1
                                obtain rfl := Option.some.inj H
                                go_wp2
                                go_ret
                                exact ⟨by first | rfl | (simp [errW_none, errW_some] <;> rfl) | (simp [*, errW_none, errW_some] <;> rfl), by repeat (first | (with_reducible first | exact HB.out | apply below_alloc | apply pw_below_drewN | apply below_drew1 | refine below_set ?_ GE211.out | refine below_set ?_ GE223.out | refine below_set ?_ GE227.out | refine below_set ?_ GE235.out | refine below_set ?_ GE263.out) | exact HB.out)⟩
                              · replace c166 := Bool.eq_false_iff.mpr c166
                                subst c166
                                have H1 : ((laws_heldArena.f kj120 t251 1).bind fun t265 => (if t265 < 0 then (some false) else (if t265 = t250 then (some true) else (some false)))) = some r := by rw [if_neg (show ¬ (false = true) by decide)] at H; exact H
                                clear H
                                have H := H1
                                clear H1
                                replace H := Option.bind_eq_some_iff.mp H
                                obtain ⟨t265, A1670, H⟩ := H
                                replace H : (if t265 < 0 then (some false) else (if t265 = t250 then (some true) else (some false))) = some r := H
                                have A167 := Aside0.mk A1670
                                clear A1670
                                by_cases c168 : t265 < 0
                                · rw [if_pos c168] at H
                                  have c168b0 : decide (t265 < 0) = true := decide_eq_true c168
                                  clear c168
                                  obtain rfl := Option.some.inj H
                                  have hnb169 := NB235_211.out
                                  have hnc169 := NB211_235.out
                                  have hnb170 := NB235_223.out
                                  have hnc170 := NB223_235.out
                                  have hnb171 := NB235_227.out
                                  have hnc171 := NB227_235.out
                                  have hnb172 := NB235_263.out
                                  have hnc172 := NB263_235.out
                                  have hcz173_0 : wc.cell? ⟨gb235, 0, none⟩ = some (.slice Ao42 t251.length co42) := (blk_cell BK235.out 0).trans rfl
                                  have hfz173_0 := blk_frozen BK235.out 0
                                  go_wp2_with (first | ((with_reducible refine gate_callee (f := 39) rfl ?_); refine goesL_ (some 111) rfl rfl Try.func39 (by kernel_rfl) rfl #[.agg #[.slice Ao42 t251.length co42], .int .i64 1] rfl (by (try simp only [List.map_toArray, List.map_cons, List.map_nil]); first | done | rfl | (simp only [List.length_drop, List.length_take]; rfl)) ?_; (with_reducible refine (laws_heldArena.calls kj120 _ _ t251 1 t265 _ ?side1 ?side2 A167.out).mono ?_); (case side1 => repeat (first | exact (Kd.R_reads' HO_236000.out).2.2 | (with_reducible refine Kd.C_alloc ?_ _) | (with_reducible refine Kd.C_drewN ?_ _) | (with_reducible refine Kd.C_drew ?_))); (case side2 => exact (Kd.R_reads' HO_236000.out).2.1); rintro e w174 ⟨rfl, hb⟩; refine ⟨_, rfl, ?_⟩; have n0_ := Aside0.mk (Kd.R_below (by (with_reducible repeat (first | apply Kd.R_alloc | apply Kd.R_drewN | apply Kd.R_drew)); exact HO_224000.out) hb); have n1_ := Aside0.mk (Kd.R_below (by (with_reducible repeat (first | apply Kd.R_alloc | apply Kd.R_drewN | apply Kd.R_drew)); exact HO_228000.out) hb); have n2_ := Aside0.mk (Kd.R_below (by (with_reducible repeat (first | apply Kd.R_alloc | apply Kd.R_drewN | apply Kd.R_drew)); exact HO_236000.out) hb); have n3_ := Aside0.mk (Kd.R_below (by (with_reducible repeat (first | apply Kd.R_alloc | apply Kd.R_drewN | apply Kd.R_drew)); exact HO_264000.out) hb); have n4_ := Aside0.mk (blk_below (g := gb211) (o := .cells #[.slice A0_0 l0_0.length c0_0] 41 (0, 0)) (by (with_reducible repeat (first | refine blk_drewN ?_ _ | refine blk_drew ?_ | refine blk_alloc ?_ _)); exact BK211.out) hb); have n5_ := Aside0.mk (blk_below (g := gb223) (o := .cells #[.slice Ao27 t219.length co27] 26 (0, 0)) (by (with_reducible repeat (first | refine blk_drewN ?_ _ | refine blk_drew ?_ | refine blk_alloc ?_ _)); exact BK223.out) hb); have n6_ := Aside0.mk (blk_below (g := gb227) (o := .cells #[.slice Ao33 t246.length co33] 26 (0, 0)) (by (with_reducible repeat (first | refine blk_drewN ?_ _ | refine blk_drew ?_ | refine blk_alloc ?_ _)); exact BK227.out) hb); have n7_ := Aside0.mk (blk_below (g := gb235) (o := .cells #[.slice Ao42 t251.length co42] 26 (0, 0)) (by (with_reducible repeat (first | refine blk_drewN ?_ _ | refine blk_drew ?_ | refine blk_alloc ?_ _)); exact BK235.out) hb); have n8_ := Aside0.mk (blk_below (g := gb263) (o := .cells #[.slice Ao138 t259.length co138] 26 (0, 0)) (by (with_reducible repeat (first | refine blk_drewN ?_ _ | refine blk_drew ?_ | refine blk_alloc ?_ _)); exact BK263.out) hb); have n9_ := Aside0.mk (below_step (by repeat (first | (with_reducible first | exact HB.out | apply below_alloc | apply pw_below_drewN | apply below_drew1 | refine below_set ?_ GE211.out | refine below_set ?_ GE223.out | refine below_set ?_ GE227.out | refine below_set ?_ GE235.out | refine below_set ?_ GE263.out) | exact HB.out)) hb); clear HO_224000; clear HO_228000; clear HO_236000; clear HO_264000; clear BK211; clear BK223; clear BK227; clear BK235; clear BK263; clear HB; have HO_224000 := n0_; have HO_228000 := n1_; have HO_236000 := n2_; have HO_264000 := n3_; have BK211 := n4_; have BK223 := n5_; have BK227 := n6_; have BK235 := n7_; have BK263 := n8_; have HB := n9_; clear n0_ n1_ n2_ n3_ n4_ n5_ n6_ n7_ n8_ n9_; (try clear hb); (try clear hb2); (try clear hk); (try clear hi)))
                                  go_ret
                                  exact ⟨by first | rfl | (simp [errW_none, errW_some] <;> rfl) | (simp [*, errW_none, errW_some] <;> rfl), by repeat (first | (with_reducible first | exact HB.out | apply below_alloc | apply pw_below_drewN | apply below_drew1 | refine below_set ?_ GE211.out | refine below_set ?_ GE223.out | refine below_set ?_ GE227.out | refine below_set ?_ GE235.out | refine below_set ?_ GE263.out) | exact HB.out)⟩
                                · rw [if_neg c168] at H
                                  have c168b0 : decide (t265 < 0) = false := decide_eq_false c168
                                  clear c168
                                  by_cases c175 : t265 = t250
                                  · rw [if_pos c175] at H
                                    have c175b0 : (t265 == t250) = true := beq_iff_eq.mpr c175
                                    have c175b1 : (t265 != t250) = false := bne_eq_false_iff_eq.mpr c175
                                    clear c175
                                    obtain rfl := Option.some.inj H
                                    have hnb176 := NB235_211.out
                                    have hnc176 := NB211_235.out
                                    have hnb177 := NB235_223.out
                                    have hnc177 := NB223_235.out
                                    have hnb178 := NB235_227.out
                                    have hnc178 := NB227_235.out
                                    have hnb179 := NB235_263.out
                                    have hnc179 := NB263_235.out
                                    have hcz180_0 : wc.cell? ⟨gb235, 0, none⟩ = some (.slice Ao42 t251.length co42) := (blk_cell BK235.out 0).trans rfl
                                    have hfz180_0 := blk_frozen BK235.out 0
                                    go_wp2_with (first | ((with_reducible refine gate_callee (f := 39) rfl ?_); refine goesL_ (some 111) rfl rfl Try.func39 (by kernel_rfl) rfl #[.agg #[.slice Ao42 t251.length co42], .int .i64 1] rfl (by (try simp only [List.map_toArray, List.map_cons, List.map_nil]); first | done | rfl | (simp only [List.length_drop, List.length_take]; rfl)) ?_; (with_reducible refine (laws_heldArena.calls kj120 _ _ t251 1 t265 _ ?side1 ?side2 A167.out).mono ?_); (case side1 => repeat (first | exact (Kd.R_reads' HO_236000.out).2.2 | (with_reducible refine Kd.C_alloc ?_ _) | (with_reducible refine Kd.C_drewN ?_ _) | (with_reducible refine Kd.C_drew ?_))); (case side2 => exact (Kd.R_reads' HO_236000.out).2.1); rintro e w181 ⟨rfl, hb⟩; refine ⟨_, rfl, ?_⟩; have n0_ := Aside0.mk (Kd.R_below (by (with_reducible repeat (first | apply Kd.R_alloc | apply Kd.R_drewN | apply Kd.R_drew)); exact HO_224000.out) hb); have n1_ := Aside0.mk (Kd.R_below (by (with_reducible repeat (first | apply Kd.R_alloc | apply Kd.R_drewN | apply Kd.R_drew)); exact HO_228000.out) hb); have n2_ := Aside0.mk (Kd.R_below (by (with_reducible repeat (first | apply Kd.R_alloc | apply Kd.R_drewN | apply Kd.R_drew)); exact HO_236000.out) hb); have n3_ := Aside0.mk (Kd.R_below (by (with_reducible repeat (first | apply Kd.R_alloc | apply Kd.R_drewN | apply Kd.R_drew)); exact HO_264000.out) hb); have n4_ := Aside0.mk (blk_below (g := gb211) (o := .cells #[.slice A0_0 l0_0.length c0_0] 41 (0, 0)) (by (with_reducible repeat (first | refine blk_drewN ?_ _ | refine blk_drew ?_ | refine blk_alloc ?_ _)); exact BK211.out) hb); have n5_ := Aside0.mk (blk_below (g := gb223) (o := .cells #[.slice Ao27 t219.length co27] 26 (0, 0)) (by (with_reducible repeat (first | refine blk_drewN ?_ _ | refine blk_drew ?_ | refine blk_alloc ?_ _)); exact BK223.out) hb); have n6_ := Aside0.mk (blk_below (g := gb227) (o := .cells #[.slice Ao33 t246.length co33] 26 (0, 0)) (by (with_reducible repeat (first | refine blk_drewN ?_ _ | refine blk_drew ?_ | refine blk_alloc ?_ _)); exact BK227.out) hb); have n7_ := Aside0.mk (blk_below (g := gb235) (o := .cells #[.slice Ao42 t251.length co42] 26 (0, 0)) (by (with_reducible repeat (first | refine blk_drewN ?_ _ | refine blk_drew ?_ | refine blk_alloc ?_ _)); exact BK235.out) hb); have n8_ := Aside0.mk (blk_below (g := gb263) (o := .cells #[.slice Ao138 t259.length co138] 26 (0, 0)) (by (with_reducible repeat (first | refine blk_drewN ?_ _ | refine blk_drew ?_ | refine blk_alloc ?_ _)); exact BK263.out) hb); have n9_ := Aside0.mk (below_step (by repeat (first | (with_reducible first | exact HB.out | apply below_alloc | apply pw_below_drewN | apply below_drew1 | refine below_set ?_ GE211.out | refine below_set ?_ GE223.out | refine below_set ?_ GE227.out | refine below_set ?_ GE235.out | refine below_set ?_ GE263.out) | exact HB.out)) hb); clear HO_224000; clear HO_228000; clear HO_236000; clear HO_264000; clear BK211; clear BK223; clear BK227; clear BK235; clear BK263; clear HB; have HO_224000 := n0_; have HO_228000 := n1_; have HO_236000 := n2_; have HO_264000 := n3_; have BK211 := n4_; have BK223 := n5_; have BK227 := n6_; have BK235 := n7_; have BK263 := n8_; have HB := n9_; clear n0_ n1_ n2_ n3_ n4_ n5_ n6_ n7_ n8_ n9_; (try clear hb); (try clear hb2); (try clear hk); (try clear hi)))
                                    go_ret
                                    exact ⟨by first | rfl | (simp [errW_none, errW_some] <;> rfl) | (simp [*, errW_none, errW_some] <;> rfl), by repeat (first | (with_reducible first | exact HB.out | apply below_alloc | apply pw_below_drewN | apply below_drew1 | refine below_set ?_ GE211.out | refine below_set ?_ GE223.out | refine below_set ?_ GE227.out | refine below_set ?_ GE235.out | refine below_set ?_ GE263.out) | exact HB.out)⟩
                                  · rw [if_neg c175] at H
                                    have c175b0 : (t265 == t250) = false := beq_eq_false_iff_ne.mpr c175
                                    have c175b1 : (t265 != t250) = true := bne_iff_ne.mpr c175
                                    obtain rfl := Option.some.inj H
                                    have hnb182 := NB235_211.out
                                    have hnc182 := NB211_235.out
                                    have hnb183 := NB235_223.out
                                    have hnc183 := NB223_235.out
                                    have hnb184 := NB235_227.out
                                    have hnc184 := NB227_235.out
                                    have hnb185 := NB235_263.out
                                    have hnc185 := NB263_235.out
                                    have hcz186_0 : wc.cell? ⟨gb235, 0, none⟩ = some (.slice Ao42 t251.length co42) := (blk_cell BK235.out 0).trans rfl
                                    have hfz186_0 := blk_frozen BK235.out 0
                                    go_wp2_with (first | ((with_reducible refine gate_callee (f := 39) rfl ?_); refine goesL_ (some 111) rfl rfl Try.func39 (by kernel_rfl) rfl #[.agg #[.slice Ao42 t251.length co42], .int .i64 1] rfl (by (try simp only [List.map_toArray, List.map_cons, List.map_nil]); first | done | rfl | (simp only [List.length_drop, List.length_take]; rfl)) ?_; (with_reducible refine (laws_heldArena.calls kj120 _ _ t251 1 t265 _ ?side1 ?side2 A167.out).mono ?_); (case side1 => repeat (first | exact (Kd.R_reads' HO_236000.out).2.2 | (with_reducible refine Kd.C_alloc ?_ _) | (with_reducible refine Kd.C_drewN ?_ _) | (with_reducible refine Kd.C_drew ?_))); (case side2 => exact (Kd.R_reads' HO_236000.out).2.1); rintro e w187 ⟨rfl, hb⟩; refine ⟨_, rfl, ?_⟩; have n0_ := Aside0.mk (Kd.R_below (by (with_reducible repeat (first | apply Kd.R_alloc | apply Kd.R_drewN | apply Kd.R_drew)); exact HO_224000.out) hb); have n1_ := Aside0.mk (Kd.R_below (by (with_reducible repeat (first | apply Kd.R_alloc | apply Kd.R_drewN | apply Kd.R_drew)); exact HO_228000.out) hb); have n2_ := Aside0.mk (Kd.R_below (by (with_reducible repeat (first | apply Kd.R_alloc | apply Kd.R_drewN | apply Kd.R_drew)); exact HO_236000.out) hb); have n3_ := Aside0.mk (Kd.R_below (by (with_reducible repeat (first | apply Kd.R_alloc | apply Kd.R_drewN | apply Kd.R_drew)); exact HO_264000.out) hb); have n4_ := Aside0.mk (blk_below (g := gb211) (o := .cells #[.slice A0_0 l0_0.length c0_0] 41 (0, 0)) (by (with_reducible repeat (first | refine blk_drewN ?_ _ | refine blk_drew ?_ | refine blk_alloc ?_ _)); exact BK211.out) hb); have n5_ := Aside0.mk (blk_below (g := gb223) (o := .cells #[.slice Ao27 t219.length co27] 26 (0, 0)) (by (with_reducible repeat (first | refine blk_drewN ?_ _ | refine blk_drew ?_ | refine blk_alloc ?_ _)); exact BK223.out) hb); have n6_ := Aside0.mk (blk_below (g := gb227) (o := .cells #[.slice Ao33 t246.length co33] 26 (0, 0)) (by (with_reducible repeat (first | refine blk_drewN ?_ _ | refine blk_drew ?_ | refine blk_alloc ?_ _)); exact BK227.out) hb); have n7_ := Aside0.mk (blk_below (g := gb235) (o := .cells #[.slice Ao42 t251.length co42] 26 (0, 0)) (by (with_reducible repeat (first | refine blk_drewN ?_ _ | refine blk_drew ?_ | refine blk_alloc ?_ _)); exact BK235.out) hb); have n8_ := Aside0.mk (blk_below (g := gb263) (o := .cells #[.slice Ao138 t259.length co138] 26 (0, 0)) (by (with_reducible repeat (first | refine blk_drewN ?_ _ | refine blk_drew ?_ | refine blk_alloc ?_ _)); exact BK263.out) hb); have n9_ := Aside0.mk (below_step (by repeat (first | (with_reducible first | exact HB.out | apply below_alloc | apply pw_below_drewN | apply below_drew1 | refine below_set ?_ GE211.out | refine below_set ?_ GE223.out | refine below_set ?_ GE227.out | refine below_set ?_ GE235.out | refine below_set ?_ GE263.out) | exact HB.out)) hb); clear HO_224000; clear HO_228000; clear HO_236000; clear HO_264000; clear BK211; clear BK223; clear BK227; clear BK235; clear BK263; clear HB; have HO_224000 := n0_; have HO_228000 := n1_; have HO_236000 := n2_; have HO_264000 := n3_; have BK211 := n4_; have BK223 := n5_; have BK227 := n6_; have BK235 := n7_; have BK263 := n8_; have HB := n9_; clear n0_ n1_ n2_ n3_ n4_ n5_ n6_ n7_ n8_ n9_; (try clear hb); (try clear hb2); (try clear hk); (try clear hi)))
                                    go_ret
                                    exact ⟨by first | rfl | (simp [errW_none, errW_some] <;> rfl) | (simp [*, errW_none, errW_some] <;> rfl), by repeat (first | (with_reducible first | exact HB.out | apply below_alloc | apply pw_below_drewN | apply below_drew1 | refine below_set ?_ GE211.out | refine below_set ?_ GE223.out | refine below_set ?_ GE227.out | refine below_set ?_ GE235.out | refine below_set ?_ GE263.out) | exact HB.out)⟩
                        · rw [if_neg c117] at H
                          have c117b0 : (t252 == t250) = false := beq_eq_false_iff_ne.mpr c117
                          have c117b1 : (t252 != t250) = true := bne_iff_ne.mpr c117
                          obtain rfl := Option.some.inj H
                          have hnb188 := NB235_211.out
                          have hnc188 := NB211_235.out
                          have hnb189 := NB235_223.out
                          have hnc189 := NB223_235.out
                          have hnb190 := NB235_227.out
                          have hnc190 := NB227_235.out
                          have hcz191_0 : wc.cell? ⟨gb235, 0, none⟩ = some (.slice Ao42 t231.length co42) := (blk_cell BK235.out 0).trans rfl
                          have hfz191_0 := blk_frozen BK235.out 0
                          go_wp2_with (first | ((with_reducible refine gate_callee (f := 37) rfl ?_); refine goesL_ (some 83) rfl rfl Try.func37 (by kernel_rfl) rfl #[.agg #[.slice Ao42 t231.length co42], .int .i64 1] rfl (by (try simp only [List.map_toArray, List.map_cons, List.map_nil]); first | done | rfl | (simp only [List.length_drop, List.length_take]; rfl)) ?_; (with_reducible refine (laws_markArena.calls kj73 (fun k_ => some k_ = (.slice Ao42 t231.length co42 : Value).ownBlock) (.slice Ao42 t231.length co42) t231 1 t250 t251 w _ ?side1 ?side2 A107.out).mono ?_); (case side1 => repeat (first | (with_reducible first | exact HB.out | apply below_alloc | apply pw_below_drewN | apply below_drew1 | refine below_set ?_ GE211.out | refine below_set ?_ GE223.out | refine below_set ?_ GE227.out | refine below_set ?_ GE235.out) | exact HB.out)); (case side2 => exact Kd.R_tight rfl HO_236000.out); rintro e w192 ⟨rfl, hy0, hb, hkp⟩; refine ⟨_, rfl, ?_⟩; have n0_ := Aside0.mk (Kd.R_mono (ok' := fun k_ => some k_ ≠ (.slice Ao33 t246.length co33 : Value).ownBlock ∧ some k_ ≠ (.slice Ao42 t231.length co42 : Value).ownBlock) (Kd.R_keptB (HO_224000.out) hkp (fun k_ hk_ hs_ => (hk_.2) hs_)) (fun k_ hk_ => ⟨hk_.1.1, hk_.1.2⟩)); have n1_ := Aside0.mk (Kd.R_mono (ok' := fun k_ => some k_ ≠ (.slice Ao27 t219.length co27 : Value).ownBlock ∧ some k_ ≠ (.slice Ao42 t231.length co42 : Value).ownBlock) (Kd.R_keptB (HO_228000.out) hkp (fun k_ hk_ hs_ => (hk_.2) hs_)) (fun k_ hk_ => ⟨hk_.1.1, hk_.1.2⟩)); have n2_ := Aside0.mk (Kd.R_reok rfl hy0 (fun k_ e_ => HO_236000.out.1 k_ e_)); have n3_ := Aside0.mk (blk_kept (by (with_reducible repeat (first | refine blk_drewN ?_ _ | refine blk_drew ?_ | refine blk_alloc ?_ _)); exact BK211.out) hkp (fun hs_ => (fun e_ => (Kd.R_ne HO_236000.out BK211.out (by decide)) e_) hs_)); have n4_ := Aside0.mk (blk_kept (by (with_reducible repeat (first | refine blk_drewN ?_ _ | refine blk_drew ?_ | refine blk_alloc ?_ _)); exact BK223.out) hkp (fun hs_ => (fun e_ => (Kd.R_ne HO_236000.out BK223.out (by decide)) e_) hs_)); have n5_ := Aside0.mk (blk_kept (by (with_reducible repeat (first | refine blk_drewN ?_ _ | refine blk_drew ?_ | refine blk_alloc ?_ _)); exact BK227.out) hkp (fun hs_ => (fun e_ => (Kd.R_ne HO_236000.out BK227.out (by decide)) e_) hs_)); have n6_ := Aside0.mk (blk_kept (by (with_reducible repeat (first | refine blk_drewN ?_ _ | refine blk_drew ?_ | refine blk_alloc ?_ _)); exact BK235.out) hkp (fun hs_ => (fun e_ => (Kd.R_ne HO_236000.out BK235.out (by decide)) e_) hs_)); have n7_ := Aside0.mk (hb); clear HO_224000; clear HO_228000; clear HO_236000; clear BK211; clear BK223; clear BK227; clear BK235; clear HB; have HO_224000 := n0_; have HO_228000 := n1_; have HO_236000 := n2_; have BK211 := n3_; have BK223 := n4_; have BK227 := n5_; have BK235 := n6_; have HB := n7_; clear n0_ n1_ n2_ n3_ n4_ n5_ n6_ n7_; (try clear hb); (try clear hkp); (try clear hy0); have hcz193_0 : w192.cell? ⟨gb235, 0, none⟩ = some (.slice Ao42 t231.length co42) := (blk_cell BK235.out 0).trans rfl; have hfz193_0 := blk_frozen BK235.out 0) | ((with_reducible refine gate_callee (f := 39) rfl ?_); refine goesL_ (some 86) rfl rfl Try.func39 (by kernel_rfl) rfl #[.agg #[.slice Ao42 t251.length co42], .int .i64 1] rfl (by (try simp only [List.map_toArray, List.map_cons, List.map_nil]); first | done | (rw [show t251.length = t231.length from (Kd.R_reads' HO_236000.out).1.symm] <;> rfl) | rfl | (simp only [List.length_drop, List.length_take]; rfl)) ?_; (with_reducible refine (laws_heldArena.calls kj73 _ _ t251 1 t252 _ ?side1 ?side2 A108.out).mono ?_); (case side1 => repeat (first | exact (Kd.R_reads' HO_236000.out).2.2 | (with_reducible refine Kd.C_alloc ?_ _) | (with_reducible refine Kd.C_drewN ?_ _) | (with_reducible refine Kd.C_drew ?_))); (case side2 => rw [show t251.length = t231.length from (Kd.R_reads' HO_236000.out).1.symm]; exact (Kd.R_reads' HO_236000.out).2.1); rintro e w194 ⟨rfl, hb⟩; refine ⟨_, rfl, ?_⟩; have n0_ := Aside0.mk (Kd.R_below (by (with_reducible repeat (first | apply Kd.R_alloc | apply Kd.R_drewN | apply Kd.R_drew)); exact HO_224000.out) hb); have n1_ := Aside0.mk (Kd.R_below (by (with_reducible repeat (first | apply Kd.R_alloc | apply Kd.R_drewN | apply Kd.R_drew)); exact HO_228000.out) hb); have n2_ := Aside0.mk (Kd.R_below (by (with_reducible repeat (first | apply Kd.R_alloc | apply Kd.R_drewN | apply Kd.R_drew)); exact HO_236000.out) hb); have n3_ := Aside0.mk (blk_below (g := gb211) (o := .cells #[.slice A0_0 l0_0.length c0_0] 41 (0, 0)) (by (with_reducible repeat (first | refine blk_drewN ?_ _ | refine blk_drew ?_ | refine blk_alloc ?_ _)); exact BK211.out) hb); have n4_ := Aside0.mk (blk_below (g := gb223) (o := .cells #[.slice Ao27 t219.length co27] 26 (0, 0)) (by (with_reducible repeat (first | refine blk_drewN ?_ _ | refine blk_drew ?_ | refine blk_alloc ?_ _)); exact BK223.out) hb); have n5_ := Aside0.mk (blk_below (g := gb227) (o := .cells #[.slice Ao33 t246.length co33] 26 (0, 0)) (by (with_reducible repeat (first | refine blk_drewN ?_ _ | refine blk_drew ?_ | refine blk_alloc ?_ _)); exact BK227.out) hb); have n6_ := Aside0.mk (blk_below (g := gb235) (o := .cells #[.slice Ao42 t231.length co42] 26 (0, 0)) (by (with_reducible repeat (first | refine blk_drewN ?_ _ | refine blk_drew ?_ | refine blk_alloc ?_ _)); exact BK235.out) hb); have n7_ := Aside0.mk (below_step (by repeat (first | (with_reducible first | exact HB.out | apply below_alloc | apply pw_below_drewN | apply below_drew1 | refine below_set ?_ GE211.out | refine below_set ?_ GE223.out | refine below_set ?_ GE227.out | refine below_set ?_ GE235.out) | exact HB.out)) hb); clear HO_224000; clear HO_228000; clear HO_236000; clear BK211; clear BK223; clear BK227; clear BK235; clear HB; have HO_224000 := n0_; have HO_228000 := n1_; have HO_236000 := n2_; have BK211 := n3_; have BK223 := n4_; have BK227 := n5_; have BK235 := n6_; have HB := n7_; clear n0_ n1_ n2_ n3_ n4_ n5_ n6_ n7_; (try clear hb); (try clear hb2); (try clear hk); (try clear hi)))
                          go_ret
                          exact ⟨by first | rfl | (simp [errW_none, errW_some] <;> rfl) | (simp [*, errW_none, errW_some] <;> rfl), by repeat (first | (with_reducible first | exact HB.out | apply below_alloc | apply pw_below_drewN | apply below_drew1 | refine below_set ?_ GE211.out | refine below_set ?_ GE223.out | refine below_set ?_ GE227.out | refine below_set ?_ GE235.out) | exact HB.out)⟩
              · replace c71 := Bool.eq_false_iff.mpr c71
                subst c71
                have H1 : (some false) = some r := by rw [if_neg (show ¬ (false = true) by decide)] at H; exact H
                clear H
                have H := H1
                clear H1
                obtain rfl := Option.some.inj H
                try go_wp2
                have n0_ := Aside0.mk (Kd.R_drew HO_9.out)
                have n1_ := Aside0.mk (Kd.R_drew HO_224000.out)
                have n2_ := Aside0.mk (Kd.R_drew HO_228000.out)
                have n3_ := Aside0.mk (Kd.R_drew HO_236000.out)
                have n4_ := Aside0.mk (blk_drew BK211.out)
                have n5_ := Aside0.mk (blk_drew BK223.out)
                have n6_ := Aside0.mk (blk_drew BK227.out)
                have n7_ := Aside0.mk (blk_drew BK235.out)
                have n8_ := Aside0.mk (below_drew1 HB.out)
                clear HO_9
                clear HO_224000
                clear HO_228000
                clear HO_236000
                clear BK211
                clear BK223
                clear BK227
                clear BK235
                clear HB
                have HO_9 := n0_
                have HO_224000 := n1_
                have HO_228000 := n2_
                have HO_236000 := n3_
                have BK211 := n4_
                have BK223 := n5_
                have BK227 := n6_
                have BK235 := n7_
                have HB := n8_
                clear n0_ n1_ n2_ n3_ n4_ n5_ n6_ n7_ n8_
                refine start_ (n := 5) (S := fun w' => w'.cell? ⟨gb227, 0, none⟩ = some (.slice Ao33 t224.length co33) ∧ w'.cell? ⟨gb211, 0, none⟩ = some (.slice A0_0 l0_0.length c0_0)) (ds := []) #[false, false, false, false, false] (by kernel_rfl) rfl rfl ⟨(blk_cell BK227.out 0).trans rfl, (blk_cell BK211.out 0).trans rfl⟩ (fun hHeld => ?_)
                generalize wc.drew = w195 at HO_9 HO_224000 HO_228000 HO_236000 BK211 BK223 BK227 BK235 HB hHeld ⊢
                refine take_ (i := 0) (N := some 52) (v := ?_) (a' := ?_) #[true, false, false, false, false] rfl rfl (by kernel_rfl) (fun _ _ _ h => h) (Or.inl ⟨by rfl, ?_⟩) hHeld ?_ ?_
                rotate_left
                · rintro w' ⟨s0, s1⟩
                  go_simp
                  with_reducible rfl
                rotate_left
                · simp only [Act.put, List.setIfInBounds_toArray, List.set_cons_zero, List.set_cons_succ, i64_w, i32_w]
                  rfl
                refine take_ (i := 1) (N := some 53) (v := ?_) (a' := ?_) #[true, true, false, false, false] rfl rfl (by kernel_rfl) (fun _ _ _ h => h) (Or.inl ⟨by rfl, ?_⟩) hHeld ?_ ?_
                rotate_left
                · rintro w' ⟨s0, s1⟩
                  go_simp
                  with_reducible rfl
                rotate_left
                · simp only [Act.put, List.setIfInBounds_toArray, List.set_cons_zero, List.set_cons_succ, i64_w, i32_w]
                  rfl
                refine one_ (i := 2) (N := some 54) #[true, true, true, false, false] rfl rfl (by kernel_rfl) (by decide) (fun K hK => ?_)
                refine goes_ Try.func26 (by kernel_rfl) rfl #[.agg #[.slice A0_0 l0_0.length c0_0]] (by rfl) rfl rfl (by (try simp only [List.map_toArray, List.map_cons, List.map_nil]); first | done | rfl | (simp only [List.length_drop, List.length_take]; rfl)) ?_
                with_reducible refine (laws_toArena.calls kj15 _ _ l0_0 t237 _ ?side1 ?side2 A66.out).mono ?_
                (case side1 => repeat (first | exact (Kd.C_below HR0_0.out HB.out) | (with_reducible refine Kd.C_alloc ?_ _) | (with_reducible refine Kd.C_drewN ?_ _) | (with_reducible refine Kd.C_drew ?_)))
                (case side2 => exact HC0_0.out)
                rintro e w196 ⟨v238, rfl, ho0, hb⟩
                refine ⟨_, rfl, ?_⟩
                have n0_ := Aside0.mk (Kd.R_below (by (with_reducible repeat (first | apply Kd.R_alloc | apply Kd.R_drewN | apply Kd.R_drew)); exact HO_9.out) hb)
                have n1_ := Aside0.mk (Kd.R_elder' (by (with_reducible repeat (first | apply Kd.R_alloc | apply Kd.R_drewN | apply Kd.R_drew)); exact HO_224000.out) (Kd.R_base ho0) hb)
                have n2_ := Aside0.mk (Kd.R_elder' (by (with_reducible repeat (first | apply Kd.R_alloc | apply Kd.R_drewN | apply Kd.R_drew)); exact HO_228000.out) (Kd.R_base ho0) hb)
                have n3_ := Aside0.mk (Kd.R_elder' (by (with_reducible repeat (first | apply Kd.R_alloc | apply Kd.R_drewN | apply Kd.R_drew)); exact HO_236000.out) (Kd.R_base ho0) hb)
                have n4_ := Aside0.mk (Kd.R_lower (Kd.R_new' (Kd.R_new' (Kd.R_new' ho0 (Kd.R_lt (by (with_reducible repeat (first | apply Kd.R_alloc | apply Kd.R_drewN | apply Kd.R_drew)); exact HO_224000.out))) (Kd.R_lt (by (with_reducible repeat (first | apply Kd.R_alloc | apply Kd.R_drewN | apply Kd.R_drew)); exact HO_228000.out))) (Kd.R_lt (by (with_reducible repeat (first | apply Kd.R_alloc | apply Kd.R_drewN | apply Kd.R_drew)); exact HO_236000.out))) (below_size (by repeat (first | (with_reducible first | exact HB.out | apply below_alloc | apply pw_below_drewN | apply below_drew1 | refine below_set ?_ GE211.out | refine below_set ?_ GE223.out | refine below_set ?_ GE227.out | refine below_set ?_ GE235.out) | exact HB.out))))
                have n5_ := Aside0.mk (blk_below (g := gb211) (o := .cells #[.slice A0_0 l0_0.length c0_0] 41 (0, 0)) (by (with_reducible repeat (first | refine blk_drewN ?_ _ | refine blk_drew ?_ | refine blk_alloc ?_ _)); exact BK211.out) hb)
                have n6_ := Aside0.mk (blk_below (g := gb223) (o := .cells #[.slice Ao27 t219.length co27] 26 (0, 0)) (by (with_reducible repeat (first | refine blk_drewN ?_ _ | refine blk_drew ?_ | refine blk_alloc ?_ _)); exact BK223.out) hb)
                have n7_ := Aside0.mk (blk_below (g := gb227) (o := .cells #[.slice Ao33 t224.length co33] 26 (0, 0)) (by (with_reducible repeat (first | refine blk_drewN ?_ _ | refine blk_drew ?_ | refine blk_alloc ?_ _)); exact BK227.out) hb)
                have n8_ := Aside0.mk (blk_below (g := gb235) (o := .cells #[.slice Ao42 t231.length co42] 26 (0, 0)) (by (with_reducible repeat (first | refine blk_drewN ?_ _ | refine blk_drew ?_ | refine blk_alloc ?_ _)); exact BK235.out) hb)
                have n9_ := Aside0.mk (below_step (by repeat (first | (with_reducible first | exact HB.out | apply below_alloc | apply pw_below_drewN | apply below_drew1 | refine below_set ?_ GE211.out | refine below_set ?_ GE223.out | refine below_set ?_ GE227.out | refine below_set ?_ GE235.out) | exact HB.out)) hb)
                clear HO_9
                clear HO_224000
                clear HO_228000
                clear HO_236000
                clear BK211
                clear BK223
                clear BK227
                clear BK235
                clear HB
                have HO_9 := n0_
                have HO_224000 := n1_
                have HO_228000 := n2_
                have HO_236000 := n3_
                have HO239 := n4_
                have BK211 := n5_
                have BK223 := n6_
                have BK227 := n7_
                have BK235 := n8_
                have HB := n9_
                clear n0_ n1_ n2_ n3_ n4_ n5_ n6_ n7_ n8_ n9_
                (try clear hb)
                (try clear hb2)
                (try clear hk)
                (try clear hi)
                (try clear ho0)
                obtain ⟨Ao197, co197, eo197⟩ := Kd.R_slice HO239.out
                (first | subst eo197 | (injection eo197 with f1_ f2_ f3_; have f4_ := f1_.symm; have f5_ := f3_.symm; clear f1_ f2_ f3_; subst f4_; subst f5_))
                refine hK.out _ _ ⟨(blk_cell BK227.out 0).trans rfl, (blk_cell BK211.out 0).trans rfl⟩ (fun hHeld => ?_)
                clear hK K
                refine norm_ (a' := ?_) ?_ ?_
                rotate_left
                · show Act.put _ (some 54) _ = _
                  simp only [Act.put, List.setIfInBounds_toArray, List.set_cons_zero, List.set_cons_succ, i64_w, i32_w]
                  rfl
                refine one_ (i := 3) (N := some 55) #[true, true, true, true, false] rfl rfl (by kernel_rfl) (by decide) (fun K hK => ?_)
                refine goes_ Try.func28 (by kernel_rfl) rfl #[.agg #[.slice Ao33 t224.length co33], .agg #[.slice Ao197 t237.length co197]] (by rfl) rfl rfl (by (try simp only [List.map_toArray, List.map_cons, List.map_nil]); first | done | rfl | (simp only [List.length_drop, List.length_take]; rfl)) ?_
                with_reducible refine (laws_eqArena.calls kj15 _ _ t224 _ _ t237 true _ ?side1 ?side2 ?side3 ?side4 A67.out).mono ?_
                (case side1 => repeat (first | exact (Kd.R_reads' HO_228000.out).2.2 | (with_reducible refine Kd.C_alloc ?_ _) | (with_reducible refine Kd.C_drewN ?_ _) | (with_reducible refine Kd.C_drew ?_)))
                (case side2 => exact (Kd.R_reads' HO_228000.out).2.1)
                (case side3 => repeat (first | exact (Kd.R_reads' HO239.out).2.2 | (with_reducible refine Kd.C_alloc ?_ _) | (with_reducible refine Kd.C_drewN ?_ _) | (with_reducible refine Kd.C_drew ?_)))
                (case side4 => exact (Kd.R_reads' HO239.out).2.1)
                rintro e w198 ⟨rfl, hb⟩
                refine ⟨_, rfl, ?_⟩
                have n0_ := Aside0.mk (Kd.R_below (by (with_reducible repeat (first | apply Kd.R_alloc | apply Kd.R_drewN | apply Kd.R_drew)); exact HO_9.out) hb)
                have n1_ := Aside0.mk (Kd.R_below (by (with_reducible repeat (first | apply Kd.R_alloc | apply Kd.R_drewN | apply Kd.R_drew)); exact HO_224000.out) hb)
                have n2_ := Aside0.mk (Kd.R_below (by (with_reducible repeat (first | apply Kd.R_alloc | apply Kd.R_drewN | apply Kd.R_drew)); exact HO_228000.out) hb)
                have n3_ := Aside0.mk (Kd.R_below (by (with_reducible repeat (first | apply Kd.R_alloc | apply Kd.R_drewN | apply Kd.R_drew)); exact HO_236000.out) hb)
                have n4_ := Aside0.mk (Kd.R_below (by (with_reducible repeat (first | apply Kd.R_alloc | apply Kd.R_drewN | apply Kd.R_drew)); exact HO239.out) hb)
                have n5_ := Aside0.mk (blk_below (g := gb211) (o := .cells #[.slice A0_0 l0_0.length c0_0] 41 (0, 0)) (by (with_reducible repeat (first | refine blk_drewN ?_ _ | refine blk_drew ?_ | refine blk_alloc ?_ _)); exact BK211.out) hb)
                have n6_ := Aside0.mk (blk_below (g := gb223) (o := .cells #[.slice Ao27 t219.length co27] 26 (0, 0)) (by (with_reducible repeat (first | refine blk_drewN ?_ _ | refine blk_drew ?_ | refine blk_alloc ?_ _)); exact BK223.out) hb)
                have n7_ := Aside0.mk (blk_below (g := gb227) (o := .cells #[.slice Ao33 t224.length co33] 26 (0, 0)) (by (with_reducible repeat (first | refine blk_drewN ?_ _ | refine blk_drew ?_ | refine blk_alloc ?_ _)); exact BK227.out) hb)
                have n8_ := Aside0.mk (blk_below (g := gb235) (o := .cells #[.slice Ao42 t231.length co42] 26 (0, 0)) (by (with_reducible repeat (first | refine blk_drewN ?_ _ | refine blk_drew ?_ | refine blk_alloc ?_ _)); exact BK235.out) hb)
                have n9_ := Aside0.mk (below_step (by repeat (first | (with_reducible first | exact HB.out | apply below_alloc | apply pw_below_drewN | apply below_drew1 | refine below_set ?_ GE211.out | refine below_set ?_ GE223.out | refine below_set ?_ GE227.out | refine below_set ?_ GE235.out) | exact HB.out)) hb)
                clear HO_9
                clear HO_224000
                clear HO_228000
                clear HO_236000
                clear HO239
                clear BK211
                clear BK223
                clear BK227
                clear BK235
                clear HB
                have HO_9 := n0_
                have HO_224000 := n1_
                have HO_228000 := n2_
                have HO_236000 := n3_
                have HO239 := n4_
                have BK211 := n5_
                have BK223 := n6_
                have BK227 := n7_
                have BK235 := n8_
                have HB := n9_
                clear n0_ n1_ n2_ n3_ n4_ n5_ n6_ n7_ n8_ n9_
                (try clear hb)
                (try clear hb2)
                (try clear hk)
                (try clear hi)
                refine hK.out _ _ ⟨(blk_cell BK227.out 0).trans rfl, (blk_cell BK211.out 0).trans rfl⟩ (fun hHeld => ?_)
                clear hK K
                refine norm_ (a' := ?_) ?_ ?_
                rotate_left
                · show Act.put _ (some 55) _ = _
                  simp only [Act.put, List.setIfInBounds_toArray, List.set_cons_zero, List.set_cons_succ, i64_w, i32_w]
                  rfl
                refine pure_ (i := 4) (N := some 56) (v := ?_) (a' := ?_) #[true, true, true, true, true] rfl rfl (by kernel_rfl) (fun _ _ _ h => h) (Or.inl ⟨by rfl, ?_⟩) ?_ ?_
                rotate_left
                · intro w'
                  go_simp
                  with_reducible rfl
                rotate_left
                · simp only [Act.put, List.setIfInBounds_toArray, List.set_cons_zero, List.set_cons_succ, i64_w, i32_w]
                  rfl
                refine done_ (by kernel_rfl) ?_
                try go_wp2_with (first | ((with_reducible refine gate_callee (f := 34) rfl ?_); refine goesL_ (some 59) rfl rfl Try.func34 (by kernel_rfl) rfl #[.slice A1 l1.length c1] rfl (by (try simp only [List.map_toArray, List.map_cons, List.map_nil]); first | done | rfl | (simp only [List.length_drop, List.length_take]; rfl)) ?_; (with_reducible refine (laws_toIntS.calls kj15 _ _ l1 t241 _ ?side1 ?side2 A69.out).mono ?_); (case side1 => repeat (first | exact (Kd.C_below HR1.out HB.out) | (with_reducible refine Kd.C_alloc ?_ _) | (with_reducible refine Kd.C_drewN ?_ _) | (with_reducible refine Kd.C_drew ?_))); (case side2 => exact HC1.out); rintro e w199 ⟨v242, rfl, ho0, hb⟩; refine ⟨_, rfl, ?_⟩; have n0_ := Aside0.mk (Kd.R_elder' (by (with_reducible repeat (first | apply Kd.R_alloc | apply Kd.R_drewN | apply Kd.R_drew)); exact HO_9.out) (Kd.R_base ho0) hb); have n1_ := Aside0.mk (Kd.R_below (by (with_reducible repeat (first | apply Kd.R_alloc | apply Kd.R_drewN | apply Kd.R_drew)); exact HO_224000.out) hb); have n2_ := Aside0.mk (Kd.R_below (by (with_reducible repeat (first | apply Kd.R_alloc | apply Kd.R_drewN | apply Kd.R_drew)); exact HO_228000.out) hb); have n3_ := Aside0.mk (Kd.R_below (by (with_reducible repeat (first | apply Kd.R_alloc | apply Kd.R_drewN | apply Kd.R_drew)); exact HO_236000.out) hb); have n4_ := Aside0.mk (Kd.R_below (by (with_reducible repeat (first | apply Kd.R_alloc | apply Kd.R_drewN | apply Kd.R_drew)); exact HO239.out) hb); have n5_ := Aside0.mk (Kd.R_lower (Kd.R_new' ho0 (Kd.R_lt (by (with_reducible repeat (first | apply Kd.R_alloc | apply Kd.R_drewN | apply Kd.R_drew)); exact HO_9.out))) (below_size (by repeat (first | (with_reducible first | exact HB.out | apply below_alloc | apply pw_below_drewN | apply below_drew1 | refine below_set ?_ GE211.out | refine below_set ?_ GE223.out | refine below_set ?_ GE227.out | refine below_set ?_ GE235.out) | exact HB.out)))); have n6_ := Aside0.mk (blk_below (g := gb211) (o := .cells #[.slice A0_0 l0_0.length c0_0] 41 (0, 0)) (by (with_reducible repeat (first | refine blk_drewN ?_ _ | refine blk_drew ?_ | refine blk_alloc ?_ _)); exact BK211.out) hb); have n7_ := Aside0.mk (blk_below (g := gb223) (o := .cells #[.slice Ao27 t219.length co27] 26 (0, 0)) (by (with_reducible repeat (first | refine blk_drewN ?_ _ | refine blk_drew ?_ | refine blk_alloc ?_ _)); exact BK223.out) hb); have n8_ := Aside0.mk (blk_below (g := gb227) (o := .cells #[.slice Ao33 t224.length co33] 26 (0, 0)) (by (with_reducible repeat (first | refine blk_drewN ?_ _ | refine blk_drew ?_ | refine blk_alloc ?_ _)); exact BK227.out) hb); have n9_ := Aside0.mk (blk_below (g := gb235) (o := .cells #[.slice Ao42 t231.length co42] 26 (0, 0)) (by (with_reducible repeat (first | refine blk_drewN ?_ _ | refine blk_drew ?_ | refine blk_alloc ?_ _)); exact BK235.out) hb); have n10_ := Aside0.mk (below_step (by repeat (first | (with_reducible first | exact HB.out | apply below_alloc | apply pw_below_drewN | apply below_drew1 | refine below_set ?_ GE211.out | refine below_set ?_ GE223.out | refine below_set ?_ GE227.out | refine below_set ?_ GE235.out) | exact HB.out)) hb); clear HO_9; clear HO_224000; clear HO_228000; clear HO_236000; clear HO239; clear BK211; clear BK223; clear BK227; clear BK235; clear HB; have HO_9 := n0_; have HO_224000 := n1_; have HO_228000 := n2_; have HO_236000 := n3_; have HO239 := n4_; have HO243 := n5_; have BK211 := n6_; have BK223 := n7_; have BK227 := n8_; have BK235 := n9_; have HB := n10_; clear n0_ n1_ n2_ n3_ n4_ n5_ n6_ n7_ n8_ n9_ n10_; (try clear hb); (try clear hb2); (try clear hk); (try clear hi); (try clear ho0); obtain ⟨Ao200, co200, eo200⟩ := Kd.R_slice HO243.out; subst eo200) | ((with_reducible refine gate_callee (f := 36) rfl ?_); refine goesL_ (some 60) rfl rfl Try.func36 (by kernel_rfl) rfl #[.slice Ao39 t228.length co39, .slice Ao200 t241.length co200] rfl (by (try simp only [List.map_toArray, List.map_cons, List.map_nil]); first | done | rfl | (simp only [List.length_drop, List.length_take]; rfl)) ?_; (with_reducible refine (laws_eqIntS.calls kj15 _ _ t228 _ _ t241 false _ ?side1 ?side2 ?side3 ?side4 A70.out).mono ?_); (case side1 => repeat (first | exact (Kd.R_reads' HO_9.out).2.2 | (with_reducible refine Kd.C_alloc ?_ _) | (with_reducible refine Kd.C_drewN ?_ _) | (with_reducible refine Kd.C_drew ?_))); (case side2 => exact (Kd.R_reads' HO_9.out).2.1); (case side3 => repeat (first | exact (Kd.R_reads' HO243.out).2.2 | (with_reducible refine Kd.C_alloc ?_ _) | (with_reducible refine Kd.C_drewN ?_ _) | (with_reducible refine Kd.C_drew ?_))); (case side4 => exact (Kd.R_reads' HO243.out).2.1); rintro e w' ⟨rfl, ⟨nd, rfl⟩⟩; refine ⟨_, rfl, ?_⟩))
                go_ret
                exact ⟨by first | rfl | (simp [errW_none, errW_some] <;> rfl) | (simp [*, errW_none, errW_some] <;> rfl), by repeat (first | (with_reducible first | exact HB.out | apply below_alloc | apply pw_below_drewN | apply below_drew1 | refine below_set ?_ GE211.out | refine below_set ?_ GE223.out | refine below_set ?_ GE227.out | refine below_set ?_ GE235.out) | exact HB.out)⟩
            · replace c68 := Bool.eq_false_iff.mpr c68
              subst c68
              have H1 : (some false) = some r := by rw [if_neg (show ¬ (false = true) by decide)] at H; exact H
              clear H
              have H := H1
              clear H1
              obtain rfl := Option.some.inj H
              try go_wp2
              have n0_ := Aside0.mk (Kd.R_drew HO_9.out)
              have n1_ := Aside0.mk (Kd.R_drew HO_224000.out)
              have n2_ := Aside0.mk (Kd.R_drew HO_228000.out)
              have n3_ := Aside0.mk (Kd.R_drew HO_236000.out)
              have n4_ := Aside0.mk (blk_drew BK211.out)
              have n5_ := Aside0.mk (blk_drew BK223.out)
              have n6_ := Aside0.mk (blk_drew BK227.out)
              have n7_ := Aside0.mk (blk_drew BK235.out)
              have n8_ := Aside0.mk (below_drew1 HB.out)
              clear HO_9
              clear HO_224000
              clear HO_228000
              clear HO_236000
              clear BK211
              clear BK223
              clear BK227
              clear BK235
              clear HB
              have HO_9 := n0_
              have HO_224000 := n1_
              have HO_228000 := n2_
              have HO_236000 := n3_
              have BK211 := n4_
              have BK223 := n5_
              have BK227 := n6_
              have BK235 := n7_
              have HB := n8_
              clear n0_ n1_ n2_ n3_ n4_ n5_ n6_ n7_ n8_
              refine start_ (n := 5) (S := fun w' => w'.cell? ⟨gb227, 0, none⟩ = some (.slice Ao33 t224.length co33) ∧ w'.cell? ⟨gb211, 0, none⟩ = some (.slice A0_0 l0_0.length c0_0)) (ds := []) #[false, false, false, false, false] (by kernel_rfl) rfl rfl ⟨(blk_cell BK227.out 0).trans rfl, (blk_cell BK211.out 0).trans rfl⟩ (fun hHeld => ?_)
              generalize wc.drew = w201 at HO_9 HO_224000 HO_228000 HO_236000 BK211 BK223 BK227 BK235 HB hHeld ⊢
              refine take_ (i := 0) (N := some 52) (v := ?_) (a' := ?_) #[true, false, false, false, false] rfl rfl (by kernel_rfl) (fun _ _ _ h => h) (Or.inl ⟨by rfl, ?_⟩) hHeld ?_ ?_
              rotate_left
              · rintro w' ⟨s0, s1⟩
                go_simp
                with_reducible rfl
              rotate_left
              · simp only [Act.put, List.setIfInBounds_toArray, List.set_cons_zero, List.set_cons_succ, i64_w, i32_w]
                rfl
              refine take_ (i := 1) (N := some 53) (v := ?_) (a' := ?_) #[true, true, false, false, false] rfl rfl (by kernel_rfl) (fun _ _ _ h => h) (Or.inl ⟨by rfl, ?_⟩) hHeld ?_ ?_
              rotate_left
              · rintro w' ⟨s0, s1⟩
                go_simp
                with_reducible rfl
              rotate_left
              · simp only [Act.put, List.setIfInBounds_toArray, List.set_cons_zero, List.set_cons_succ, i64_w, i32_w]
                rfl
              refine one_ (i := 2) (N := some 54) #[true, true, true, false, false] rfl rfl (by kernel_rfl) (by decide) (fun K hK => ?_)
              refine goes_ Try.func26 (by kernel_rfl) rfl #[.agg #[.slice A0_0 l0_0.length c0_0]] (by rfl) rfl rfl (by (try simp only [List.map_toArray, List.map_cons, List.map_nil]); first | done | rfl | (simp only [List.length_drop, List.length_take]; rfl)) ?_
              with_reducible refine (laws_toArena.calls kj15 _ _ l0_0 t237 _ ?side1 ?side2 A66.out).mono ?_
              (case side1 => repeat (first | exact (Kd.C_below HR0_0.out HB.out) | (with_reducible refine Kd.C_alloc ?_ _) | (with_reducible refine Kd.C_drewN ?_ _) | (with_reducible refine Kd.C_drew ?_)))
              (case side2 => exact HC0_0.out)
              rintro e w202 ⟨v238, rfl, ho0, hb⟩
              refine ⟨_, rfl, ?_⟩
              have n0_ := Aside0.mk (Kd.R_below (by (with_reducible repeat (first | apply Kd.R_alloc | apply Kd.R_drewN | apply Kd.R_drew)); exact HO_9.out) hb)
              have n1_ := Aside0.mk (Kd.R_elder' (by (with_reducible repeat (first | apply Kd.R_alloc | apply Kd.R_drewN | apply Kd.R_drew)); exact HO_224000.out) (Kd.R_base ho0) hb)
              have n2_ := Aside0.mk (Kd.R_elder' (by (with_reducible repeat (first | apply Kd.R_alloc | apply Kd.R_drewN | apply Kd.R_drew)); exact HO_228000.out) (Kd.R_base ho0) hb)
              have n3_ := Aside0.mk (Kd.R_elder' (by (with_reducible repeat (first | apply Kd.R_alloc | apply Kd.R_drewN | apply Kd.R_drew)); exact HO_236000.out) (Kd.R_base ho0) hb)
              have n4_ := Aside0.mk (Kd.R_lower (Kd.R_new' (Kd.R_new' (Kd.R_new' ho0 (Kd.R_lt (by (with_reducible repeat (first | apply Kd.R_alloc | apply Kd.R_drewN | apply Kd.R_drew)); exact HO_224000.out))) (Kd.R_lt (by (with_reducible repeat (first | apply Kd.R_alloc | apply Kd.R_drewN | apply Kd.R_drew)); exact HO_228000.out))) (Kd.R_lt (by (with_reducible repeat (first | apply Kd.R_alloc | apply Kd.R_drewN | apply Kd.R_drew)); exact HO_236000.out))) (below_size (by repeat (first | (with_reducible first | exact HB.out | apply below_alloc | apply pw_below_drewN | apply below_drew1 | refine below_set ?_ GE211.out | refine below_set ?_ GE223.out | refine below_set ?_ GE227.out | refine below_set ?_ GE235.out) | exact HB.out))))
              have n5_ := Aside0.mk (blk_below (g := gb211) (o := .cells #[.slice A0_0 l0_0.length c0_0] 41 (0, 0)) (by (with_reducible repeat (first | refine blk_drewN ?_ _ | refine blk_drew ?_ | refine blk_alloc ?_ _)); exact BK211.out) hb)
              have n6_ := Aside0.mk (blk_below (g := gb223) (o := .cells #[.slice Ao27 t219.length co27] 26 (0, 0)) (by (with_reducible repeat (first | refine blk_drewN ?_ _ | refine blk_drew ?_ | refine blk_alloc ?_ _)); exact BK223.out) hb)
              have n7_ := Aside0.mk (blk_below (g := gb227) (o := .cells #[.slice Ao33 t224.length co33] 26 (0, 0)) (by (with_reducible repeat (first | refine blk_drewN ?_ _ | refine blk_drew ?_ | refine blk_alloc ?_ _)); exact BK227.out) hb)
              have n8_ := Aside0.mk (blk_below (g := gb235) (o := .cells #[.slice Ao42 t231.length co42] 26 (0, 0)) (by (with_reducible repeat (first | refine blk_drewN ?_ _ | refine blk_drew ?_ | refine blk_alloc ?_ _)); exact BK235.out) hb)
              have n9_ := Aside0.mk (below_step (by repeat (first | (with_reducible first | exact HB.out | apply below_alloc | apply pw_below_drewN | apply below_drew1 | refine below_set ?_ GE211.out | refine below_set ?_ GE223.out | refine below_set ?_ GE227.out | refine below_set ?_ GE235.out) | exact HB.out)) hb)
              clear HO_9
              clear HO_224000
              clear HO_228000
              clear HO_236000
              clear BK211
              clear BK223
              clear BK227
              clear BK235
              clear HB
              have HO_9 := n0_
              have HO_224000 := n1_
              have HO_228000 := n2_
              have HO_236000 := n3_
              have HO239 := n4_
              have BK211 := n5_
              have BK223 := n6_
              have BK227 := n7_
              have BK235 := n8_
              have HB := n9_
              clear n0_ n1_ n2_ n3_ n4_ n5_ n6_ n7_ n8_ n9_
              (try clear hb)
              (try clear hb2)
              (try clear hk)
              (try clear hi)
              (try clear ho0)
              obtain ⟨Ao203, co203, eo203⟩ := Kd.R_slice HO239.out
              (first | subst eo203 | (injection eo203 with f1_ f2_ f3_; have f4_ := f1_.symm; have f5_ := f3_.symm; clear f1_ f2_ f3_; subst f4_; subst f5_))
              refine hK.out _ _ ⟨(blk_cell BK227.out 0).trans rfl, (blk_cell BK211.out 0).trans rfl⟩ (fun hHeld => ?_)
              clear hK K
              refine norm_ (a' := ?_) ?_ ?_
              rotate_left
              · show Act.put _ (some 54) _ = _
                simp only [Act.put, List.setIfInBounds_toArray, List.set_cons_zero, List.set_cons_succ, i64_w, i32_w]
                rfl
              refine one_ (i := 3) (N := some 55) #[true, true, true, true, false] rfl rfl (by kernel_rfl) (by decide) (fun K hK => ?_)
              refine goes_ Try.func28 (by kernel_rfl) rfl #[.agg #[.slice Ao33 t224.length co33], .agg #[.slice Ao203 t237.length co203]] (by rfl) rfl rfl (by (try simp only [List.map_toArray, List.map_cons, List.map_nil]); first | done | rfl | (simp only [List.length_drop, List.length_take]; rfl)) ?_
              with_reducible refine (laws_eqArena.calls kj15 _ _ t224 _ _ t237 false _ ?side1 ?side2 ?side3 ?side4 A67.out).mono ?_
              (case side1 => repeat (first | exact (Kd.R_reads' HO_228000.out).2.2 | (with_reducible refine Kd.C_alloc ?_ _) | (with_reducible refine Kd.C_drewN ?_ _) | (with_reducible refine Kd.C_drew ?_)))
              (case side2 => exact (Kd.R_reads' HO_228000.out).2.1)
              (case side3 => repeat (first | exact (Kd.R_reads' HO239.out).2.2 | (with_reducible refine Kd.C_alloc ?_ _) | (with_reducible refine Kd.C_drewN ?_ _) | (with_reducible refine Kd.C_drew ?_)))
              (case side4 => exact (Kd.R_reads' HO239.out).2.1)
              rintro e w204 ⟨rfl, hb⟩
              refine ⟨_, rfl, ?_⟩
              have n0_ := Aside0.mk (Kd.R_below (by (with_reducible repeat (first | apply Kd.R_alloc | apply Kd.R_drewN | apply Kd.R_drew)); exact HO_9.out) hb)
              have n1_ := Aside0.mk (Kd.R_below (by (with_reducible repeat (first | apply Kd.R_alloc | apply Kd.R_drewN | apply Kd.R_drew)); exact HO_224000.out) hb)
              have n2_ := Aside0.mk (Kd.R_below (by (with_reducible repeat (first | apply Kd.R_alloc | apply Kd.R_drewN | apply Kd.R_drew)); exact HO_228000.out) hb)
              have n3_ := Aside0.mk (Kd.R_below (by (with_reducible repeat (first | apply Kd.R_alloc | apply Kd.R_drewN | apply Kd.R_drew)); exact HO_236000.out) hb)
              have n4_ := Aside0.mk (Kd.R_below (by (with_reducible repeat (first | apply Kd.R_alloc | apply Kd.R_drewN | apply Kd.R_drew)); exact HO239.out) hb)
              have n5_ := Aside0.mk (blk_below (g := gb211) (o := .cells #[.slice A0_0 l0_0.length c0_0] 41 (0, 0)) (by (with_reducible repeat (first | refine blk_drewN ?_ _ | refine blk_drew ?_ | refine blk_alloc ?_ _)); exact BK211.out) hb)
              have n6_ := Aside0.mk (blk_below (g := gb223) (o := .cells #[.slice Ao27 t219.length co27] 26 (0, 0)) (by (with_reducible repeat (first | refine blk_drewN ?_ _ | refine blk_drew ?_ | refine blk_alloc ?_ _)); exact BK223.out) hb)
              have n7_ := Aside0.mk (blk_below (g := gb227) (o := .cells #[.slice Ao33 t224.length co33] 26 (0, 0)) (by (with_reducible repeat (first | refine blk_drewN ?_ _ | refine blk_drew ?_ | refine blk_alloc ?_ _)); exact BK227.out) hb)
              have n8_ := Aside0.mk (blk_below (g := gb235) (o := .cells #[.slice Ao42 t231.length co42] 26 (0, 0)) (by (with_reducible repeat (first | refine blk_drewN ?_ _ | refine blk_drew ?_ | refine blk_alloc ?_ _)); exact BK235.out) hb)
              have n9_ := Aside0.mk (below_step (by repeat (first | (with_reducible first | exact HB.out | apply below_alloc | apply pw_below_drewN | apply below_drew1 | refine below_set ?_ GE211.out | refine below_set ?_ GE223.out | refine below_set ?_ GE227.out | refine below_set ?_ GE235.out) | exact HB.out)) hb)
              clear HO_9
              clear HO_224000
              clear HO_228000
              clear HO_236000
              clear HO239
              clear BK211
              clear BK223
              clear BK227
              clear BK235
              clear HB
              have HO_9 := n0_
              have HO_224000 := n1_
              have HO_228000 := n2_
              have HO_236000 := n3_
              have HO239 := n4_
              have BK211 := n5_
              have BK223 := n6_
              have BK227 := n7_
              have BK235 := n8_
              have HB := n9_
              clear n0_ n1_ n2_ n3_ n4_ n5_ n6_ n7_ n8_ n9_
              (try clear hb)
              (try clear hb2)
              (try clear hk)
              (try clear hi)
              refine hK.out _ _ ⟨(blk_cell BK227.out 0).trans rfl, (blk_cell BK211.out 0).trans rfl⟩ (fun hHeld => ?_)
              clear hK K
              refine norm_ (a' := ?_) ?_ ?_
              rotate_left
              · show Act.put _ (some 55) _ = _
                simp only [Act.put, List.setIfInBounds_toArray, List.set_cons_zero, List.set_cons_succ, i64_w, i32_w]
                rfl
              refine pure_ (i := 4) (N := some 56) (v := ?_) (a' := ?_) #[true, true, true, true, true] rfl rfl (by kernel_rfl) (fun _ _ _ h => h) (Or.inl ⟨by rfl, ?_⟩) ?_ ?_
              rotate_left
              · intro w'
                go_simp
                with_reducible rfl
              rotate_left
              · simp only [Act.put, List.setIfInBounds_toArray, List.set_cons_zero, List.set_cons_succ, i64_w, i32_w]
                rfl
              refine done_ (by kernel_rfl) ?_
              try go_wp2
              go_ret
              exact ⟨by first | rfl | (simp [errW_none, errW_some] <;> rfl) | (simp [*, errW_none, errW_some] <;> rfl), by repeat (first | (with_reducible first | exact HB.out | apply below_alloc | apply pw_below_drewN | apply below_drew1 | refine below_set ?_ GE211.out | refine below_set ?_ GE223.out | refine below_set ?_ GE227.out | refine below_set ?_ GE235.out) | exact HB.out)⟩

end Go.Proofs.Ytkckdibalopagaa.SFnExactList
