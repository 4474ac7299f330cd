-- Began as a print of the kit over stubs (wip/stub.py); the sections that are named OWN are this session's.
import Derived.Test.YtdhpcchmhikgeaaSFnWindowsx0
import Derived.Test.YtdhpcchmhikgeaaSFnWindowsx1
import Derived.Test.YtdhpcchmhikgeaaSFnWindowsx2
import Derived.Test.YtdhpcchmhikgeaaSFnWindowsx3
import Derived.Test.YtdhpcchmhikgeaaSFnWindowsx4
namespace Go.Proofs.Ytdhpcchmhikgeaa.SFnWindows
open Go.RowKit Go.Proofs.YtdhpcchmhikgeaaW.PrintWords Go.Proofs.YtdhpcchmhikgeaaW.PrintLast Go.Proofs.YtdhpcchmhikgeaaW.PrintMore
attribute [local go_sem] max2_int min2_int max_two min_two max_three min_three max_four min_four   -- for this text's walks alone
set_option linter.unusedVariables false
set_option linter.unusedSimpArgs false

attribute [local go_sem high] eqA27
/-! ### laws_FnWindows: function 3 -/
mutual
def laws_FnWindows.l0 : Nat → List Int → List Int → List Int → Int → Int → Int → Option (Bool)
  | 0, _, _, _, _, _, _ => none
  | k + 1, x0, x3, x5, x6, x220000, x220001 => if x6 < 12 then (if 0 ≤ x6 then (if x6 < (x3.length : Int) then ((impl_Noted.f k x220000 x220001 (Int.tmod (rd x3 x6) 40)).bind fun bt224 => (laws_FnWindows.l1 k x0 x3 x5 x6 (Int.tmod (rd x3 x6) 40) bt224.2.2 0 x220000 x220001 bt224.1 bt224.2.1)) else (none)) else (none)) else ((spec_DrawNoted.f k x0).bind fun bt235 => ((impl_Noted.f k bt235.1 bt235.2.1 bt235.2.2).bind fun bt239 => ((spec_Noted.f k bt235.1 bt235.2.1 bt235.2.2).bind fun bt243 => (if (bt239.1 == bt243.1 && (bt239.2.1 == bt243.2.1)) = true then (if (bt239.2.2 == bt243.2.2) = true then ((impl_Fresh.f k bt235.1 bt235.2.1 bt235.2.2).bind fun t247 => ((spec_Fresh.f k bt235.1 bt235.2.1 bt235.2.2).bind fun t248 => (if (t247 == t248) = true then ((impl_WindowOk.f k bt235.1 bt235.2.1).bind fun t249 => ((spec_WindowOk.f k bt235.1 bt235.2.1).bind fun t250 => (if (t249 == t250) = true then (some (decide ((x5.length : Int) > 0))) else (some false)))) else (some false)))) else (some false)) else (some false)))))
def laws_FnWindows.l1 : Nat → List Int → List Int → List Int → Int → Int → Bool → Int → Int → Int → Int → Int → Option (Bool)
  | 0, _, _, _, _, _, _, _, _, _, _, _ => none
  | k + 1, x0, x3, x5, x6, x7, x9, x10, x220000, x220001, x228000, x228001 => if x10 < (x5.length : Int) then (laws_FnWindows.j2 k x0 x3 x5 x6 x7 x9 x10 x9 x220000 x220001 x228000 x228001) else (laws_FnWindows.j2 k x0 x3 x5 x6 x7 x9 x10 false x220000 x220001 x228000 x228001)
def laws_FnWindows.j2 : Nat → List Int → List Int → List Int → Int → Int → Bool → Int → Bool → Int → Int → Int → Int → Option (Bool)
  | 0, _, _, _, _, _, _, _, _, _, _, _, _ => none
  | k + 1, x0, x3, x5, x6, x7, x9, x10, x44, x220000, x220001, x228000, x228001 => if x44 = true then (if 0 ≤ x10 then (if x10 < (x5.length : Int) then (if (rd x5 x10) = x7 then (some false) else (if (wrap64 (x7 + 16)) ≤ x220000 then (some false) else (laws_FnWindows.l1 k x0 x3 x5 x6 x7 x9 (wrap64 (x10 + 1)) x220000 x220001 x228000 x228001))) else (none)) else (none)) else (if x9 = true then (if x5.length < 17592186044416 then (laws_FnWindows.j3 k x0 x3 (x5 ++ [x7]) x6 x7 x9 x220000 x220001 x228000 x228001) else (none)) else (laws_FnWindows.j3 k x0 x3 x5 x6 x7 x9 x220000 x220001 x228000 x228001))
def laws_FnWindows.j3 : Nat → List Int → List Int → List Int → Int → Int → Bool → Int → Int → Int → Int → Option (Bool)
  | 0, _, _, _, _, _, _, _, _, _, _ => none
  | k + 1, x0, x3, x5, x6, x7, x9, x220000, x220001, x228000, x228001 => (impl_Fresh.f k x220000 x220001 x7).bind fun t232 => (if (x9 != t232) = true then (some false) else ((impl_WindowOk.f k x228000 x228001).bind fun t233 => (if t233 = true then (if x9 = true then ((impl_Fresh.f k x228000 x228001 x7).bind fun t234 => (if t234 = true then (some false) else (laws_FnWindows.l0 k x0 x3 x5 (wrap64 (x6 + 1)) x228000 x228001))) else (laws_FnWindows.l0 k x0 x3 x5 (wrap64 (x6 + 1)) x228000 x228001)) else (some false))))
end
def laws_FnWindows.f (k : Nat) (l0 : List Int) : Option (Bool) := (laws_big.f l0).bind fun t213 => (if t213 = true then (some true) else ((spec_DrawPlaces.f k l0).bind fun t214 => ((impl_WindowNew.f).bind fun bt217 => (laws_FnWindows.l0 k l0 t214 (([] : List Int)) 0 bt217.1 bt217.2))))
theorem laws_FnWindows.mono_l : ∀ k, (∀ y0 y1 y2 y3 y4 y5, LeO (laws_FnWindows.l0 k y0 y1 y2 y3 y4 y5) (laws_FnWindows.l0 (k + 1) y0 y1 y2 y3 y4 y5)) ∧ (∀ y0 y1 y2 y3 y4 y5 y6 y7 y8 y9 y10, LeO (laws_FnWindows.l1 k y0 y1 y2 y3 y4 y5 y6 y7 y8 y9 y10) (laws_FnWindows.l1 (k + 1) y0 y1 y2 y3 y4 y5 y6 y7 y8 y9 y10)) ∧ (∀ y0 y1 y2 y3 y4 y5 y6 y7 y8 y9 y10 y11, LeO (laws_FnWindows.j2 k y0 y1 y2 y3 y4 y5 y6 y7 y8 y9 y10 y11) (laws_FnWindows.j2 (k + 1) y0 y1 y2 y3 y4 y5 y6 y7 y8 y9 y10 y11)) ∧ (∀ y0 y1 y2 y3 y4 y5 y6 y7 y8 y9, LeO (laws_FnWindows.j3 k y0 y1 y2 y3 y4 y5 y6 y7 y8 y9) (laws_FnWindows.j3 (k + 1) y0 y1 y2 y3 y4 y5 y6 y7 y8 y9))
  | 0 => ⟨fun _ _ _ _ _ _ r h => by simp [laws_FnWindows.l0] at h, fun _ _ _ _ _ _ _ _ _ _ _ r h => by simp [laws_FnWindows.l1] at h, fun _ _ _ _ _ _ _ _ _ _ _ _ r h => by simp [laws_FnWindows.j2] at h, fun _ _ _ _ _ _ _ _ _ _ r h => by simp [laws_FnWindows.j3] at h⟩
  | k + 1 => by
    obtain ⟨ih0, ih1, ih2, ih3⟩ := laws_FnWindows.mono_l k
    refine ⟨?_, ?_, ?_, ?_⟩
    · intro y0 y1 y2 y3 y4 y5
      unfold laws_FnWindows.l0
      repeat' first
      | (with_reducible exact ih0 _ _ _ _ _ _)
      | (with_reducible exact ih1 _ _ _ _ _ _ _ _ _ _ _)
      | (with_reducible exact ih2 _ _ _ _ _ _ _ _ _ _ _ _)
      | (with_reducible exact ih3 _ _ _ _ _ _ _ _ _ _)
      | (with_reducible exact impl_Fresh.mono _ _ _ _)
      | (with_reducible exact impl_Noted.mono _ _ _ _)
      | (with_reducible exact impl_WindowOk.mono _ _ _)
      | (with_reducible exact spec_DrawNoted.mono _ _)
      | (with_reducible exact spec_DrawPlaces.mono _ _)
      | (with_reducible exact spec_Fresh.mono _ _ _ _)
      | (with_reducible exact spec_Noted.mono _ _ _ _)
      | (with_reducible exact spec_WindowOk.mono _ _ _)
      | (with_reducible exact LeO.refl _)
      | (with_reducible exact LeO.none _)
      | (with_reducible refine LeO.ite ?_ ?_)
      | (with_reducible refine LeO.bind ?_ (fun _ => ?_))
      | exact ih0 _ _ _ _ _ _
      | exact ih1 _ _ _ _ _ _ _ _ _ _ _
      | exact ih2 _ _ _ _ _ _ _ _ _ _ _ _
      | exact ih3 _ _ _ _ _ _ _ _ _ _
      | exact impl_Fresh.mono _ _ _ _
      | exact impl_Noted.mono _ _ _ _
      | exact impl_WindowOk.mono _ _ _
      | exact spec_DrawNoted.mono _ _
      | exact spec_DrawPlaces.mono _ _
      | exact spec_Fresh.mono _ _ _ _
      | exact spec_Noted.mono _ _ _ _
      | exact spec_WindowOk.mono _ _ _
      | exact LeO.none _
      | refine LeO.ite ?_ ?_
      | refine LeO.bind ?_ (fun _ => ?_)
    · intro y0 y1 y2 y3 y4 y5 y6 y7 y8 y9 y10
      unfold laws_FnWindows.l1
      repeat' first
      | (with_reducible exact ih0 _ _ _ _ _ _)
      | (with_reducible exact ih1 _ _ _ _ _ _ _ _ _ _ _)
      | (with_reducible exact ih2 _ _ _ _ _ _ _ _ _ _ _ _)
      | (with_reducible exact ih3 _ _ _ _ _ _ _ _ _ _)
      | (with_reducible exact impl_Fresh.mono _ _ _ _)
      | (with_reducible exact impl_Noted.mono _ _ _ _)
      | (with_reducible exact impl_WindowOk.mono _ _ _)
      | (with_reducible exact spec_DrawNoted.mono _ _)
      | (with_reducible exact spec_DrawPlaces.mono _ _)
      | (with_reducible exact spec_Fresh.mono _ _ _ _)
      | (with_reducible exact spec_Noted.mono _ _ _ _)
      | (with_reducible exact spec_WindowOk.mono _ _ _)
      | (with_reducible exact LeO.refl _)
      | (with_reducible exact LeO.none _)
      | (with_reducible refine LeO.ite ?_ ?_)
      | (with_reducible refine LeO.bind ?_ (fun _ => ?_))
      | exact ih0 _ _ _ _ _ _
      | exact ih1 _ _ _ _ _ _ _ _ _ _ _
      | exact ih2 _ _ _ _ _ _ _ _ _ _ _ _
      | exact ih3 _ _ _ _ _ _ _ _ _ _
      | exact impl_Fresh.mono _ _ _ _
      | exact impl_Noted.mono _ _ _ _
      | exact impl_WindowOk.mono _ _ _
      | exact spec_DrawNoted.mono _ _
      | exact spec_DrawPlaces.mono _ _
      | exact spec_Fresh.mono _ _ _ _
      | exact spec_Noted.mono _ _ _ _
      | exact spec_WindowOk.mono _ _ _
      | exact LeO.none _
      | refine LeO.ite ?_ ?_
      | refine LeO.bind ?_ (fun _ => ?_)
    · intro y0 y1 y2 y3 y4 y5 y6 y7 y8 y9 y10 y11
      unfold laws_FnWindows.j2
      repeat' first
      | (with_reducible exact ih0 _ _ _ _ _ _)
      | (with_reducible exact ih1 _ _ _ _ _ _ _ _ _ _ _)
      | (with_reducible exact ih2 _ _ _ _ _ _ _ _ _ _ _ _)
      | (with_reducible exact ih3 _ _ _ _ _ _ _ _ _ _)
      | (with_reducible exact impl_Fresh.mono _ _ _ _)
      | (with_reducible exact impl_Noted.mono _ _ _ _)
      | (with_reducible exact impl_WindowOk.mono _ _ _)
      | (with_reducible exact spec_DrawNoted.mono _ _)
      | (with_reducible exact spec_DrawPlaces.mono _ _)
      | (with_reducible exact spec_Fresh.mono _ _ _ _)
      | (with_reducible exact spec_Noted.mono _ _ _ _)
      | (with_reducible exact spec_WindowOk.mono _ _ _)
      | (with_reducible exact LeO.refl _)
      | (with_reducible exact LeO.none _)
      | (with_reducible refine LeO.ite ?_ ?_)
      | (with_reducible refine LeO.bind ?_ (fun _ => ?_))
      | exact ih0 _ _ _ _ _ _
      | exact ih1 _ _ _ _ _ _ _ _ _ _ _
      | exact ih2 _ _ _ _ _ _ _ _ _ _ _ _
      | exact ih3 _ _ _ _ _ _ _ _ _ _
      | exact impl_Fresh.mono _ _ _ _
      | exact impl_Noted.mono _ _ _ _
      | exact impl_WindowOk.mono _ _ _
      | exact spec_DrawNoted.mono _ _
      | exact spec_DrawPlaces.mono _ _
      | exact spec_Fresh.mono _ _ _ _
      | exact spec_Noted.mono _ _ _ _
      | exact spec_WindowOk.mono _ _ _
      | exact LeO.none _
      | refine LeO.ite ?_ ?_
      | refine LeO.bind ?_ (fun _ => ?_)
    · intro y0 y1 y2 y3 y4 y5 y6 y7 y8 y9
      unfold laws_FnWindows.j3
      repeat' first
      | (with_reducible exact ih0 _ _ _ _ _ _)
      | (with_reducible exact ih1 _ _ _ _ _ _ _ _ _ _ _)
      | (with_reducible exact ih2 _ _ _ _ _ _ _ _ _ _ _ _)
      | (with_reducible exact ih3 _ _ _ _ _ _ _ _ _ _)
      | (with_reducible exact impl_Fresh.mono _ _ _ _)
      | (with_reducible exact impl_Noted.mono _ _ _ _)
      | (with_reducible exact impl_WindowOk.mono _ _ _)
      | (with_reducible exact spec_DrawNoted.mono _ _)
      | (with_reducible exact spec_DrawPlaces.mono _ _)
      | (with_reducible exact spec_Fresh.mono _ _ _ _)
      | (with_reducible exact spec_Noted.mono _ _ _ _)
      | (with_reducible exact spec_WindowOk.mono _ _ _)
      | (with_reducible exact LeO.refl _)
      | (with_reducible exact LeO.none _)
      | (with_reducible refine LeO.ite ?_ ?_)
      | (with_reducible refine LeO.bind ?_ (fun _ => ?_))
      | exact ih0 _ _ _ _ _ _
      | exact ih1 _ _ _ _ _ _ _ _ _ _ _
      | exact ih2 _ _ _ _ _ _ _ _ _ _ _ _
      | exact ih3 _ _ _ _ _ _ _ _ _ _
      | exact impl_Fresh.mono _ _ _ _
      | exact impl_Noted.mono _ _ _ _
      | exact impl_WindowOk.mono _ _ _
      | exact spec_DrawNoted.mono _ _
      | exact spec_DrawPlaces.mono _ _
      | exact spec_Fresh.mono _ _ _ _
      | exact spec_Noted.mono _ _ _ _
      | exact spec_WindowOk.mono _ _ _
      | exact LeO.none _
      | refine LeO.ite ?_ ?_
      | refine LeO.bind ?_ (fun _ => ?_)
theorem laws_FnWindows.mono : ∀ a0 k, LeO (laws_FnWindows.f k a0) (laws_FnWindows.f (k + 1) a0) := by
  intro a0 k
  obtain ⟨ih0, ih1, ih2, ih3⟩ := laws_FnWindows.mono_l k
  unfold laws_FnWindows.f
  repeat' first
      | (with_reducible exact ih0 _ _ _ _ _ _)
      | (with_reducible exact ih1 _ _ _ _ _ _ _ _ _ _ _)
      | (with_reducible exact ih2 _ _ _ _ _ _ _ _ _ _ _ _)
      | (with_reducible exact ih3 _ _ _ _ _ _ _ _ _ _)
      | (with_reducible exact impl_Fresh.mono _ _ _ _)
      | (with_reducible exact impl_Noted.mono _ _ _ _)
      | (with_reducible exact impl_WindowOk.mono _ _ _)
      | (with_reducible exact spec_DrawNoted.mono _ _)
      | (with_reducible exact spec_DrawPlaces.mono _ _)
      | (with_reducible exact spec_Fresh.mono _ _ _ _)
      | (with_reducible exact spec_Noted.mono _ _ _ _)
      | (with_reducible exact spec_WindowOk.mono _ _ _)
      | (with_reducible exact LeO.refl _)
      | (with_reducible exact LeO.none _)
      | (with_reducible refine LeO.ite ?_ ?_)
      | (with_reducible refine LeO.bind ?_ (fun _ => ?_))
      | exact ih0 _ _ _ _ _ _
      | exact ih1 _ _ _ _ _ _ _ _ _ _ _
      | exact ih2 _ _ _ _ _ _ _ _ _ _ _ _
      | exact ih3 _ _ _ _ _ _ _ _ _ _
      | exact impl_Fresh.mono _ _ _ _
      | exact impl_Noted.mono _ _ _ _
      | exact impl_WindowOk.mono _ _ _
      | exact spec_DrawNoted.mono _ _
      | exact spec_DrawPlaces.mono _ _
      | exact spec_Fresh.mono _ _ _ _
      | exact spec_Noted.mono _ _ _ _
      | exact spec_WindowOk.mono _ _ _
      | exact LeO.none _
      | refine LeO.ite ?_ ?_
      | refine LeO.bind ?_ (fun _ => ?_)
def laws_FnWindows.T24 : Bool × List (List Nat × List Nat) := (true, [([], []), ([], []), ([0, 1], [0, 1]), ([2], [2]), ([3], [3]), ([3], [3]), ([4, 5, 3], [3, 4, 5]), ([3, 6], [3, 6]), ([7, 3], [7]), ([8], [8]), ([8], [8]), ([9, 10, 8, 8], [8, 9, 10]), ([8], [8]), ([8], [8]), ([12, 13, 11, 8], [8, 12, 13]), ([11, 14, 8], [8, 11, 14]), ([8, 15], [8, 15]), ([16, 14], [16]), ([17], [17]), ([18, 17, 17], [17, 18]), ([17], [17]), ([20, 19, 17], [17, 20]), ([19, 21, 17], [17, 19, 21]), ([17, 22], [17, 22]), ([23, 21], [23]), ([24], [24]), ([25, 24], [24, 25]), ([26, 24], [24, 26]), ([24, 27], [24, 27]), ([28, 24, 0, 1, 2, 3, 4, 5, 6, 7, 8, 9, 10, 11, 12, 13, 14, 15, 16, 17, 18, 19, 20, 21, 22, 23, 24, 25, 26, 27, 28], [28])])
def laws_FnWindows.B24 : List Nat := [0, 0, 3, 7, 15, 15, 63, 127, 255, 511, 511, 2047, 511, 511, 16383, 32767, 65535, 131071, 262143, 524287, 262143, 2097151, 4194303, 8388607, 16777215, 33554431, 67108863, 134217727, 268435455, 536870911]
theorem laws_FnWindows.tab24 : rtab .any (opsOf Try.f3 24) = laws_FnWindows.T24 := by kernel_rfl
theorem laws_FnWindows.bits24 : waitsOk laws_FnWindows.T24.2 laws_FnWindows.B24 = true := by kernel_rfl

/-! short names, for the walk in the next text -/
abbrev bN := @blk_drewN
abbrev bA := @blk_alloc
abbrev bD := @blk_drew
abbrev bS := @below_set
abbrev bP := @pw_below_drewN
abbrev b1 := @below_drew1
abbrev bL := @below_alloc
abbrev sA := @List.setIfInBounds_toArray
abbrev sZ := @List.set_cons_zero
abbrev sS := @List.set_cons_succ
abbrev ak := @Aside0.mk
abbrev rA := @Kd.R_alloc
abbrev rN := @Kd.R_drewN
abbrev rD := @Kd.R_drew
abbrev bB := @blk_below
abbrev bC := @blk_cell
abbrev ff : Bool := false
abbrev tt : Bool := true

end Go.Proofs.Ytdhpcchmhikgeaa.SFnWindows
