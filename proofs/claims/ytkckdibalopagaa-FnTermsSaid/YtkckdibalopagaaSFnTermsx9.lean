-- Began as a print of the kit over stubs (wip/stub.py); the sections that are named OWN are this session's.
import Derived.Test.YtkckdibalopagaaSFnTermsx0
import Derived.Test.YtkckdibalopagaaSFnTermsx2
import Derived.Test.YtkckdibalopagaaSFnTermsx4
import Derived.Test.YtkckdibalopagaaSFnTermsx6
import Derived.Test.YtkckdibalopagaaUShort
namespace Go.Proofs.Ytkckdibalopagaa.SFnTerms
open Go.RowKit Go.Proofs.YtkckdibalopagaaW.PrintWords Go.Proofs.YtkckdibalopagaaW.PrintLast Go.Proofs.YtkckdibalopagaaW.PrintMore Go.Proofs.Ytkckdibalopagaa.Short
attribute [local go_sem] max2_int min2_int max_two min_two max_three min_three max_four min_four   -- for this text's walks alone
set_option linter.unusedVariables false
set_option linter.unusedSimpArgs false

/-! ### spec_l03Any: function 76 -/
def spec_l03Any.f (s0_0 : List Int) (s0_1 : Int) (s0_2 : Int) : Option ((List (S34)) × Int × Int) := (spec_l01Below.f s0_0 s0_1 s0_2 12).bind fun bt374 => ((spec_l01Below.f s0_0 bt374.2.1 bt374.2.2 60).bind fun bt377 => ((spec_l03Arena.f s0_0 bt377.2.1 bt377.2.2).bind fun bt380 => ((spec_l03Copy.f bt380.1).bind fun t385 => (if (t385.length : Int) = 0 then (none) else (if bt374.1 = 0 then (if 0 ≤ (Int.tmod bt377.1 (t385.length : Int)) then (if (Int.tmod bt377.1 (t385.length : Int)) < (t385.length : Int) then (some ((t385.set ((Int.tmod bt377.1 (t385.length : Int)) : Int).toNat (⟨Int.tmod bt377.1 11, (rd_T34 t385 (Int.tmod bt377.1 (t385.length : Int))).f1, (rd_T34 t385 (Int.tmod bt377.1 (t385.length : Int))).f2, (rd_T34 t385 (Int.tmod bt377.1 (t385.length : Int))).f3⟩ : S34)), bt380.2.1, bt380.2.2)) else (none)) else (none)) else (if bt374.1 = 1 then (if 0 ≤ (Int.tmod bt377.1 (t385.length : Int)) then (if (Int.tmod bt377.1 (t385.length : Int)) < (t385.length : Int) then (some ((t385.set ((Int.tmod bt377.1 (t385.length : Int)) : Int).toNat (⟨(rd_T34 t385 (Int.tmod bt377.1 (t385.length : Int))).f0, (rd_T34 t385 (Int.tmod bt377.1 (t385.length : Int))).f1, wrap64 ((Int.tmod bt377.1 9) - 1), (rd_T34 t385 (Int.tmod bt377.1 (t385.length : Int))).f3⟩ : S34)), bt380.2.1, bt380.2.2)) else (none)) else (none)) else (if bt374.1 = 2 then ((some (([(-1), 5, 1000000] : List Int) : List Int)).bind fun y391 => (if 0 ≤ (Int.tmod bt377.1 3) then (if (Int.tmod bt377.1 3) < (y391.length : Int) then (if 0 ≤ (Int.tmod bt377.1 (t385.length : Int)) then (if (Int.tmod bt377.1 (t385.length : Int)) < (t385.length : Int) then (some ((t385.set ((Int.tmod bt377.1 (t385.length : Int)) : Int).toNat (⟨(rd_T34 t385 (Int.tmod bt377.1 (t385.length : Int))).f0, rd y391 (Int.tmod bt377.1 3), (rd_T34 t385 (Int.tmod bt377.1 (t385.length : Int))).f2, (rd_T34 t385 (Int.tmod bt377.1 (t385.length : Int))).f3⟩ : S34)), bt380.2.1, bt380.2.2)) else (none)) else (none)) else (none)) else (none))) else (if bt374.1 = 3 then (if 0 < (t385.length : Int) then (if t385.length < 4398046511104 then (some ((t385 ++ [(⟨(rd_T34 t385 0).f0, (rd_T34 t385 0).f1, (rd_T34 t385 0).f2, (rd_T34 t385 0).f3⟩ : S34)]), bt380.2.1, bt380.2.2)) else (none)) else (none)) else (some (t385, bt380.2.1, bt380.2.2))))))))))
def spec_l03Any.T11 : Bool × List (List Nat × List Nat) := (true, [([], []), ([0], [0]), ([], []), ([], []), ([], []), ([4], [4]), ([3, 5], [3, 5]), ([6], [6]), ([1, 2, 0, 1, 2, 3, 4, 5, 6, 7], [1, 2]), ([8, 0, 1, 2, 3, 4, 5, 6, 7], [8]), ([9, 7, 0, 1, 2, 3, 4, 5, 6, 7], [7, 9])])
def spec_l03Any.B11 : List Nat := [0, 1, 0, 0, 0, 16, 56, 120, 255, 511, 1023]
theorem spec_l03Any.tab11 : rtab .any (opsOf Try.f76 11) = spec_l03Any.T11 := by kernel_rfl
theorem spec_l03Any.bits11 : waitsOk spec_l03Any.T11.2 spec_l03Any.B11 = true := by kernel_rfl
def spec_l03Any.T13 : Bool × List (List Nat × List Nat) := (true, [([], []), ([0], [0]), ([], []), ([2], [2]), ([3], [3]), ([4], [4]), ([5], [5]), ([1, 6], [1, 6]), ([0, 1, 2, 3, 4, 5, 6, 7], []), ([8, 7, 7, 0, 1, 2, 3, 4, 5, 6, 7], [7, 8])])
def spec_l03Any.B13 : List Nat := [0, 1, 0, 4, 12, 28, 60, 127, 255, 511]
theorem spec_l03Any.tab13 : rtab .any (opsOf Try.f76 13) = spec_l03Any.T13 := by kernel_rfl
theorem spec_l03Any.bits13 : waitsOk spec_l03Any.T13.2 spec_l03Any.B13 = true := by kernel_rfl
set_option maxHeartbeats 8000000 in
set_option maxRecDepth 100000 in
theorem spec_l03Any.calls (g : Nat) (s0_0 : List Int) (s0_1 : Int) (s0_2 : Int) (r1 : List (S34)) (r2 : Int) (r3 : Int) (w0 w : World) (hI : IsS119 w0 w g s0_0 s0_1 s0_2) (hB : Below w0.heap.size w0 w) (h : spec_l03Any.f s0_0 s0_1 s0_2 = some (r1, r2, r3)) :
  Calls Try.prog 76 #[.pointer (some ⟨g, 0, none⟩)] w fun e w' => ∃ v0_ : Value, e = .returned (.agg #[v0_]) ∧ Kd.R k34 34 w' w.heap.size (fun _ => True) v0_ r1 ∧ IsS119 w0 w' g s0_0 r2 r3 ∧ Below w0.heap.size w0 w' ∧ KeepBut w w' g none := by
 have hu26 := Try.underlying26
 have hu34 := Try.underlying34
 have HI0 := Aside0.mk hI
 have HK := Aside0.mk (KeepBut.refl w g none)
 have HL := Aside0.mk hB.size
 clear hI
 have HW0 := Aside0.mk hB.size
 have HB := Aside0.mk hB
 clear hB
 have H : ((spec_l01Below.f s0_0 s0_1 s0_2 12).bind fun bt374 => ((spec_l01Below.f s0_0 bt374.2.1 bt374.2.2 60).bind fun bt377 => ((spec_l03Arena.f s0_0 bt377.2.1 bt377.2.2).bind fun bt380 => ((spec_l03Copy.f bt380.1).bind fun t385 => (if (t385.length : Int) = 0 then (none) else (if bt374.1 = 0 then (if 0 ≤ (Int.tmod bt377.1 (t385.length : Int)) then (if (Int.tmod bt377.1 (t385.length : Int)) < (t385.length : Int) then (some ((t385.set ((Int.tmod bt377.1 (t385.length : Int)) : Int).toNat (⟨Int.tmod bt377.1 11, (rd_T34 t385 (Int.tmod bt377.1 (t385.length : Int))).f1, (rd_T34 t385 (Int.tmod bt377.1 (t385.length : Int))).f2, (rd_T34 t385 (Int.tmod bt377.1 (t385.length : Int))).f3⟩ : S34)), bt380.2.1, bt380.2.2)) else (none)) else (none)) else (if bt374.1 = 1 then (if 0 ≤ (Int.tmod bt377.1 (t385.length : Int)) then (if (Int.tmod bt377.1 (t385.length : Int)) < (t385.length : Int) then (some ((t385.set ((Int.tmod bt377.1 (t385.length : Int)) : Int).toNat (⟨(rd_T34 t385 (Int.tmod bt377.1 (t385.length : Int))).f0, (rd_T34 t385 (Int.tmod bt377.1 (t385.length : Int))).f1, wrap64 ((Int.tmod bt377.1 9) - 1), (rd_T34 t385 (Int.tmod bt377.1 (t385.length : Int))).f3⟩ : S34)), bt380.2.1, bt380.2.2)) else (none)) else (none)) else (if bt374.1 = 2 then ((some (([(-1), 5, 1000000] : List Int) : List Int)).bind fun y391 => (if 0 ≤ (Int.tmod bt377.1 3) then (if (Int.tmod bt377.1 3) < (y391.length : Int) then (if 0 ≤ (Int.tmod bt377.1 (t385.length : Int)) then (if (Int.tmod bt377.1 (t385.length : Int)) < (t385.length : Int) then (some ((t385.set ((Int.tmod bt377.1 (t385.length : Int)) : Int).toNat (⟨(rd_T34 t385 (Int.tmod bt377.1 (t385.length : Int))).f0, rd y391 (Int.tmod bt377.1 3), (rd_T34 t385 (Int.tmod bt377.1 (t385.length : Int))).f2, (rd_T34 t385 (Int.tmod bt377.1 (t385.length : Int))).f3⟩ : S34)), bt380.2.1, bt380.2.2)) else (none)) else (none)) else (none)) else (none))) else (if bt374.1 = 3 then (if 0 < (t385.length : Int) then (if t385.length < 4398046511104 then (some ((t385 ++ [(⟨(rd_T34 t385 0).f0, (rd_T34 t385 0).f1, (rd_T34 t385 0).f2, (rd_T34 t385 0).f3⟩ : S34)]), bt380.2.1, bt380.2.2)) else (none)) else (none)) else (some (t385, bt380.2.1, bt380.2.2))))))))))) = some (r1, r2, r3) := h
 clear h
 replace H := Option.bind_eq_some_iff.mp H
 obtain ⟨⟨t374, t375, t376⟩, A20, H⟩ := H
 replace H : ((spec_l01Below.f s0_0 t375 t376 60).bind fun bt377 => ((spec_l03Arena.f s0_0 bt377.2.1 bt377.2.2).bind fun bt380 => ((spec_l03Copy.f bt380.1).bind fun t385 => (if (t385.length : Int) = 0 then (none) else (if t374 = 0 then (if 0 ≤ (Int.tmod bt377.1 (t385.length : Int)) then (if (Int.tmod bt377.1 (t385.length : Int)) < (t385.length : Int) then (some ((t385.set ((Int.tmod bt377.1 (t385.length : Int)) : Int).toNat (⟨Int.tmod bt377.1 11, (rd_T34 t385 (Int.tmod bt377.1 (t385.length : Int))).f1, (rd_T34 t385 (Int.tmod bt377.1 (t385.length : Int))).f2, (rd_T34 t385 (Int.tmod bt377.1 (t385.length : Int))).f3⟩ : S34)), bt380.2.1, bt380.2.2)) else (none)) else (none)) else (if t374 = 1 then (if 0 ≤ (Int.tmod bt377.1 (t385.length : Int)) then (if (Int.tmod bt377.1 (t385.length : Int)) < (t385.length : Int) then (some ((t385.set ((Int.tmod bt377.1 (t385.length : Int)) : Int).toNat (⟨(rd_T34 t385 (Int.tmod bt377.1 (t385.length : Int))).f0, (rd_T34 t385 (Int.tmod bt377.1 (t385.length : Int))).f1, wrap64 ((Int.tmod bt377.1 9) - 1), (rd_T34 t385 (Int.tmod bt377.1 (t385.length : Int))).f3⟩ : S34)), bt380.2.1, bt380.2.2)) else (none)) else (none)) else (if t374 = 2 then ((some (([(-1), 5, 1000000] : List Int) : List Int)).bind fun y391 => (if 0 ≤ (Int.tmod bt377.1 3) then (if (Int.tmod bt377.1 3) < (y391.length : Int) then (if 0 ≤ (Int.tmod bt377.1 (t385.length : Int)) then (if (Int.tmod bt377.1 (t385.length : Int)) < (t385.length : Int) then (some ((t385.set ((Int.tmod bt377.1 (t385.length : Int)) : Int).toNat (⟨(rd_T34 t385 (Int.tmod bt377.1 (t385.length : Int))).f0, rd y391 (Int.tmod bt377.1 3), (rd_T34 t385 (Int.tmod bt377.1 (t385.length : Int))).f2, (rd_T34 t385 (Int.tmod bt377.1 (t385.length : Int))).f3⟩ : S34)), bt380.2.1, bt380.2.2)) else (none)) else (none)) else (none)) else (none))) else (if t374 = 3 then (if 0 < (t385.length : Int) then (if t385.length < 4398046511104 then (some ((t385 ++ [(⟨(rd_T34 t385 0).f0, (rd_T34 t385 0).f1, (rd_T34 t385 0).f2, (rd_T34 t385 0).f3⟩ : S34)]), bt380.2.1, bt380.2.2)) else (none)) else (none)) else (some (t385, bt380.2.1, bt380.2.2)))))))))) = some (r1, r2, r3) := H
 have A2 := Aside0.mk A20
 clear A20
 replace H := Option.bind_eq_some_iff.mp H
 obtain ⟨⟨t377, t378, t379⟩, A30, H⟩ := H
 replace H : ((spec_l03Arena.f s0_0 t378 t379).bind fun bt380 => ((spec_l03Copy.f bt380.1).bind fun t385 => (if (t385.length : Int) = 0 then (none) else (if t374 = 0 then (if 0 ≤ (Int.tmod t377 (t385.length : Int)) then (if (Int.tmod t377 (t385.length : Int)) < (t385.length : Int) then (some ((t385.set ((Int.tmod t377 (t385.length : Int)) : Int).toNat (⟨Int.tmod t377 11, (rd_T34 t385 (Int.tmod t377 (t385.length : Int))).f1, (rd_T34 t385 (Int.tmod t377 (t385.length : Int))).f2, (rd_T34 t385 (Int.tmod t377 (t385.length : Int))).f3⟩ : S34)), bt380.2.1, bt380.2.2)) else (none)) else (none)) else (if t374 = 1 then (if 0 ≤ (Int.tmod t377 (t385.length : Int)) then (if (Int.tmod t377 (t385.length : Int)) < (t385.length : Int) then (some ((t385.set ((Int.tmod t377 (t385.length : Int)) : Int).toNat (⟨(rd_T34 t385 (Int.tmod t377 (t385.length : Int))).f0, (rd_T34 t385 (Int.tmod t377 (t385.length : Int))).f1, wrap64 ((Int.tmod t377 9) - 1), (rd_T34 t385 (Int.tmod t377 (t385.length : Int))).f3⟩ : S34)), bt380.2.1, bt380.2.2)) else (none)) else (none)) else (if t374 = 2 then ((some (([(-1), 5, 1000000] : List Int) : List Int)).bind fun y391 => (if 0 ≤ (Int.tmod t377 3) then (if (Int.tmod t377 3) < (y391.length : Int) then (if 0 ≤ (Int.tmod t377 (t385.length : Int)) then (if (Int.tmod t377 (t385.length : Int)) < (t385.length : Int) then (some ((t385.set ((Int.tmod t377 (t385.length : Int)) : Int).toNat (⟨(rd_T34 t385 (Int.tmod t377 (t385.length : Int))).f0, rd y391 (Int.tmod t377 3), (rd_T34 t385 (Int.tmod t377 (t385.length : Int))).f2, (rd_T34 t385 (Int.tmod t377 (t385.length : Int))).f3⟩ : S34)), bt380.2.1, bt380.2.2)) else (none)) else (none)) else (none)) else (none))) else (if t374 = 3 then (if 0 < (t385.length : Int) then (if t385.length < 4398046511104 then (some ((t385 ++ [(⟨(rd_T34 t385 0).f0, (rd_T34 t385 0).f1, (rd_T34 t385 0).f2, (rd_T34 t385 0).f3⟩ : S34)]), bt380.2.1, bt380.2.2)) else (none)) else (none)) else (some (t385, bt380.2.1, bt380.2.2))))))))) = some (r1, r2, r3) := H
 have A3 := Aside0.mk A30
 clear A30
 replace H := Option.bind_eq_some_iff.mp H
 obtain ⟨⟨t380, t383, t384⟩, A40, H⟩ := H
 replace H : ((spec_l03Copy.f t380).bind fun t385 => (if (t385.length : Int) = 0 then (none) else (if t374 = 0 then (if 0 ≤ (Int.tmod t377 (t385.length : Int)) then (if (Int.tmod t377 (t385.length : Int)) < (t385.length : Int) then (some ((t385.set ((Int.tmod t377 (t385.length : Int)) : Int).toNat (⟨Int.tmod t377 11, (rd_T34 t385 (Int.tmod t377 (t385.length : Int))).f1, (rd_T34 t385 (Int.tmod t377 (t385.length : Int))).f2, (rd_T34 t385 (Int.tmod t377 (t385.length : Int))).f3⟩ : S34)), t383, t384)) else (none)) else (none)) else (if t374 = 1 then (if 0 ≤ (Int.tmod t377 (t385.length : Int)) then (if (Int.tmod t377 (t385.length : Int)) < (t385.length : Int) then (some ((t385.set ((Int.tmod t377 (t385.length : Int)) : Int).toNat (⟨(rd_T34 t385 (Int.tmod t377 (t385.length : Int))).f0, (rd_T34 t385 (Int.tmod t377 (t385.length : Int))).f1, wrap64 ((Int.tmod t377 9) - 1), (rd_T34 t385 (Int.tmod t377 (t385.length : Int))).f3⟩ : S34)), t383, t384)) else (none)) else (none)) else (if t374 = 2 then ((some (([(-1), 5, 1000000] : List Int) : List Int)).bind fun y391 => (if 0 ≤ (Int.tmod t377 3) then (if (Int.tmod t377 3) < (y391.length : Int) then (if 0 ≤ (Int.tmod t377 (t385.length : Int)) then (if (Int.tmod t377 (t385.length : Int)) < (t385.length : Int) then (some ((t385.set ((Int.tmod t377 (t385.length : Int)) : Int).toNat (⟨(rd_T34 t385 (Int.tmod t377 (t385.length : Int))).f0, rd y391 (Int.tmod t377 3), (rd_T34 t385 (Int.tmod t377 (t385.length : Int))).f2, (rd_T34 t385 (Int.tmod t377 (t385.length : Int))).f3⟩ : S34)), t383, t384)) else (none)) else (none)) else (none)) else (none))) else (if t374 = 3 then (if 0 < (t385.length : Int) then (if t385.length < 4398046511104 then (some ((t385 ++ [(⟨(rd_T34 t385 0).f0, (rd_T34 t385 0).f1, (rd_T34 t385 0).f2, (rd_T34 t385 0).f3⟩ : S34)]), t383, t384)) else (none)) else (none)) else (some (t385, t383, t384)))))))) = some (r1, r2, r3) := H
 have A4 := Aside0.mk A40
 clear A40
 replace H := Option.bind_eq_some_iff.mp H
 obtain ⟨t385, A50, H⟩ := H
 replace H : (if (t385.length : Int) = 0 then (none) else (if t374 = 0 then (if 0 ≤ (Int.tmod t377 (t385.length : Int)) then (if (Int.tmod t377 (t385.length : Int)) < (t385.length : Int) then (some ((t385.set ((Int.tmod t377 (t385.length : Int)) : Int).toNat (⟨Int.tmod t377 11, (rd_T34 t385 (Int.tmod t377 (t385.length : Int))).f1, (rd_T34 t385 (Int.tmod t377 (t385.length : Int))).f2, (rd_T34 t385 (Int.tmod t377 (t385.length : Int))).f3⟩ : S34)), t383, t384)) else (none)) else (none)) else (if t374 = 1 then (if 0 ≤ (Int.tmod t377 (t385.length : Int)) then (if (Int.tmod t377 (t385.length : Int)) < (t385.length : Int) then (some ((t385.set ((Int.tmod t377 (t385.length : Int)) : Int).toNat (⟨(rd_T34 t385 (Int.tmod t377 (t385.length : Int))).f0, (rd_T34 t385 (Int.tmod t377 (t385.length : Int))).f1, wrap64 ((Int.tmod t377 9) - 1), (rd_T34 t385 (Int.tmod t377 (t385.length : Int))).f3⟩ : S34)), t383, t384)) else (none)) else (none)) else (if t374 = 2 then ((some (([(-1), 5, 1000000] : List Int) : List Int)).bind fun y391 => (if 0 ≤ (Int.tmod t377 3) then (if (Int.tmod t377 3) < (y391.length : Int) then (if 0 ≤ (Int.tmod t377 (t385.length : Int)) then (if (Int.tmod t377 (t385.length : Int)) < (t385.length : Int) then (some ((t385.set ((Int.tmod t377 (t385.length : Int)) : Int).toNat (⟨(rd_T34 t385 (Int.tmod t377 (t385.length : Int))).f0, rd y391 (Int.tmod t377 3), (rd_T34 t385 (Int.tmod t377 (t385.length : Int))).f2, (rd_T34 t385 (Int.tmod t377 (t385.length : Int))).f3⟩ : S34)), t383, t384)) else (none)) else (none)) else (none)) else (none))) else (if t374 = 3 then (if 0 < (t385.length : Int) then (if t385.length < 4398046511104 then (some ((t385 ++ [(⟨(rd_T34 t385 0).f0, (rd_T34 t385 0).f1, (rd_T34 t385 0).f2, (rd_T34 t385 0).f3⟩ : S34)]), t383, t384)) else (none)) else (none)) else (some (t385, t383, t384))))))) = some (r1, r2, r3) := H
 have A5 := Aside0.mk A50
 clear A50
 by_cases c6 : (t385.length : Int) = 0
 ·rw [if_pos c6] at H
  exact absurd H (by simp)
 ·rw [if_neg c6] at H
  have c6b0 : ((t385.length : Int) == 0) = false := beq_eq_false_iff_ne.mpr c6
  have c6b1 : ((t385.length : Int) != 0) = true := bne_iff_ne.mpr c6
  have c6b2 : ¬ (t385 = []) := fun h_ => c6 (by rw [h_]; rfl)
  by_cases c7 : t374 = 0
  ·rw [if_pos c7] at H
   have c7b0 : (t374 == 0) = true := beq_iff_eq.mpr c7
   have c7b1 : (t374 != 0) = false := bne_eq_false_iff_eq.mpr c7
   clear c7
   obtain ⟨ji8, hji8⟩ : ∃ j_ : Int, (Int.tmod t377 (t385.length : Int)) = j_ := ⟨_, rfl⟩
   replace H : (if 0 ≤ (ji8) then (if (ji8) < (t385.length : Int) then (some ((t385.set ((ji8) : Int).toNat (⟨Int.tmod t377 11, (rd_T34 t385 (ji8)).f1, (rd_T34 t385 (ji8)).f2, (rd_T34 t385 (ji8)).f3⟩ : S34)), t383, t384)) else (none)) else (none)) = some (r1, r2, r3) := by first | (rw [hji8] at H; exact H) | (simp only [hji8] at H ⊢; exact H)
   (try rw [hji8] at A2)
   (try rw [hji8] at A3)
   (try rw [hji8] at A4)
   (try rw [hji8] at A5)
   by_cases c9 : 0 ≤ (ji8)
   ·rw [if_pos c9] at H
    have c9b0 : decide (0 ≤ (ji8)) = true := decide_eq_true c9
    clear c9
    by_cases c10 : (ji8) < (t385.length : Int)
    ·rw [if_pos c10] at H
     have c10b0 : decide ((ji8) < (t385.length : Int)) = true := decide_eq_true c10
     clear c10
     obtain ⟨y389, hy389⟩ : ∃ y_ : List (S34), y_ = (t385.set ((ji8) : Int).toNat (⟨Int.tmod t377 11, (rd_T34 t385 (ji8)).f1, (rd_T34 t385 (ji8)).f2, (rd_T34 t385 (ji8)).f3⟩ : S34)) := ⟨_, rfl⟩
     replace H : (some (y389, t383, t384)) = some (r1, r2, r3) := by first | (rw [hy389]; with_reducible exact H) | (have H2_ := (Option.bind_some _ _).symm.trans H; rw [hy389]; with_reducible exact H2_) | (have H2_ := (Option.bind_some _ _).symm.trans H; with_reducible exact H2_) | with_reducible exact H | (rw [hy389]; exact H) | exact H
     have Ny389 := Aside0.mk hy389
     clear hy389
     simp only [Option.some.injEq, Prod.mk.injEq] at H
     obtain ⟨rfl, rfl, rfl⟩ := H
     go_enter Try.func76, Try.ntmps76
     go_wp2_with (first | ((with_reducible refine gate_dst (N := 2) rfl ?_); refine box_event ?hg (N := 2) ?hd (cs := #[.slice none 0 0]) (t := 26) ?hr ?_; (case hd => rfl); (case hg => rfl); (case hr => first | (go_simp; done) | (go_simp; rfl)); intro gb373 hg w12 hbox hb; have n0_ := Aside0.mk (IsS119.below (i9 HI0.out) hb); have n1_ := Aside0.mk (KeepBut.trans (kp HK.out) (KeepBut.of_below hb g none) (.inl rfl)); have n2_ := Aside0.mk (below_step (b9 HB.out) hb); have n3_ := Aside0.mk (hbox); have n4_ := Aside0.mk ((by rw [hg]; exact (keep_size (w := w) (g := g) (row := none) (kp HK.out)) : w.heap.size ≤ gb373)); have n5_ := Aside0.mk ((Nat.le_trans HW0.out (by rw [hg]; exact (keep_size (w := w) (g := g) (row := none) (kp HK.out)) : w.heap.size ≤ gb373) : w0.heap.size ≤ gb373)); have n6_ := Aside0.mk ((by rw [hg]; exact Nat.ne_of_lt (IsS119.lt (show IsS119 w0 _ g s0_0 s0_1 s0_2 from i9 HI0.out)) : g ≠ gb373)); have n7_ := Aside0.mk ((by rw [hg]; exact Nat.ne_of_gt (IsS119.lt (show IsS119 w0 _ g s0_0 s0_1 s0_2 from i9 HI0.out)) : gb373 ≠ g)); clear HI0 HK HB; have HI0 := n0_; have HK := n1_; have HB := n2_; have BK373 := n3_; have GW373 := n4_; have GE373 := n5_; have NB0_373 := n6_; have NB373_0 := n7_; clear n0_ n1_ n2_ n3_ n4_ n5_ n6_ n7_ hb hbox hg) | ((with_reducible refine gate_callee (f := 70) rfl ?_); refine goesL_ (some 8) rfl rfl Try.func70 (by kernel_rfl) rfl #[.pointer (some ⟨g, 0, none⟩), .int .i64 12] rfl ar ?_; (with_reducible refine (spec_l01Below.calls g s0_0 s0_1 s0_2 12 t374 t375 t376 w0 _ ?side1 ?side2 A2.out).mono ?_); (case side1 => exact i9 HI0.out); (case side2 => exact b9 HB.out); rintro e w13 ⟨rfl, hi, hb, hk⟩; refine ⟨_, rfl, ?_⟩; have n0_ := Aside0.mk (KeepBut.blk hk (g' := gb373) (o := .cells #[.slice none 0 0] 26 (0, 0)) (bl BK373.out) NB373_0.out (by simp)); have n1_ := Aside0.mk (KeepBut.trans (kp HK.out) hk (.inl rfl)); have n2_ := Aside0.mk (hb); have n3_ := Aside0.mk (hi); clear BK373 HK HB HI0; have BK373 := n0_; have HK := n1_; have HB := n2_; have HI0 := n3_; clear n0_ n1_ n2_ n3_; (try clear hb); (try clear hb2); (try clear hk); (try clear hi)) | ((with_reducible refine gate_callee (f := 70) rfl ?_); refine goesL_ (some 10) rfl rfl Try.func70 (by kernel_rfl) rfl #[.pointer (some ⟨g, 0, none⟩), .int .i64 60] rfl ar ?_; (with_reducible refine (spec_l01Below.calls g s0_0 t375 t376 60 t377 t378 t379 w0 _ ?side1 ?side2 A3.out).mono ?_); (case side1 => exact i9 HI0.out); (case side2 => exact b9 HB.out); rintro e w14 ⟨rfl, hi, hb, hk⟩; refine ⟨_, rfl, ?_⟩; have n0_ := Aside0.mk (KeepBut.blk hk (g' := gb373) (o := .cells #[.slice none 0 0] 26 (0, 0)) (bl BK373.out) NB373_0.out (by simp)); have n1_ := Aside0.mk (KeepBut.trans (kp HK.out) hk (.inl rfl)); have n2_ := Aside0.mk (hb); have n3_ := Aside0.mk (hi); clear BK373 HK HB HI0; have BK373 := n0_; have HK := n1_; have HB := n2_; have HI0 := n3_; clear n0_ n1_ n2_ n3_; (try clear hb); (try clear hb2); (try clear hk); (try clear hi)) | ((with_reducible refine gate_callee (f := 69) rfl ?_); refine goesL_ (some 12) rfl rfl Try.func69 (by kernel_rfl) rfl #[.pointer (some ⟨g, 0, none⟩)] rfl ar ?_; (with_reducible refine (spec_l03Arena.calls g s0_0 t378 t379 t380 t383 t384 w0 _ ?side1 ?side2 A4.out).mono ?_); (case side1 => exact i9 HI0.out); (case side2 => exact b9 HB.out); rintro e w15 ⟨v381, rfl, ho0, hi, hb, hk⟩; refine ⟨_, rfl, ?_⟩; have n0_ := Aside0.mk (KeepBut.blk hk (g' := gb373) (o := .cells #[.slice none 0 0] 26 (0, 0)) (bl BK373.out) NB373_0.out (by simp)); have n1_ := Aside0.mk (Kd.R_lower ho0 (keep_size (w := w) (g := g) (row := none) (kp HK.out))); have n2_ := Aside0.mk (KeepBut.trans (kp HK.out) hk (.inl rfl)); have n3_ := Aside0.mk (hb); have n4_ := Aside0.mk (hi); clear BK373 HK HB HI0; have BK373 := n0_; have HO382 := n1_; have HK := n2_; have HB := n3_; have HI0 := n4_; clear n0_ n1_ n2_ n3_ n4_; (try clear hb); (try clear hb2); (try clear hk); (try clear hi); (try clear ho0); obtain ⟨Ao16, co16, eo16⟩ := Kd.R_slice HO382.out; subst eo16) | ((with_reducible refine gate_callee (f := 90) rfl ?_); refine goesL_ (some 13) rfl rfl Try.func90 (by kernel_rfl) rfl #[.agg #[.slice Ao16 t380.length co16]] rfl ar ?_; (with_reducible refine (spec_l03Copy.calls _ _ t380 t385 _ ?side1 ?side2 A5.out).mono ?_); (case side1 => exact cl (Kd.R_reads' HO382.out).2.2); (case side2 => exact (Kd.R_reads' HO382.out).2.1); rintro e w17 ⟨v386, rfl, ho0, hb⟩; refine ⟨_, rfl, ?_⟩; have n0_ := Aside0.mk (Kd.R_elder' (rl HO382.out) (Kd.R_base ho0) hb); have n1_ := Aside0.mk (Kd.R_lower (Kd.R_new' ho0 (Kd.R_lt (rl HO382.out))) (keep_size (w := w) (g := g) (row := none) (kp HK.out))); have n2_ := Aside0.mk (IsS119.below (i9 HI0.out) hb); have n3_ := Aside0.mk (blk_below (g := gb373) (o := .cells #[.slice none 0 0] 26 (0, 0)) (bl BK373.out) hb); have n4_ := Aside0.mk (KeepBut.trans (kp HK.out) (KeepBut.of_below hb g none) (.inl rfl)); have n5_ := Aside0.mk (below_step (b9 HB.out) hb); clear HO382 HI0 BK373 HK HB; have HO382 := n0_; have HO387 := n1_; have HI0 := n2_; have BK373 := n3_; have HK := n4_; have HB := n5_; clear n0_ n1_ n2_ n3_ n4_ n5_; (try clear hb); (try clear hb2); (try clear hk); (try clear hi); (try clear ho0)) | ((with_reducible refine gate_dst (N := 5) rfl ?_); refine box_event ?hg (N := 5) ?hd (cs := #[.slice none 0 0]) (t := 26) ?hr ?_; (case hd => rfl); (case hg => rfl); (case hr => first | (go_simp; done) | (go_simp; rfl)); intro gb388 hg w18 hbox hb; have n0_ := Aside0.mk (Kd.R_below (rl HO382.out) hb); have n1_ := Aside0.mk (Kd.R_below (rl HO387.out) hb); have n2_ := Aside0.mk (IsS119.below (i9 HI0.out) hb); have n3_ := Aside0.mk (blk_below (g := gb373) (o := .cells #[.slice none 0 0] 26 (0, 0)) (bl BK373.out) hb); have n4_ := Aside0.mk (KeepBut.trans (kp HK.out) (KeepBut.of_below hb g none) (.inl rfl)); have n5_ := Aside0.mk (below_step (b9 HB.out) hb); have n6_ := Aside0.mk (hbox); have n7_ := Aside0.mk ((by rw [hg]; exact (keep_size (w := w) (g := g) (row := none) (kp HK.out)) : w.heap.size ≤ gb388)); have n8_ := Aside0.mk ((Nat.le_trans HW0.out (by rw [hg]; exact (keep_size (w := w) (g := g) (row := none) (kp HK.out)) : w.heap.size ≤ gb388) : w0.heap.size ≤ gb388)); have n9_ := Aside0.mk ((by rw [hg]; exact Nat.ne_of_lt (blk_lt (g := gb373) (o := .cells #[.slice none 0 0] 26 (0, 0)) (bl BK373.out)) : gb373 ≠ gb388)); have n10_ := Aside0.mk ((by rw [hg]; exact Nat.ne_of_gt (blk_lt (g := gb373) (o := .cells #[.slice none 0 0] 26 (0, 0)) (bl BK373.out)) : gb388 ≠ gb373)); have n11_ := Aside0.mk ((by rw [hg]; exact Nat.ne_of_lt (IsS119.lt (show IsS119 w0 _ g s0_0 t383 t384 from i9 HI0.out)) : g ≠ gb388)); have n12_ := Aside0.mk ((by rw [hg]; exact Nat.ne_of_gt (IsS119.lt (show IsS119 w0 _ g s0_0 t383 t384 from i9 HI0.out)) : gb388 ≠ g)); clear HO382 HO387 HI0 BK373 HK HB; have HO382 := n0_; have HO387 := n1_; have HI0 := n2_; have BK373 := n3_; have HK := n4_; have HB := n5_; have BK388 := n6_; have GW388 := n7_; have GE388 := n8_; have NB373_388 := n9_; have NB388_373 := n10_; have NB0_388 := n11_; have NB388_0 := n12_; clear n0_ n1_ n2_ n3_ n4_ n5_ n6_ n7_ n8_ n9_ n10_ n11_ n12_ hb hbox hg; obtain ⟨Ao19, co19, eo19⟩ := Kd.R_slice HO387.out; subst eo19; have hnb20 := NB388_373.out; have hnc20 := NB373_388.out; have hnb21 := NB388_0.out; have hnc21 := NB0_388.out; have hcz22_0 : w18.cell? ⟨gb388, 0, none⟩ = some (.slice none 0 0) := (blk_cell BK388.out 0).trans rfl; have hfz22_0 := blk_frozen BK388.out 0) | ((with_reducible refine gate_store (t := 26) (p := 5) rfl ?_); refine store_event (t := 26) (p := 5) (v := ?vo_w23) (w1 := (w18.setCell ⟨gb388, 0, none⟩ (.slice Ao19 t385.length co19))) ?hg ?ho ?hn ?hr ?_; (case ho => rfl); (case hg => rfl); (case hn => rfl); (case hr => first | (go_simp; done) | (go_simp; rfl)); intro w23 hw; have n0_ : Aside0 (Kd.R k34 34 w23 w.heap.size (fun k_ => some k_ ≠ (.slice Ao19 t385.length co19 : Value).ownBlock) (.slice Ao16 t380.length co16) t380) := ⟨(by rw [hw]; exact (by (with_reducible repeat (first | apply Kd.R_alloc | apply Kd.R_drewN | apply Kd.R_drew)); exact Kd.R_mono (Kd.R_far (p := ⟨gb388, 0, none⟩) (Kd.R_types HO382.out BK388.out (by decide)) (fun _ hk => hk.2) (.slice Ao19 t385.length co19)) (fun _ hk => hk.1.2)))⟩; have n1_ : Aside0 (Kd.R k34 34 w23 w.heap.size (fun k_ => some k_ ≠ (.slice Ao16 t380.length co16 : Value).ownBlock) (.slice Ao19 t385.length co19) t385) := ⟨(by rw [hw]; exact (by (with_reducible repeat (first | apply Kd.R_alloc | apply Kd.R_drewN | apply Kd.R_drew)); exact Kd.R_mono (Kd.R_far (p := ⟨gb388, 0, none⟩) (Kd.R_types HO387.out BK388.out (by decide)) (fun _ hk => hk.2) (.slice Ao19 t385.length co19)) (fun _ hk => hk.1.2)))⟩; have n2_ : Aside0 (w23.heap[gb373]? = some (.cells #[.slice none 0 0] 26 (0, 0))) := ⟨(by rw [hw]; exact (by (with_reducible repeat (first | refine blk_drewN ?_ _ | refine blk_drew ?_ | refine blk_alloc ?_ _)); refine blk_far ?_ NB373_388.out _; exact bl BK373.out))⟩; have n3_ : Aside0 (w23.heap[gb388]? = some (.cells #[.slice Ao19 t385.length co19] 26 (0, 0))) := ⟨(by rw [hw]; exact (by (with_reducible repeat (first | refine blk_drewN ?_ _ | refine blk_drew ?_ | refine blk_alloc ?_ _)); refine blk_put (cs := #[.slice none 0 0]) ?_ 0 _ rfl; exact bl BK388.out))⟩; have n4_ : Aside0 (IsS119 w0 w23 g s0_0 t383 t384) := ⟨(by rw [hw]; exact (i9 HI0.out))⟩; have n5_ : Aside0 (KeepBut w w23 g none) := ⟨(by rw [hw]; exact (kp HK.out))⟩; have n6_ : Aside0 (Below w0.heap.size w0 w23) := ⟨(by rw [hw]; exact (b9 HB.out))⟩; clear hw HO382 HO387 BK373 BK388 HI0 HK HB; have HO382 := n0_; have HO387 := n1_; have BK373 := n2_; have BK388 := n3_; have HI0 := n4_; have HK := n5_; have HB := n6_; clear n0_ n1_ n2_ n3_ n4_ n5_ n6_; have hcz24_0 : w23.cell? ⟨gb388, 0, none⟩ = some (.slice Ao19 t385.length co19) := (blk_cell BK388.out 0).trans rfl; have hfz24_0 := blk_frozen BK388.out 0; have p11 : 0 ≤ ((ji8) : Int) := oda; have q11 : ((ji8) : Int) < ((t385.length : Int) : Int) := oda; obtain ⟨go11, co11, eo11, gb11, gl11, cl11, HG11⟩ := Kd.R_form HO387.out (by omega); (first | cases eo11 | (injection eo11 with ea_ en_ ec_; (first | subst ea_ | (injection ea_ with ea_; subst ea_)); subst ec_; clear en_)); have GB11 := Aside0.mk gb11; have GG11 := Aside0.mk HG11; clear gb11 gl11 HG11; obtain ⟨ce11, hcl11, hM11, hcc11, hfr11⟩ := Kd.R_elem HO387.out z34 ((ji8) : Int) p11 q11; obtain rfl := k34_openM hM11; have hx11_0 : w23.cell? ⟨go11, ((ji8) : Int).toNat * 4, none⟩ = some (.int .i64 ((rd_T34 t385 (ji8)).f0)) := hcc11 0 _ rfl; have hx11_1 : w23.cell? ⟨go11, ((ji8) : Int).toNat * 4 + 1, none⟩ = some (.int .i64 ((rd_T34 t385 (ji8)).f1)) := hcc11 1 _ rfl; have hx11_2 : w23.cell? ⟨go11, ((ji8) : Int).toNat * 4 + 2, none⟩ = some (.int .i64 ((rd_T34 t385 (ji8)).f2)) := hcc11 2 _ rfl; have hx11_3 : w23.cell? ⟨go11, ((ji8) : Int).toNat * 4 + 3, none⟩ = some (.int .i64 ((rd_T34 t385 (ji8)).f3)) := hcc11 3 _ rfl; have hf11_0 : w23.frozen? ⟨go11, ((ji8) : Int).toNat * 4, none⟩ = false := hfr11 0; have hf11_1 : w23.frozen? ⟨go11, ((ji8) : Int).toNat * 4 + 1, none⟩ = false := hfr11 1; have hf11_2 : w23.frozen? ⟨go11, ((ji8) : Int).toNat * 4 + 2, none⟩ = false := hfr11 2; have hf11_3 : w23.frozen? ⟨go11, ((ji8) : Int).toNat * 4 + 3, none⟩ = false := hfr11 3; clear hcl11 hcc11 hfr11 hM11; replace p11 := eq_true p11; replace q11 := eq_true q11; have HX25 := Aside0.mk (show Kd.R k34 34 w23 w.heap.size (fun k_ => some k_ ≠ (.slice Ao16 t380.length co16 : Value).ownBlock) (.slice (some ⟨go11, 0, none⟩) t385.length co19) t385 from (rl HO387.out)); obtain ⟨ce25, hcl25, hM25, hcc25, hfr25⟩ := Kd.R_elem HX25.out z34 ((ji8) : Int) (oda) (by have h_ : ((ji8) : Int) < ((t385.length : Int) : Int) := oda; first | exact h_ | (have e_ := (Kd.R_reads' HO387.out).1; omega) | simpa using h_); obtain rfl := k34_openM hM25; have HP25 := Kd.R_seg HX25.out ((ji8) : Int) (oda) (by have h_ : ((ji8) : Int) < ((t385.length : Int) : Int) := oda; first | exact h_ | (have e_ := (Kd.R_reads' HO387.out).1; omega) | simpa using h_) (seg := [.int .i64 (Int.tmod t377 11)]) (j := 0) hcl25 hcc25 (show 1 ≤ 4 from by decide) (x' := (⟨Int.tmod t377 11, (rd_T34 t385 (ji8)).f1, (rd_T34 t385 (ji8)).f2, (rd_T34 t385 (ji8)).f3⟩ : S34)) (k34_mkM _ _ _ (⟨Int.tmod t377 11, (rd_T34 t385 (ji8)).f1, (rd_T34 t385 (ji8)).f2, (rd_T34 t385 (ji8)).f3⟩ : S34) ) (fun _ hk => hk); have hx25_0 := hcc25 0 _ rfl; (try simp only [show (k34).sz = 4 from rfl, Nat.mul_one, Nat.add_zero] at hx25_0); have hf25_0 := hfr25 0; (try simp only [show (k34).sz = 4 from rfl, Nat.mul_one, Nat.add_zero] at hf25_0); clear hcl25 hcc25 hfr25 hM25) | ((with_reducible refine gate_store (t := 3) (p := 28) rfl ?_); refine store_event (t := 3) (p := 28) (v := ?vo_w26) (w1 := (w23.setCell ⟨go11, ((ji8) : Int).toNat * 4, none⟩ (.int .i64 (Int.tmod t377 11)))) ?hg ?ho ?hn ?hr ?_; (case ho => rfl); (case hg => rfl); (case hn => rfl); (case hr => first | (go_simp; done) | (go_simp; rfl)); intro w26 hw; have hg : w23.grownBy w26 (some go11) := (by rw [hw]; exact HP25.2); have hp_ : Kd.R k34 34 w26 w.heap.size (fun k_ => some k_ ≠ (.slice Ao16 t380.length co16 : Value).ownBlock) (.slice (some ⟨go11, 0, none⟩) t385.length co19) y389 := (by rw [hw, Ny389.out]; exact HP25.1); clear HP25; have n0_ := Aside0.mk (IsS119.grown (i9 HI0.out) hg (IsS119.own_ne HI0.out HO387.out (by decide))); have n1_ := Aside0.mk (blk_grown (g := gb373) (o := .cells #[.slice none 0 0] 26 (0, 0)) (bl BK373.out) hg (Kd.R_ne HO387.out BK373.out (by decide))); have n2_ := Aside0.mk (Kd.R_after (v := (.slice (some ⟨go11, 0, none⟩) t385.length co19)) (v1 := (.slice (some ⟨go11, 0, none⟩) t385.length co19)) (ok := (fun _ => True)) (by (with_reducible repeat (first | apply Kd.R_alloc | apply Kd.R_drewN | apply Kd.R_drew)); exact Kd.R_mono HO382.out (fun _ hk => ⟨trivial, hk⟩)) hg (.inl rfl)); have n3_ := Aside0.mk (hp_); have n4_ := Aside0.mk (blk_grown (g := gb388) (o := .cells #[.slice (some ⟨go11, 0, none⟩) t385.length co19] 26 (0, 0)) (bl BK388.out) hg (Kd.R_ne HO387.out BK388.out (by decide))); have n5_ := Aside0.mk ((by rw [hw]; exact below_set (HB.out) (Nat.le_trans HL.out GB11.out) : Below w0.heap.size w0 w26)); have n6_ := Aside0.mk (KeepBut.trans (kp HK.out) (KeepBut.of_grown hg g) (Kd.R_base2 HO387.out)); clear HI0 BK373 HO382 HO387 BK388 HB HK; have HI0 := n0_; have BK373 := n1_; have HO382 := n2_; have HO387 := n3_; have BK388 := n4_; have HB := n5_; have HK := n6_; clear n0_ n1_ n2_ n3_ n4_ n5_ n6_ hg hw hp_; have hcz27_0 : w26.cell? ⟨gb388, 0, none⟩ = some (.slice (some ⟨go11, 0, none⟩) t385.length co19) := (blk_cell BK388.out 0).trans rfl; have hfz27_0 := blk_frozen BK388.out 0; have hnb28 := NB373_0.out; have hnc28 := NB0_373.out; have hcz29_0 : w26.cell? ⟨gb373, 0, none⟩ = some (.slice none 0 0) := (blk_cell BK373.out 0).trans rfl; have hfz29_0 := blk_frozen BK373.out 0))
     refine bodyPost_ret (results_cell_row rfl _ _ gb373 26 #[.slice (some ⟨go11, 0, none⟩) t385.length co19] (0, 0) _ rfl (by (with_reducible repeat (first | refine blk_drewN ?_ _ | refine blk_drew ?_ | refine blk_alloc ?_ _)); refine blk_put (cs := #[.slice none 0 0]) ?_ 0 _ rfl; exact bl BK373.out) Try.underlying26 rfl (by kernel_rfl)) rfl ?_
     exact ⟨_, by first | rfl | (simp [errW_none, errW_some] <;> rfl) | (simp only [← hji8]; first | rfl | (simp [errW_none, errW_some] <;> rfl)) | (simp [*, errW_none, errW_some] <;> rfl), by (with_reducible repeat (first | apply Kd.R_alloc | apply Kd.R_drewN | apply Kd.R_drew)); exact Kd.R_mono (Kd.R_far (p := ⟨gb373, 0, none⟩) (Kd.R_types HO387.out BK373.out (by decide)) (fun _ hk => hk.2) (.slice (some ⟨go11, 0, none⟩) t385.length co19)) (fun _ hk => trivial), i9 HI0.out, b9 HB.out, kp HK.out⟩
    ·rw [if_neg c10] at H
     exact absurd H (by simp)
   ·rw [if_neg c9] at H
    exact absurd H (by simp)
  ·rw [if_neg c7] at H
   have c7b0 : (t374 == 0) = false := beq_eq_false_iff_ne.mpr c7
   have c7b1 : (t374 != 0) = true := bne_iff_ne.mpr c7
   by_cases c30 : t374 = 1
   ·rw [if_pos c30] at H
    have c30b0 : (t374 == 1) = true := beq_iff_eq.mpr c30
    have c30b1 : (t374 != 1) = false := bne_eq_false_iff_eq.mpr c30
    clear c30
    obtain ⟨ji31, hji31⟩ : ∃ j_ : Int, (Int.tmod t377 (t385.length : Int)) = j_ := ⟨_, rfl⟩
    replace H : (if 0 ≤ (ji31) then (if (ji31) < (t385.length : Int) then (some ((t385.set ((ji31) : Int).toNat (⟨(rd_T34 t385 (ji31)).f0, (rd_T34 t385 (ji31)).f1, wrap64 ((Int.tmod t377 9) - 1), (rd_T34 t385 (ji31)).f3⟩ : S34)), t383, t384)) else (none)) else (none)) = some (r1, r2, r3) := by first | (rw [hji31] at H; exact H) | (simp only [hji31] at H ⊢; exact H)
    (try rw [hji31] at A2)
    (try rw [hji31] at A3)
    (try rw [hji31] at A4)
    (try rw [hji31] at A5)
    by_cases c32 : 0 ≤ (ji31)
    ·rw [if_pos c32] at H
     have c32b0 : decide (0 ≤ (ji31)) = true := decide_eq_true c32
     clear c32
     by_cases c33 : (ji31) < (t385.length : Int)
     ·rw [if_pos c33] at H
      have c33b0 : decide ((ji31) < (t385.length : Int)) = true := decide_eq_true c33
      clear c33
      obtain ⟨y390, hy390⟩ : ∃ y_ : List (S34), y_ = (t385.set ((ji31) : Int).toNat (⟨(rd_T34 t385 (ji31)).f0, (rd_T34 t385 (ji31)).f1, wrap64 ((Int.tmod t377 9) - 1), (rd_T34 t385 (ji31)).f3⟩ : S34)) := ⟨_, rfl⟩
      replace H : (some (y390, t383, t384)) = some (r1, r2, r3) := by first | (rw [hy390]; with_reducible exact H) | (have H2_ := (Option.bind_some _ _).symm.trans H; rw [hy390]; with_reducible exact H2_) | (have H2_ := (Option.bind_some _ _).symm.trans H; with_reducible exact H2_) | with_reducible exact H | (rw [hy390]; exact H) | exact H
      have Ny390 := Aside0.mk hy390
      clear hy390
      simp only [Option.some.injEq, Prod.mk.injEq] at H
      obtain ⟨rfl, rfl, rfl⟩ := H
      go_enter Try.func76, Try.ntmps76
      go_wp2_with (first | ((with_reducible refine gate_dst (N := 2) rfl ?_); refine box_event ?hg (N := 2) ?hd (cs := #[.slice none 0 0]) (t := 26) ?hr ?_; (case hd => rfl); (case hg => rfl); (case hr => first | (go_simp; done) | (go_simp; rfl)); intro gb373 hg w35 hbox hb; have n0_ := Aside0.mk (IsS119.below (i9 HI0.out) hb); have n1_ := Aside0.mk (KeepBut.trans (kp HK.out) (KeepBut.of_below hb g none) (.inl rfl)); have n2_ := Aside0.mk (below_step (b9 HB.out) hb); have n3_ := Aside0.mk (hbox); have n4_ := Aside0.mk ((by rw [hg]; exact (keep_size (w := w) (g := g) (row := none) (kp HK.out)) : w.heap.size ≤ gb373)); have n5_ := Aside0.mk ((Nat.le_trans HW0.out (by rw [hg]; exact (keep_size (w := w) (g := g) (row := none) (kp HK.out)) : w.heap.size ≤ gb373) : w0.heap.size ≤ gb373)); have n6_ := Aside0.mk ((by rw [hg]; exact Nat.ne_of_lt (IsS119.lt (show IsS119 w0 _ g s0_0 s0_1 s0_2 from i9 HI0.out)) : g ≠ gb373)); have n7_ := Aside0.mk ((by rw [hg]; exact Nat.ne_of_gt (IsS119.lt (show IsS119 w0 _ g s0_0 s0_1 s0_2 from i9 HI0.out)) : gb373 ≠ g)); clear HI0 HK HB; have HI0 := n0_; have HK := n1_; have HB := n2_; have BK373 := n3_; have GW373 := n4_; have GE373 := n5_; have NB0_373 := n6_; have NB373_0 := n7_; clear n0_ n1_ n2_ n3_ n4_ n5_ n6_ n7_ hb hbox hg) | ((with_reducible refine gate_callee (f := 70) rfl ?_); refine goesL_ (some 8) rfl rfl Try.func70 (by kernel_rfl) rfl #[.pointer (some ⟨g, 0, none⟩), .int .i64 12] rfl ar ?_; (with_reducible refine (spec_l01Below.calls g s0_0 s0_1 s0_2 12 t374 t375 t376 w0 _ ?side1 ?side2 A2.out).mono ?_); (case side1 => exact i9 HI0.out); (case side2 => exact b9 HB.out); rintro e w36 ⟨rfl, hi, hb, hk⟩; refine ⟨_, rfl, ?_⟩; have n0_ := Aside0.mk (KeepBut.blk hk (g' := gb373) (o := .cells #[.slice none 0 0] 26 (0, 0)) (bl BK373.out) NB373_0.out (by simp)); have n1_ := Aside0.mk (KeepBut.trans (kp HK.out) hk (.inl rfl)); have n2_ := Aside0.mk (hb); have n3_ := Aside0.mk (hi); clear BK373 HK HB HI0; have BK373 := n0_; have HK := n1_; have HB := n2_; have HI0 := n3_; clear n0_ n1_ n2_ n3_; (try clear hb); (try clear hb2); (try clear hk); (try clear hi)) | ((with_reducible refine gate_callee (f := 70) rfl ?_); refine goesL_ (some 10) rfl rfl Try.func70 (by kernel_rfl) rfl #[.pointer (some ⟨g, 0, none⟩), .int .i64 60] rfl ar ?_; (with_reducible refine (spec_l01Below.calls g s0_0 t375 t376 60 t377 t378 t379 w0 _ ?side1 ?side2 A3.out).mono ?_); (case side1 => exact i9 HI0.out); (case side2 => exact b9 HB.out); rintro e w37 ⟨rfl, hi, hb, hk⟩; refine ⟨_, rfl, ?_⟩; have n0_ := Aside0.mk (KeepBut.blk hk (g' := gb373) (o := .cells #[.slice none 0 0] 26 (0, 0)) (bl BK373.out) NB373_0.out (by simp)); have n1_ := Aside0.mk (KeepBut.trans (kp HK.out) hk (.inl rfl)); have n2_ := Aside0.mk (hb); have n3_ := Aside0.mk (hi); clear BK373 HK HB HI0; have BK373 := n0_; have HK := n1_; have HB := n2_; have HI0 := n3_; clear n0_ n1_ n2_ n3_; (try clear hb); (try clear hb2); (try clear hk); (try clear hi)) | ((with_reducible refine gate_callee (f := 69) rfl ?_); refine goesL_ (some 12) rfl rfl Try.func69 (by kernel_rfl) rfl #[.pointer (some ⟨g, 0, none⟩)] rfl ar ?_; (with_reducible refine (spec_l03Arena.calls g s0_0 t378 t379 t380 t383 t384 w0 _ ?side1 ?side2 A4.out).mono ?_); (case side1 => exact i9 HI0.out); (case side2 => exact b9 HB.out); rintro e w38 ⟨v381, rfl, ho0, hi, hb, hk⟩; refine ⟨_, rfl, ?_⟩; have n0_ := Aside0.mk (KeepBut.blk hk (g' := gb373) (o := .cells #[.slice none 0 0] 26 (0, 0)) (bl BK373.out) NB373_0.out (by simp)); have n1_ := Aside0.mk (Kd.R_lower ho0 (keep_size (w := w) (g := g) (row := none) (kp HK.out))); have n2_ := Aside0.mk (KeepBut.trans (kp HK.out) hk (.inl rfl)); have n3_ := Aside0.mk (hb); have n4_ := Aside0.mk (hi); clear BK373 HK HB HI0; have BK373 := n0_; have HO382 := n1_; have HK := n2_; have HB := n3_; have HI0 := n4_; clear n0_ n1_ n2_ n3_ n4_; (try clear hb); (try clear hb2); (try clear hk); (try clear hi); (try clear ho0); obtain ⟨Ao39, co39, eo39⟩ := Kd.R_slice HO382.out; subst eo39) | ((with_reducible refine gate_callee (f := 90) rfl ?_); refine goesL_ (some 13) rfl rfl Try.func90 (by kernel_rfl) rfl #[.agg #[.slice Ao39 t380.length co39]] rfl ar ?_; (with_reducible refine (spec_l03Copy.calls _ _ t380 t385 _ ?side1 ?side2 A5.out).mono ?_); (case side1 => exact cl (Kd.R_reads' HO382.out).2.2); (case side2 => exact (Kd.R_reads' HO382.out).2.1); rintro e w40 ⟨v386, rfl, ho0, hb⟩; refine ⟨_, rfl, ?_⟩; have n0_ := Aside0.mk (Kd.R_elder' (rl HO382.out) (Kd.R_base ho0) hb); have n1_ := Aside0.mk (Kd.R_lower (Kd.R_new' ho0 (Kd.R_lt (rl HO382.out))) (keep_size (w := w) (g := g) (row := none) (kp HK.out))); have n2_ := Aside0.mk (IsS119.below (i9 HI0.out) hb); have n3_ := Aside0.mk (blk_below (g := gb373) (o := .cells #[.slice none 0 0] 26 (0, 0)) (bl BK373.out) hb); have n4_ := Aside0.mk (KeepBut.trans (kp HK.out) (KeepBut.of_below hb g none) (.inl rfl)); have n5_ := Aside0.mk (below_step (b9 HB.out) hb); clear HO382 HI0 BK373 HK HB; have HO382 := n0_; have HO387 := n1_; have HI0 := n2_; have BK373 := n3_; have HK := n4_; have HB := n5_; clear n0_ n1_ n2_ n3_ n4_ n5_; (try clear hb); (try clear hb2); (try clear hk); (try clear hi); (try clear ho0)) | ((with_reducible refine gate_dst (N := 5) rfl ?_); refine box_event ?hg (N := 5) ?hd (cs := #[.slice none 0 0]) (t := 26) ?hr ?_; (case hd => rfl); (case hg => rfl); (case hr => first | (go_simp; done) | (go_simp; rfl)); intro gb388 hg w41 hbox hb; have n0_ := Aside0.mk (Kd.R_below (rl HO382.out) hb); have n1_ := Aside0.mk (Kd.R_below (rl HO387.out) hb); have n2_ := Aside0.mk (IsS119.below (i9 HI0.out) hb); have n3_ := Aside0.mk (blk_below (g := gb373) (o := .cells #[.slice none 0 0] 26 (0, 0)) (bl BK373.out) hb); have n4_ := Aside0.mk (KeepBut.trans (kp HK.out) (KeepBut.of_below hb g none) (.inl rfl)); have n5_ := Aside0.mk (below_step (b9 HB.out) hb); have n6_ := Aside0.mk (hbox); have n7_ := Aside0.mk ((by rw [hg]; exact (keep_size (w := w) (g := g) (row := none) (kp HK.out)) : w.heap.size ≤ gb388)); have n8_ := Aside0.mk ((Nat.le_trans HW0.out (by rw [hg]; exact (keep_size (w := w) (g := g) (row := none) (kp HK.out)) : w.heap.size ≤ gb388) : w0.heap.size ≤ gb388)); have n9_ := Aside0.mk ((by rw [hg]; exact Nat.ne_of_lt (blk_lt (g := gb373) (o := .cells #[.slice none 0 0] 26 (0, 0)) (bl BK373.out)) : gb373 ≠ gb388)); have n10_ := Aside0.mk ((by rw [hg]; exact Nat.ne_of_gt (blk_lt (g := gb373) (o := .cells #[.slice none 0 0] 26 (0, 0)) (bl BK373.out)) : gb388 ≠ gb373)); have n11_ := Aside0.mk ((by rw [hg]; exact Nat.ne_of_lt (IsS119.lt (show IsS119 w0 _ g s0_0 t383 t384 from i9 HI0.out)) : g ≠ gb388)); have n12_ := Aside0.mk ((by rw [hg]; exact Nat.ne_of_gt (IsS119.lt (show IsS119 w0 _ g s0_0 t383 t384 from i9 HI0.out)) : gb388 ≠ g)); clear HO382 HO387 HI0 BK373 HK HB; have HO382 := n0_; have HO387 := n1_; have HI0 := n2_; have BK373 := n3_; have HK := n4_; have HB := n5_; have BK388 := n6_; have GW388 := n7_; have GE388 := n8_; have NB373_388 := n9_; have NB388_373 := n10_; have NB0_388 := n11_; have NB388_0 := n12_; clear n0_ n1_ n2_ n3_ n4_ n5_ n6_ n7_ n8_ n9_ n10_ n11_ n12_ hb hbox hg; obtain ⟨Ao42, co42, eo42⟩ := Kd.R_slice HO387.out; subst eo42; have hnb43 := NB388_373.out; have hnc43 := NB373_388.out; have hnb44 := NB388_0.out; have hnc44 := NB0_388.out; have hcz45_0 : w41.cell? ⟨gb388, 0, none⟩ = some (.slice none 0 0) := (blk_cell BK388.out 0).trans rfl; have hfz45_0 := blk_frozen BK388.out 0) | ((with_reducible refine gate_store (t := 26) (p := 5) rfl ?_); refine store_event (t := 26) (p := 5) (v := ?vo_w46) (w1 := (w41.setCell ⟨gb388, 0, none⟩ (.slice Ao42 t385.length co42))) ?hg ?ho ?hn ?hr ?_; (case ho => rfl); (case hg => rfl); (case hn => rfl); (case hr => first | (go_simp; done) | (go_simp; rfl)); intro w46 hw; have n0_ : Aside0 (Kd.R k34 34 w46 w.heap.size (fun k_ => some k_ ≠ (.slice Ao42 t385.length co42 : Value).ownBlock) (.slice Ao39 t380.length co39) t380) := ⟨(by rw [hw]; exact (by (with_reducible repeat (first | apply Kd.R_alloc | apply Kd.R_drewN | apply Kd.R_drew)); exact Kd.R_mono (Kd.R_far (p := ⟨gb388, 0, none⟩) (Kd.R_types HO382.out BK388.out (by decide)) (fun _ hk => hk.2) (.slice Ao42 t385.length co42)) (fun _ hk => hk.1.2)))⟩; have n1_ : Aside0 (Kd.R k34 34 w46 w.heap.size (fun k_ => some k_ ≠ (.slice Ao39 t380.length co39 : Value).ownBlock) (.slice Ao42 t385.length co42) t385) := ⟨(by rw [hw]; exact (by (with_reducible repeat (first | apply Kd.R_alloc | apply Kd.R_drewN | apply Kd.R_drew)); exact Kd.R_mono (Kd.R_far (p := ⟨gb388, 0, none⟩) (Kd.R_types HO387.out BK388.out (by decide)) (fun _ hk => hk.2) (.slice Ao42 t385.length co42)) (fun _ hk => hk.1.2)))⟩; have n2_ : Aside0 (w46.heap[gb373]? = some (.cells #[.slice none 0 0] 26 (0, 0))) := ⟨(by rw [hw]; exact (by (with_reducible repeat (first | refine blk_drewN ?_ _ | refine blk_drew ?_ | refine blk_alloc ?_ _)); refine blk_far ?_ NB373_388.out _; exact bl BK373.out))⟩; have n3_ : Aside0 (w46.heap[gb388]? = some (.cells #[.slice Ao42 t385.length co42] 26 (0, 0))) := ⟨(by rw [hw]; exact (by (with_reducible repeat (first | refine blk_drewN ?_ _ | refine blk_drew ?_ | refine blk_alloc ?_ _)); refine blk_put (cs := #[.slice none 0 0]) ?_ 0 _ rfl; exact bl BK388.out))⟩; have n4_ : Aside0 (IsS119 w0 w46 g s0_0 t383 t384) := ⟨(by rw [hw]; exact (i9 HI0.out))⟩; have n5_ : Aside0 (KeepBut w w46 g none) := ⟨(by rw [hw]; exact (kp HK.out))⟩; have n6_ : Aside0 (Below w0.heap.size w0 w46) := ⟨(by rw [hw]; exact (b9 HB.out))⟩; clear hw HO382 HO387 BK373 BK388 HI0 HK HB; have HO382 := n0_; have HO387 := n1_; have BK373 := n2_; have BK388 := n3_; have HI0 := n4_; have HK := n5_; have HB := n6_; clear n0_ n1_ n2_ n3_ n4_ n5_ n6_; have hcz47_0 : w46.cell? ⟨gb388, 0, none⟩ = some (.slice Ao42 t385.length co42) := (blk_cell BK388.out 0).trans rfl; have hfz47_0 := blk_frozen BK388.out 0; have p34 : 0 ≤ ((ji31) : Int) := oda; have q34 : ((ji31) : Int) < ((t385.length : Int) : Int) := oda; obtain ⟨go34, co34, eo34, gb34, gl34, cl34, HG34⟩ := Kd.R_form HO387.out (by omega); (first | cases eo34 | (injection eo34 with ea_ en_ ec_; (first | subst ea_ | (injection ea_ with ea_; subst ea_)); subst ec_; clear en_)); have GB34 := Aside0.mk gb34; have GG34 := Aside0.mk HG34; clear gb34 gl34 HG34; obtain ⟨ce34, hcl34, hM34, hcc34, hfr34⟩ := Kd.R_elem HO387.out z34 ((ji31) : Int) p34 q34; obtain rfl := k34_openM hM34; have hx34_0 : w46.cell? ⟨go34, ((ji31) : Int).toNat * 4, none⟩ = some (.int .i64 ((rd_T34 t385 (ji31)).f0)) := hcc34 0 _ rfl; have hx34_1 : w46.cell? ⟨go34, ((ji31) : Int).toNat * 4 + 1, none⟩ = some (.int .i64 ((rd_T34 t385 (ji31)).f1)) := hcc34 1 _ rfl; have hx34_2 : w46.cell? ⟨go34, ((ji31) : Int).toNat * 4 + 2, none⟩ = some (.int .i64 ((rd_T34 t385 (ji31)).f2)) := hcc34 2 _ rfl; have hx34_3 : w46.cell? ⟨go34, ((ji31) : Int).toNat * 4 + 3, none⟩ = some (.int .i64 ((rd_T34 t385 (ji31)).f3)) := hcc34 3 _ rfl; have hf34_0 : w46.frozen? ⟨go34, ((ji31) : Int).toNat * 4, none⟩ = false := hfr34 0; have hf34_1 : w46.frozen? ⟨go34, ((ji31) : Int).toNat * 4 + 1, none⟩ = false := hfr34 1; have hf34_2 : w46.frozen? ⟨go34, ((ji31) : Int).toNat * 4 + 2, none⟩ = false := hfr34 2; have hf34_3 : w46.frozen? ⟨go34, ((ji31) : Int).toNat * 4 + 3, none⟩ = false := hfr34 3; clear hcl34 hcc34 hfr34 hM34; replace p34 := eq_true p34; replace q34 := eq_true q34; have HX48 := Aside0.mk (show Kd.R k34 34 w46 w.heap.size (fun k_ => some k_ ≠ (.slice Ao39 t380.length co39 : Value).ownBlock) (.slice (some ⟨go34, 0, none⟩) t385.length co42) t385 from (rl HO387.out)); obtain ⟨ce48, hcl48, hM48, hcc48, hfr48⟩ := Kd.R_elem HX48.out z34 ((ji31) : Int) (oda) (by have h_ : ((ji31) : Int) < ((t385.length : Int) : Int) := oda; first | exact h_ | (have e_ := (Kd.R_reads' HO387.out).1; omega) | simpa using h_); obtain rfl := k34_openM hM48; have HP48 := Kd.R_seg HX48.out ((ji31) : Int) (oda) (by have h_ : ((ji31) : Int) < ((t385.length : Int) : Int) := oda; first | exact h_ | (have e_ := (Kd.R_reads' HO387.out).1; omega) | simpa using h_) (seg := [.int .i64 (wrap64 ((Int.tmod t377 9) - 1))]) (j := 2) hcl48 hcc48 (show 3 ≤ 4 from by decide) (x' := (⟨(rd_T34 t385 (ji31)).f0, (rd_T34 t385 (ji31)).f1, wrap64 ((Int.tmod t377 9) - 1), (rd_T34 t385 (ji31)).f3⟩ : S34)) (k34_mkM _ _ _ (⟨(rd_T34 t385 (ji31)).f0, (rd_T34 t385 (ji31)).f1, wrap64 ((Int.tmod t377 9) - 1), (rd_T34 t385 (ji31)).f3⟩ : S34) ) (fun _ hk => hk); have hx48_2 := hcc48 2 _ rfl; (try simp only [show (k34).sz = 4 from rfl, Nat.mul_one, Nat.add_zero] at hx48_2); have hf48_2 := hfr48 2; (try simp only [show (k34).sz = 4 from rfl, Nat.mul_one, Nat.add_zero] at hf48_2); clear hcl48 hcc48 hfr48 hM48) | ((with_reducible refine gate_store (t := 3) (p := 38) rfl ?_); refine store_event (t := 3) (p := 38) (v := ?vo_w49) (w1 := (w46.setCell ⟨go34, ((ji31) : Int).toNat * 4 + 2, none⟩ (.int .i64 (wrap64 ((Int.tmod t377 9) - 1))))) ?hg ?ho ?hn ?hr ?_; (case ho => rfl); (case hg => rfl); (case hn => rfl); (case hr => first | (go_simp; done) | (go_simp; rfl)); intro w49 hw; have hg : w46.grownBy w49 (some go34) := (by rw [hw]; exact HP48.2); have hp_ : Kd.R k34 34 w49 w.heap.size (fun k_ => some k_ ≠ (.slice Ao39 t380.length co39 : Value).ownBlock) (.slice (some ⟨go34, 0, none⟩) t385.length co42) y390 := (by rw [hw, Ny390.out]; exact HP48.1); clear HP48; have n0_ := Aside0.mk (IsS119.grown (i9 HI0.out) hg (IsS119.own_ne HI0.out HO387.out (by decide))); have n1_ := Aside0.mk (blk_grown (g := gb373) (o := .cells #[.slice none 0 0] 26 (0, 0)) (bl BK373.out) hg (Kd.R_ne HO387.out BK373.out (by decide))); have n2_ := Aside0.mk (Kd.R_after (v := (.slice (some ⟨go34, 0, none⟩) t385.length co42)) (v1 := (.slice (some ⟨go34, 0, none⟩) t385.length co42)) (ok := (fun _ => True)) (by (with_reducible repeat (first | apply Kd.R_alloc | apply Kd.R_drewN | apply Kd.R_drew)); exact Kd.R_mono HO382.out (fun _ hk => ⟨trivial, hk⟩)) hg (.inl rfl)); have n3_ := Aside0.mk (hp_); have n4_ := Aside0.mk (blk_grown (g := gb388) (o := .cells #[.slice (some ⟨go34, 0, none⟩) t385.length co42] 26 (0, 0)) (bl BK388.out) hg (Kd.R_ne HO387.out BK388.out (by decide))); have n5_ := Aside0.mk ((by rw [hw]; exact below_set (HB.out) (Nat.le_trans HL.out GB34.out) : Below w0.heap.size w0 w49)); have n6_ := Aside0.mk (KeepBut.trans (kp HK.out) (KeepBut.of_grown hg g) (Kd.R_base2 HO387.out)); clear HI0 BK373 HO382 HO387 BK388 HB HK; have HI0 := n0_; have BK373 := n1_; have HO382 := n2_; have HO387 := n3_; have BK388 := n4_; have HB := n5_; have HK := n6_; clear n0_ n1_ n2_ n3_ n4_ n5_ n6_ hg hw hp_; have hcz50_0 : w49.cell? ⟨gb388, 0, none⟩ = some (.slice (some ⟨go34, 0, none⟩) t385.length co42) := (blk_cell BK388.out 0).trans rfl; have hfz50_0 := blk_frozen BK388.out 0; have hnb51 := NB373_0.out; have hnc51 := NB0_373.out; have hcz52_0 : w49.cell? ⟨gb373, 0, none⟩ = some (.slice none 0 0) := (blk_cell BK373.out 0).trans rfl; have hfz52_0 := blk_frozen BK373.out 0))
      refine bodyPost_ret (results_cell_row rfl _ _ gb373 26 #[.slice (some ⟨go34, 0, none⟩) t385.length co42] (0, 0) _ rfl (by (with_reducible repeat (first | refine blk_drewN ?_ _ | refine blk_drew ?_ | refine blk_alloc ?_ _)); refine blk_put (cs := #[.slice none 0 0]) ?_ 0 _ rfl; exact bl BK373.out) Try.underlying26 rfl (by kernel_rfl)) rfl ?_
      exact ⟨_, by first | rfl | (simp [errW_none, errW_some] <;> rfl) | (simp only [← hji31]; first | rfl | (simp [errW_none, errW_some] <;> rfl)) | (simp [*, errW_none, errW_some] <;> rfl), by (with_reducible repeat (first | apply Kd.R_alloc | apply Kd.R_drewN | apply Kd.R_drew)); exact Kd.R_mono (Kd.R_far (p := ⟨gb373, 0, none⟩) (Kd.R_types HO387.out BK373.out (by decide)) (fun _ hk => hk.2) (.slice (some ⟨go34, 0, none⟩) t385.length co42)) (fun _ hk => trivial), i9 HI0.out, b9 HB.out, kp HK.out⟩
     ·rw [if_neg c33] at H
      exact absurd H (by simp)
    ·rw [if_neg c32] at H
     exact absurd H (by simp)
   ·rw [if_neg c30] at H
    have c30b0 : (t374 == 1) = false := beq_eq_false_iff_ne.mpr c30
    have c30b1 : (t374 != 1) = true := bne_iff_ne.mpr c30
    by_cases c53 : t374 = 2
    ·rw [if_pos c53] at H
     have c53b0 : (t374 == 2) = true := beq_iff_eq.mpr c53
     have c53b1 : (t374 != 2) = false := bne_eq_false_iff_eq.mpr c53
     clear c53
     obtain ⟨y391, hy391⟩ : ∃ y_ : List Int, y_ = (([(-1), 5, 1000000] : List Int)) := ⟨_, rfl⟩
     replace H : (if 0 ≤ (Int.tmod t377 3) then (if (Int.tmod t377 3) < (y391.length : Int) then (if 0 ≤ (Int.tmod t377 (t385.length : Int)) then (if (Int.tmod t377 (t385.length : Int)) < (t385.length : Int) then (some ((t385.set ((Int.tmod t377 (t385.length : Int)) : Int).toNat (⟨(rd_T34 t385 (Int.tmod t377 (t385.length : Int))).f0, rd y391 (Int.tmod t377 3), (rd_T34 t385 (Int.tmod t377 (t385.length : Int))).f2, (rd_T34 t385 (Int.tmod t377 (t385.length : Int))).f3⟩ : S34)), t383, t384)) else (none)) else (none)) else (none)) else (none)) = some (r1, r2, r3) := by first | (rw [hy391]; with_reducible exact H) | (have H2_ := (Option.bind_some _ _).symm.trans H; rw [hy391]; with_reducible exact H2_) | (have H2_ := (Option.bind_some _ _).symm.trans H; with_reducible exact H2_) | with_reducible exact H | (rw [hy391]; exact H) | exact H
     have Ny391 := Aside0.mk hy391
     clear hy391
     obtain ⟨ji54, hji54⟩ : ∃ j_ : Int, (Int.tmod t377 3) = j_ := ⟨_, rfl⟩
     replace H : (if 0 ≤ (ji54) then (if (ji54) < (y391.length : Int) then (if 0 ≤ (Int.tmod t377 (t385.length : Int)) then (if (Int.tmod t377 (t385.length : Int)) < (t385.length : Int) then (some ((t385.set ((Int.tmod t377 (t385.length : Int)) : Int).toNat (⟨(rd_T34 t385 (Int.tmod t377 (t385.length : Int))).f0, rd y391 (ji54), (rd_T34 t385 (Int.tmod t377 (t385.length : Int))).f2, (rd_T34 t385 (Int.tmod t377 (t385.length : Int))).f3⟩ : S34)), t383, t384)) else (none)) else (none)) else (none)) else (none)) = some (r1, r2, r3) := by first | (rw [hji54] at H; exact H) | (simp only [hji54] at H ⊢; exact H)
     (try rw [hji54] at A2)
     (try rw [hji54] at A3)
     (try rw [hji54] at A4)
     (try rw [hji54] at A5)
     by_cases c55 : 0 ≤ (ji54)
     ·rw [if_pos c55] at H
      have c55b0 : decide (0 ≤ (ji54)) = true := decide_eq_true c55
      clear c55
      by_cases c56 : (ji54) < (y391.length : Int)
      ·rw [if_pos c56] at H
       have c56b0 : decide ((ji54) < (y391.length : Int)) = true := decide_eq_true c56
       clear c56
       obtain ⟨ji57, hji57⟩ : ∃ j_ : Int, (Int.tmod t377 (t385.length : Int)) = j_ := ⟨_, rfl⟩
       replace H : (if 0 ≤ (ji57) then (if (ji57) < (t385.length : Int) then (some ((t385.set ((ji57) : Int).toNat (⟨(rd_T34 t385 (ji57)).f0, rd y391 (ji54), (rd_T34 t385 (ji57)).f2, (rd_T34 t385 (ji57)).f3⟩ : S34)), t383, t384)) else (none)) else (none)) = some (r1, r2, r3) := by first | (rw [hji57] at H; exact H) | (simp only [hji57] at H ⊢; exact H)
       (try rw [hji57] at A2)
       (try rw [hji57] at A3)
       (try rw [hji57] at A4)
       (try rw [hji57] at A5)
       by_cases c58 : 0 ≤ (ji57)
       ·rw [if_pos c58] at H
        have c58b0 : decide (0 ≤ (ji57)) = true := decide_eq_true c58
        clear c58
        by_cases c59 : (ji57) < (t385.length : Int)
        ·rw [if_pos c59] at H
         have c59b0 : decide ((ji57) < (t385.length : Int)) = true := decide_eq_true c59
         clear c59
         obtain ⟨y395, hy395⟩ : ∃ y_ : List (S34), y_ = (t385.set ((ji57) : Int).toNat (⟨(rd_T34 t385 (ji57)).f0, rd y391 (ji54), (rd_T34 t385 (ji57)).f2, (rd_T34 t385 (ji57)).f3⟩ : S34)) := ⟨_, rfl⟩
         replace H : (some (y395, t383, t384)) = some (r1, r2, r3) := by first | (rw [hy395]; with_reducible exact H) | (have H2_ := (Option.bind_some _ _).symm.trans H; rw [hy395]; with_reducible exact H2_) | (have H2_ := (Option.bind_some _ _).symm.trans H; with_reducible exact H2_) | with_reducible exact H | (rw [hy395]; exact H) | exact H
         have Ny395 := Aside0.mk hy395
         clear hy395
         simp only [Option.some.injEq, Prod.mk.injEq] at H
         obtain ⟨rfl, rfl, rfl⟩ := H
         go_enter Try.func76, Try.ntmps76
         try go_wp2_with (first | ((with_reducible refine gate_dst (N := 2) rfl ?_); refine box_event ?hg (N := 2) ?hd (cs := #[.slice none 0 0]) (t := 26) ?hr ?_; (case hd => rfl); (case hg => rfl); (case hr => first | (go_simp; done) | (go_simp; rfl)); intro gb373 hg w61 hbox hb; have n0_ := Aside0.mk (IsS119.below (i9 HI0.out) hb); have n1_ := Aside0.mk (KeepBut.trans (kp HK.out) (KeepBut.of_below hb g none) (.inl rfl)); have n2_ := Aside0.mk (below_step (b9 HB.out) hb); have n3_ := Aside0.mk (hbox); have n4_ := Aside0.mk ((by rw [hg]; exact (keep_size (w := w) (g := g) (row := none) (kp HK.out)) : w.heap.size ≤ gb373)); have n5_ := Aside0.mk ((Nat.le_trans HW0.out (by rw [hg]; exact (keep_size (w := w) (g := g) (row := none) (kp HK.out)) : w.heap.size ≤ gb373) : w0.heap.size ≤ gb373)); have n6_ := Aside0.mk ((by rw [hg]; exact Nat.ne_of_lt (IsS119.lt (show IsS119 w0 _ g s0_0 s0_1 s0_2 from i9 HI0.out)) : g ≠ gb373)); have n7_ := Aside0.mk ((by rw [hg]; exact Nat.ne_of_gt (IsS119.lt (show IsS119 w0 _ g s0_0 s0_1 s0_2 from i9 HI0.out)) : gb373 ≠ g)); clear HI0 HK HB; have HI0 := n0_; have HK := n1_; have HB := n2_; have BK373 := n3_; have GW373 := n4_; have GE373 := n5_; have NB0_373 := n6_; have NB373_0 := n7_; clear n0_ n1_ n2_ n3_ n4_ n5_ n6_ n7_ hb hbox hg) | ((with_reducible refine gate_callee (f := 70) rfl ?_); refine goesL_ (some 8) rfl rfl Try.func70 (by kernel_rfl) rfl #[.pointer (some ⟨g, 0, none⟩), .int .i64 12] rfl ar ?_; (with_reducible refine (spec_l01Below.calls g s0_0 s0_1 s0_2 12 t374 t375 t376 w0 _ ?side1 ?side2 A2.out).mono ?_); (case side1 => exact i9 HI0.out); (case side2 => exact b9 HB.out); rintro e w62 ⟨rfl, hi, hb, hk⟩; refine ⟨_, rfl, ?_⟩; have n0_ := Aside0.mk (KeepBut.blk hk (g' := gb373) (o := .cells #[.slice none 0 0] 26 (0, 0)) (bl BK373.out) NB373_0.out (by simp)); have n1_ := Aside0.mk (KeepBut.trans (kp HK.out) hk (.inl rfl)); have n2_ := Aside0.mk (hb); have n3_ := Aside0.mk (hi); clear BK373 HK HB HI0; have BK373 := n0_; have HK := n1_; have HB := n2_; have HI0 := n3_; clear n0_ n1_ n2_ n3_; (try clear hb); (try clear hb2); (try clear hk); (try clear hi)) | ((with_reducible refine gate_callee (f := 70) rfl ?_); refine goesL_ (some 10) rfl rfl Try.func70 (by kernel_rfl) rfl #[.pointer (some ⟨g, 0, none⟩), .int .i64 60] rfl ar ?_; (with_reducible refine (spec_l01Below.calls g s0_0 t375 t376 60 t377 t378 t379 w0 _ ?side1 ?side2 A3.out).mono ?_); (case side1 => exact i9 HI0.out); (case side2 => exact b9 HB.out); rintro e w63 ⟨rfl, hi, hb, hk⟩; refine ⟨_, rfl, ?_⟩; have n0_ := Aside0.mk (KeepBut.blk hk (g' := gb373) (o := .cells #[.slice none 0 0] 26 (0, 0)) (bl BK373.out) NB373_0.out (by simp)); have n1_ := Aside0.mk (KeepBut.trans (kp HK.out) hk (.inl rfl)); have n2_ := Aside0.mk (hb); have n3_ := Aside0.mk (hi); clear BK373 HK HB HI0; have BK373 := n0_; have HK := n1_; have HB := n2_; have HI0 := n3_; clear n0_ n1_ n2_ n3_; (try clear hb); (try clear hb2); (try clear hk); (try clear hi)) | ((with_reducible refine gate_callee (f := 69) rfl ?_); refine goesL_ (some 12) rfl rfl Try.func69 (by kernel_rfl) rfl #[.pointer (some ⟨g, 0, none⟩)] rfl ar ?_; (with_reducible refine (spec_l03Arena.calls g s0_0 t378 t379 t380 t383 t384 w0 _ ?side1 ?side2 A4.out).mono ?_); (case side1 => exact i9 HI0.out); (case side2 => exact b9 HB.out); rintro e w64 ⟨v381, rfl, ho0, hi, hb, hk⟩; refine ⟨_, rfl, ?_⟩; have n0_ := Aside0.mk (KeepBut.blk hk (g' := gb373) (o := .cells #[.slice none 0 0] 26 (0, 0)) (bl BK373.out) NB373_0.out (by simp)); have n1_ := Aside0.mk (Kd.R_lower ho0 (keep_size (w := w) (g := g) (row := none) (kp HK.out))); have n2_ := Aside0.mk (KeepBut.trans (kp HK.out) hk (.inl rfl)); have n3_ := Aside0.mk (hb); have n4_ := Aside0.mk (hi); clear BK373 HK HB HI0; have BK373 := n0_; have HO382 := n1_; have HK := n2_; have HB := n3_; have HI0 := n4_; clear n0_ n1_ n2_ n3_ n4_; (try clear hb); (try clear hb2); (try clear hk); (try clear hi); (try clear ho0); obtain ⟨Ao65, co65, eo65⟩ := Kd.R_slice HO382.out; subst eo65) | ((with_reducible refine gate_callee (f := 90) rfl ?_); refine goesL_ (some 13) rfl rfl Try.func90 (by kernel_rfl) rfl #[.agg #[.slice Ao65 t380.length co65]] rfl ar ?_; (with_reducible refine (spec_l03Copy.calls _ _ t380 t385 _ ?side1 ?side2 A5.out).mono ?_); (case side1 => exact cl (Kd.R_reads' HO382.out).2.2); (case side2 => exact (Kd.R_reads' HO382.out).2.1); rintro e w66 ⟨v386, rfl, ho0, hb⟩; refine ⟨_, rfl, ?_⟩; have n0_ := Aside0.mk (Kd.R_elder' (rl HO382.out) (Kd.R_base ho0) hb); have n1_ := Aside0.mk (Kd.R_lower (Kd.R_new' ho0 (Kd.R_lt (rl HO382.out))) (keep_size (w := w) (g := g) (row := none) (kp HK.out))); have n2_ := Aside0.mk (IsS119.below (i9 HI0.out) hb); have n3_ := Aside0.mk (blk_below (g := gb373) (o := .cells #[.slice none 0 0] 26 (0, 0)) (bl BK373.out) hb); have n4_ := Aside0.mk (KeepBut.trans (kp HK.out) (KeepBut.of_below hb g none) (.inl rfl)); have n5_ := Aside0.mk (below_step (b9 HB.out) hb); clear HO382 HI0 BK373 HK HB; have HO382 := n0_; have HO387 := n1_; have HI0 := n2_; have BK373 := n3_; have HK := n4_; have HB := n5_; clear n0_ n1_ n2_ n3_ n4_ n5_; (try clear hb); (try clear hb2); (try clear hk); (try clear hi); (try clear ho0)) | ((with_reducible refine gate_dst (N := 5) rfl ?_); refine box_event ?hg (N := 5) ?hd (cs := #[.slice none 0 0]) (t := 26) ?hr ?_; (case hd => rfl); (case hg => rfl); (case hr => first | (go_simp; done) | (go_simp; rfl)); intro gb388 hg w67 hbox hb; have n0_ := Aside0.mk (Kd.R_below (rl HO382.out) hb); have n1_ := Aside0.mk (Kd.R_below (rl HO387.out) hb); have n2_ := Aside0.mk (IsS119.below (i9 HI0.out) hb); have n3_ := Aside0.mk (blk_below (g := gb373) (o := .cells #[.slice none 0 0] 26 (0, 0)) (bl BK373.out) hb); have n4_ := Aside0.mk (KeepBut.trans (kp HK.out) (KeepBut.of_below hb g none) (.inl rfl)); have n5_ := Aside0.mk (below_step (b9 HB.out) hb); have n6_ := Aside0.mk (hbox); have n7_ := Aside0.mk ((by rw [hg]; exact (keep_size (w := w) (g := g) (row := none) (kp HK.out)) : w.heap.size ≤ gb388)); have n8_ := Aside0.mk ((Nat.le_trans HW0.out (by rw [hg]; exact (keep_size (w := w) (g := g) (row := none) (kp HK.out)) : w.heap.size ≤ gb388) : w0.heap.size ≤ gb388)); have n9_ := Aside0.mk ((by rw [hg]; exact Nat.ne_of_lt (blk_lt (g := gb373) (o := .cells #[.slice none 0 0] 26 (0, 0)) (bl BK373.out)) : gb373 ≠ gb388)); have n10_ := Aside0.mk ((by rw [hg]; exact Nat.ne_of_gt (blk_lt (g := gb373) (o := .cells #[.slice none 0 0] 26 (0, 0)) (bl BK373.out)) : gb388 ≠ gb373)); have n11_ := Aside0.mk ((by rw [hg]; exact Nat.ne_of_lt (IsS119.lt (show IsS119 w0 _ g s0_0 t383 t384 from i9 HI0.out)) : g ≠ gb388)); have n12_ := Aside0.mk ((by rw [hg]; exact Nat.ne_of_gt (IsS119.lt (show IsS119 w0 _ g s0_0 t383 t384 from i9 HI0.out)) : gb388 ≠ g)); clear HO382 HO387 HI0 BK373 HK HB; have HO382 := n0_; have HO387 := n1_; have HI0 := n2_; have BK373 := n3_; have HK := n4_; have HB := n5_; have BK388 := n6_; have GW388 := n7_; have GE388 := n8_; have NB373_388 := n9_; have NB388_373 := n10_; have NB0_388 := n11_; have NB388_0 := n12_; clear n0_ n1_ n2_ n3_ n4_ n5_ n6_ n7_ n8_ n9_ n10_ n11_ n12_ hb hbox hg; obtain ⟨Ao68, co68, eo68⟩ := Kd.R_slice HO387.out; subst eo68; have hnb69 := NB388_373.out; have hnc69 := NB373_388.out; have hnb70 := NB388_0.out; have hnc70 := NB0_388.out; have hcz71_0 : w67.cell? ⟨gb388, 0, none⟩ = some (.slice none 0 0) := (blk_cell BK388.out 0).trans rfl; have hfz71_0 := blk_frozen BK388.out 0))
         have pi394 : (0 ≤ ((ji54) : Int)) = True := eq_true (oda)
         have qi394 : ((ji54) < (y391.length : Int)) = True := eq_true (oda)
         have n0_ : Aside0 (Kd.R k34 34 (w67.setCell ⟨gb388, 0, none⟩ (.slice Ao68 t385.length co68)) w.heap.size (fun k_ => some k_ ≠ (.slice Ao68 t385.length co68 : Value).ownBlock) (.slice Ao65 t380.length co65) t380) := ⟨by (with_reducible repeat (first | apply Kd.R_alloc | apply Kd.R_drewN | apply Kd.R_drew)); exact Kd.R_mono (Kd.R_far (p := ⟨gb388, 0, none⟩) (Kd.R_types HO382.out BK388.out (by decide)) (fun _ hk => hk.2) (.slice Ao68 t385.length co68)) (fun _ hk => hk.1.2)⟩
         have n1_ : Aside0 (Kd.R k34 34 (w67.setCell ⟨gb388, 0, none⟩ (.slice Ao68 t385.length co68)) w.heap.size (fun k_ => some k_ ≠ (.slice Ao65 t380.length co65 : Value).ownBlock) (.slice Ao68 t385.length co68) t385) := ⟨by (with_reducible repeat (first | apply Kd.R_alloc | apply Kd.R_drewN | apply Kd.R_drew)); exact Kd.R_mono (Kd.R_far (p := ⟨gb388, 0, none⟩) (Kd.R_types HO387.out BK388.out (by decide)) (fun _ hk => hk.2) (.slice Ao68 t385.length co68)) (fun _ hk => hk.1.2)⟩
         have n2_ : Aside0 ((w67.setCell ⟨gb388, 0, none⟩ (.slice Ao68 t385.length co68)).heap[gb373]? = some (.cells #[.slice none 0 0] 26 (0, 0))) := ⟨by (with_reducible repeat (first | refine blk_drewN ?_ _ | refine blk_drew ?_ | refine blk_alloc ?_ _)); refine blk_far ?_ NB373_388.out _; exact bl BK373.out⟩
         have n3_ : Aside0 ((w67.setCell ⟨gb388, 0, none⟩ (.slice Ao68 t385.length co68)).heap[gb388]? = some (.cells #[.slice Ao68 t385.length co68] 26 (0, 0))) := ⟨by (with_reducible repeat (first | refine blk_drewN ?_ _ | refine blk_drew ?_ | refine blk_alloc ?_ _)); refine blk_put (cs := #[.slice none 0 0]) ?_ 0 _ rfl; exact bl BK388.out⟩
         have n4_ : Aside0 (IsS119 w0 (w67.setCell ⟨gb388, 0, none⟩ (.slice Ao68 t385.length co68)) g s0_0 t383 t384) := ⟨i9 HI0.out⟩
         have n5_ : Aside0 (KeepBut w (w67.setCell ⟨gb388, 0, none⟩ (.slice Ao68 t385.length co68)) g none) := ⟨kp HK.out⟩
         have n6_ : Aside0 (Below w0.heap.size w0 (w67.setCell ⟨gb388, 0, none⟩ (.slice Ao68 t385.length co68))) := ⟨b9 HB.out⟩
         (try clear HO382)
         (try clear HO387)
         (try clear BK373)
         (try clear BK388)
         (try clear HI0)
         (try clear HK)
         (try clear HB)
         generalize (w67.setCell ⟨gb388, 0, none⟩ (.slice Ao68 t385.length co68)) = w72 at n0_ n1_ n2_ n3_ n4_ n5_ n6_ ⊢
         have HO382 := n0_
         have HO387 := n1_
         have BK373 := n2_
         have BK388 := n3_
         have HI0 := n4_
         have HK := n5_
         have HB := n6_
         clear n0_ n1_ n2_ n3_ n4_ n5_ n6_
         have n0_ := Aside0.mk (Kd.R_drew HO382.out)
         have n1_ := Aside0.mk (Kd.R_drew HO387.out)
         have n2_ := Aside0.mk (blk_drew BK373.out)
         have n3_ := Aside0.mk (blk_drew BK388.out)
         have n4_ := Aside0.mk (IsS119.drew HI0.out)
         have n5_ := Aside0.mk (keep_drew HK.out)
         have n6_ := Aside0.mk (below_drew1 HB.out)
         clear HO382
         clear HO387
         clear BK373
         clear BK388
         clear HI0
         clear HK
         clear HB
         have HO382 := n0_
         have HO387 := n1_
         have BK373 := n2_
         have BK388 := n3_
         have HI0 := n4_
         have HK := n5_
         have HB := n6_
         clear n0_ n1_ n2_ n3_ n4_ n5_ n6_
         refine start_ (n := 11) (S := fun w' => w'.cell? ⟨gb388, 0, none⟩ = some (.slice Ao68 t385.length co68)) (ds := [10]) #[false, false, false, false, false, false, false, false, false, false, false] (by kernel_rfl) rfl rfl ((blk_cell BK388.out 0).trans rfl) (fun hHeld => ?_); refine with_tabW spec_l03Any.tab11 spec_l03Any.bits11 (fun HT_ HW_ => ?_)
         generalize w72.drew = w73 at HO382 HO387 BK373 BK388 HI0 HK HB hHeld ⊢
         refine pure_ (i := 0) (N := some 41) (v := ?_) (a' := ?_) #[true, false, false, false, false, false, false, false, false, false, false] rfl rfl (any_of HT_.out (by kernel_rfl)) (fun _ _ _ h => h) (Or.inl ⟨by rfl, ?_⟩) ?_ ?_
         rotate_left
         ·intro w'
          go_simp
          with_reducible rfl
         rotate_left
         ·simp only [Act.put, List.setIfInBounds_toArray, List.set_cons_zero, List.set_cons_succ, i64_w, i32_w]
          rfl
         refine pure_ (i := 2) (N := some 43) (v := ?_) (a' := ?_) #[true, false, true, false, false, false, false, false, false, false, false] rfl rfl (any_of HT_.out (by kernel_rfl)) (fun _ _ _ h => h) (Or.inl ⟨by rfl, ?_⟩) ?_ ?_
         rotate_left
         ·intro w'
          go_simp
          with_reducible rfl
         rotate_left
         ·simp only [Act.put, List.setIfInBounds_toArray, List.set_cons_zero, List.set_cons_succ, i64_w, i32_w]
          rfl
         refine pure_ (i := 4) (N := some 45) (v := ?_) (a' := ?_) #[true, false, true, false, true, false, false, false, false, false, false] rfl rfl (any_of HT_.out (by kernel_rfl)) (fun _ _ _ h => h) (Or.inl ⟨by rfl, ?_⟩) ?_ ?_
         rotate_left
         ·intro w'
          go_simp
          with_reducible rfl
         rotate_left
         ·simp only [Act.put, List.setIfInBounds_toArray, List.set_cons_zero, List.set_cons_succ, i64_w, i32_w]
          rfl
         refine pure_ (i := 5) (N := some 46) (v := ?_) (a' := ?_) #[true, false, true, false, true, true, false, false, false, false, false] rfl rfl (any_of HT_.out (by kernel_rfl)) (fun _ _ _ h => h) (Or.inl ⟨by rfl, ?_⟩) ?_ ?_
         rotate_left
         ·intro w'
          go_simp
          with_reducible rfl
         rotate_left
         ·simp only [Act.put, List.setIfInBounds_toArray, List.set_cons_zero, List.set_cons_succ, i64_w, i32_w]
          rfl
         refine take_ (i := 1) (N := some 42) (v := ?_) (a' := ?_) #[true, true, true, false, true, true, false, false, false, false, false] rfl rfl (take_ofW HT_.out HW_.out (by kernel_rfl)) (fun _ _ _ h => h) (Or.inl ⟨by rfl, ?_⟩) hHeld ?_ ?_
         rotate_left
         ·intro w' s0
          go_simp
          with_reducible rfl
         rotate_left
         ·simp only [Act.put, List.setIfInBounds_toArray, List.set_cons_zero, List.set_cons_succ, i64_w, i32_w]
          rfl
         refine one_ (i := 3) (N := some 44) #[true, true, true, true, true, true, false, false, false, false, false] rfl rfl (one_of HT_.out (by kernel_rfl)) (by decide) (fun K hK => ?_)
         refine Kd.R_lit_step (Kd.int .i64) _ 3 ?hg (N := 44) ?hd (xs := ([(-1), 5, 1000000] : List Int)) (inner := [.int .i64 (-1), .int .i64 5, .int .i64 1000000]) (ok := fun _ => True) (okp := fun _ => True) ?hr ?hp (fun _ hk => hk) trivial (Below.refl _ _) (Nat.le_refl _) (by simp) ?_; (case hd => rfl); (case hg => rfl); (case hr => first | (go_simp; done) | (go_simp; rfl)); (case hp => exact (Reps.one (show Kd.M (Kd.int .i64) _ _ _ (-1) [.int .i64 (-1)] from rfl) (Reps.one (show Kd.M (Kd.int .i64) _ _ _ 5 [.int .i64 5] from rfl) (Reps.one (show Kd.M (Kd.int .i64) _ _ _ 1000000 [.int .i64 1000000] from rfl) (Reps.none _ _)))))
         intro v392 w74 ho75 hb hg_ hnew_
         clear hg_ hnew_
         (first | rw [← Ny391.out] at ho75 | (simp only [Int.reduceToNat] at ho75; rw [← Ny391.out] at ho75))
         have n0_ := Aside0.mk (Kd.R_below (rl HO382.out) hb)
         have n1_ := Aside0.mk (Kd.R_below (rl HO387.out) hb)
         have n2_ := Aside0.mk (Kd.R_lower ho75 (keep_size (w := w) (g := g) (row := none) (kp HK.out)))
         have n3_ := Aside0.mk (IsS119.below (i9 HI0.out) hb)
         have n4_ := Aside0.mk (blk_below (g := gb373) (o := .cells #[.slice none 0 0] 26 (0, 0)) (bl BK373.out) hb)
         have n5_ := Aside0.mk (blk_below (g := gb388) (o := .cells #[.slice Ao68 t385.length co68] 26 (0, 0)) (bl BK388.out) hb)
         have n6_ := Aside0.mk (KeepBut.trans (kp HK.out) (KeepBut.of_below hb g none) (.inl rfl))
         have n7_ := Aside0.mk (below_step (b9 HB.out) hb)
         clear HO382
         clear HO387
         clear HI0
         clear BK373
         clear BK388
         clear HK
         clear HB
         have HO382 := n0_
         have HO387 := n1_
         have HO393 := n2_
         have HI0 := n3_
         have BK373 := n4_
         have BK388 := n5_
         have HK := n6_
         have HB := n7_
         clear n0_ n1_ n2_ n3_ n4_ n5_ n6_ n7_
         clear hb ho75
         obtain ⟨Ao76, co76, eo76⟩ := Kd.R_slice HO393.out
         subst eo76
         obtain ⟨ado76, fo76, _⟩ := Kd.at_int (Kd.R_reads' HO393.out).2.2 0 (by decide) (by rw [Ny391.out]; simp)
         cases fo76
         have p60 : 0 ≤ ((ji57) : Int) := oda
         have q60 : ((ji57) : Int) < ((t385.length : Int) : Int) := oda
         obtain ⟨go60, co60, eo60, gb60, gl60, cl60, HG60⟩ := Kd.R_form HO387.out (by omega)
         (first | cases eo60 | (injection eo60 with ea_ en_ ec_; (first | subst ea_ | (injection ea_ with ea_; subst ea_)); subst ec_; clear en_))
         have GB60 := Aside0.mk gb60
         have GG60 := Aside0.mk HG60
         clear gb60 gl60 HG60
         obtain ⟨ce60, hcl60, hM60, hcc60, hfr60⟩ := Kd.R_elem HO387.out z34 ((ji57) : Int) p60 q60
         obtain rfl := k34_openM hM60
         have hx60_0 : World.cell? _ ⟨go60, ((ji57) : Int).toNat * 4, none⟩ = some (.int .i64 ((rd_T34 t385 (ji57)).f0)) := hcc60 0 _ rfl
         have hx60_1 : World.cell? _ ⟨go60, ((ji57) : Int).toNat * 4 + 1, none⟩ = some (.int .i64 ((rd_T34 t385 (ji57)).f1)) := hcc60 1 _ rfl
         have hx60_2 : World.cell? _ ⟨go60, ((ji57) : Int).toNat * 4 + 2, none⟩ = some (.int .i64 ((rd_T34 t385 (ji57)).f2)) := hcc60 2 _ rfl
         have hx60_3 : World.cell? _ ⟨go60, ((ji57) : Int).toNat * 4 + 3, none⟩ = some (.int .i64 ((rd_T34 t385 (ji57)).f3)) := hcc60 3 _ rfl
         have hf60_0 : World.frozen? _ ⟨go60, ((ji57) : Int).toNat * 4, none⟩ = false := hfr60 0
         have hf60_1 : World.frozen? _ ⟨go60, ((ji57) : Int).toNat * 4 + 1, none⟩ = false := hfr60 1
         have hf60_2 : World.frozen? _ ⟨go60, ((ji57) : Int).toNat * 4 + 2, none⟩ = false := hfr60 2
         have hf60_3 : World.frozen? _ ⟨go60, ((ji57) : Int).toNat * 4 + 3, none⟩ = false := hfr60 3
         clear hcl60 hcc60 hfr60 hM60
         replace p60 := eq_true p60
         replace q60 := eq_true q60
         have HN0_go60 := Aside0.mk (show g ≠ go60 from by have h_ := IsS119.own_ne HI0.out HO387.out (by decide); intro e_; exact h_ (by rw [e_]; rfl))
         obtain ⟨ce77, hcl77, hM77, hcc77, hfr77⟩ := Kd.R_elem HO387.out z34 ((ji57) : Int) (oda) (by have h_ : ((ji57) : Int) < ((t385.length : Int) : Int) := oda; first | exact h_ | (have e_ := (Kd.R_reads' HO387.out).1; omega) | simpa using h_)
         obtain rfl := k34_openM hM77
         have HP77 := (Kd.R_seg HO387.out ((ji57) : Int) (oda) (by have h_ : ((ji57) : Int) < ((t385.length : Int) : Int) := oda; first | exact h_ | (have e_ := (Kd.R_reads' HO387.out).1; omega) | simpa using h_) (seg := [.int .i64 (rd y391 (ji54))]) (j := 1) hcl77 hcc77 (show 2 ≤ 4 from by decide) (x' := (⟨(rd_T34 t385 (ji57)).f0, rd y391 (ji54), (rd_T34 t385 (ji57)).f2, (rd_T34 t385 (ji57)).f3⟩ : S34)) (k34_mkM _ _ _ (⟨(rd_T34 t385 (ji57)).f0, rd y391 (ji54), (rd_T34 t385 (ji57)).f2, (rd_T34 t385 (ji57)).f3⟩ : S34) ) (fun _ hk => hk)).1
         rw [← Ny395.out] at HP77
         have HQ77 := Aside0.mk HP77
         clear hcl77 hcc77 hfr77 hM77 HP77
         refine hK.out _ _ ((blk_cell BK388.out 0).trans rfl) (fun hHeld => ?_)
         clear hK K
         refine norm_ (a' := ?_) ?_ ?_
         rotate_left
         ·show Act.put _ (some 44) _ = _
          simp only [Act.put, List.setIfInBounds_toArray, List.set_cons_zero, List.set_cons_succ, i64_w, i32_w]
          rfl
         refine pure_ (i := 6) (N := some 47) (v := ?_) (a' := ?_) #[true, true, true, true, true, true, true, false, false, false, false] rfl rfl (any_of HT_.out (by kernel_rfl)) (fun _ _ _ h => h) (Or.inl ⟨by rfl, ?_⟩) ?_ ?_
         rotate_left
         ·intro w'
          go_simp
          with_reducible rfl
         rotate_left
         ·simp only [Act.put, List.setIfInBounds_toArray, List.set_cons_zero, List.set_cons_succ, i64_w, i32_w]
          rfl
         refine one_ (i := 7) (N := some 48) #[true, true, true, true, true, true, true, true, false, false, false] rfl rfl (one_of HT_.out (by kernel_rfl)) (by decide) (fun K hK => ?_)
         (have p394 : 0 ≤ ((ji54) : Int) := oda; have q394 : (ji54) < (y391.length : Int) := oda; obtain ⟨ad394, e394, hx394_0⟩ := Kd.at_int (Kd.R_reads' HO393.out).2.2 (ji54) p394 q394; obtain rfl : ado76 = ad394 := (by injection e394))
         refine value_ (w1 := ?_) (v := ?_) (by rfl) rfl ?_ ?_
         rotate_left 2
         ·go_simp
          constructor
          ·rfl
          ·rfl
         clear hx394_0
         refine hK.out _ _ ((blk_cell BK388.out 0).trans rfl) (fun hHeld => ?_)
         clear hK K
         refine norm_ (a' := ?_) ?_ ?_
         rotate_left
         ·show Act.put _ (some 48) _ = _
          simp only [Act.put, List.setIfInBounds_toArray, List.set_cons_zero, List.set_cons_succ, i64_w, i32_w]
          rfl
         refine pure_ (i := 8) (N := some 49) (v := ?_) (a' := ?_) #[true, true, true, true, true, true, true, true, true, false, false] rfl rfl (any_of HT_.out (by kernel_rfl)) (fun _ _ _ h => h) (Or.inl ⟨by rfl, ?_⟩) ?_ ?_
         rotate_left
         ·intro w'
          go_simp
          with_reducible rfl
         rotate_left
         ·simp only [Act.put, List.setIfInBounds_toArray, List.set_cons_zero, List.set_cons_succ, i64_w, i32_w]
          rfl
         refine pure_ (i := 9) (N := some 50) (v := ?_) (a' := ?_) #[true, true, true, true, true, true, true, true, true, true, false] rfl rfl (any_of HT_.out (by kernel_rfl)) (fun _ _ _ h => h) (Or.inl ⟨by rfl, ?_⟩) ?_ ?_
         rotate_left
         ·intro w'
          go_simp
          with_reducible rfl
         rotate_left
         ·simp only [Act.put, List.setIfInBounds_toArray, List.set_cons_zero, List.set_cons_succ, i64_w, i32_w]
          rfl
         refine last_ (i := 10) (N := none) #[true, true, true, true, true, true, true, true, true, true, true] rfl rfl (one_of HT_.out (by kernel_rfl)) (by decide) (fun K hK => ?_)
         refine skip_ (w1 := ?_) (by rfl) rfl ?_ ?_
         rotate_left
         ·go_simp
          rfl
         refine hK.out _ _ ?_
         clear hK K
         refine done_ (done_of HT_.out (by kernel_rfl)) ?_
         have n0_ : Aside0 (Kd.R k34 34 (w74.setCell ⟨go60, ((ji57) : Int).toNat * 4 + 1, none⟩ (.int .i64 (rd y391 (ji54)))) w.heap.size (fun k_ => some k_ ≠ (.slice (some ⟨go60, 0, none⟩) t385.length co68 : Value).ownBlock) (.slice Ao65 t380.length co65) t380) := ⟨by (with_reducible repeat (first | apply Kd.R_alloc | apply Kd.R_drewN | apply Kd.R_drew)); exact Kd.R_mono (Kd.R_far (p := ⟨go60, ((ji57) : Int).toNat * 4 + 1, none⟩) (Kd.R_mono HO382.out (fun k_ hk => (⟨hk, fun e_ => hk (by rw [e_]; rfl)⟩ : _ ∧ k_ ≠ go60))) (fun _ hk => hk.2) (.int .i64 (rd y391 (ji54)))) (fun _ hk => hk.1)⟩
         have n1_ : Aside0 (Kd.R k34 34 (w74.setCell ⟨go60, ((ji57) : Int).toNat * 4 + 1, none⟩ (.int .i64 (rd y391 (ji54)))) w.heap.size (fun k_ => some k_ ≠ (.slice Ao65 t380.length co65 : Value).ownBlock) (.slice (some ⟨go60, 0, none⟩) t385.length co68) y395) := ⟨rl HQ77.out⟩
         have n2_ : Aside0 (Kd.R (Kd.int .i64) 3 (w74.setCell ⟨go60, ((ji57) : Int).toNat * 4 + 1, none⟩ (.int .i64 (rd y391 (ji54)))) w.heap.size (fun _ => True) (.slice (some ado76) y391.length co76) y391) := ⟨by (with_reducible repeat (first | apply Kd.R_alloc | apply Kd.R_drewN | apply Kd.R_drew)); exact Kd.R_mono (Kd.R_far (p := ⟨go60, ((ji57) : Int).toNat * 4 + 1, none⟩) (Kd.R_types HO393.out GG60.out (by decide)) (fun _ hk => hk.2) (.int .i64 (rd y391 (ji54)))) (fun _ hk => trivial)⟩
         have n3_ : Aside0 ((w74.setCell ⟨go60, ((ji57) : Int).toNat * 4 + 1, none⟩ (.int .i64 (rd y391 (ji54)))).heap[gb373]? = some (.cells #[.slice none 0 0] 26 (0, 0))) := ⟨by (with_reducible repeat (first | refine blk_drewN ?_ _ | refine blk_drew ?_ | refine blk_alloc ?_ _)); refine blk_far ?_ (by have h_ := Kd.R_ne HO387.out BK373.out (by decide); intro e_; exact h_ (by rw [e_]; rfl)) _; exact bl BK373.out⟩
         have n4_ : Aside0 ((w74.setCell ⟨go60, ((ji57) : Int).toNat * 4 + 1, none⟩ (.int .i64 (rd y391 (ji54)))).heap[gb388]? = some (.cells #[.slice (some ⟨go60, 0, none⟩) t385.length co68] 26 (0, 0))) := ⟨by (with_reducible repeat (first | refine blk_drewN ?_ _ | refine blk_drew ?_ | refine blk_alloc ?_ _)); refine blk_far ?_ (by have h_ := Kd.R_ne HO387.out BK388.out (by decide); intro e_; exact h_ (by rw [e_]; rfl)) _; exact bl BK388.out⟩
         have n5_ : Aside0 (IsS119 w0 (w74.setCell ⟨go60, ((ji57) : Int).toNat * 4 + 1, none⟩ (.int .i64 (rd y391 (ji54)))) g s0_0 t383 t384) := ⟨i9 HI0.out⟩
         have n6_ : Aside0 (KeepBut w (w74.setCell ⟨go60, ((ji57) : Int).toNat * 4 + 1, none⟩ (.int .i64 (rd y391 (ji54)))) g none) := ⟨kp HK.out⟩
         have n7_ : Aside0 (Below w0.heap.size w0 (w74.setCell ⟨go60, ((ji57) : Int).toNat * 4 + 1, none⟩ (.int .i64 (rd y391 (ji54))))) := ⟨by repeat (first | (with_reducible first | exact HB.out | apply below_alloc | apply pw_below_drewN | apply below_drew1 | refine below_set ?_ (Nat.le_trans HL.out GB60.out) | refine below_set ?_ (IsS119.ge HI0.out) | refine below_set ?_ GE373.out | refine below_set ?_ GE388.out) | exact HB.out)⟩
         (try clear HO382)
         (try clear HO387)
         (try clear HO393)
         (try clear BK373)
         (try clear BK388)
         (try clear HI0)
         (try clear HK)
         (try clear HB)
         generalize (w74.setCell ⟨go60, ((ji57) : Int).toNat * 4 + 1, none⟩ (.int .i64 (rd y391 (ji54)))) = w78 at n0_ n1_ n2_ n3_ n4_ n5_ n6_ n7_ ⊢
         have HO382 := n0_
         have HO387 := n1_
         have HO393 := n2_
         have BK373 := n3_
         have BK388 := n4_
         have HI0 := n5_
         have HK := n6_
         have HB := n7_
         clear n0_ n1_ n2_ n3_ n4_ n5_ n6_ n7_
         have hcz79_0 : w78.cell? ⟨gb388, 0, none⟩ = some (.slice (some ⟨go60, 0, none⟩) t385.length co68) := (blk_cell BK388.out 0).trans rfl
         have hfz79_0 := blk_frozen BK388.out 0
         have hnb80 := NB373_0.out
         have hnc80 := NB0_373.out
         have hcz81_0 : w78.cell? ⟨gb373, 0, none⟩ = some (.slice none 0 0) := (blk_cell BK373.out 0).trans rfl
         have hfz81_0 := blk_frozen BK373.out 0
         try go_wp2
         refine bodyPost_ret (results_cell_row rfl _ _ gb373 26 #[.slice (some ⟨go60, 0, none⟩) t385.length co68] (0, 0) _ rfl (by (with_reducible repeat (first | refine blk_drewN ?_ _ | refine blk_drew ?_ | refine blk_alloc ?_ _)); refine blk_put (cs := #[.slice none 0 0]) ?_ 0 _ rfl; exact bl BK373.out) Try.underlying26 rfl (by kernel_rfl)) rfl ?_
         exact ⟨_, by first | rfl | (simp [errW_none, errW_some] <;> rfl) | (simp only [← hji54, ← hji57]; first | rfl | (simp [errW_none, errW_some] <;> rfl)) | (simp [*, errW_none, errW_some] <;> rfl), by (with_reducible repeat (first | apply Kd.R_alloc | apply Kd.R_drewN | apply Kd.R_drew)); exact Kd.R_mono (Kd.R_far (p := ⟨gb373, 0, none⟩) (Kd.R_types HO387.out BK373.out (by decide)) (fun _ hk => hk.2) (.slice (some ⟨go60, 0, none⟩) t385.length co68)) (fun _ hk => trivial), i9 HI0.out, b9 HB.out, kp HK.out⟩
        ·rw [if_neg c59] at H
         exact absurd H (by simp)
       ·rw [if_neg c58] at H
        exact absurd H (by simp)
      ·rw [if_neg c56] at H
       exact absurd H (by simp)
     ·rw [if_neg c55] at H
      exact absurd H (by simp)
    ·rw [if_neg c53] at H
     have c53b0 : (t374 == 2) = false := beq_eq_false_iff_ne.mpr c53
     have c53b1 : (t374 != 2) = true := bne_iff_ne.mpr c53
     by_cases c82 : t374 = 3
     ·rw [if_pos c82] at H
      have c82b0 : (t374 == 3) = true := beq_iff_eq.mpr c82
      have c82b1 : (t374 != 3) = false := bne_eq_false_iff_eq.mpr c82
      clear c82
      by_cases c83 : 0 < (t385.length : Int)
      ·rw [if_pos c83] at H
       have c83b0 : decide (0 < (t385.length : Int)) = true := decide_eq_true c83
       have c83b1 : decide (0 < t385.length) = true := decide_eq_true (by omega)
       clear c83
       by_cases c84 : t385.length < 4398046511104
       ·rw [if_pos c84] at H
        have LMc84 := Aside0.mk c84
        clear c84
        obtain ⟨y397, hy397⟩ : ∃ y_ : List (S34), y_ = (t385 ++ [(⟨(rd_T34 t385 0).f0, (rd_T34 t385 0).f1, (rd_T34 t385 0).f2, (rd_T34 t385 0).f3⟩ : S34)]) := ⟨_, rfl⟩
        replace H : (some (y397, t383, t384)) = some (r1, r2, r3) := by first | (rw [hy397]; with_reducible exact H) | (have H2_ := (Option.bind_some _ _).symm.trans H; rw [hy397]; with_reducible exact H2_) | (have H2_ := (Option.bind_some _ _).symm.trans H; with_reducible exact H2_) | with_reducible exact H | (rw [hy397]; exact H) | exact H
        have Ny397 := Aside0.mk hy397
        clear hy397
        simp only [Option.some.injEq, Prod.mk.injEq] at H
        obtain ⟨rfl, rfl, rfl⟩ := H
        go_enter Try.func76, Try.ntmps76
        try go_wp2_with (first | ((with_reducible refine gate_dst (N := 2) rfl ?_); refine box_event ?hg (N := 2) ?hd (cs := #[.slice none 0 0]) (t := 26) ?hr ?_; (case hd => rfl); (case hg => rfl); (case hr => first | (go_simp; done) | (go_simp; rfl)); intro gb373 hg w85 hbox hb; have n0_ := Aside0.mk (IsS119.below (i9 HI0.out) hb); have n1_ := Aside0.mk (KeepBut.trans (kp HK.out) (KeepBut.of_below hb g none) (.inl rfl)); have n2_ := Aside0.mk (below_step (b9 HB.out) hb); have n3_ := Aside0.mk (hbox); have n4_ := Aside0.mk ((by rw [hg]; exact (keep_size (w := w) (g := g) (row := none) (kp HK.out)) : w.heap.size ≤ gb373)); have n5_ := Aside0.mk ((Nat.le_trans HW0.out (by rw [hg]; exact (keep_size (w := w) (g := g) (row := none) (kp HK.out)) : w.heap.size ≤ gb373) : w0.heap.size ≤ gb373)); have n6_ := Aside0.mk ((by rw [hg]; exact Nat.ne_of_lt (IsS119.lt (show IsS119 w0 _ g s0_0 s0_1 s0_2 from i9 HI0.out)) : g ≠ gb373)); have n7_ := Aside0.mk ((by rw [hg]; exact Nat.ne_of_gt (IsS119.lt (show IsS119 w0 _ g s0_0 s0_1 s0_2 from i9 HI0.out)) : gb373 ≠ g)); clear HI0 HK HB; have HI0 := n0_; have HK := n1_; have HB := n2_; have BK373 := n3_; have GW373 := n4_; have GE373 := n5_; have NB0_373 := n6_; have NB373_0 := n7_; clear n0_ n1_ n2_ n3_ n4_ n5_ n6_ n7_ hb hbox hg) | ((with_reducible refine gate_callee (f := 70) rfl ?_); refine goesL_ (some 8) rfl rfl Try.func70 (by kernel_rfl) rfl #[.pointer (some ⟨g, 0, none⟩), .int .i64 12] rfl ar ?_; (with_reducible refine (spec_l01Below.calls g s0_0 s0_1 s0_2 12 t374 t375 t376 w0 _ ?side1 ?side2 A2.out).mono ?_); (case side1 => exact i9 HI0.out); (case side2 => exact b9 HB.out); rintro e w86 ⟨rfl, hi, hb, hk⟩; refine ⟨_, rfl, ?_⟩; have n0_ := Aside0.mk (KeepBut.blk hk (g' := gb373) (o := .cells #[.slice none 0 0] 26 (0, 0)) (bl BK373.out) NB373_0.out (by simp)); have n1_ := Aside0.mk (KeepBut.trans (kp HK.out) hk (.inl rfl)); have n2_ := Aside0.mk (hb); have n3_ := Aside0.mk (hi); clear BK373 HK HB HI0; have BK373 := n0_; have HK := n1_; have HB := n2_; have HI0 := n3_; clear n0_ n1_ n2_ n3_; (try clear hb); (try clear hb2); (try clear hk); (try clear hi)) | ((with_reducible refine gate_callee (f := 70) rfl ?_); refine goesL_ (some 10) rfl rfl Try.func70 (by kernel_rfl) rfl #[.pointer (some ⟨g, 0, none⟩), .int .i64 60] rfl ar ?_; (with_reducible refine (spec_l01Below.calls g s0_0 t375 t376 60 t377 t378 t379 w0 _ ?side1 ?side2 A3.out).mono ?_); (case side1 => exact i9 HI0.out); (case side2 => exact b9 HB.out); rintro e w87 ⟨rfl, hi, hb, hk⟩; refine ⟨_, rfl, ?_⟩; have n0_ := Aside0.mk (KeepBut.blk hk (g' := gb373) (o := .cells #[.slice none 0 0] 26 (0, 0)) (bl BK373.out) NB373_0.out (by simp)); have n1_ := Aside0.mk (KeepBut.trans (kp HK.out) hk (.inl rfl)); have n2_ := Aside0.mk (hb); have n3_ := Aside0.mk (hi); clear BK373 HK HB HI0; have BK373 := n0_; have HK := n1_; have HB := n2_; have HI0 := n3_; clear n0_ n1_ n2_ n3_; (try clear hb); (try clear hb2); (try clear hk); (try clear hi)) | ((with_reducible refine gate_callee (f := 69) rfl ?_); refine goesL_ (some 12) rfl rfl Try.func69 (by kernel_rfl) rfl #[.pointer (some ⟨g, 0, none⟩)] rfl ar ?_; (with_reducible refine (spec_l03Arena.calls g s0_0 t378 t379 t380 t383 t384 w0 _ ?side1 ?side2 A4.out).mono ?_); (case side1 => exact i9 HI0.out); (case side2 => exact b9 HB.out); rintro e w88 ⟨v381, rfl, ho0, hi, hb, hk⟩; refine ⟨_, rfl, ?_⟩; have n0_ := Aside0.mk (KeepBut.blk hk (g' := gb373) (o := .cells #[.slice none 0 0] 26 (0, 0)) (bl BK373.out) NB373_0.out (by simp)); have n1_ := Aside0.mk (Kd.R_lower ho0 (keep_size (w := w) (g := g) (row := none) (kp HK.out))); have n2_ := Aside0.mk (KeepBut.trans (kp HK.out) hk (.inl rfl)); have n3_ := Aside0.mk (hb); have n4_ := Aside0.mk (hi); clear BK373 HK HB HI0; have BK373 := n0_; have HO382 := n1_; have HK := n2_; have HB := n3_; have HI0 := n4_; clear n0_ n1_ n2_ n3_ n4_; (try clear hb); (try clear hb2); (try clear hk); (try clear hi); (try clear ho0); obtain ⟨Ao89, co89, eo89⟩ := Kd.R_slice HO382.out; subst eo89) | ((with_reducible refine gate_callee (f := 90) rfl ?_); refine goesL_ (some 13) rfl rfl Try.func90 (by kernel_rfl) rfl #[.agg #[.slice Ao89 t380.length co89]] rfl ar ?_; (with_reducible refine (spec_l03Copy.calls _ _ t380 t385 _ ?side1 ?side2 A5.out).mono ?_); (case side1 => exact cl (Kd.R_reads' HO382.out).2.2); (case side2 => exact (Kd.R_reads' HO382.out).2.1); rintro e w90 ⟨v386, rfl, ho0, hb⟩; refine ⟨_, rfl, ?_⟩; have n0_ := Aside0.mk (Kd.R_elder' (rl HO382.out) (Kd.R_base ho0) hb); have n1_ := Aside0.mk (Kd.R_lower (Kd.R_new' ho0 (Kd.R_lt (rl HO382.out))) (keep_size (w := w) (g := g) (row := none) (kp HK.out))); have n2_ := Aside0.mk (IsS119.below (i9 HI0.out) hb); have n3_ := Aside0.mk (blk_below (g := gb373) (o := .cells #[.slice none 0 0] 26 (0, 0)) (bl BK373.out) hb); have n4_ := Aside0.mk (KeepBut.trans (kp HK.out) (KeepBut.of_below hb g none) (.inl rfl)); have n5_ := Aside0.mk (below_step (b9 HB.out) hb); clear HO382 HI0 BK373 HK HB; have HO382 := n0_; have HO387 := n1_; have HI0 := n2_; have BK373 := n3_; have HK := n4_; have HB := n5_; clear n0_ n1_ n2_ n3_ n4_ n5_; (try clear hb); (try clear hb2); (try clear hk); (try clear hi); (try clear ho0)) | ((with_reducible refine gate_dst (N := 5) rfl ?_); refine box_event ?hg (N := 5) ?hd (cs := #[.slice none 0 0]) (t := 26) ?hr ?_; (case hd => rfl); (case hg => rfl); (case hr => first | (go_simp; done) | (go_simp; rfl)); intro gb388 hg w91 hbox hb; have n0_ := Aside0.mk (Kd.R_below (rl HO382.out) hb); have n1_ := Aside0.mk (Kd.R_below (rl HO387.out) hb); have n2_ := Aside0.mk (IsS119.below (i9 HI0.out) hb); have n3_ := Aside0.mk (blk_below (g := gb373) (o := .cells #[.slice none 0 0] 26 (0, 0)) (bl BK373.out) hb); have n4_ := Aside0.mk (KeepBut.trans (kp HK.out) (KeepBut.of_below hb g none) (.inl rfl)); have n5_ := Aside0.mk (below_step (b9 HB.out) hb); have n6_ := Aside0.mk (hbox); have n7_ := Aside0.mk ((by rw [hg]; exact (keep_size (w := w) (g := g) (row := none) (kp HK.out)) : w.heap.size ≤ gb388)); have n8_ := Aside0.mk ((Nat.le_trans HW0.out (by rw [hg]; exact (keep_size (w := w) (g := g) (row := none) (kp HK.out)) : w.heap.size ≤ gb388) : w0.heap.size ≤ gb388)); have n9_ := Aside0.mk ((by rw [hg]; exact Nat.ne_of_lt (blk_lt (g := gb373) (o := .cells #[.slice none 0 0] 26 (0, 0)) (bl BK373.out)) : gb373 ≠ gb388)); have n10_ := Aside0.mk ((by rw [hg]; exact Nat.ne_of_gt (blk_lt (g := gb373) (o := .cells #[.slice none 0 0] 26 (0, 0)) (bl BK373.out)) : gb388 ≠ gb373)); have n11_ := Aside0.mk ((by rw [hg]; exact Nat.ne_of_lt (IsS119.lt (show IsS119 w0 _ g s0_0 t383 t384 from i9 HI0.out)) : g ≠ gb388)); have n12_ := Aside0.mk ((by rw [hg]; exact Nat.ne_of_gt (IsS119.lt (show IsS119 w0 _ g s0_0 t383 t384 from i9 HI0.out)) : gb388 ≠ g)); clear HO382 HO387 HI0 BK373 HK HB; have HO382 := n0_; have HO387 := n1_; have HI0 := n2_; have BK373 := n3_; have HK := n4_; have HB := n5_; have BK388 := n6_; have GW388 := n7_; have GE388 := n8_; have NB373_388 := n9_; have NB388_373 := n10_; have NB0_388 := n11_; have NB388_0 := n12_; clear n0_ n1_ n2_ n3_ n4_ n5_ n6_ n7_ n8_ n9_ n10_ n11_ n12_ hb hbox hg; obtain ⟨Ao92, co92, eo92⟩ := Kd.R_slice HO387.out; subst eo92; have hnb93 := NB388_373.out; have hnc93 := NB373_388.out; have hnb94 := NB388_0.out; have hnc94 := NB0_388.out; have hcz95_0 : w91.cell? ⟨gb388, 0, none⟩ = some (.slice none 0 0) := (blk_cell BK388.out 0).trans rfl; have hfz95_0 := blk_frozen BK388.out 0))
        have n0_ : Aside0 (Kd.R k34 34 (w91.setCell ⟨gb388, 0, none⟩ (.slice Ao92 t385.length co92)) w.heap.size (fun k_ => some k_ ≠ (.slice Ao92 t385.length co92 : Value).ownBlock) (.slice Ao89 t380.length co89) t380) := ⟨by (with_reducible repeat (first | apply Kd.R_alloc | apply Kd.R_drewN | apply Kd.R_drew)); exact Kd.R_mono (Kd.R_far (p := ⟨gb388, 0, none⟩) (Kd.R_types HO382.out BK388.out (by decide)) (fun _ hk => hk.2) (.slice Ao92 t385.length co92)) (fun _ hk => hk.1.2)⟩
        have n1_ : Aside0 (Kd.R k34 34 (w91.setCell ⟨gb388, 0, none⟩ (.slice Ao92 t385.length co92)) w.heap.size (fun k_ => some k_ ≠ (.slice Ao89 t380.length co89 : Value).ownBlock) (.slice Ao92 t385.length co92) t385) := ⟨by (with_reducible repeat (first | apply Kd.R_alloc | apply Kd.R_drewN | apply Kd.R_drew)); exact Kd.R_mono (Kd.R_far (p := ⟨gb388, 0, none⟩) (Kd.R_types HO387.out BK388.out (by decide)) (fun _ hk => hk.2) (.slice Ao92 t385.length co92)) (fun _ hk => hk.1.2)⟩
        have n2_ : Aside0 ((w91.setCell ⟨gb388, 0, none⟩ (.slice Ao92 t385.length co92)).heap[gb373]? = some (.cells #[.slice none 0 0] 26 (0, 0))) := ⟨by (with_reducible repeat (first | refine blk_drewN ?_ _ | refine blk_drew ?_ | refine blk_alloc ?_ _)); refine blk_far ?_ NB373_388.out _; exact bl BK373.out⟩
        have n3_ : Aside0 ((w91.setCell ⟨gb388, 0, none⟩ (.slice Ao92 t385.length co92)).heap[gb388]? = some (.cells #[.slice Ao92 t385.length co92] 26 (0, 0))) := ⟨by (with_reducible repeat (first | refine blk_drewN ?_ _ | refine blk_drew ?_ | refine blk_alloc ?_ _)); refine blk_put (cs := #[.slice none 0 0]) ?_ 0 _ rfl; exact bl BK388.out⟩
        have n4_ : Aside0 (IsS119 w0 (w91.setCell ⟨gb388, 0, none⟩ (.slice Ao92 t385.length co92)) g s0_0 t383 t384) := ⟨i9 HI0.out⟩
        have n5_ : Aside0 (KeepBut w (w91.setCell ⟨gb388, 0, none⟩ (.slice Ao92 t385.length co92)) g none) := ⟨kp HK.out⟩
        have n6_ : Aside0 (Below w0.heap.size w0 (w91.setCell ⟨gb388, 0, none⟩ (.slice Ao92 t385.length co92))) := ⟨b9 HB.out⟩
        (try clear HO382)
        (try clear HO387)
        (try clear BK373)
        (try clear BK388)
        (try clear HI0)
        (try clear HK)
        (try clear HB)
        generalize (w91.setCell ⟨gb388, 0, none⟩ (.slice Ao92 t385.length co92)) = w96 at n0_ n1_ n2_ n3_ n4_ n5_ n6_ ⊢
        have HO382 := n0_
        have HO387 := n1_
        have BK373 := n2_
        have BK388 := n3_
        have HI0 := n4_
        have HK := n5_
        have HB := n6_
        clear n0_ n1_ n2_ n3_ n4_ n5_ n6_
        have n0_ := Aside0.mk (Kd.R_drew HO382.out)
        have n1_ := Aside0.mk (Kd.R_drew HO387.out)
        have n2_ := Aside0.mk (blk_drew BK373.out)
        have n3_ := Aside0.mk (blk_drew BK388.out)
        have n4_ := Aside0.mk (IsS119.drew HI0.out)
        have n5_ := Aside0.mk (keep_drew HK.out)
        have n6_ := Aside0.mk (below_drew1 HB.out)
        clear HO382
        clear HO387
        clear BK373
        clear BK388
        clear HI0
        clear HK
        clear HB
        have HO382 := n0_
        have HO387 := n1_
        have BK373 := n2_
        have BK388 := n3_
        have HI0 := n4_
        have HK := n5_
        have HB := n6_
        clear n0_ n1_ n2_ n3_ n4_ n5_ n6_
        have p396 : 0 ≤ (0 : Int) := (by omega)
        have q396 : 0 < (t385.length : Int) := oda
        obtain ⟨ad396, e396, hx396_0, hx396_1, hx396_2, hx396_3⟩ := at_T34 (Kd.R_reads' HO387.out).2.2 0 p396 q396
        cases e396
        have qi396 : (0 < t385.length) = True := eq_true (by omega)
        (try rw [show ((0 : Int)).toNat = 0 from rfl] at hx396_0)
        (try rw [show 0 * 4 = 0 from rfl] at hx396_0)
        (try rw [Addr.add_zero'] at hx396_0)
        (try rw [show ((0 : Int)).toNat = 0 from rfl] at hx396_1)
        (try rw [show 0 * 4 = 0 from rfl] at hx396_1)
        (try rw [Addr.add_zero'] at hx396_1)
        (try rw [show ((0 : Int)).toNat = 0 from rfl] at hx396_2)
        (try rw [show 0 * 4 = 0 from rfl] at hx396_2)
        (try rw [Addr.add_zero'] at hx396_2)
        (try rw [show ((0 : Int)).toNat = 0 from rfl] at hx396_3)
        (try rw [show 0 * 4 = 0 from rfl] at hx396_3)
        (try rw [Addr.add_zero'] at hx396_3)
        replace p396 := eq_true p396
        replace q396 := eq_true q396
        refine start_ (n := 10) (S := fun w' => w'.cell? ⟨gb388, 0, none⟩ = some (.slice (some ad396) t385.length co92) ∧ w'.cell? ad396 = some (.int .i64 ((rd_T34 t385 0).f0)) ∧ w'.cell? ⟨ad396.block, ad396.off + 1, none⟩ = some (.int .i64 ((rd_T34 t385 0).f1)) ∧ w'.cell? ⟨ad396.block, ad396.off + 2, none⟩ = some (.int .i64 ((rd_T34 t385 0).f2)) ∧ w'.cell? ⟨ad396.block, ad396.off + 3, none⟩ = some (.int .i64 ((rd_T34 t385 0).f3))) (ds := [7, 9]) #[false, false, false, false, false, false, false, false, false, false] (by kernel_rfl) rfl rfl ⟨(blk_cell BK388.out 0).trans rfl, hx396_0, hx396_1, hx396_2, hx396_3⟩ (fun hHeld => ?_); refine with_tabW spec_l03Any.tab13 spec_l03Any.bits13 (fun HT_ HW_ => ?_)
        generalize w96.drew = w97 at HO382 HO387 BK373 BK388 HI0 HK HB hx396_0 hx396_1 hx396_2 hx396_3 hHeld ⊢
        refine pure_ (i := 0) (N := some 53) (v := ?_) (a' := ?_) #[true, false, false, false, false, false, false, false, false, false] rfl rfl (any_of HT_.out (by kernel_rfl)) (fun _ _ _ h => h) (Or.inl ⟨by rfl, ?_⟩) ?_ ?_
        rotate_left
        ·intro w'
         go_simp
         with_reducible rfl
        rotate_left
        ·simp only [Act.put, List.setIfInBounds_toArray, List.set_cons_zero, List.set_cons_succ, i64_w, i32_w]
         rfl
        refine pure_ (i := 2) (N := some 55) (v := ?_) (a' := ?_) #[true, false, true, false, false, false, false, false, false, false] rfl rfl (any_of HT_.out (by kernel_rfl)) (fun _ _ _ h => h) (Or.inl ⟨by rfl, ?_⟩) ?_ ?_
        rotate_left
        ·intro w'
         go_simp
         with_reducible rfl
        rotate_left
        ·simp only [Act.put, List.setIfInBounds_toArray, List.set_cons_zero, List.set_cons_succ, i64_w, i32_w]
         rfl
        refine take_ (i := 1) (N := some 54) (v := ?_) (a' := ?_) #[true, true, true, false, false, false, false, false, false, false] rfl rfl (take_ofW HT_.out HW_.out (by kernel_rfl)) (fun _ _ _ h => h) (Or.inl ⟨by rfl, ?_⟩) hHeld ?_ ?_
        rotate_left
        ·rintro w' ⟨s0, s1, s2, s3, s4⟩
         go_simp
         with_reducible rfl
        rotate_left
        ·simp only [Act.put, List.setIfInBounds_toArray, List.set_cons_zero, List.set_cons_succ, i64_w, i32_w]
         rfl
        refine take_ (i := 3) (N := some 56) (v := ?_) (a' := ?_) #[true, true, true, true, false, false, false, false, false, false] rfl rfl (take_ofW HT_.out HW_.out (by kernel_rfl)) (fun _ _ _ h => h) (Or.inl ⟨by rfl, ?_⟩) hHeld ?_ ?_
        rotate_left
        ·rintro w' ⟨s0, s1, s2, s3, s4⟩
         go_simp
         with_reducible rfl
        rotate_left
        ·simp only [Act.put, List.setIfInBounds_toArray, List.set_cons_zero, List.set_cons_succ, i64_w, i32_w]
         rfl
        refine pure_ (i := 4) (N := some 57) (v := ?_) (a' := ?_) #[true, true, true, true, true, false, false, false, false, false] rfl rfl (any_of HT_.out (by kernel_rfl)) (fun _ _ _ h => h) (Or.inl ⟨by rfl, ?_⟩) ?_ ?_
        rotate_left
        ·intro w'
         go_simp
         with_reducible rfl
        rotate_left
        ·simp only [Act.put, List.setIfInBounds_toArray, List.set_cons_zero, List.set_cons_succ, i64_w, i32_w]
         rfl
        refine take_ (i := 5) (N := some 58) (v := ?_) (a' := ?_) #[true, true, true, true, true, true, false, false, false, false] rfl rfl (take_ofW HT_.out HW_.out (by kernel_rfl)) (fun _ _ _ h => h) (Or.inl ⟨by rfl, ?_⟩) hHeld ?_ ?_
        rotate_left
        ·rintro w' ⟨s0, s1, s2, s3, s4⟩
         go_simp
         with_reducible rfl
        rotate_left
        ·simp only [Act.put, List.setIfInBounds_toArray, List.set_cons_zero, List.set_cons_succ, i64_w, i32_w]
         rfl
        refine one_ (i := 6) (N := some 59) #[true, true, true, true, true, true, true, false, false, false] rfl rfl (one_of HT_.out (by kernel_rfl)) (by decide) (fun K hK => ?_)
        refine value_ (w1 := ?_) (v := ?_) (by rfl) rfl ?_ ?_
        rotate_left 2
        ·go_simp
         constructor
         ·rfl
         ·rfl
        refine hK.out _ _ ⟨(blk_cell (blk_alloc BK388.out _) 0).trans rfl, (World.cell?_alloc_lt _ _ _ (World.block_lt_of_cell? _ _ (hHeld.2.1))).trans (hHeld.2.1), (World.cell?_alloc_lt _ _ _ (World.block_lt_of_cell? _ _ (hHeld.2.2.1))).trans (hHeld.2.2.1), (World.cell?_alloc_lt _ _ _ (World.block_lt_of_cell? _ _ (hHeld.2.2.2.1))).trans (hHeld.2.2.2.1), (World.cell?_alloc_lt _ _ _ (World.block_lt_of_cell? _ _ (hHeld.2.2.2.2))).trans (hHeld.2.2.2.2)⟩ (fun hHeld => ?_)
        clear hK K
        refine norm_ (a' := ?_) ?_ ?_
        rotate_left
        ·show Act.put _ (some 59) _ = _
         simp only [Act.put, List.setIfInBounds_toArray, List.set_cons_zero, List.set_cons_succ, i64_w, i32_w]
         rfl
        refine last_ (i := 7) (N := some 60) #[true, true, true, true, true, true, true, true, false, false] rfl rfl (one_of HT_.out (by kernel_rfl)) (by decide) (fun K hK => ?_)
        refine Kd.R_append_step k34 w.heap.size (by rfl) (.tmp 54) (.tmp 59) 24 34 (.agg #[(.int .i64 0), (.int .i64 0), (.int .i64 0), (.int .i64 0)]) 32 rfl Try.underlying24 info34 rfl (by decide) (by omega) (.slice (some ad396) t385.length co92) t385 (⟨(rd_T34 t385 0).f0, (rd_T34 t385 0).f1, (rd_T34 t385 0).f2, (rd_T34 t385 0).f3⟩ : S34) [.int .i64 ((rd_T34 t385 0).f0), .int .i64 ((rd_T34 t385 0).f1), .int .i64 ((rd_T34 t385 0).f2), .int .i64 ((rd_T34 t385 0).f3)] (fun k_ => some k_ ≠ (.slice Ao89 t380.length co89 : Value).ownBlock) (fun _ => False) rfl rfl ?aP (fun _ hk => hk.elim) ?aF ?aO (Below.refl _ _) ?aS ?aL ?_
        (case aP => exact k34_mkM _ _ _ (⟨(rd_T34 t385 0).f0, (rd_T34 t385 0).f1, (rd_T34 t385 0).f2, (rd_T34 t385 0).f3⟩ : S34))
        (case aF => exact (fun k_ hk => Kd.fresh' (Kd.R_lt (rl HO382.out)) k_ hk))
        (case aO => exact (rl HO387.out))
        (case aS => exact (keep_size (w := w) (g := g) (row := none) (kp HK.out)))
        (case aL => have := LMc84.out; omega)
        intro v398 w98 ho hb hg hat
        rw [← Ny397.out] at ho
        have n0_ := Aside0.mk (IsS119.grown (i9 HI0.out) hg (IsS119.own_ne HI0.out HO387.out (by decide)))
        have n1_ := Aside0.mk (blk_grown (g := gb373) (o := .cells #[.slice none 0 0] 26 (0, 0)) (bl BK373.out) hg (Kd.R_ne HO387.out BK373.out (by decide)))
        have n2_ := Aside0.mk (Kd.R_after (ok := (fun _ => True)) (by (with_reducible repeat (first | apply Kd.R_alloc | apply Kd.R_drewN | apply Kd.R_drew)); exact Kd.R_mono HO382.out (fun _ hk => ⟨trivial, hk⟩)) hg hat)
        have n3_ := Aside0.mk (blk_grown (g := gb388) (o := .cells #[.slice (some ad396) t385.length co92] 26 (0, 0)) (bl BK388.out) hg (Kd.R_ne HO387.out BK388.out (by decide)))
        have n4_ := Aside0.mk (below_weaken (b9 HB.out) HL.out hb)
        have n5_ := Aside0.mk (KeepBut.trans (kp HK.out) (KeepBut.of_grown hg g) (Kd.R_base2 HO387.out))
        have n6_ := Aside0.mk (ho)
        clear HI0
        clear BK373
        clear HO382
        clear BK388
        clear HB
        clear HK
        clear HO387
        have HI0 := n0_
        have BK373 := n1_
        have HO382 := n2_
        have BK388 := n3_
        have HB := n4_
        have HK := n5_
        have HO399 := n6_
        clear n0_ n1_ n2_ n3_ n4_ n5_ n6_
        clear ho hb hg hat
        obtain ⟨Ao99, co99, eo99⟩ := Kd.R_slice HO399.out
        (first | subst eo99 | (injection eo99 with f1_ f2_ f3_; have f4_ := f1_.symm; have f5_ := f3_.symm; clear f1_ f2_ f3_; subst f4_; subst f5_))
        refine hK.out _ _ ?_
        clear hK K
        refine norm_ (a' := ?_) ?_ ?_
        rotate_left
        ·show Act.put _ (some 60) _ = _
         simp only [Act.put, List.setIfInBounds_toArray, List.set_cons_zero, List.set_cons_succ, i64_w, i32_w]
         rfl
        refine pure_ (i := 8) (N := some 61) (v := ?_) (a' := ?_) #[true, true, true, true, true, true, true, true, true, false] rfl rfl (any_of HT_.out (by kernel_rfl)) (fun _ _ _ h => h) (Or.inl ⟨by rfl, ?_⟩) ?_ ?_
        rotate_left
        ·intro w'
         go_simp
         with_reducible rfl
        rotate_left
        ·simp only [Act.put, List.setIfInBounds_toArray, List.set_cons_zero, List.set_cons_succ, i64_w, i32_w]
         rfl
        refine last_ (i := 9) (N := none) #[true, true, true, true, true, true, true, true, true, true] rfl rfl (one_of HT_.out (by kernel_rfl)) (by decide) (fun K hK => ?_)
        have hs100 : w98.cell? ⟨gb388, 0, none⟩ = some (.slice (some ad396) t385.length co92) := (blk_cell BK388.out 0).trans rfl
        have hfs100 := blk_frozen BK388.out 0
        have hns100_0 := NB373_388.out
        have hms100_0 := NB388_373.out
        refine skip_ (w1 := ?_) (by rfl) rfl ?_ ?_
        rotate_left
        ·go_simp
         rfl
        refine hK.out _ _ ?_
        clear hK K
        refine done_ (done_of HT_.out (by kernel_rfl)) ?_
        have hcz101_0 : w98.cell? ⟨gb388, 0, none⟩ = some (.slice (some ad396) t385.length co92) := (blk_cell BK388.out 0).trans rfl
        have hfz101_0 := blk_frozen BK388.out 0
        have hnb102 := NB373_0.out
        have hnc102 := NB0_373.out
        have hcz103_0 : w98.cell? ⟨gb373, 0, none⟩ = some (.slice none 0 0) := (blk_cell BK373.out 0).trans rfl
        have hfz103_0 := blk_frozen BK373.out 0
        try go_wp2
        refine bodyPost_ret (results_cell_row rfl _ _ gb373 26 #[.slice Ao99 y397.length co99] (0, 0) _ rfl (by (with_reducible repeat (first | refine blk_drewN ?_ _ | refine blk_drew ?_ | refine blk_alloc ?_ _)); refine blk_put (cs := #[.slice none 0 0]) ?_ 0 _ rfl; (with_reducible repeat (first | refine blk_drewN ?_ _ | refine blk_drew ?_ | refine blk_alloc ?_ _)); refine blk_far ?_ NB373_388.out _; exact bl BK373.out) Try.underlying26 rfl (by kernel_rfl)) rfl ?_
        exact ⟨_, by first | rfl | (simp [errW_none, errW_some] <;> rfl) | (simp [*, errW_none, errW_some] <;> rfl), by (with_reducible repeat (first | apply Kd.R_alloc | apply Kd.R_drewN | apply Kd.R_drew)); exact Kd.R_mono (Kd.R_far (p := ⟨gb373, 0, none⟩) (Kd.R_far (p := ⟨gb388, 0, none⟩) (Kd.R_types (Kd.R_types HO399.out BK388.out (by decide)) BK373.out (by decide)) (fun _ hk => hk.1.2) (.slice Ao99 y397.length co99)) (fun _ hk => hk.2) (.slice Ao99 y397.length co99)) (fun _ hk => trivial), i9 HI0.out, b9 HB.out, kp HK.out⟩
       ·rw [if_neg c84] at H
        exact absurd H (by simp)
      ·rw [if_neg c83] at H
       exact absurd H (by simp)
     ·rw [if_neg c82] at H
      have c82b0 : (t374 == 3) = false := beq_eq_false_iff_ne.mpr c82
      have c82b1 : (t374 != 3) = true := bne_iff_ne.mpr c82
      simp only [Option.some.injEq, Prod.mk.injEq] at H
      obtain ⟨rfl, rfl, rfl⟩ := H
      go_enter Try.func76, Try.ntmps76
      go_wp2_with (first | ((with_reducible refine gate_dst (N := 2) rfl ?_); refine box_event ?hg (N := 2) ?hd (cs := #[.slice none 0 0]) (t := 26) ?hr ?_; (case hd => rfl); (case hg => rfl); (case hr => first | (go_simp; done) | (go_simp; rfl)); intro gb373 hg w104 hbox hb; have n0_ := Aside0.mk (IsS119.below (i9 HI0.out) hb); have n1_ := Aside0.mk (KeepBut.trans (kp HK.out) (KeepBut.of_below hb g none) (.inl rfl)); have n2_ := Aside0.mk (below_step (b9 HB.out) hb); have n3_ := Aside0.mk (hbox); have n4_ := Aside0.mk ((by rw [hg]; exact (keep_size (w := w) (g := g) (row := none) (kp HK.out)) : w.heap.size ≤ gb373)); have n5_ := Aside0.mk ((Nat.le_trans HW0.out (by rw [hg]; exact (keep_size (w := w) (g := g) (row := none) (kp HK.out)) : w.heap.size ≤ gb373) : w0.heap.size ≤ gb373)); have n6_ := Aside0.mk ((by rw [hg]; exact Nat.ne_of_lt (IsS119.lt (show IsS119 w0 _ g s0_0 s0_1 s0_2 from i9 HI0.out)) : g ≠ gb373)); have n7_ := Aside0.mk ((by rw [hg]; exact Nat.ne_of_gt (IsS119.lt (show IsS119 w0 _ g s0_0 s0_1 s0_2 from i9 HI0.out)) : gb373 ≠ g)); clear HI0 HK HB; have HI0 := n0_; have HK := n1_; have HB := n2_; have BK373 := n3_; have GW373 := n4_; have GE373 := n5_; have NB0_373 := n6_; have NB373_0 := n7_; clear n0_ n1_ n2_ n3_ n4_ n5_ n6_ n7_ hb hbox hg) | ((with_reducible refine gate_callee (f := 70) rfl ?_); refine goesL_ (some 8) rfl rfl Try.func70 (by kernel_rfl) rfl #[.pointer (some ⟨g, 0, none⟩), .int .i64 12] rfl ar ?_; (with_reducible refine (spec_l01Below.calls g s0_0 s0_1 s0_2 12 t374 t375 t376 w0 _ ?side1 ?side2 A2.out).mono ?_); (case side1 => exact i9 HI0.out); (case side2 => exact b9 HB.out); rintro e w105 ⟨rfl, hi, hb, hk⟩; refine ⟨_, rfl, ?_⟩; have n0_ := Aside0.mk (KeepBut.blk hk (g' := gb373) (o := .cells #[.slice none 0 0] 26 (0, 0)) (bl BK373.out) NB373_0.out (by simp)); have n1_ := Aside0.mk (KeepBut.trans (kp HK.out) hk (.inl rfl)); have n2_ := Aside0.mk (hb); have n3_ := Aside0.mk (hi); clear BK373 HK HB HI0; have BK373 := n0_; have HK := n1_; have HB := n2_; have HI0 := n3_; clear n0_ n1_ n2_ n3_; (try clear hb); (try clear hb2); (try clear hk); (try clear hi)) | ((with_reducible refine gate_callee (f := 70) rfl ?_); refine goesL_ (some 10) rfl rfl Try.func70 (by kernel_rfl) rfl #[.pointer (some ⟨g, 0, none⟩), .int .i64 60] rfl ar ?_; (with_reducible refine (spec_l01Below.calls g s0_0 t375 t376 60 t377 t378 t379 w0 _ ?side1 ?side2 A3.out).mono ?_); (case side1 => exact i9 HI0.out); (case side2 => exact b9 HB.out); rintro e w106 ⟨rfl, hi, hb, hk⟩; refine ⟨_, rfl, ?_⟩; have n0_ := Aside0.mk (KeepBut.blk hk (g' := gb373) (o := .cells #[.slice none 0 0] 26 (0, 0)) (bl BK373.out) NB373_0.out (by simp)); have n1_ := Aside0.mk (KeepBut.trans (kp HK.out) hk (.inl rfl)); have n2_ := Aside0.mk (hb); have n3_ := Aside0.mk (hi); clear BK373 HK HB HI0; have BK373 := n0_; have HK := n1_; have HB := n2_; have HI0 := n3_; clear n0_ n1_ n2_ n3_; (try clear hb); (try clear hb2); (try clear hk); (try clear hi)) | ((with_reducible refine gate_callee (f := 69) rfl ?_); refine goesL_ (some 12) rfl rfl Try.func69 (by kernel_rfl) rfl #[.pointer (some ⟨g, 0, none⟩)] rfl ar ?_; (with_reducible refine (spec_l03Arena.calls g s0_0 t378 t379 t380 t383 t384 w0 _ ?side1 ?side2 A4.out).mono ?_); (case side1 => exact i9 HI0.out); (case side2 => exact b9 HB.out); rintro e w107 ⟨v381, rfl, ho0, hi, hb, hk⟩; refine ⟨_, rfl, ?_⟩; have n0_ := Aside0.mk (KeepBut.blk hk (g' := gb373) (o := .cells #[.slice none 0 0] 26 (0, 0)) (bl BK373.out) NB373_0.out (by simp)); have n1_ := Aside0.mk (Kd.R_lower ho0 (keep_size (w := w) (g := g) (row := none) (kp HK.out))); have n2_ := Aside0.mk (KeepBut.trans (kp HK.out) hk (.inl rfl)); have n3_ := Aside0.mk (hb); have n4_ := Aside0.mk (hi); clear BK373 HK HB HI0; have BK373 := n0_; have HO382 := n1_; have HK := n2_; have HB := n3_; have HI0 := n4_; clear n0_ n1_ n2_ n3_ n4_; (try clear hb); (try clear hb2); (try clear hk); (try clear hi); (try clear ho0); obtain ⟨Ao108, co108, eo108⟩ := Kd.R_slice HO382.out; subst eo108) | ((with_reducible refine gate_callee (f := 90) rfl ?_); refine goesL_ (some 13) rfl rfl Try.func90 (by kernel_rfl) rfl #[.agg #[.slice Ao108 t380.length co108]] rfl ar ?_; (with_reducible refine (spec_l03Copy.calls _ _ t380 t385 _ ?side1 ?side2 A5.out).mono ?_); (case side1 => exact cl (Kd.R_reads' HO382.out).2.2); (case side2 => exact (Kd.R_reads' HO382.out).2.1); rintro e w109 ⟨v386, rfl, ho0, hb⟩; refine ⟨_, rfl, ?_⟩; have n0_ := Aside0.mk (Kd.R_elder' (rl HO382.out) (Kd.R_base ho0) hb); have n1_ := Aside0.mk (Kd.R_lower (Kd.R_new' ho0 (Kd.R_lt (rl HO382.out))) (keep_size (w := w) (g := g) (row := none) (kp HK.out))); have n2_ := Aside0.mk (IsS119.below (i9 HI0.out) hb); have n3_ := Aside0.mk (blk_below (g := gb373) (o := .cells #[.slice none 0 0] 26 (0, 0)) (bl BK373.out) hb); have n4_ := Aside0.mk (KeepBut.trans (kp HK.out) (KeepBut.of_below hb g none) (.inl rfl)); have n5_ := Aside0.mk (below_step (b9 HB.out) hb); clear HO382 HI0 BK373 HK HB; have HO382 := n0_; have HO387 := n1_; have HI0 := n2_; have BK373 := n3_; have HK := n4_; have HB := n5_; clear n0_ n1_ n2_ n3_ n4_ n5_; (try clear hb); (try clear hb2); (try clear hk); (try clear hi); (try clear ho0)) | ((with_reducible refine gate_dst (N := 5) rfl ?_); refine box_event ?hg (N := 5) ?hd (cs := #[.slice none 0 0]) (t := 26) ?hr ?_; (case hd => rfl); (case hg => rfl); (case hr => first | (go_simp; done) | (go_simp; rfl)); intro gb388 hg w110 hbox hb; have n0_ := Aside0.mk (Kd.R_below (rl HO382.out) hb); have n1_ := Aside0.mk (Kd.R_below (rl HO387.out) hb); have n2_ := Aside0.mk (IsS119.below (i9 HI0.out) hb); have n3_ := Aside0.mk (blk_below (g := gb373) (o := .cells #[.slice none 0 0] 26 (0, 0)) (bl BK373.out) hb); have n4_ := Aside0.mk (KeepBut.trans (kp HK.out) (KeepBut.of_below hb g none) (.inl rfl)); have n5_ := Aside0.mk (below_step (b9 HB.out) hb); have n6_ := Aside0.mk (hbox); have n7_ := Aside0.mk ((by rw [hg]; exact (keep_size (w := w) (g := g) (row := none) (kp HK.out)) : w.heap.size ≤ gb388)); have n8_ := Aside0.mk ((Nat.le_trans HW0.out (by rw [hg]; exact (keep_size (w := w) (g := g) (row := none) (kp HK.out)) : w.heap.size ≤ gb388) : w0.heap.size ≤ gb388)); have n9_ := Aside0.mk ((by rw [hg]; exact Nat.ne_of_lt (blk_lt (g := gb373) (o := .cells #[.slice none 0 0] 26 (0, 0)) (bl BK373.out)) : gb373 ≠ gb388)); have n10_ := Aside0.mk ((by rw [hg]; exact Nat.ne_of_gt (blk_lt (g := gb373) (o := .cells #[.slice none 0 0] 26 (0, 0)) (bl BK373.out)) : gb388 ≠ gb373)); have n11_ := Aside0.mk ((by rw [hg]; exact Nat.ne_of_lt (IsS119.lt (show IsS119 w0 _ g s0_0 t383 t384 from i9 HI0.out)) : g ≠ gb388)); have n12_ := Aside0.mk ((by rw [hg]; exact Nat.ne_of_gt (IsS119.lt (show IsS119 w0 _ g s0_0 t383 t384 from i9 HI0.out)) : gb388 ≠ g)); clear HO382 HO387 HI0 BK373 HK HB; have HO382 := n0_; have HO387 := n1_; have HI0 := n2_; have BK373 := n3_; have HK := n4_; have HB := n5_; have BK388 := n6_; have GW388 := n7_; have GE388 := n8_; have NB373_388 := n9_; have NB388_373 := n10_; have NB0_388 := n11_; have NB388_0 := n12_; clear n0_ n1_ n2_ n3_ n4_ n5_ n6_ n7_ n8_ n9_ n10_ n11_ n12_ hb hbox hg; obtain ⟨Ao111, co111, eo111⟩ := Kd.R_slice HO387.out; subst eo111; have hnb112 := NB388_373.out; have hnc112 := NB373_388.out; have hnb113 := NB388_0.out; have hnc113 := NB0_388.out; have hcz114_0 : w110.cell? ⟨gb388, 0, none⟩ = some (.slice none 0 0) := (blk_cell BK388.out 0).trans rfl; have hfz114_0 := blk_frozen BK388.out 0; have hnb115 := NB373_0.out; have hnc115 := NB0_373.out; have hcz116_0 : w110.cell? ⟨gb373, 0, none⟩ = some (.slice none 0 0) := (blk_cell BK373.out 0).trans rfl; have hfz116_0 := blk_frozen BK373.out 0))
      refine bodyPost_ret (results_cell_row rfl _ _ gb373 26 #[.slice Ao111 t385.length co111] (0, 0) _ rfl (by (with_reducible repeat (first | refine blk_drewN ?_ _ | refine blk_drew ?_ | refine blk_alloc ?_ _)); refine blk_put (cs := #[.slice none 0 0]) ?_ 0 _ rfl; (with_reducible repeat (first | refine blk_drewN ?_ _ | refine blk_drew ?_ | refine blk_alloc ?_ _)); refine blk_far ?_ NB373_388.out _; exact bl BK373.out) Try.underlying26 rfl (by kernel_rfl)) rfl ?_
      exact ⟨_, by first | rfl | (simp [errW_none, errW_some] <;> rfl) | (simp [*, errW_none, errW_some] <;> rfl), by (with_reducible repeat (first | apply Kd.R_alloc | apply Kd.R_drewN | apply Kd.R_drew)); exact Kd.R_mono (Kd.R_far (p := ⟨gb373, 0, none⟩) (Kd.R_far (p := ⟨gb388, 0, none⟩) (Kd.R_types (Kd.R_types HO387.out BK388.out (by decide)) BK373.out (by decide)) (fun _ hk => hk.1.2) (.slice Ao111 t385.length co111)) (fun _ hk => hk.2) (.slice Ao111 t385.length co111)) (fun _ hk => trivial), i9 HI0.out, b9 HB.out, kp HK.out⟩

end Go.Proofs.Ytkckdibalopagaa.SFnTerms
