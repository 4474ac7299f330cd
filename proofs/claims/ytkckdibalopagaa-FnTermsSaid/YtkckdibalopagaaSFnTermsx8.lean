-- Began as a print of the kit over stubs (wip/stub.py); the sections that are named OWN are this session's.
import Derived.Test.YtkckdibalopagaaSFnTermsx0
import Derived.Test.YtkckdibalopagaaSFnTermsx2
import Derived.Test.YtkckdibalopagaaSFnTermsx4
import Derived.Test.YtkckdibalopagaaUBase
import Derived.Test.YtkckdibalopagaaUMapOnce
import Derived.RegionTactic
import Derived.BigRegion
import Derived.Carry
import Derived.DeepKeys4
import Derived.Test.YtkckdibalopagaaSFnTermsx7
import Derived.Test.YtkckdibalopagaaSFnTermsx3
import Derived.Test.YtkckdibalopagaaUShort
namespace Go.Proofs.Ytkckdibalopagaa.SFnTerms
open Go.RowKit Go.Proofs.YtkckdibalopagaaW.PrintWords Go.Proofs.YtkckdibalopagaaW.PrintLast Go.Proofs.YtkckdibalopagaaW.PrintMore Go.Proofs.Ytkckdibalopagaa.Short
attribute [local go_sem] max2_int min2_int max_two min_two max_three min_three max_four min_four   -- for this text's walks alone
set_option linter.unusedVariables false
set_option linter.unusedSimpArgs false

/-! ### impl_ReadVar: function 129 -/
mutual
def impl_ReadVar.l0 : Nat → ByteArray → Int → Int → Int → Option (Int × Int × Bool)
  | 0, _, _, _, _ => none
  | k + 1, x0, x1, x7, x8 => if x8 < 5 then (impl_ReadVar.j1 k x0 x1 x7 x8 (decide ((wrap64 (x1 + x8)) < (x0.size : Int)))) else (impl_ReadVar.j1 k x0 x1 x7 x8 false)
def impl_ReadVar.j1 : Nat → ByteArray → Int → Int → Int → Bool → Option (Int × Int × Bool)
  | 0, _, _, _, _, _ => none
  | k + 1, x0, x1, x7, x8, x24 => if x24 = true then (if 0 ≤ (wrap64 (x1 + x8)) then (if (wrap64 (x1 + x8)) < (x0.size : Int) then (if 0 ≤ (wrap64 (7 * x8)) then (if (wrap64 (bt x0 (wrap64 (x1 + x8)))) > 127 then (impl_ReadVar.l0 k x0 x1 (wrap64 (x7 + (shl .i64 (Int.tmod (wrap64 (bt x0 (wrap64 (x1 + x8)))) 128) (wrap64 (7 * x8))))) (wrap64 (x8 + 1))) else (if x8 > 0 then (if (wrap64 (bt x0 (wrap64 (x1 + x8)))) = 0 then (some (0, 0, false)) else (if (wrap64 (x7 + (shl .i64 (Int.tmod (wrap64 (bt x0 (wrap64 (x1 + x8)))) 128) (wrap64 (7 * x8))))) > 1000000000 then (some (0, 0, false)) else (some (wrap64 (x7 + (shl .i64 (Int.tmod (wrap64 (bt x0 (wrap64 (x1 + x8)))) 128) (wrap64 (7 * x8)))), wrap64 ((wrap64 (x1 + x8)) + 1), true)))) else (if (wrap64 (x7 + (shl .i64 (Int.tmod (wrap64 (bt x0 (wrap64 (x1 + x8)))) 128) (wrap64 (7 * x8))))) > 1000000000 then (some (0, 0, false)) else (some (wrap64 (x7 + (shl .i64 (Int.tmod (wrap64 (bt x0 (wrap64 (x1 + x8)))) 128) (wrap64 (7 * x8)))), wrap64 ((wrap64 (x1 + x8)) + 1), true))))) else (none)) else (none)) else (none)) else (some (0, 0, false))
end
def impl_ReadVar.f (k : Nat) (a0 : ByteArray) (a1 : Int) : Option (Int × Int × Bool) := (impl_within.f a1 0 (a0.size : Int)).bind fun t364 => (if t364 = true then (impl_ReadVar.l0 k a0 a1 0 0) else (some (0, 0, false)))
set_option maxHeartbeats 8000000 in
set_option maxRecDepth 100000 in
theorem impl_ReadVar.calls (k : Nat) (a0 : ByteArray) (a1 : Int) (r1 : Int) (r2 : Int) (r3 : Bool) (w : World) (h : impl_ReadVar.f k a0 a1 = some (r1, r2, r3)) :
  Calls Try.prog 129 #[.string a0, .int .i64 a1] w fun e w' => e = .returned (.tuple #[.int .i64 r1, .int .i64 r2, .bool r3]) ∧ Drawn0 w w' := by
 have H : ((impl_within.f a1 0 (a0.size : Int)).bind fun t364 => (if t364 = true then (impl_ReadVar.l0 k a0 a1 0 0) else (some (0, 0, false)))) = some (r1, r2, r3) := h
 clear h
 replace H := Option.bind_eq_some_iff.mp H
 obtain ⟨t364, A30, H⟩ := H
 replace H : (if t364 = true then (impl_ReadVar.l0 k a0 a1 0 0) else (some (0, 0, false))) = some (r1, r2, r3) := H
 have A3 := Aside0.mk A30
 clear A30
 by_cases c4 : t364 = true
 ·subst c4
  have H1 : (impl_ReadVar.l0 k a0 a1 0 0) = some (r1, r2, r3) := by rw [if_pos rfl] at H; exact H
  clear H
  have H := H1
  clear H1
  have H' := Aside0.mk H
  clear H
  go_enter Try.func129, Try.ntmps129
  go_wp2_with (first | ((with_reducible refine gate_callee (f := 75) rfl ?_); refine goesL_ (some 13) rfl rfl Try.func75 (by kernel_rfl) rfl #[.int .i64 a1, .int .i64 0, .int .i64 (a0.size : Int)] rfl ar ?_; (with_reducible refine (impl_within.calls a1 0 (a0.size : Int) true _ A3.out).mono ?_); rintro e w' ⟨rfl, ⟨nd, rfl⟩⟩; refine ⟨_, rfl, ?_⟩))
  go_loopg [7, 8] k (fun kq v7 v8 w' => ∃ (x7_1 : Int) (x8_1 : Int), v7 = .int .i64 x7_1 ∧ v8 = .int .i64 x8_1 ∧ Aside0 (impl_ReadVar.l0 kq a0 a1 x7_1 x8_1 = some (r1, r2, r3)) ∧ Aside0 (kq ≤ k) ∧ Drawn0 w w')
  case atStart => exact ⟨(0), (0), (by first | rfl | (simp; done) | (simp [*]; done)), (by first | rfl | (simp; done) | (simp [*]; done)), H', ⟨Nat.le_refl _⟩, by repeat (first | exact Drawn0.refl _ | apply Drawn0.step)⟩
  case round =>
   clear H'
   try clear c1
   try clear p2
   try clear c4
   obtain ⟨x7_1, x8_1, rfl, rfl, HA, HK1, ⟨m1, rfl⟩⟩ := hrel
   cases gk with
   | zero => exact absurd HA.out (by simp [impl_ReadVar.l0])
   | succ k1 =>
    have H := HA.out
    clear HA
    simp only [impl_ReadVar.l0] at H
    have HC5 := Aside0.mk H
    clear H
    go_upto_region 5 with (fail)
    go_cut [24] (fun v24 wc => ∃ (kq : Nat) (x24_4 : Bool), v24 = .bool x24_4 ∧ Aside0 (impl_ReadVar.j1 kq a0 a1 x7_1 x8_1 x24_4 = some (r1, r2, r3)) ∧ Aside0 (kq ≤ k1) ∧ Drawn0 w wc)
    case first =>
     have H := HC5.out
     clear HC5
     by_cases c6 : x8_1 < 5
     ·rw [if_pos c6] at H
      have c6b0 : decide (x8_1 < 5) = true := decide_eq_true c6
      clear c6
      (first | rw [c6b0] | (simp only [i64_w, i32_w]; rw [c6b0]) | skip)
      have H' := Aside0.mk H
      clear H
      go_wp2
      go_meet
      case rel => exact ⟨_, (decide ((wrap64 (a1 + x8_1)) < (a0.size : Int))), (by first | rfl | (simp; done) | (simp [*]; done)), H', ⟨by have := HK1.out; first | omega | exact Nat.le_refl _⟩, by repeat (first | exact Drawn0.refl _ | apply Drawn0.step)⟩
     ·rw [if_neg c6] at H
      have c6b0 : decide (x8_1 < 5) = false := decide_eq_false c6
      clear c6
      (first | rw [c6b0] | (simp only [i64_w, i32_w]; rw [c6b0]) | skip)
      have H' := Aside0.mk H
      clear H
      go_wp2
      go_meet
      case rel => exact ⟨_, (false), (by first | rfl | (simp; done) | (simp [*]; done)), H', ⟨by have := HK1.out; first | omega | exact Nat.le_refl _⟩, by repeat (first | exact Drawn0.refl _ | apply Drawn0.step)⟩
    case rest =>
     clear HC5
     try clear c1
     try clear p2
     try clear c4
     try clear c6
     try clear c6b0
     try clear p6
     try clear p2
     obtain ⟨kq, x24_4, rfl, HA, HJ4, ⟨mc4, rfl⟩⟩ := hcut
     cases kq with
     | zero => exact absurd HA.out (by simp [impl_ReadVar.j1])
     | succ kj4 =>
      have H := HA.out
      clear HA
      simp only [impl_ReadVar.j1] at H
      by_cases c7 : x24_4 = true
      ·subst c7
       have H1 : (if 0 ≤ (wrap64 (a1 + x8_1)) then (if (wrap64 (a1 + x8_1)) < (a0.size : Int) then (if 0 ≤ (wrap64 (7 * x8_1)) then (if (wrap64 (bt a0 (wrap64 (a1 + x8_1)))) > 127 then (impl_ReadVar.l0 kj4 a0 a1 (wrap64 (x7_1 + (shl .i64 (Int.tmod (wrap64 (bt a0 (wrap64 (a1 + x8_1)))) 128) (wrap64 (7 * x8_1))))) (wrap64 (x8_1 + 1))) else (if x8_1 > 0 then (if (wrap64 (bt a0 (wrap64 (a1 + x8_1)))) = 0 then (some (0, 0, false)) else (if (wrap64 (x7_1 + (shl .i64 (Int.tmod (wrap64 (bt a0 (wrap64 (a1 + x8_1)))) 128) (wrap64 (7 * x8_1))))) > 1000000000 then (some (0, 0, false)) else (some (wrap64 (x7_1 + (shl .i64 (Int.tmod (wrap64 (bt a0 (wrap64 (a1 + x8_1)))) 128) (wrap64 (7 * x8_1)))), wrap64 ((wrap64 (a1 + x8_1)) + 1), true)))) else (if (wrap64 (x7_1 + (shl .i64 (Int.tmod (wrap64 (bt a0 (wrap64 (a1 + x8_1)))) 128) (wrap64 (7 * x8_1))))) > 1000000000 then (some (0, 0, false)) else (some (wrap64 (x7_1 + (shl .i64 (Int.tmod (wrap64 (bt a0 (wrap64 (a1 + x8_1)))) 128) (wrap64 (7 * x8_1)))), wrap64 ((wrap64 (a1 + x8_1)) + 1), true))))) else (none)) else (none)) else (none)) = some (r1, r2, r3) := by rw [if_pos rfl] at H; exact H
       clear H
       have H := H1
       clear H1
       obtain ⟨ji8, hji8⟩ : ∃ j_ : Int, (wrap64 (a1 + x8_1)) = j_ := ⟨_, rfl⟩
       replace H : (if 0 ≤ (ji8) then (if (ji8) < (a0.size : Int) then (if 0 ≤ (wrap64 (7 * x8_1)) then (if (wrap64 (bt a0 (ji8))) > 127 then (impl_ReadVar.l0 kj4 a0 a1 (wrap64 (x7_1 + (shl .i64 (Int.tmod (wrap64 (bt a0 (ji8))) 128) (wrap64 (7 * x8_1))))) (wrap64 (x8_1 + 1))) else (if x8_1 > 0 then (if (wrap64 (bt a0 (ji8))) = 0 then (some (0, 0, false)) else (if (wrap64 (x7_1 + (shl .i64 (Int.tmod (wrap64 (bt a0 (ji8))) 128) (wrap64 (7 * x8_1))))) > 1000000000 then (some (0, 0, false)) else (some (wrap64 (x7_1 + (shl .i64 (Int.tmod (wrap64 (bt a0 (ji8))) 128) (wrap64 (7 * x8_1)))), wrap64 ((ji8) + 1), true)))) else (if (wrap64 (x7_1 + (shl .i64 (Int.tmod (wrap64 (bt a0 (ji8))) 128) (wrap64 (7 * x8_1))))) > 1000000000 then (some (0, 0, false)) else (some (wrap64 (x7_1 + (shl .i64 (Int.tmod (wrap64 (bt a0 (ji8))) 128) (wrap64 (7 * x8_1)))), wrap64 ((ji8) + 1), true))))) else (none)) else (none)) else (none)) = some (r1, r2, r3) := by first | (rw [hji8] at H; exact H) | (simp only [hji8] at H ⊢; exact H)
       have hji8w : (IntKind.i64.wrap (a1 + x8_1)) = ji8 := (i64_w _).trans hji8
       by_cases c9 : 0 ≤ (ji8)
       ·rw [if_pos c9] at H
        have c9b0 : decide (0 ≤ (ji8)) = true := decide_eq_true c9
        clear c9
        by_cases c10 : (ji8) < (a0.size : Int)
        ·rw [if_pos c10] at H
         have c10b0 : decide ((ji8) < (a0.size : Int)) = true := decide_eq_true c10
         clear c10
         obtain ⟨ji12, hji12⟩ : ∃ j_ : Int, (wrap64 (7 * x8_1)) = j_ := ⟨_, rfl⟩
         replace H : (if 0 ≤ (ji12) then (if (wrap64 (bt a0 (ji8))) > 127 then (impl_ReadVar.l0 kj4 a0 a1 (wrap64 (x7_1 + (shl .i64 (Int.tmod (wrap64 (bt a0 (ji8))) 128) (ji12)))) (wrap64 (x8_1 + 1))) else (if x8_1 > 0 then (if (wrap64 (bt a0 (ji8))) = 0 then (some (0, 0, false)) else (if (wrap64 (x7_1 + (shl .i64 (Int.tmod (wrap64 (bt a0 (ji8))) 128) (ji12)))) > 1000000000 then (some (0, 0, false)) else (some (wrap64 (x7_1 + (shl .i64 (Int.tmod (wrap64 (bt a0 (ji8))) 128) (ji12))), wrap64 ((ji8) + 1), true)))) else (if (wrap64 (x7_1 + (shl .i64 (Int.tmod (wrap64 (bt a0 (ji8))) 128) (ji12)))) > 1000000000 then (some (0, 0, false)) else (some (wrap64 (x7_1 + (shl .i64 (Int.tmod (wrap64 (bt a0 (ji8))) 128) (ji12))), wrap64 ((ji8) + 1), true))))) else (none)) = some (r1, r2, r3) := by first | (rw [hji12] at H; exact H) | (simp only [hji12] at H ⊢; exact H)
         have hji12w : (IntKind.i64.wrap (7 * x8_1)) = ji12 := (i64_w _).trans hji12
         by_cases c13 : 0 ≤ (ji12)
         ·rw [if_pos c13] at H
          have c13b0 := eq_true c13
          have c13b1 : decide (0 ≤ (ji12)) = true := decide_eq_true c13
          clear c13
          obtain ⟨ji14, hji14⟩ : ∃ j_ : Int, (shl .i64 (Int.tmod (wrap64 (bt a0 (ji8))) 128) (ji12)) = j_ := ⟨_, rfl⟩
          replace H : (if (wrap64 (bt a0 (ji8))) > 127 then (impl_ReadVar.l0 kj4 a0 a1 (wrap64 (x7_1 + (ji14))) (wrap64 (x8_1 + 1))) else (if x8_1 > 0 then (if (wrap64 (bt a0 (ji8))) = 0 then (some (0, 0, false)) else (if (wrap64 (x7_1 + (ji14))) > 1000000000 then (some (0, 0, false)) else (some (wrap64 (x7_1 + (ji14)), wrap64 ((ji8) + 1), true)))) else (if (wrap64 (x7_1 + (ji14))) > 1000000000 then (some (0, 0, false)) else (some (wrap64 (x7_1 + (ji14)), wrap64 ((ji8) + 1), true))))) = some (r1, r2, r3) := by first | (rw [hji14] at H; exact H) | (simp only [hji14] at H ⊢; exact H)
          have hji14_ : (IntKind.i64.wrap ((Int.tmod (wrap64 (bt a0 (ji8))) 128) * 2 ^ min (ji12).toNat 64)) = ji14 := hji14
          have hji14z : (ji12) ≤ 64 → (IntKind.i64.wrap ((Int.tmod (wrap64 (bt a0 (ji8))) 128) * 2 ^ (ji12).toNat)) = ji14 := shl_small hji14
          have hji14y : (wrap64 ((Int.tmod (wrap64 (bt a0 (ji8))) 128) * 2 ^ min (ji12).toNat 64)) = ji14 := (i64_w _).symm.trans hji14_
          have hji14x : (ji12) ≤ 64 → (wrap64 ((Int.tmod (wrap64 (bt a0 (ji8))) 128) * 2 ^ (ji12).toNat)) = ji14 := fun h_ => (i64_w _).symm.trans (hji14z h_)
          by_cases c15 : (wrap64 (bt a0 (ji8))) > 127
          ·rw [if_pos c15] at H
           have c15b0 : decide (127 < (wrap64 (bt a0 (ji8)))) = true := decide_eq_true c15
           clear c15
           have H' := Aside0.mk H
           clear H
           have p11 : 0 ≤ ((ji8) : Int) := oda
           have q11 : (ji8) < (a0.size : Int) := oda
           have hx11 := bt_at a0 (ji8)
           replace p11 := eq_true p11
           replace q11 := eq_true q11
           go_wp2
           go_roundg kj4
           case measure => have := HK1.out; have := HJ4.out; omega
           case rel => exact ⟨(wrap64 (x7_1 + (ji14))), (wrap64 (x8_1 + 1)), (by first | rfl | (simp; done) | (simp only [← hji14] <;> (first | rfl | simp)) | (simp [*]; done)), (by first | rfl | (simp; done) | (simp [*]; done)), H', ⟨by have := HK1.out; have := HJ4.out; omega⟩, by repeat (first | exact Drawn0.refl _ | apply Drawn0.step)⟩
          ·rw [if_neg c15] at H
           have c15b0 : decide (127 < (wrap64 (bt a0 (ji8)))) = false := decide_eq_false c15
           clear c15
           by_cases c16 : x8_1 > 0
           ·rw [if_pos c16] at H
            have c16b0 : decide (0 < x8_1) = true := decide_eq_true c16
            clear c16
            by_cases c17 : (wrap64 (bt a0 (ji8))) = 0
            ·rw [if_pos c17] at H
             have c17b0 : ((wrap64 (bt a0 (ji8))) == 0) = true := beq_iff_eq.mpr c17
             have c17b1 : ((wrap64 (bt a0 (ji8))) != 0) = false := bne_eq_false_iff_eq.mpr c17
             clear c17
             simp only [Option.some.injEq, Prod.mk.injEq] at H
             obtain ⟨rfl, rfl, rfl⟩ := H
             have p11 : 0 ≤ ((ji8) : Int) := oda
             have q11 : (ji8) < (a0.size : Int) := oda
             have hx11 := bt_at a0 (ji8)
             replace p11 := eq_true p11
             replace q11 := eq_true q11
             go_wp2
             go_ret3
             exact ⟨by first | rfl | (simp; done) | (simp only [← hji8, ← hji12, ← hji14] <;> (first | rfl | simp)) | (simp [*]; done), by repeat (first | exact Drawn0.refl _ | apply Drawn0.step)⟩
            ·rw [if_neg c17] at H
             have c17b0 : ((wrap64 (bt a0 (ji8))) == 0) = false := beq_eq_false_iff_ne.mpr c17
             have c17b1 : ((wrap64 (bt a0 (ji8))) != 0) = true := bne_iff_ne.mpr c17
             by_cases c18 : (wrap64 (x7_1 + (ji14))) > 1000000000
             ·rw [if_pos c18] at H
              have c18b0 : decide (1000000000 < (wrap64 (x7_1 + (ji14)))) = true := decide_eq_true c18
              clear c18
              simp only [Option.some.injEq, Prod.mk.injEq] at H
              obtain ⟨rfl, rfl, rfl⟩ := H
              have p11 : 0 ≤ ((ji8) : Int) := oda
              have q11 : (ji8) < (a0.size : Int) := oda
              have hx11 := bt_at a0 (ji8)
              replace p11 := eq_true p11
              replace q11 := eq_true q11
              go_wp2
              go_ret3
              exact ⟨by first | rfl | (simp; done) | (simp only [← hji8, ← hji12, ← hji14] <;> (first | rfl | simp)) | (simp [*]; done), by repeat (first | exact Drawn0.refl _ | apply Drawn0.step)⟩
             ·rw [if_neg c18] at H
              have c18b0 : decide (1000000000 < (wrap64 (x7_1 + (ji14)))) = false := decide_eq_false c18
              clear c18
              simp only [Option.some.injEq, Prod.mk.injEq] at H
              obtain ⟨rfl, rfl, rfl⟩ := H
              have p11 : 0 ≤ ((ji8) : Int) := oda
              have q11 : (ji8) < (a0.size : Int) := oda
              have hx11 := bt_at a0 (ji8)
              replace p11 := eq_true p11
              replace q11 := eq_true q11
              go_wp2
              go_ret3
              exact ⟨by first | rfl | (simp; done) | (simp only [← hji8, ← hji12, ← hji14] <;> (first | rfl | simp)) | (simp [*]; done), by repeat (first | exact Drawn0.refl _ | apply Drawn0.step)⟩
           ·rw [if_neg c16] at H
            have c16b0 : decide (0 < x8_1) = false := decide_eq_false c16
            clear c16
            by_cases c19 : (wrap64 (x7_1 + (ji14))) > 1000000000
            ·rw [if_pos c19] at H
             have c19b0 : decide (1000000000 < (wrap64 (x7_1 + (ji14)))) = true := decide_eq_true c19
             clear c19
             simp only [Option.some.injEq, Prod.mk.injEq] at H
             obtain ⟨rfl, rfl, rfl⟩ := H
             have p11 : 0 ≤ ((ji8) : Int) := oda
             have q11 : (ji8) < (a0.size : Int) := oda
             have hx11 := bt_at a0 (ji8)
             replace p11 := eq_true p11
             replace q11 := eq_true q11
             go_wp2
             go_ret3
             exact ⟨by first | rfl | (simp; done) | (simp only [← hji8, ← hji12, ← hji14] <;> (first | rfl | simp)) | (simp [*]; done), by repeat (first | exact Drawn0.refl _ | apply Drawn0.step)⟩
            ·rw [if_neg c19] at H
             have c19b0 : decide (1000000000 < (wrap64 (x7_1 + (ji14)))) = false := decide_eq_false c19
             clear c19
             simp only [Option.some.injEq, Prod.mk.injEq] at H
             obtain ⟨rfl, rfl, rfl⟩ := H
             have p11 : 0 ≤ ((ji8) : Int) := oda
             have q11 : (ji8) < (a0.size : Int) := oda
             have hx11 := bt_at a0 (ji8)
             replace p11 := eq_true p11
             replace q11 := eq_true q11
             go_wp2
             go_ret3
             exact ⟨by first | rfl | (simp; done) | (simp only [← hji8, ← hji12, ← hji14] <;> (first | rfl | simp)) | (simp [*]; done), by repeat (first | exact Drawn0.refl _ | apply Drawn0.step)⟩
         ·rw [if_neg c13] at H
          exact absurd H (by simp)
        ·rw [if_neg c10] at H
         exact absurd H (by simp)
       ·rw [if_neg c9] at H
        exact absurd H (by simp)
      ·replace c7 := Bool.eq_false_iff.mpr c7
       subst c7
       have H1 : (some (0, 0, false)) = some (r1, r2, r3) := by rw [if_neg (show ¬ (false = true) by decide)] at H; exact H
       clear H
       have H := H1
       clear H1
       simp only [Option.some.injEq, Prod.mk.injEq] at H
       obtain ⟨rfl, rfl, rfl⟩ := H
       go_wp2
       go_ret3
       exact ⟨by first | rfl | (simp; done) | (simp [*]; done), by repeat (first | exact Drawn0.refl _ | apply Drawn0.step)⟩
 ·replace c4 := Bool.eq_false_iff.mpr c4
  subst c4
  have H1 : (some (0, 0, false)) = some (r1, r2, r3) := by rw [if_neg (show ¬ (false = true) by decide)] at H; exact H
  clear H
  have H := H1
  clear H1
  simp only [Option.some.injEq, Prod.mk.injEq] at H
  obtain ⟨rfl, rfl, rfl⟩ := H
  go_enter Try.func129, Try.ntmps129
  go_wp2_with (first | ((with_reducible refine gate_callee (f := 75) rfl ?_); refine goesL_ (some 13) rfl rfl Try.func75 (by kernel_rfl) rfl #[.int .i64 a1, .int .i64 0, .int .i64 (a0.size : Int)] rfl ar ?_; (with_reducible refine (impl_within.calls a1 0 (a0.size : Int) false _ A3.out).mono ?_); rintro e w' ⟨rfl, ⟨nd, rfl⟩⟩; refine ⟨_, rfl, ?_⟩))
  go_ret3
  exact ⟨by first | rfl | (simp; done) | (simp [*]; done), by repeat (first | exact Drawn0.refl _ | apply Drawn0.step)⟩

/-- A state of type 115 at block g of W; what its slices lead to came in by w0. -/
def IsS115 (w0 W : World) (g : Nat) (f0 : ByteArray) (f1 : Int) (f2 : Int) (f3 : Bool) : Prop := W.heap[g]? = some (.cells #[.string f0, .int .i64 f1, .int .i64 f2, .bool f3] 115 (0, 0)) ∧ w0.heap.size ≤ g
theorem IsS115.grown {w0 W : World} {g : Nat} {f0 : ByteArray} {f1 : Int} {f2 : Int} {f3 : Bool} {W1 : World} {row : Option Nat} (h : IsS115 w0 W g f0 f1 f2 f3) (hw : W.grownBy W1 row) (hne : some g ≠ row) : IsS115 w0 W1 g f0 f1 f2 f3 := by
 obtain ⟨hb, hg⟩ := h
 exact ⟨blk_grown hb hw hne, hg⟩
theorem IsS115.kept {w0 W : World} {g : Nat} {f0 : ByteArray} {f1 : Int} {f2 : Int} {f3 : Bool} {W1 : World} {S : Nat → Prop} (h : IsS115 w0 W g f0 f1 f2 f3) (hk : Kept W W1 S) (hne : ¬ S g) : IsS115 w0 W1 g f0 f1 f2 f3 := by
 obtain ⟨hb, hg⟩ := h
 exact ⟨blk_kept hb hk hne, hg⟩
theorem IsS115.below {w0 W : World} {g : Nat} {f0 : ByteArray} {f1 : Int} {f2 : Int} {f3 : Bool} {W1 : World} (h : IsS115 w0 W g f0 f1 f2 f3) (hw : Below W.heap.size W W1) : IsS115 w0 W1 g f0 f1 f2 f3 := h.grown (grown_of_below hw none) (by simp)
theorem IsS115.alloc {w0 W : World} {g : Nat} {f0 : ByteArray} {f1 : Int} {f2 : Int} {f3 : Bool} (h : IsS115 w0 W g f0 f1 f2 f3) (o : Obj) : IsS115 w0 (W.alloc o) g f0 f1 f2 f3 := h.below (below_alloc (Below.refl _ _) o)
theorem IsS115.drewN {w0 W : World} {g : Nat} {f0 : ByteArray} {f1 : Int} {f2 : Int} {f3 : Bool} (h : IsS115 w0 W g f0 f1 f2 f3) (m : Nat) : IsS115 w0 (W.drewN m) g f0 f1 f2 f3 := h
theorem IsS115.drew {w0 W : World} {g : Nat} {f0 : ByteArray} {f1 : Int} {f2 : Int} {f3 : Bool} (h : IsS115 w0 W g f0 f1 f2 f3) : IsS115 w0 W.drew g f0 f1 f2 f3 := h
theorem IsS115.at_ {w0 W : World} {g : Nat} {f0 : ByteArray} {f1 : Int} {f2 : Int} {f3 : Bool} {w' : World} {m : Nat} (hq : W.drewN m = w') (h : IsS115 w0 W g f0 f1 f2 f3) : IsS115 w0 w' g f0 f1 f2 f3 := by subst hq; exact IsS115.drewN h m
theorem IsS115.apart {w0 W : World} {g : Nat} {f0 : ByteArray} {f1 : Int} {f2 : Int} {f3 : Bool} {α : Type} {d : Kd α} {e : Nat} {base : Nat} {ok : Nat → Prop} {v : Value} {xs : List α} (h : IsS115 w0 W g f0 f1 f2 f3) (ho : d.R e W base ok v xs) (ht : ∀ q, q ∈ e :: d.E → q ≠ 115) : d.R e W base (fun k => ok k ∧ k ≠ g) v xs := by
 obtain ⟨hb, hg⟩ := h
 exact Kd.R_types ho hb ht
theorem IsS115.own_ne {w0 W : World} {g : Nat} {f0 : ByteArray} {f1 : Int} {f2 : Int} {f3 : Bool} {α : Type} {d : Kd α} {e : Nat} {base : Nat} {ok : Nat → Prop} {v : Value} {xs : List α} (h : IsS115 w0 W g f0 f1 f2 f3) (ho : d.R e W base ok v xs) (ht : e ≠ 115) : some g ≠ v.ownBlock := by
 obtain ⟨hb, hg⟩ := h
 exact Kd.R_ne ho hb ht
theorem IsS115.lt {w0 W : World} {g : Nat} {f0 : ByteArray} {f1 : Int} {f2 : Int} {f3 : Bool} (h : IsS115 w0 W g f0 f1 f2 f3) : g < W.heap.size := by
 obtain ⟨hb, hg⟩ := h
 exact blk_lt hb
theorem IsS115.ge {w0 W : World} {g : Nat} {f0 : ByteArray} {f1 : Int} {f2 : Int} {f3 : Bool} (h : IsS115 w0 W g f0 f1 f2 f3) : w0.heap.size ≤ g := by
 obtain ⟨hb, hg⟩ := h
 exact hg
theorem IsS115.ne_blk {w0 W : World} {g : Nat} {f0 : ByteArray} {f1 : Int} {f2 : Int} {f3 : Bool} {a : Nat} {cs : Array Value} {t : TypeId} {fr : Nat × Nat} (h : IsS115 w0 W g f0 f1 f2 f3) (hb2 : W.heap[a]? = some (.cells cs t fr)) (ht : t ≠ 115) : g ≠ a := by
 obtain ⟨hb, hg⟩ := h
 rintro rfl
 rw [hb] at hb2
 injection hb2 with hb2
 injection hb2 with _ ht2
 exact ht ht2.symm
theorem IsS115.far {w0 W : World} {g : Nat} {f0 : ByteArray} {f1 : Int} {f2 : Int} {f3 : Bool} {p : Addr} (h : IsS115 w0 W g f0 f1 f2 f3) (hne : g ≠ p.block) (u : Value) : IsS115 w0 (W.setCell p u) g f0 f1 f2 f3 := by
 obtain ⟨hb, hg⟩ := h
 exact ⟨blk_far hb hne u, hg⟩
theorem cellS115_0 {W : World} {g : Nat} {f0 : ByteArray} {f1 : Int} {f2 : Int} {f3 : Bool} (h : W.heap[g]? = some (.cells #[.string f0, .int .i64 f1, .int .i64 f2, .bool f3] 115 (0, 0))) : W.cell? ⟨g, 0, none⟩ = some (.string f0) := (blk_cell h 0).trans rfl
theorem IsS115.set_0 {w0 W : World} {g : Nat} {f0 : ByteArray} {f1 : Int} {f2 : Int} {f3 : Bool} (h : IsS115 w0 W g f0 f1 f2 f3) (x : ByteArray) : IsS115 w0 (W.setCell ⟨g, 0, none⟩ (.string x)) g x f1 f2 f3 := by
 obtain ⟨hb, hg⟩ := h
 exact ⟨by simpa using blk_set hb 0 (.string x), hg⟩
theorem cellS115_1 {W : World} {g : Nat} {f0 : ByteArray} {f1 : Int} {f2 : Int} {f3 : Bool} (h : W.heap[g]? = some (.cells #[.string f0, .int .i64 f1, .int .i64 f2, .bool f3] 115 (0, 0))) : W.cell? ⟨g, 1, none⟩ = some (.int .i64 f1) := (blk_cell h 1).trans rfl
theorem IsS115.set_1 {w0 W : World} {g : Nat} {f0 : ByteArray} {f1 : Int} {f2 : Int} {f3 : Bool} (h : IsS115 w0 W g f0 f1 f2 f3) (x : Int) : IsS115 w0 (W.setCell ⟨g, 1, none⟩ (.int .i64 x)) g f0 x f2 f3 := by
 obtain ⟨hb, hg⟩ := h
 exact ⟨by simpa using blk_set hb 1 (.int .i64 x), hg⟩
theorem cellS115_2 {W : World} {g : Nat} {f0 : ByteArray} {f1 : Int} {f2 : Int} {f3 : Bool} (h : W.heap[g]? = some (.cells #[.string f0, .int .i64 f1, .int .i64 f2, .bool f3] 115 (0, 0))) : W.cell? ⟨g, 2, none⟩ = some (.int .i64 f2) := (blk_cell h 2).trans rfl
theorem IsS115.set_2 {w0 W : World} {g : Nat} {f0 : ByteArray} {f1 : Int} {f2 : Int} {f3 : Bool} (h : IsS115 w0 W g f0 f1 f2 f3) (x : Int) : IsS115 w0 (W.setCell ⟨g, 2, none⟩ (.int .i64 x)) g f0 f1 x f3 := by
 obtain ⟨hb, hg⟩ := h
 exact ⟨by simpa using blk_set hb 2 (.int .i64 x), hg⟩
theorem cellS115_3 {W : World} {g : Nat} {f0 : ByteArray} {f1 : Int} {f2 : Int} {f3 : Bool} (h : W.heap[g]? = some (.cells #[.string f0, .int .i64 f1, .int .i64 f2, .bool f3] 115 (0, 0))) : W.cell? ⟨g, 3, none⟩ = some (.bool f3) := (blk_cell h 3).trans rfl
theorem IsS115.set_3 {w0 W : World} {g : Nat} {f0 : ByteArray} {f1 : Int} {f2 : Int} {f3 : Bool} (h : IsS115 w0 W g f0 f1 f2 f3) (x : Bool) : IsS115 w0 (W.setCell ⟨g, 3, none⟩ (.bool x)) g f0 f1 f2 x := by
 obtain ⟨hb, hg⟩ := h
 exact ⟨by simpa using blk_set hb 3 (.bool x), hg⟩
theorem IsS115.new (w0 W : World) (f0 : ByteArray) (f1 : Int) (f2 : Int) (f3 : Bool) (hB : Below w0.heap.size w0 W) : IsS115 w0 (W.alloc (.cells #[.string f0, .int .i64 f1, .int .i64 f2, .bool f3] 115)) W.heap.size f0 f1 f2 f3 := ⟨by simpa using heap_alloc_new W _, hB.size⟩

/-! ### impl_scan_number: OWN: function 127 -/
def impl_scan_number.f (k : Nat) (s0_0 : ByteArray) (s0_1 : Int) (s0_2 : Int) (s0_3 : Bool) : Option (Int × ByteArray × Int × Int × Bool) := (impl_ReadVar.f k s0_0 s0_1).bind fun bt365 => (if s0_3 = true then (some (0, s0_0, s0_1, s0_2, true)) else (if bt365.2.2 = true then (some (bt365.1, s0_0, bt365.2.1, s0_2, s0_3)) else (some (0, s0_0, s0_1, s0_2, true))))
set_option maxHeartbeats 8000000 in
set_option maxRecDepth 100000 in
theorem impl_scan_number.calls (k : Nat) (g : Nat) (s0_0 : ByteArray) (s0_1 : Int) (s0_2 : Int) (s0_3 : Bool) (r1 : Int) (r2 : ByteArray) (r3 : Int) (r4 : Int) (r5 : Bool) (w0 w : World) (hI : IsS115 w0 w g s0_0 s0_1 s0_2 s0_3) (hB : Below w0.heap.size w0 w) (h : impl_scan_number.f k s0_0 s0_1 s0_2 s0_3 = some (r1, r2, r3, r4, r5)) :
  Calls Try.prog 127 #[.pointer (some ⟨g, 0, none⟩)] w fun e w' => e = .returned (.int .i64 r1) ∧ IsS115 w0 w' g r2 r3 r4 r5 ∧ Below w0.heap.size w0 w' ∧ KeepBut w w' g none := by
 have HI0 := Aside0.mk hI
 have HK := Aside0.mk (KeepBut.refl w g none)
 have HL := Aside0.mk hB.size
 clear hI
 have HW0 := Aside0.mk hB.size
 have HB := Aside0.mk hB
 clear hB
 have H : ((impl_ReadVar.f k s0_0 s0_1).bind fun bt365 => (if s0_3 = true then (some (0, s0_0, s0_1, s0_2, true)) else (if bt365.2.2 = true then (some (bt365.1, s0_0, bt365.2.1, s0_2, s0_3)) else (some (0, s0_0, s0_1, s0_2, true))))) = some (r1, r2, r3, r4, r5) := h
 clear h
 replace H := Option.bind_eq_some_iff.mp H
 obtain ⟨⟨t365, t366, t367⟩, A20, H⟩ := H
 replace H : (if s0_3 = true then (some (0, s0_0, s0_1, s0_2, true)) else (if t367 = true then (some (t365, s0_0, t366, s0_2, s0_3)) else (some (0, s0_0, s0_1, s0_2, true)))) = some (r1, r2, r3, r4, r5) := H
 have A2 := Aside0.mk A20
 clear A20
 by_cases c3 : s0_3 = true
 ·subst c3
  have H1 : (some (0, s0_0, s0_1, s0_2, true)) = some (r1, r2, r3, r4, r5) := by rw [if_pos rfl] at H; exact H
  clear H
  have H := H1
  clear H1
  simp only [Option.some.injEq, Prod.mk.injEq] at H
  obtain ⟨rfl, rfl, rfl, rfl, rfl⟩ := H
  obtain ⟨HGz4, hgz4⟩ := HI0.out
  have hcz4_0 := cellS115_0 HGz4
  have hcz4_1 := cellS115_1 HGz4
  have hcz4_2 := cellS115_2 HGz4
  have hcz4_3 := cellS115_3 HGz4
  have hfz4_0 := blk_frozen HGz4 0
  have hfz4_1 := blk_frozen HGz4 1
  have hfz4_2 := blk_frozen HGz4 2
  have hfz4_3 := blk_frozen HGz4 3
  clear HGz4 hgz4
  go_enter Try.func127, Try.ntmps127
  go_wp2
  repeat (go_quiet (first | (go_at_call 129; (with_reducible refine (impl_ReadVar.calls k s0_0 s0_1 t365 t366 t367 _ A2.out).mono ?_); rintro e w' ⟨rfl, ⟨nd, rfl⟩⟩; (try first | exact ⟨rfl, _, World.drewN_drewN _ _ _⟩ | exact ⟨rfl, _, Eq.trans (World.drewN_drewN _ _ _) (congrArg (World.drewN _) (Nat.add_assoc _ _ _))⟩))); try go_wp2)
  go_ret
  exact ⟨by first | rfl | (simp [errW_none, errW_some] <;> rfl) | (simp [*, errW_none, errW_some] <;> rfl), by repeat (first | (with_reducible first | exact HI0.out | apply IsS115.alloc | apply IsS115.drewN | apply IsS115.drew | apply IsS115.set_0 | apply IsS115.set_1 | apply IsS115.set_2 | apply IsS115.set_3) | exact HI0.out), by repeat (first | (with_reducible first | exact HB.out | apply below_alloc | apply pw_below_drewN | apply below_drew1 | refine below_set ?_ (IsS115.ge HI0.out)) | exact HB.out), kp HK.out⟩
 ·replace c3 := Bool.eq_false_iff.mpr c3
  subst c3
  have H1 : (if t367 = true then (some (t365, s0_0, t366, s0_2, false)) else (some (0, s0_0, s0_1, s0_2, true))) = some (r1, r2, r3, r4, r5) := by rw [if_neg (show ¬ (false = true) by decide)] at H; exact H
  clear H
  have H := H1
  clear H1
  by_cases c5 : t367 = true
  ·subst c5
   have H1 : (some (t365, s0_0, t366, s0_2, false)) = some (r1, r2, r3, r4, r5) := by rw [if_pos rfl] at H; exact H
   clear H
   have H := H1
   clear H1
   simp only [Option.some.injEq, Prod.mk.injEq] at H
   obtain ⟨rfl, rfl, rfl, rfl, rfl⟩ := H
   obtain ⟨HGz6, hgz6⟩ := HI0.out
   have hcz6_0 := cellS115_0 HGz6
   have hcz6_1 := cellS115_1 HGz6
   have hcz6_2 := cellS115_2 HGz6
   have hcz6_3 := cellS115_3 HGz6
   have hfz6_0 := blk_frozen HGz6 0
   have hfz6_1 := blk_frozen HGz6 1
   have hfz6_2 := blk_frozen HGz6 2
   have hfz6_3 := blk_frozen HGz6 3
   clear HGz6 hgz6
   go_enter Try.func127, Try.ntmps127
   go_wp2
   repeat (go_quiet (first | (go_at_call 129; (with_reducible refine (impl_ReadVar.calls k s0_0 s0_1 t365 t366 true _ A2.out).mono ?_); rintro e w' ⟨rfl, ⟨nd, rfl⟩⟩; (try first | exact ⟨rfl, _, World.drewN_drewN _ _ _⟩ | exact ⟨rfl, _, Eq.trans (World.drewN_drewN _ _ _) (congrArg (World.drewN _) (Nat.add_assoc _ _ _))⟩))); try go_wp2)
   go_ret
   exact ⟨by first | rfl | (simp [errW_none, errW_some] <;> rfl) | (simp [*, errW_none, errW_some] <;> rfl), by repeat (first | (with_reducible first | exact HI0.out | apply IsS115.alloc | apply IsS115.drewN | apply IsS115.drew | apply IsS115.set_0 | apply IsS115.set_1 | apply IsS115.set_2 | apply IsS115.set_3) | exact HI0.out), by repeat (first | (with_reducible first | exact HB.out | apply below_alloc | apply pw_below_drewN | apply below_drew1 | refine below_set ?_ (IsS115.ge HI0.out)) | exact HB.out), kp HK.out⟩
  ·replace c5 := Bool.eq_false_iff.mpr c5
   subst c5
   have H1 : (some (0, s0_0, s0_1, s0_2, true)) = some (r1, r2, r3, r4, r5) := by rw [if_neg (show ¬ (false = true) by decide)] at H; exact H
   clear H
   have H := H1
   clear H1
   simp only [Option.some.injEq, Prod.mk.injEq] at H
   obtain ⟨rfl, rfl, rfl, rfl, rfl⟩ := H
   obtain ⟨HGz7, hgz7⟩ := HI0.out
   have hcz7_0 := cellS115_0 HGz7
   have hcz7_1 := cellS115_1 HGz7
   have hcz7_2 := cellS115_2 HGz7
   have hcz7_3 := cellS115_3 HGz7
   have hfz7_0 := blk_frozen HGz7 0
   have hfz7_1 := blk_frozen HGz7 1
   have hfz7_2 := blk_frozen HGz7 2
   have hfz7_3 := blk_frozen HGz7 3
   clear HGz7 hgz7
   go_enter Try.func127, Try.ntmps127
   go_wp2
   repeat (go_quiet (first | (go_at_call 129; (with_reducible refine (impl_ReadVar.calls k s0_0 s0_1 t365 t366 false _ A2.out).mono ?_); rintro e w' ⟨rfl, ⟨nd, rfl⟩⟩; (try first | exact ⟨rfl, _, World.drewN_drewN _ _ _⟩ | exact ⟨rfl, _, Eq.trans (World.drewN_drewN _ _ _) (congrArg (World.drewN _) (Nat.add_assoc _ _ _))⟩))); try go_wp2)
   go_ret
   exact ⟨by first | rfl | (simp [errW_none, errW_some] <;> rfl) | (simp [*, errW_none, errW_some] <;> rfl), by repeat (first | (with_reducible first | exact HI0.out | apply IsS115.alloc | apply IsS115.drewN | apply IsS115.drew | apply IsS115.set_0 | apply IsS115.set_1 | apply IsS115.set_2 | apply IsS115.set_3) | exact HI0.out), by repeat (first | (with_reducible first | exact HB.out | apply below_alloc | apply pw_below_drewN | apply below_drew1 | refine below_set ?_ (IsS115.ge HI0.out)) | exact HB.out), kp HK.out⟩

-- NOT PRINTED: function 115 (impl_scan_term)

namespace Hand
open Go.Proofs.Ytkckdibalopagaa.Base
theorem impl_within_in {a b c : Int} (h : b ≤ a) (h' : a ≤ c) : impl_within.f a b c = some true := by
 unfold impl_within.f
 rw [if_pos h]
 simp [h']
theorem impl_within_out {a b c : Int} (h : a < b ∨ c < a) : impl_within.f a b c = some false := by
 unfold impl_within.f
 by_cases h0 : a ≥ b
 ·rw [if_pos h0]
  have : ¬ a ≤ c := by omega
  simp [this]
 ·rw [if_neg h0]

/-! the program's ReadVar -/
theorem impl_ReadVar_ev (s : ByteArray) (hs : s.size ≤ 140737488351232) (A : Nat) (hA : A ≤ s.size) : ∀ (d j : Nat) (n : Int), 5 - j = d → j ≤ 5 → 0 ≤ n → n < 128 ^ j →
  (rv 5 ((bytesOf s).drop A) = (rv (5 - j) ((bytesOf s).drop (A + j))).map (fun p => ((n + 128 ^ j * (p.1 : Int)).toNat, j + p.2))) →
  Ev (fun k => impl_ReadVar.l0 k s (A : Int) n (j : Int)) (readVj ((bytesOf s).drop A) ((bytesOf s).drop (A + j)) A j n) := by
 intro d
 induction d with
 | zero =>
  intro j n hd hj h0 h1 hrv
  obtain rfl : j = 5 := by omega
  rw [readVj_end]
  refine Ev.step (fun k => by rw [impl_ReadVar.l0, if_neg (by omega)]) (ev_end (fun k => ?_))
  rw [impl_ReadVar.j1, if_neg (by simp)]
 | succ d ih =>
  intro j n hd hj h0 h1 hrv
  have hj5 : j < 5 := by omega
  have ea : (A : Int) + (j : Int) = ((A + j : Nat) : Int) := by omega
  by_cases hlt : A + j < s.size
  ·have hr := bt_range s ((A + j : Nat) : Int)
   rw [bytesOf_drop hlt] at hrv ⊢
   have hp : (0 : Int) < 128 ^ j ∧ (128 : Int) ^ j ≤ 268435456 ∧ (128 : Int) ^ (j + 1) = 128 * 128 ^ j ∧ (2 : Int) ^ (7 * j) = 128 ^ j := by
    have : j = 0 ∨ j = 1 ∨ j = 2 ∨ j = 3 ∨ j = 4 := by omega
    rcases this with rfl | rfl | rfl | rfl | rfl <;> decide
   generalize hP : (128 : Int) ^ j = P at hp h1 hrv
   obtain ⟨hp0, hp1, hp2, hp3⟩ := hp
   refine Ev.step (fun k => by rw [impl_ReadVar.l0, if_pos (by omega), w64 (by omega) (by omega), ea]) ?_
   have e0 : wrap64 (bt s ((A + j : Nat) : Int)) = bt s ((A + j : Nat) : Int) := w64 (by omega) (by omega)
   have em : Int.tmod (bt s ((A + j : Nat) : Int)) 128 = bt s ((A + j : Nat) : Int) % 128 := Int.tmod_eq_emod_of_nonneg (by omega)
   have hc0 : 0 ≤ bt s ((A + j : Nat) : Int) % 128 ∧ bt s ((A + j : Nat) : Int) % 128 ≤ 127 := by omega
   have hm : bt s ((A + j : Nat) : Int) % 128 * P = P * (bt s ((A + j : Nat) : Int) % 128) := Int.mul_comm _ _
   have hb0 : 0 ≤ P * (bt s ((A + j : Nat) : Int) % 128) := Int.mul_nonneg (by omega) hc0.1
   have hb1 : P * (bt s ((A + j : Nat) : Int) % 128) ≤ P * 127 := Int.mul_le_mul_of_nonneg_left hc0.2 (by omega)
   have e7 : wrap64 (7 * (j : Int)) = 7 * (j : Int) := w64 (by omega) (by omega)
   have esh : shl .i64 (bt s ((A + j : Nat) : Int) % 128) (7 * (j : Int)) = P * (bt s ((A + j : Nat) : Int) % 128) := by
    unfold shl
    have : min (7 * (j : Int)).toNat IntKind.i64.bits = 7 * j := by
     simp only [IntKind.bits]
     omega
    rw [this, hp3, hm, IntKind.wrap_i64]
    omega
   by_cases hc : bt s ((A + j : Nat) : Int) > 127
   ·refine Ev.step (fun k => by rw [impl_ReadVar.j1, if_pos (by simp only [decide_eq_true_eq]; omega), w64 (x := (A : Int) + (j : Int)) (by omega) (by omega), ea, if_pos (by omega), if_pos (by omega), e7, if_pos (by omega), e0, em, if_pos hc, esh, w64 (x := n + _) (by omega) (by omega), w64 (x := (j : Int) + 1) (by omega) (by omega)]) ?_
    rw [readVj_big _ _ _ _ _ _ hj5 (by omega) (by omega), hP]
    have := ih (j + 1) (n + P * (bt s ((A + j : Nat) : Int) % 128)) (by omega) (by omega) (by omega) (by omega) ?_
    ·exact this
    ·rw [hrv, show 5 - j = (5 - (j + 1)) + 1 by omega, rv, if_pos (by omega), Option.map_map]
     congr 1
     funext p
     simp only [Function.comp, Prod.mk.injEq]
     constructor
     ·congr 1
      rw [hp2, Int.natCast_add, Int.toNat_of_nonneg (by omega), Int.natCast_mul, Int.mul_add, show ((128 : Nat) : Int) = 128 from rfl, Int.mul_comm 128 P, Int.mul_assoc, Int.add_assoc]
     ·omega
   ·have ec : bt s ((A + j : Nat) : Int) % 128 = bt s ((A + j : Nat) : Int) := by omega
    rw [readVj_small _ _ _ _ _ _ hj5 (by omega) (by omega), hP]
    have hrange : ∀ x ∈ (bytesOf s).drop A, 0 ≤ x ∧ x ≤ 255 := fun x hx => bytesOf_range (List.mem_of_mem_drop hx)
    rw [show 5 - j = (5 - (j + 1)) + 1 by omega, rv, if_neg (by omega)] at hrv
    simp only [Option.map_some, Int.toNat_of_nonneg hr.1] at hrv
    have hcan := rv_canon hrange hrv
    have hget : ((bytesOf s).drop A)[j + 1 - 1]? = some (bt s ((A + j : Nat) : Int)) := by
     rw [Nat.add_sub_cancel, List.getElem?_drop, List.getElem?_eq_getElem (by rw [bytesOf_length]; exact hlt), bytesOf_get hlt]
    rw [hget] at hcan
    rw [ec] at hb0 hb1 esh
    refine Ev.step (fun k => by rw [impl_ReadVar.j1, if_pos (by simp only [decide_eq_true_eq]; omega), w64 (x := (A : Int) + (j : Int)) (by omega) (by omega), ea, if_pos (by omega), if_pos (by omega), e7, if_pos (by omega), e0, em, ec, if_neg hc, esh, w64 (x := n + _) (by omega) (by omega), w64 (x := _ + 1) (by omega) (by omega)]) ?_
    have ee : ((A + j : Nat) : Int) + 1 = (A : Int) + ((j + 1 : Nat) : Int) := by omega
    by_cases hj0 : (j : Int) > 0
    ·refine evT hj0 ?_
     by_cases hz : bt s ((A + j : Nat) : Int) = 0
     ·refine evT hz ?_
      rw [if_neg]
      ·exact Ev.now _
      ·intro h
       exact hcan.1 h.2 ⟨by omega, by rw [hz]⟩
     ·refine evF hz ?_
      by_cases hbig : n + P * bt s ((A + j : Nat) : Int) > 1000000000
      ·refine evT hbig ?_
       rw [if_neg (by omega)]
       exact Ev.now _
      ·refine evF hbig ?_
       rw [if_pos ⟨by omega, hcan.2 (fun h => hz (Option.some.inj h.2))⟩, ee]
       exact Ev.now _
    ·refine evF hj0 ?_
     by_cases hbig : n + P * bt s ((A + j : Nat) : Int) > 1000000000
     ·refine evT hbig ?_
      rw [if_neg (by omega)]
      exact Ev.now _
     ·refine evF hbig ?_
      rw [if_pos ⟨by omega, hcan.2 (fun h => by omega)⟩, ee]
      exact Ev.now _
  ·rw [bytesOf_all (i := A + j) (by omega), readVj_nil]
   refine Ev.step (fun k => by rw [impl_ReadVar.l0, if_pos (by omega), w64 (by omega) (by omega)]) (ev_end (fun k => ?_))
   rw [impl_ReadVar.j1, if_neg (by simp only [decide_eq_true_eq]; omega)]
theorem impl_ReadVar_f (s : ByteArray) (hs : s.size ≤ 140737488351232) (a : Int) : Ev (fun k => impl_ReadVar.f k s a) (readVar s a) := by
 unfold readVar
 by_cases h : 0 ≤ a ∧ a ≤ s.size
 ·rw [if_pos h]
  obtain ⟨A, rfl⟩ := Int.eq_ofNat_of_zero_le h.1
  refine ev_now (impl_within_in h.1 h.2) (evT rfl ?_)
  have := impl_ReadVar_ev s hs A (by omega) 5 0 0 (by omega) (by omega) (by omega) (by simp) (by simp)
  rw [Int.toNat_natCast, ← readVj_zero]
  simpa using this
 ·rw [if_neg h]
  exact ev_now (impl_within_out (by omega)) (evF (by simp) (Ev.now _))

/-! the scan and the bench side by side -/
def TmS (w0 w : World) (g gs : Nat) (ok : Nat → Prop) (t : ByteArray) (l : List S34) (bb : Bool) (a z : Int) (b : Bool) : Prop :=
  BnS w w0.heap.size g ok l bb ∧ IsS115 w0 w gs t a z b ∧ Below w0.heap.size w0 w ∧ gs ≠ g ∧ ¬ ok gs
def MineT (g gs : Nat) (ok : Nat → Prop) (k : Nat) : Prop := k = g ∨ k = gs ∨ ok k
theorem BnS.far {w : World} {base g : Nat} {ok : Nat → Prop} {l : List S34} {bad : Bool} (h : BnS w base g ok l bad) {p : Addr} (hg : g ≠ p.block) (hp : ¬ ok p.block) (u : Value) : BnS (w.setCell p u) base g ok l bad := by
 obtain ⟨⟨v, h1, h2, h3, hR⟩, h4, h5⟩ := h
 exact ⟨⟨v, blk_far h1 hg u, h2, h3, Kd.R_far hR (fun k hk e => hp (e ▸ hk)) u⟩, fun k hk => h4 k (by simpa [World.setCell] using hk), h5⟩
theorem BnS.kept {w w1 : World} {base g : Nat} {ok : Nat → Prop} {l : List S34} {bad : Bool} {S : Nat → Prop} (h : BnS w base g ok l bad) (hk : Kept w w1 S) (hg : ¬ S g) (hs : ∀ k, ok k → ¬ S k) : BnS w1 base g ok l bad := by
 obtain ⟨⟨v, h1, h2, h3, hR⟩, h4, h5⟩ := h
 exact ⟨⟨v, (hk.2 g (blk_lt h1) hg).trans h1, h2, h3, Kd.R_kept hR hk hs⟩, fun k hk' => h4 k (Nat.le_trans hk.1 hk'), h5⟩
theorem BnS.without {w : World} {base g : Nat} {ok : Nat → Prop} {l : List S34} {bad : Bool} (h : BnS w base g ok l bad) (gn : Nat) (hn : w.heap.size ≤ gn) {w1 : World} (hb : Below w.heap.size w w1) (hlt : gn < w1.heap.size) : BnS w1 base g (fun k => ok k ∧ k ≠ gn) l bad := by
 obtain ⟨⟨v, h1, h2, h3, hR⟩, h4, h5⟩ := h
 exact ⟨⟨v, blk_below h1 hb, h2, fun hk => h3 hk.1, Kd.R_below (Kd.R_elderB hR gn hn) hb⟩, fun k hk => ⟨h4 k (Nat.le_trans hb.size hk), by omega⟩, h5⟩
theorem BnS.wider {w : World} {base g gn : Nat} {ok : Nat → Prop} {l : List S34} {bad : Bool} (h : BnS w base g (fun k => ok k ∧ k ≠ gn) l bad) (hg : g ≠ gn) : BnS w base g ok l bad := by
 obtain ⟨⟨v, h1, h2, h3, hR⟩, h4, h5⟩ := h
 exact ⟨⟨v, h1, h2, fun hk => h3 ⟨hk, hg⟩, Kd.R_mono hR (fun k hk => hk.1)⟩, fun k hk => (h4 k hk).1, h5⟩
theorem TmS.far {w0 w : World} {g gs : Nat} {ok : Nat → Prop} {t : ByteArray} {l : List S34} {bb : Bool} {a z : Int} {b : Bool} (h : TmS w0 w g gs ok t l bb a z b) {p : Addr} (hg : g ≠ p.block) (hs : gs ≠ p.block) (hp : ¬ ok p.block) (hw : w0.heap.size ≤ p.block) (u : Value) : TmS w0 (w.setCell p u) g gs ok t l bb a z b :=
  ⟨h.1.far hg hp u, h.2.1.far hs u, h.2.2.1.setCell hw u, h.2.2.2.1, h.2.2.2.2⟩
theorem TmS.set2 {w0 w : World} {g gs : Nat} {ok : Nat → Prop} {t : ByteArray} {l : List S34} {bb : Bool} {a z : Int} {b : Bool} (h : TmS w0 w g gs ok t l bb a z b) (x : Int) : TmS w0 (w.setCell ⟨gs, 2, none⟩ (.int .i64 x)) g gs ok t l bb a x b :=
  ⟨h.1.far (p := ⟨gs, 2, none⟩) (fun e => h.2.2.2.1 e.symm) h.2.2.2.2 _, h.2.1.set_2 x, below_set h.2.2.1 h.2.1.ge, h.2.2.2.1, h.2.2.2.2⟩
theorem TmS.set3 {w0 w : World} {g gs : Nat} {ok : Nat → Prop} {t : ByteArray} {l : List S34} {bb : Bool} {a z : Int} {b : Bool} (h : TmS w0 w g gs ok t l bb a z b) (x : Bool) : TmS w0 (w.setCell ⟨gs, 3, none⟩ (.bool x)) g gs ok t l bb a z x :=
  ⟨h.1.far (p := ⟨gs, 3, none⟩) (fun e => h.2.2.2.1 e.symm) h.2.2.2.2 _, h.2.1.set_3 x, below_set h.2.2.1 h.2.1.ge, h.2.2.2.1, h.2.2.2.2⟩
/-- how far the walk has come, before its node is made -/
def TAt (w0 w wr : World) (g gs : Nat) (ok : Nat → Prop) (t : ByteArray) (l : List S34) (bb : Bool) (a z : Int) (b : Bool) : Prop := TmS w0 wr g gs ok t l bb a z b ∧ Kept w wr (MineT g gs ok)
theorem TAt.start {w0 w : World} {g gs : Nat} {ok : Nat → Prop} {t : ByteArray} {l : List S34} {bb : Bool} {a z : Int} {b : Bool} (h : TmS w0 w g gs ok t l bb a z b) : TAt w0 w w g gs ok t l bb a z b := ⟨h, Kept.refl _ _⟩
theorem TAt.set2 {w0 w wr : World} {g gs : Nat} {ok : Nat → Prop} {t : ByteArray} {l : List S34} {bb : Bool} {a z : Int} {b : Bool} (h : TAt w0 w wr g gs ok t l bb a z b) (x : Int) : TAt w0 w (wr.setCell ⟨gs, 2, none⟩ (.int .i64 x)) g gs ok t l bb a x b := ⟨h.1.set2 x, h.2.setCell (p := ⟨gs, 2, none⟩) (.inl (.inr (.inl rfl))) _⟩
theorem TAt.set3 {w0 w wr : World} {g gs : Nat} {ok : Nat → Prop} {t : ByteArray} {l : List S34} {bb : Bool} {a z : Int} {b : Bool} (h : TAt w0 w wr g gs ok t l bb a z b) (x : Bool) : TAt w0 w (wr.setCell ⟨gs, 3, none⟩ (.bool x)) g gs ok t l bb a z x := ⟨h.1.set3 x, h.2.setCell (p := ⟨gs, 3, none⟩) (.inl (.inr (.inl rfl))) _⟩
/-- and with its node -/
def TN (w0 w wr : World) (g gs gn : Nat) (ok : Nat → Prop) (t : ByteArray) (l : List S34) (bb : Bool) (a z : Int) (b : Bool) (n0 n1 n2 n3 : Int) : Prop :=
  TmS w0 wr g gs (fun k => ok k ∧ k ≠ gn) t l bb a z b ∧ Kept w wr (MineT g gs ok) ∧ wr.heap[gn]? = some (.cells #[.int .i64 n0, .int .i64 n1, .int .i64 n2, .int .i64 n3] 34 (0, 0)) ∧ w.heap.size ≤ gn ∧ w0.heap.size ≤ gn ∧ g ≠ gn ∧ gs ≠ gn
theorem TN.new {w0 w wr w1 : World} {g gs gn : Nat} {ok : Nat → Prop} {t : ByteArray} {l : List S34} {bb : Bool} {a z : Int} {b : Bool} (h : TAt w0 w wr g gs ok t l bb a z b) (hg : gn = wr.heap.size) (hblk : w1.heap[gn]? = some (.cells #[.int .i64 0, .int .i64 0, .int .i64 0, .int .i64 0] 34 (0, 0))) (hb : Below wr.heap.size wr w1) : TN w0 w w1 g gs gn ok t l bb a z b 0 0 0 0 := by
 have h1 := h.1.1.1.size.2
 have h2 := h.1.2.1.lt
 exact ⟨⟨h.1.1.without gn (by omega) hb (blk_lt hblk), h.1.2.1.below hb, below_step h.1.2.2.1 hb, h.1.2.2.2.1, fun hk => h.1.2.2.2.2 hk.1⟩, h.2.below hb, hblk, by rw [hg]; exact h.2.1, by rw [hg]; exact h.1.2.2.1.size, by omega, by omega⟩
theorem TN.far {w0 w wr : World} {g gs gn : Nat} {ok : Nat → Prop} {t : ByteArray} {l : List S34} {bb : Bool} {a z : Int} {b : Bool} {n0 n1 n2 n3 : Int} (h : TN w0 w wr g gs gn ok t l bb a z b n0 n1 n2 n3) (i : Nat) (u : Value) {m0 m1 m2 m3 : Int} (hu : (#[.int .i64 n0, .int .i64 n1, .int .i64 n2, .int .i64 n3] : Array Value).setIfInBounds i u = #[.int .i64 m0, .int .i64 m1, .int .i64 m2, .int .i64 m3]) : TN w0 w (wr.setCell ⟨gn, i, none⟩ u) g gs gn ok t l bb a z b m0 m1 m2 m3 := by
 obtain ⟨h1, h2, h3, h4, h5, h6, h7⟩ := h
 exact ⟨h1.far (p := ⟨gn, i, none⟩) h6 h7 (fun hk => hk.2 rfl) h5 u, h2.setCell (p := ⟨gn, i, none⟩) (.inr h4) u, blk_put h3 i u hu, h4, h5, h6, h7⟩
theorem TN.s0 {w0 w wr : World} {g gs gn : Nat} {ok : Nat → Prop} {t : ByteArray} {l : List S34} {bb : Bool} {a z : Int} {b : Bool} {n0 n1 n2 n3 : Int} (h : TN w0 w wr g gs gn ok t l bb a z b n0 n1 n2 n3) (x : Int) : TN w0 w (wr.setCell ⟨gn, 0, none⟩ (.int .i64 x)) g gs gn ok t l bb a z b x n1 n2 n3 := h.far 0 _ rfl
theorem TN.s1 {w0 w wr : World} {g gs gn : Nat} {ok : Nat → Prop} {t : ByteArray} {l : List S34} {bb : Bool} {a z : Int} {b : Bool} {n0 n1 n2 n3 : Int} (h : TN w0 w wr g gs gn ok t l bb a z b n0 n1 n2 n3) (x : Int) : TN w0 w (wr.setCell ⟨gn, 1, none⟩ (.int .i64 x)) g gs gn ok t l bb a z b n0 x n2 n3 := h.far 1 _ rfl
theorem TN.s2 {w0 w wr : World} {g gs gn : Nat} {ok : Nat → Prop} {t : ByteArray} {l : List S34} {bb : Bool} {a z : Int} {b : Bool} {n0 n1 n2 n3 : Int} (h : TN w0 w wr g gs gn ok t l bb a z b n0 n1 n2 n3) (x : Int) : TN w0 w (wr.setCell ⟨gn, 2, none⟩ (.int .i64 x)) g gs gn ok t l bb a z b n0 n1 x n3 := h.far 2 _ rfl
theorem TN.s3 {w0 w wr : World} {g gs gn : Nat} {ok : Nat → Prop} {t : ByteArray} {l : List S34} {bb : Bool} {a z : Int} {b : Bool} {n0 n1 n2 n3 : Int} (h : TN w0 w wr g gs gn ok t l bb a z b n0 n1 n2 n3) (x : Int) : TN w0 w (wr.setCell ⟨gn, 3, none⟩ (.int .i64 x)) g gs gn ok t l bb a z b n0 n1 n2 x := h.far 3 _ rfl
theorem TN.bad {w0 w wr : World} {g gs gn : Nat} {ok : Nat → Prop} {t : ByteArray} {l : List S34} {bb : Bool} {a z : Int} {b : Bool} {n0 n1 n2 n3 : Int} (h : TN w0 w wr g gs gn ok t l bb a z b n0 n1 n2 n3) (x : Bool) : TN w0 w (wr.setCell ⟨gs, 3, none⟩ (.bool x)) g gs gn ok t l bb a z x n0 n1 n2 n3 := by
 obtain ⟨h1, h2, h3, h4, h5, h6, h7⟩ := h
 exact ⟨h1.set3 x, h2.setCell (p := ⟨gs, 3, none⟩) (.inl (.inr (.inl rfl))) _, blk_far h3 (fun e => h7 e.symm) _, h4, h5, h6, h7⟩
theorem TN.below {w0 w wr w1 : World} {g gs gn : Nat} {ok : Nat → Prop} {t : ByteArray} {l : List S34} {bb : Bool} {a z : Int} {b : Bool} {n0 n1 n2 n3 : Int} (h : TN w0 w wr g gs gn ok t l bb a z b n0 n1 n2 n3) (hb : Below wr.heap.size wr w1) : TN w0 w w1 g gs gn ok t l bb a z b n0 n1 n2 n3 := by
 obtain ⟨⟨h1, h1b, h1c, h1d, h1e⟩, h2, h3, h4⟩ := h
 exact ⟨⟨h1.keep hb, h1b.below hb, below_step h1c hb, h1d, h1e⟩, h2.below hb, blk_below h3 hb, h4⟩
theorem TN.num {w0 w wr w1 : World} {g gs gn : Nat} {ok : Nat → Prop} {t : ByteArray} {l : List S34} {bb : Bool} {a z a' z' : Int} {b b' : Bool} {n0 n1 n2 n3 : Int} (h : TN w0 w wr g gs gn ok t l bb a z b n0 n1 n2 n3) (hi : IsS115 w0 w1 gs t a' z' b') (hb : Below w0.heap.size w0 w1) (hk : KeepBut wr w1 gs none) : TN w0 w w1 g gs gn ok t l bb a' z' b' n0 n1 n2 n3 := by
 obtain ⟨⟨h1, h1b, h1c, h1d, h1e⟩, h2, h3, h4, h5, h6, h7⟩ := h
 have hk' : Kept wr w1 (fun k => k = gs) := ⟨hk.1, fun i hi hn => hk.2 i hi hn (by simp)⟩
 exact ⟨⟨h1.kept hk' (fun e => h1d e.symm) (fun k hk0 e => h1e (e ▸ hk0)), hi, hb, h1d, h1e⟩, h2.then_ hk' (fun k e => .inl (.inr (.inl e))), (hk'.2 gn (blk_lt h3) (fun e => h7 e.symm)).trans h3, h4, h5, h6, h7⟩
/-- what the reading of a term leaves -/
def TPost (w0 w : World) (g gs : Nat) (ok : Nat → Prop) (t : ByteArray) (r : TmR) (e : Ending) (w' : World) : Prop := e = .returned (.int .i64 r.v) ∧ TmS w0 w' g gs ok t r.l r.bb r.at_ r.sz r.sb ∧ Kept w w' (MineT g gs ok)
theorem TN.post {w0 w wr : World} {g gs gn : Nat} {ok : Nat → Prop} {t : ByteArray} {n0 n1 n2 n3 : Int} {r : TmR} (h : TN w0 w wr g gs gn ok t r.l r.bb r.at_ r.sz r.sb n0 n1 n2 n3) : TPost w0 w g gs ok t r (.returned (.int .i64 r.v)) wr :=
  ⟨rfl, ⟨h.1.1.wider h.2.2.2.2.2.1, h.1.2.1, h.1.2.2.1, h.1.2.2.2.1, fun hk => h.1.2.2.2.2 ⟨hk, h.2.2.2.2.2.2⟩⟩, h.2.1⟩
theorem TN.sub {w0 w wr w1 : World} {g gs gn : Nat} {ok : Nat → Prop} {t : ByteArray} {l : List S34} {bb : Bool} {a z : Int} {b : Bool} {n0 n1 n2 n3 : Int} {r : TmR} {e : Ending} (h : TN w0 w wr g gs gn ok t l bb a z b n0 n1 n2 n3) (hp : TPost w0 wr g gs (fun k => ok k ∧ k ≠ gn) t r e w1) : TN w0 w w1 g gs gn ok t r.l r.bb r.at_ r.sz r.sb n0 n1 n2 n3 := by
 obtain ⟨h1, h2, h3, h4, h5, h6, h7⟩ := h
 refine ⟨hp.2.1, h2.then_ hp.2.2 (fun k hk => .inl ?_), (hp.2.2.2 gn (blk_lt h3) ?_).trans h3, h4, h5, h6, h7⟩
 ·rcases hk with e | e | e
  ·exact .inl e
  ·exact .inr (.inl e)
  ·exact .inr (.inr e.1)
 ·rintro (e | e | e)
  ·exact h6 e.symm
  ·exact h7 e.symm
  ·exact e.2 rfl
theorem TN.put {w0 w wr w1 : World} {g gs gn : Nat} {ok : Nat → Prop} {t : ByteArray} {l : List S34} {bb : Bool} {a z : Int} {b : Bool} {n0 n1 n2 n3 : Int} {r : List S34 × Bool × Int} {e : Ending} (h : TN w0 w wr g gs gn ok t l bb a z b n0 n1 n2 n3) (hp : BPost wr w0.heap.size g (fun k => ok k ∧ k ≠ gn) r e w1) : TN w0 w w1 g gs gn ok t r.1 r.2.1 a z b n0 n1 n2 n3 := by
 obtain ⟨⟨h1, h1b, h1c, h1d, h1e⟩, h2, h3, h4, h5, h6, h7⟩ := h
 refine ⟨⟨hp.bn, h1b.kept hp.kept (fun hk => hk.elim h1d h1e), h1c.trans hp.bel, h1d, h1e⟩, h2.then_ hp.kept (fun k hk => .inl ?_), (hp.kept.2 gn (blk_lt h3) ?_).trans h3, h4, h5, h6, h7⟩
 ·rcases hk with e | e
  ·exact .inl e
  ·exact .inr (.inr e.1)
 ·rintro (e | e)
  ·exact h6 e.symm
  ·exact e.2 rfl
theorem TN.bn {w0 w wr : World} {g gs gn : Nat} {ok : Nat → Prop} {t : ByteArray} {l : List S34} {bb : Bool} {a z : Int} {b : Bool} {n0 n1 n2 n3 : Int} (h : TN w0 w wr g gs gn ok t l bb a z b n0 n1 n2 n3) : BnS wr w0.heap.size g (fun k => ok k ∧ k ≠ gn) l bb := h.1.1
theorem TN.st {w0 w wr : World} {g gs gn : Nat} {ok : Nat → Prop} {t : ByteArray} {l : List S34} {bb : Bool} {a z : Int} {b : Bool} {n0 n1 n2 n3 : Int} (h : TN w0 w wr g gs gn ok t l bb a z b n0 n1 n2 n3) : TmS w0 wr g gs (fun k => ok k ∧ k ≠ gn) t l bb a z b := h.1
theorem TN.is {w0 w wr : World} {g gs gn : Nat} {ok : Nat → Prop} {t : ByteArray} {l : List S34} {bb : Bool} {a z : Int} {b : Bool} {n0 n1 n2 n3 : Int} (h : TN w0 w wr g gs gn ok t l bb a z b n0 n1 n2 n3) : IsS115 w0 wr gs t a z b := h.1.2.1
theorem TN.b0 {w0 w wr : World} {g gs gn : Nat} {ok : Nat → Prop} {t : ByteArray} {l : List S34} {bb : Bool} {a z : Int} {b : Bool} {n0 n1 n2 n3 : Int} (h : TN w0 w wr g gs gn ok t l bb a z b n0 n1 n2 n3) : Below w0.heap.size w0 wr := h.1.2.2.1
theorem TN.blk {w0 w wr : World} {g gs gn : Nat} {ok : Nat → Prop} {t : ByteArray} {l : List S34} {bb : Bool} {a z : Int} {b : Bool} {n0 n1 n2 n3 : Int} (h : TN w0 w wr g gs gn ok t l bb a z b n0 n1 n2 n3) : wr.heap[gn]? = some (.cells #[.int .i64 n0, .int .i64 n1, .int .i64 n2, .int .i64 n3] 34 (0, 0)) := h.2.2.1
theorem TN.ne {w0 w wr : World} {g gs gn : Nat} {ok : Nat → Prop} {t : ByteArray} {l : List S34} {bb : Bool} {a z : Int} {b : Bool} {n0 n1 n2 n3 : Int} (h : TN w0 w wr g gs gn ok t l bb a z b n0 n1 n2 n3) : gn ≠ gs := fun e => h.2.2.2.2.2.2 e.symm
theorem TAt.is {w0 w wr : World} {g gs : Nat} {ok : Nat → Prop} {t : ByteArray} {l : List S34} {bb : Bool} {a z : Int} {b : Bool} (h : TAt w0 w wr g gs ok t l bb a z b) : IsS115 w0 wr gs t a z b := h.1.2.1
theorem TPost.ret {w0 w w1 : World} {g gs : Nat} {ok : Nat → Prop} {t : ByteArray} {r : TmR} {e : Ending} (hp : TPost w0 w g gs ok t r e w1) : e = .returned (.int .i64 r.v) := hp.1
/-- the program's number -/
theorem impl_number_f (t : ByteArray) (ht : t.size ≤ 140737488351232) (a z : Int) : ∃ k, ∀ b, impl_scan_number.f k t a z b = some (if b = false ∧ (readVar t a).2.2 = true then ((readVar t a).1, t, (readVar t a).2.1, z, false) else (0, t, a, z, true)) := by
 obtain ⟨k, hk⟩ := impl_ReadVar_f t ht a
 refine ⟨k, fun b => ?_⟩
 unfold impl_scan_number.f
 have := hk k (Nat.le_refl _)
 simp only at this
 rw [this]
 cases b <;> cases h : (readVar t a).2.2 <;> simp [h]
theorem hasB_one {k : Int} (h1 : k ≠ 1) (ho : oneKind k = true) : impl_hasB.f k = some false := by
 unfold impl_hasB.f
 have ho' : k = 3 ∨ k = 6 := by simpa [oneKind] using ho
 rw [if_neg h1]
 rcases ho' with rfl | rfl
 ·rfl
 ·rfl
theorem hasB_two {k : Int} (h1 : k ≠ 1) (ho : oneKind k = false) : impl_hasB.f k = some true := by
 unfold impl_hasB.f
 have ho' : ¬ (k = 3 ∨ k = 6) := by simpa [oneKind] using ho
 rw [if_neg h1, if_neg (by omega)]
 simp
 omega
theorem tmI_v (t : ByteArray) (d : Nat) (l : List S34) (bb : Bool) (a z : Int) (b : Bool) (v : Int) : tmI t d ⟨l, bb, a, z, b, v⟩ = tmI t d ⟨l, bb, a, z, false, -1⟩ := by
 cases d with
 | zero => rfl
 | succ d => rfl
theorem tp_cast {P : Program} {f : Nat} {args : Array Value} {w0 w : World} {g gs : Nat} {ok : Nat → Prop} {t : ByteArray} {u s : TmR} (h : u = s) (hc : Calls P f args w (TPost w0 w g gs ok t u)) : Calls P f args w (TPost w0 w g gs ok t s) := h ▸ hc
theorem bp_cast {P : Program} {f : Nat} {args : Array Value} {w : World} {base g : Nat} {ok : Nat → Prop} {u s : List S34 × Bool × Int} (h : u = s) (hc : Calls P f args w (BPost w base g ok u)) : Calls P f args w (BPost w base g ok s) := h ▸ hc

set_option maxHeartbeats 4000000 in
set_option maxRecDepth 100000 in
theorem impl_term (t : ByteArray) (ht : t.size ≤ 140737488351232) : ∀ (d : Nat) (w0 w : World) (g gs : Nat) (ok : Nat → Prop) (l : List S34) (bb : Bool) (a z : Int), TmS w0 w g gs ok t l bb a z false → 0 ≤ z → z ≤ 2000 → 2001 ≤ z + (d : Int) →
  Calls Try.prog 115 #[.pointer (some ⟨gs, 0, none⟩), .pointer (some ⟨g, 0, none⟩)] w (TPost w0 w g gs ok t (tmI t d ⟨l, bb, a, z, false, -1⟩)) := by
 intro d
 induction d with
 | zero => intro w0 w g gs ok l bb a z h h0 h1 h2; omega
 | succ d ih =>
  intro w0 w g gs ok l bb a z hT h0 h1 h2
  have hu34 := Try.underlying34
  have hu115 := Try.underlying115
  obtain ⟨kv, hn⟩ := impl_number_f t ht a (z + 1)
  have HT0 := Aside0.mk (TAt.start hT)
  obtain ⟨HG0, hg0⟩ := HT0.out.is; have hc0_0 := cellS115_0 HG0; have hc0_1 := cellS115_1 HG0; have hc0_2 := cellS115_2 HG0; have hc0_3 := cellS115_3 HG0; have hf0_0 := blk_frozen HG0 0; have hf0_1 := blk_frozen HG0 1; have hf0_2 := blk_frozen HG0 2; have hf0_3 := blk_frozen HG0 3; clear HG0 hg0
  by_cases hz : 2000 < z + 1
  ·have hnum : impl_scan_number.f kv t a (z + 1) true = some (0, t, a, z + 1, true) := by rw [hn, if_neg (by simp)]
   have he : tmI t (d + 1) ⟨l, bb, a, z, false, -1⟩ = ⟨l, bb, a, z + 1, true, -1⟩ := by rw [tmI, if_pos hz]; rfl
   have HN := Aside0.mk hnum
   have HE := Aside0.mk he
   have hzd : decide (2000 < z + 1) = true := decide_eq_true hz
   clear hn hnum he hT hz ih h2
   go_enter Try.func115, Try.ntmps115
   go_wp2_with (first | ((with_reducible refine gate_dst (N := 5) rfl ?_); refine box_event ?hg (N := 5) ?hd (cs := #[.int .i64 0, .int .i64 0, .int .i64 0, .int .i64 0]) (t := 34) ?hr ?_; (case hd => rfl); (case hg => rfl); (case hr => first | (go_simp; done) | (go_simp; rfl)); intro gn hg1 w3 hbox hb; have HT3 := Aside0.mk (TN.new ((HT0.out.set2 (z + 1)).set3 true) hg1 hbox hb); clear hg1 hbox hb; obtain ⟨HG3, hg3⟩ := HT3.out.is; have hc3_0 := cellS115_0 HG3; have hc3_1 := cellS115_1 HG3; have hc3_2 := cellS115_2 HG3; have hc3_3 := cellS115_3 HG3; have hf3_0 := blk_frozen HG3 0; have hf3_1 := blk_frozen HG3 1; have hf3_2 := blk_frozen HG3 2; have hf3_3 := blk_frozen HG3 3; clear HG3 hg3; have hn3_0 : w3.cell? ⟨gn, 0, none⟩ = some (.int .i64 (0)) := (blk_cell HT3.out.blk 0).trans rfl; have hn3_1 : w3.cell? ⟨gn, 1, none⟩ = some (.int .i64 (0)) := (blk_cell HT3.out.blk 1).trans rfl; have hn3_2 : w3.cell? ⟨gn, 2, none⟩ = some (.int .i64 (0)) := (blk_cell HT3.out.blk 2).trans rfl; have hn3_3 : w3.cell? ⟨gn, 3, none⟩ = some (.int .i64 (0)) := (blk_cell HT3.out.blk 3).trans rfl; have hnf3_0 := blk_frozen HT3.out.blk 0; have hnf3_1 := blk_frozen HT3.out.blk 1; have hnf3_2 := blk_frozen HT3.out.blk 2; have hnf3_3 := blk_frozen HT3.out.blk 3; have hne3 := HT3.out.ne) | (go_at_call 127; ((with_reducible refine (impl_scan_number.calls _ gs t a (z + 1) true 0 t a (z + 1) true w0 _ (((((HT3.out.s0 0).s1 0).s2 0).s3 0)).is (((((HT3.out.s0 0).s1 0).s2 0).s3 0)).b0 HN.out).mono ?_); rintro e w4 ⟨rfl, hi, hb, hk⟩); have HT4 := Aside0.mk (TN.num (((((HT3.out.s0 0).s1 0).s2 0).s3 0)) hi hb hk); clear hi hb hk; obtain ⟨HG4, hg4⟩ := HT4.out.is; have hc4_0 := cellS115_0 HG4; have hc4_1 := cellS115_1 HG4; have hc4_2 := cellS115_2 HG4; have hc4_3 := cellS115_3 HG4; have hf4_0 := blk_frozen HG4 0; have hf4_1 := blk_frozen HG4 1; have hf4_2 := blk_frozen HG4 2; have hf4_3 := blk_frozen HG4 3; clear HG4 hg4; have hn4_0 : w4.cell? ⟨gn, 0, none⟩ = some (.int .i64 (0)) := (blk_cell HT4.out.blk 0).trans rfl; have hn4_1 : w4.cell? ⟨gn, 1, none⟩ = some (.int .i64 (0)) := (blk_cell HT4.out.blk 1).trans rfl; have hn4_2 : w4.cell? ⟨gn, 2, none⟩ = some (.int .i64 (0)) := (blk_cell HT4.out.blk 2).trans rfl; have hn4_3 : w4.cell? ⟨gn, 3, none⟩ = some (.int .i64 (0)) := (blk_cell HT4.out.blk 3).trans rfl; have hnf4_0 := blk_frozen HT4.out.blk 0; have hnf4_1 := blk_frozen HT4.out.blk 1; have hnf4_2 := blk_frozen HT4.out.blk 2; have hnf4_3 := blk_frozen HT4.out.blk 3; have hne4 := HT4.out.ne))
   go_ret
   rw [HE.out]
   exact ((HT4.out.s0 0).bad true).post (r := ⟨l, bb, a, z + 1, true, -1⟩)
  ·have IH := Aside0.mk (fun (w0 w : World) (g gs : Nat) (ok : Nat → Prop) (l : List S34) (bb : Bool) (a : Int) (h : TmS w0 w g gs ok t l bb a (z + 1) false) => ih w0 w g gs ok l bb a (z + 1) h (by omega) (by omega) (by omega))
   have hzd : decide (2000 < z + 1) = false := decide_eq_false hz
   obtain ⟨⟨kd, nx, okb⟩, hr⟩ : ∃ r, readVar t a = r := ⟨_, rfl⟩
   have hn := hn false
   rw [hr] at hn
   cases okb with
   | false =>
    have he : tmI t (d + 1) ⟨l, bb, a, z, false, -1⟩ = ⟨l, bb, a, z + 1, true, -1⟩ := by rw [tmI, if_neg hz]; simp only [hr]; rfl
    rw [if_neg (by simp)] at hn
    have HN := Aside0.mk hn
    have HE := Aside0.mk he
    clear hn he hT hz ih h2 hr
    go_enter Try.func115, Try.ntmps115
    go_wp2_with (first | ((with_reducible refine gate_dst (N := 5) rfl ?_); refine box_event ?hg (N := 5) ?hd (cs := #[.int .i64 0, .int .i64 0, .int .i64 0, .int .i64 0]) (t := 34) ?hr ?_; (case hd => rfl); (case hg => rfl); (case hr => first | (go_simp; done) | (go_simp; rfl)); intro gn hg1 w3 hbox hb; have HT3 := Aside0.mk (TN.new (HT0.out.set2 (z + 1)) hg1 hbox hb); clear hg1 hbox hb; obtain ⟨HG3, hg3⟩ := HT3.out.is; have hc3_0 := cellS115_0 HG3; have hc3_1 := cellS115_1 HG3; have hc3_2 := cellS115_2 HG3; have hc3_3 := cellS115_3 HG3; have hf3_0 := blk_frozen HG3 0; have hf3_1 := blk_frozen HG3 1; have hf3_2 := blk_frozen HG3 2; have hf3_3 := blk_frozen HG3 3; clear HG3 hg3; have hn3_0 : w3.cell? ⟨gn, 0, none⟩ = some (.int .i64 (0)) := (blk_cell HT3.out.blk 0).trans rfl; have hn3_1 : w3.cell? ⟨gn, 1, none⟩ = some (.int .i64 (0)) := (blk_cell HT3.out.blk 1).trans rfl; have hn3_2 : w3.cell? ⟨gn, 2, none⟩ = some (.int .i64 (0)) := (blk_cell HT3.out.blk 2).trans rfl; have hn3_3 : w3.cell? ⟨gn, 3, none⟩ = some (.int .i64 (0)) := (blk_cell HT3.out.blk 3).trans rfl; have hnf3_0 := blk_frozen HT3.out.blk 0; have hnf3_1 := blk_frozen HT3.out.blk 1; have hnf3_2 := blk_frozen HT3.out.blk 2; have hnf3_3 := blk_frozen HT3.out.blk 3; have hne3 := HT3.out.ne) | (go_at_call 127; ((with_reducible refine (impl_scan_number.calls _ gs t a (z + 1) false 0 t a (z + 1) true w0 _ (((((HT3.out.s0 0).s1 0).s2 0).s3 0)).is (((((HT3.out.s0 0).s1 0).s2 0).s3 0)).b0 HN.out).mono ?_); rintro e w4 ⟨rfl, hi, hb, hk⟩); have HT4 := Aside0.mk (TN.num (((((HT3.out.s0 0).s1 0).s2 0).s3 0)) hi hb hk); clear hi hb hk; obtain ⟨HG4, hg4⟩ := HT4.out.is; have hc4_0 := cellS115_0 HG4; have hc4_1 := cellS115_1 HG4; have hc4_2 := cellS115_2 HG4; have hc4_3 := cellS115_3 HG4; have hf4_0 := blk_frozen HG4 0; have hf4_1 := blk_frozen HG4 1; have hf4_2 := blk_frozen HG4 2; have hf4_3 := blk_frozen HG4 3; clear HG4 hg4; have hn4_0 : w4.cell? ⟨gn, 0, none⟩ = some (.int .i64 (0)) := (blk_cell HT4.out.blk 0).trans rfl; have hn4_1 : w4.cell? ⟨gn, 1, none⟩ = some (.int .i64 (0)) := (blk_cell HT4.out.blk 1).trans rfl; have hn4_2 : w4.cell? ⟨gn, 2, none⟩ = some (.int .i64 (0)) := (blk_cell HT4.out.blk 2).trans rfl; have hn4_3 : w4.cell? ⟨gn, 3, none⟩ = some (.int .i64 (0)) := (blk_cell HT4.out.blk 3).trans rfl; have hnf4_0 := blk_frozen HT4.out.blk 0; have hnf4_1 := blk_frozen HT4.out.blk 1; have hnf4_2 := blk_frozen HT4.out.blk 2; have hnf4_3 := blk_frozen HT4.out.blk 3; have hne4 := HT4.out.ne))
    go_ret
    rw [HE.out]
    exact ((HT4.out.s0 0).bad true).post (r := ⟨l, bb, a, z + 1, true, -1⟩)
   | true =>
    rw [if_pos (by simp)] at hn
    have HN := Aside0.mk hn
    by_cases hk : 1 ≤ kd ∧ kd ≤ 9
    ·have HW := Aside0.mk (impl_within_in hk.1 hk.2)
     by_cases hk1 : kd = 1
     ·subst hk1
      obtain ⟨kv2, hn2⟩ := impl_number_f t ht nx (z + 1)
      have hn2 := hn2 false
      obtain ⟨⟨nm, en, ok2⟩, hr2⟩ : ∃ r, readVar t nx = r := ⟨_, rfl⟩
      rw [hr2] at hn2
      cases ok2 with
      | false =>
       have he : tmI t (d + 1) ⟨l, bb, a, z, false, -1⟩ = ⟨l, bb, nx, z + 1, true, -1⟩ := by rw [tmI, if_neg hz]; simp [hr, hr2, badT, atT]
       rw [if_neg (by simp)] at hn2
       have HN2 := Aside0.mk hn2
       have HE := Aside0.mk he
       clear hn hn2 he hT hz ih h2 hr hr2 hk IH
       go_enter Try.func115, Try.ntmps115
       go_wp2_with (first | ((with_reducible refine gate_dst (N := 5) rfl ?_); refine box_event ?hg (N := 5) ?hd (cs := #[.int .i64 0, .int .i64 0, .int .i64 0, .int .i64 0]) (t := 34) ?hr ?_; (case hd => rfl); (case hg => rfl); (case hr => first | (go_simp; done) | (go_simp; rfl)); intro gn hg1 w3 hbox hb; have HT3 := Aside0.mk (TN.new (HT0.out.set2 (z + 1)) hg1 hbox hb); clear hg1 hbox hb; obtain ⟨HG3, hg3⟩ := HT3.out.is; have hc3_0 := cellS115_0 HG3; have hc3_1 := cellS115_1 HG3; have hc3_2 := cellS115_2 HG3; have hc3_3 := cellS115_3 HG3; have hf3_0 := blk_frozen HG3 0; have hf3_1 := blk_frozen HG3 1; have hf3_2 := blk_frozen HG3 2; have hf3_3 := blk_frozen HG3 3; clear HG3 hg3; have hn3_0 : w3.cell? ⟨gn, 0, none⟩ = some (.int .i64 (0)) := (blk_cell HT3.out.blk 0).trans rfl; have hn3_1 : w3.cell? ⟨gn, 1, none⟩ = some (.int .i64 (0)) := (blk_cell HT3.out.blk 1).trans rfl; have hn3_2 : w3.cell? ⟨gn, 2, none⟩ = some (.int .i64 (0)) := (blk_cell HT3.out.blk 2).trans rfl; have hn3_3 : w3.cell? ⟨gn, 3, none⟩ = some (.int .i64 (0)) := (blk_cell HT3.out.blk 3).trans rfl; have hnf3_0 := blk_frozen HT3.out.blk 0; have hnf3_1 := blk_frozen HT3.out.blk 1; have hnf3_2 := blk_frozen HT3.out.blk 2; have hnf3_3 := blk_frozen HT3.out.blk 3; have hne3 := HT3.out.ne) | (go_at_call 127; ((with_reducible refine (impl_scan_number.calls _ gs t a (z + 1) false 1 t nx (z + 1) false w0 _ (((((HT3.out.s0 0).s1 0).s2 0).s3 0)).is (((((HT3.out.s0 0).s1 0).s2 0).s3 0)).b0 HN.out).mono ?_); rintro e w4 ⟨rfl, hi, hb, hk⟩); have HT4 := Aside0.mk (TN.num (((((HT3.out.s0 0).s1 0).s2 0).s3 0)) hi hb hk); clear hi hb hk; obtain ⟨HG4, hg4⟩ := HT4.out.is; have hc4_0 := cellS115_0 HG4; have hc4_1 := cellS115_1 HG4; have hc4_2 := cellS115_2 HG4; have hc4_3 := cellS115_3 HG4; have hf4_0 := blk_frozen HG4 0; have hf4_1 := blk_frozen HG4 1; have hf4_2 := blk_frozen HG4 2; have hf4_3 := blk_frozen HG4 3; clear HG4 hg4; have hn4_0 : w4.cell? ⟨gn, 0, none⟩ = some (.int .i64 (0)) := (blk_cell HT4.out.blk 0).trans rfl; have hn4_1 : w4.cell? ⟨gn, 1, none⟩ = some (.int .i64 (0)) := (blk_cell HT4.out.blk 1).trans rfl; have hn4_2 : w4.cell? ⟨gn, 2, none⟩ = some (.int .i64 (0)) := (blk_cell HT4.out.blk 2).trans rfl; have hn4_3 : w4.cell? ⟨gn, 3, none⟩ = some (.int .i64 (0)) := (blk_cell HT4.out.blk 3).trans rfl; have hnf4_0 := blk_frozen HT4.out.blk 0; have hnf4_1 := blk_frozen HT4.out.blk 1; have hnf4_2 := blk_frozen HT4.out.blk 2; have hnf4_3 := blk_frozen HT4.out.blk 3; have hne4 := HT4.out.ne) | (go_at_call 75; ((with_reducible refine (impl_within.calls 1 1 9 true _ HW.out).mono ?_); rintro e w5 ⟨rfl, hb⟩); have HT5 := Aside0.mk (TN.below (HT4.out.s0 1) hb.below); clear hb; obtain ⟨HG5, hg5⟩ := HT5.out.is; have hc5_0 := cellS115_0 HG5; have hc5_1 := cellS115_1 HG5; have hc5_2 := cellS115_2 HG5; have hc5_3 := cellS115_3 HG5; have hf5_0 := blk_frozen HG5 0; have hf5_1 := blk_frozen HG5 1; have hf5_2 := blk_frozen HG5 2; have hf5_3 := blk_frozen HG5 3; clear HG5 hg5; have hn5_0 : w5.cell? ⟨gn, 0, none⟩ = some (.int .i64 (1)) := (blk_cell HT5.out.blk 0).trans rfl; have hn5_1 : w5.cell? ⟨gn, 1, none⟩ = some (.int .i64 (0)) := (blk_cell HT5.out.blk 1).trans rfl; have hn5_2 : w5.cell? ⟨gn, 2, none⟩ = some (.int .i64 (0)) := (blk_cell HT5.out.blk 2).trans rfl; have hn5_3 : w5.cell? ⟨gn, 3, none⟩ = some (.int .i64 (0)) := (blk_cell HT5.out.blk 3).trans rfl; have hnf5_0 := blk_frozen HT5.out.blk 0; have hnf5_1 := blk_frozen HT5.out.blk 1; have hnf5_2 := blk_frozen HT5.out.blk 2; have hnf5_3 := blk_frozen HT5.out.blk 3; have hne5 := HT5.out.ne) | (go_at_call 127; ((with_reducible refine (impl_scan_number.calls _ gs t nx (z + 1) false 0 t nx (z + 1) true w0 _ HT5.out.is HT5.out.b0 HN2.out).mono ?_); rintro e w6 ⟨rfl, hi, hb, hk⟩); have HT6 := Aside0.mk (TN.num HT5.out hi hb hk); clear hi hb hk; obtain ⟨HG6, hg6⟩ := HT6.out.is; have hc6_0 := cellS115_0 HG6; have hc6_1 := cellS115_1 HG6; have hc6_2 := cellS115_2 HG6; have hc6_3 := cellS115_3 HG6; have hf6_0 := blk_frozen HG6 0; have hf6_1 := blk_frozen HG6 1; have hf6_2 := blk_frozen HG6 2; have hf6_3 := blk_frozen HG6 3; clear HG6 hg6; have hn6_0 : w6.cell? ⟨gn, 0, none⟩ = some (.int .i64 (1)) := (blk_cell HT6.out.blk 0).trans rfl; have hn6_1 : w6.cell? ⟨gn, 1, none⟩ = some (.int .i64 (0)) := (blk_cell HT6.out.blk 1).trans rfl; have hn6_2 : w6.cell? ⟨gn, 2, none⟩ = some (.int .i64 (0)) := (blk_cell HT6.out.blk 2).trans rfl; have hn6_3 : w6.cell? ⟨gn, 3, none⟩ = some (.int .i64 (0)) := (blk_cell HT6.out.blk 3).trans rfl; have hnf6_0 := blk_frozen HT6.out.blk 0; have hnf6_1 := blk_frozen HT6.out.blk 1; have hnf6_2 := blk_frozen HT6.out.blk 2; have hnf6_3 := blk_frozen HT6.out.blk 3; have hne6 := HT6.out.ne))
       go_ret
       rw [HE.out]
       exact (HT6.out.s1 0).post (r := ⟨l, bb, nx, z + 1, true, -1⟩)
      | true =>
       obtain ⟨⟨lp, bp, vp⟩, hp⟩ : ∃ r, putB l bb ⟨1, nm, 0, 0⟩ = r := ⟨_, rfl⟩
       have he : tmI t (d + 1) ⟨l, bb, a, z, false, -1⟩ = ⟨lp, bp, en, z + 1, false, vp⟩ := by rw [tmI, if_neg hz]; simp [hr, hr2, putT, atT, hp]
       rw [if_pos (by simp)] at hn2
       have HN2 := Aside0.mk hn2
       have HE := Aside0.mk he
       have HP := Aside0.mk hp
       clear hn hn2 he hT hz ih h2 hr hr2 hk IH hp
       go_enter Try.func115, Try.ntmps115
       go_wp2_with (first | ((with_reducible refine gate_dst (N := 5) rfl ?_); refine box_event ?hg (N := 5) ?hd (cs := #[.int .i64 0, .int .i64 0, .int .i64 0, .int .i64 0]) (t := 34) ?hr ?_; (case hd => rfl); (case hg => rfl); (case hr => first | (go_simp; done) | (go_simp; rfl)); intro gn hg1 w3 hbox hb; have HT3 := Aside0.mk (TN.new (HT0.out.set2 (z + 1)) hg1 hbox hb); clear hg1 hbox hb; obtain ⟨HG3, hg3⟩ := HT3.out.is; have hc3_0 := cellS115_0 HG3; have hc3_1 := cellS115_1 HG3; have hc3_2 := cellS115_2 HG3; have hc3_3 := cellS115_3 HG3; have hf3_0 := blk_frozen HG3 0; have hf3_1 := blk_frozen HG3 1; have hf3_2 := blk_frozen HG3 2; have hf3_3 := blk_frozen HG3 3; clear HG3 hg3; have hn3_0 : w3.cell? ⟨gn, 0, none⟩ = some (.int .i64 (0)) := (blk_cell HT3.out.blk 0).trans rfl; have hn3_1 : w3.cell? ⟨gn, 1, none⟩ = some (.int .i64 (0)) := (blk_cell HT3.out.blk 1).trans rfl; have hn3_2 : w3.cell? ⟨gn, 2, none⟩ = some (.int .i64 (0)) := (blk_cell HT3.out.blk 2).trans rfl; have hn3_3 : w3.cell? ⟨gn, 3, none⟩ = some (.int .i64 (0)) := (blk_cell HT3.out.blk 3).trans rfl; have hnf3_0 := blk_frozen HT3.out.blk 0; have hnf3_1 := blk_frozen HT3.out.blk 1; have hnf3_2 := blk_frozen HT3.out.blk 2; have hnf3_3 := blk_frozen HT3.out.blk 3; have hne3 := HT3.out.ne) | (go_at_call 127; ((with_reducible refine (impl_scan_number.calls _ gs t a (z + 1) false 1 t nx (z + 1) false w0 _ (((((HT3.out.s0 0).s1 0).s2 0).s3 0)).is (((((HT3.out.s0 0).s1 0).s2 0).s3 0)).b0 HN.out).mono ?_); rintro e w4 ⟨rfl, hi, hb, hk⟩); have HT4 := Aside0.mk (TN.num (((((HT3.out.s0 0).s1 0).s2 0).s3 0)) hi hb hk); clear hi hb hk; obtain ⟨HG4, hg4⟩ := HT4.out.is; have hc4_0 := cellS115_0 HG4; have hc4_1 := cellS115_1 HG4; have hc4_2 := cellS115_2 HG4; have hc4_3 := cellS115_3 HG4; have hf4_0 := blk_frozen HG4 0; have hf4_1 := blk_frozen HG4 1; have hf4_2 := blk_frozen HG4 2; have hf4_3 := blk_frozen HG4 3; clear HG4 hg4; have hn4_0 : w4.cell? ⟨gn, 0, none⟩ = some (.int .i64 (0)) := (blk_cell HT4.out.blk 0).trans rfl; have hn4_1 : w4.cell? ⟨gn, 1, none⟩ = some (.int .i64 (0)) := (blk_cell HT4.out.blk 1).trans rfl; have hn4_2 : w4.cell? ⟨gn, 2, none⟩ = some (.int .i64 (0)) := (blk_cell HT4.out.blk 2).trans rfl; have hn4_3 : w4.cell? ⟨gn, 3, none⟩ = some (.int .i64 (0)) := (blk_cell HT4.out.blk 3).trans rfl; have hnf4_0 := blk_frozen HT4.out.blk 0; have hnf4_1 := blk_frozen HT4.out.blk 1; have hnf4_2 := blk_frozen HT4.out.blk 2; have hnf4_3 := blk_frozen HT4.out.blk 3; have hne4 := HT4.out.ne) | (go_at_call 75; ((with_reducible refine (impl_within.calls 1 1 9 true _ HW.out).mono ?_); rintro e w5 ⟨rfl, hb⟩); have HT5 := Aside0.mk (TN.below (HT4.out.s0 1) hb.below); clear hb; obtain ⟨HG5, hg5⟩ := HT5.out.is; have hc5_0 := cellS115_0 HG5; have hc5_1 := cellS115_1 HG5; have hc5_2 := cellS115_2 HG5; have hc5_3 := cellS115_3 HG5; have hf5_0 := blk_frozen HG5 0; have hf5_1 := blk_frozen HG5 1; have hf5_2 := blk_frozen HG5 2; have hf5_3 := blk_frozen HG5 3; clear HG5 hg5; have hn5_0 : w5.cell? ⟨gn, 0, none⟩ = some (.int .i64 (1)) := (blk_cell HT5.out.blk 0).trans rfl; have hn5_1 : w5.cell? ⟨gn, 1, none⟩ = some (.int .i64 (0)) := (blk_cell HT5.out.blk 1).trans rfl; have hn5_2 : w5.cell? ⟨gn, 2, none⟩ = some (.int .i64 (0)) := (blk_cell HT5.out.blk 2).trans rfl; have hn5_3 : w5.cell? ⟨gn, 3, none⟩ = some (.int .i64 (0)) := (blk_cell HT5.out.blk 3).trans rfl; have hnf5_0 := blk_frozen HT5.out.blk 0; have hnf5_1 := blk_frozen HT5.out.blk 1; have hnf5_2 := blk_frozen HT5.out.blk 2; have hnf5_3 := blk_frozen HT5.out.blk 3; have hne5 := HT5.out.ne) | (go_at_call 127; ((with_reducible refine (impl_scan_number.calls _ gs t nx (z + 1) false nm t en (z + 1) false w0 _ HT5.out.is HT5.out.b0 HN2.out).mono ?_); rintro e w6 ⟨rfl, hi, hb, hk⟩); have HT6 := Aside0.mk (TN.num HT5.out hi hb hk); clear hi hb hk; obtain ⟨HG6, hg6⟩ := HT6.out.is; have hc6_0 := cellS115_0 HG6; have hc6_1 := cellS115_1 HG6; have hc6_2 := cellS115_2 HG6; have hc6_3 := cellS115_3 HG6; have hf6_0 := blk_frozen HG6 0; have hf6_1 := blk_frozen HG6 1; have hf6_2 := blk_frozen HG6 2; have hf6_3 := blk_frozen HG6 3; clear HG6 hg6; have hn6_0 : w6.cell? ⟨gn, 0, none⟩ = some (.int .i64 (1)) := (blk_cell HT6.out.blk 0).trans rfl; have hn6_1 : w6.cell? ⟨gn, 1, none⟩ = some (.int .i64 (0)) := (blk_cell HT6.out.blk 1).trans rfl; have hn6_2 : w6.cell? ⟨gn, 2, none⟩ = some (.int .i64 (0)) := (blk_cell HT6.out.blk 2).trans rfl; have hn6_3 : w6.cell? ⟨gn, 3, none⟩ = some (.int .i64 (0)) := (blk_cell HT6.out.blk 3).trans rfl; have hnf6_0 := blk_frozen HT6.out.blk 0; have hnf6_1 := blk_frozen HT6.out.blk 1; have hnf6_2 := blk_frozen HT6.out.blk 2; have hnf6_3 := blk_frozen HT6.out.blk 3; have hne6 := HT6.out.ne) | (go_at_call 112; ((with_reducible refine (bp_cast HP.out (impl_put l bb ⟨1, nm, 0, 0⟩ _ w0.heap.size g _ (HT6.out.s1 nm).bn)).mono ?_); rintro e w7 hp); have HT7 := Aside0.mk (TN.put (HT6.out.s1 nm) hp); obtain rfl := hp.1; clear hp))
       go_ret
       rw [HE.out]
       exact HT7.out.post (r := ⟨lp, bp, en, z + 1, false, vp⟩)
     ·have hkb : (kd == 1) = false := by simpa using hk1
      obtain ⟨⟨lx, bbx, ax, zx, bx, vx⟩, hx⟩ : ∃ r, tmI t d ⟨l, bb, nx, z + 1, false, -1⟩ = r := ⟨_, rfl⟩
      have hz1 := tmI_sz t d ⟨l, bb, nx, z + 1, false, -1⟩
      rw [hx] at hz1
      have HX := Aside0.mk hx
      by_cases ho : oneKind kd = true
      ·have HO := Aside0.mk (hasB_one hk1 ho)
       cases bx with
       | true =>
        have he : tmI t (d + 1) ⟨l, bb, a, z, false, -1⟩ = ⟨lx, bbx, ax, zx, true, -1⟩ := by rw [tmI, if_neg hz]; simp [hr, hk1, hk.1, hk.2, atT, hx, badT]
        have HE := Aside0.mk he
        clear hn he hT hz ih h2 hr hk hx hk1 hz1
        go_enter Try.func115, Try.ntmps115
        go_wp2_with (first | ((with_reducible refine gate_dst (N := 5) rfl ?_); refine box_event ?hg (N := 5) ?hd (cs := #[.int .i64 0, .int .i64 0, .int .i64 0, .int .i64 0]) (t := 34) ?hr ?_; (case hd => rfl); (case hg => rfl); (case hr => first | (go_simp; done) | (go_simp; rfl)); intro gn hg1 w3 hbox hb; have HT3 := Aside0.mk (TN.new (HT0.out.set2 (z + 1)) hg1 hbox hb); clear hg1 hbox hb; obtain ⟨HG3, hg3⟩ := HT3.out.is; have hc3_0 := cellS115_0 HG3; have hc3_1 := cellS115_1 HG3; have hc3_2 := cellS115_2 HG3; have hc3_3 := cellS115_3 HG3; have hf3_0 := blk_frozen HG3 0; have hf3_1 := blk_frozen HG3 1; have hf3_2 := blk_frozen HG3 2; have hf3_3 := blk_frozen HG3 3; clear HG3 hg3; have hn3_0 : w3.cell? ⟨gn, 0, none⟩ = some (.int .i64 (0)) := (blk_cell HT3.out.blk 0).trans rfl; have hn3_1 : w3.cell? ⟨gn, 1, none⟩ = some (.int .i64 (0)) := (blk_cell HT3.out.blk 1).trans rfl; have hn3_2 : w3.cell? ⟨gn, 2, none⟩ = some (.int .i64 (0)) := (blk_cell HT3.out.blk 2).trans rfl; have hn3_3 : w3.cell? ⟨gn, 3, none⟩ = some (.int .i64 (0)) := (blk_cell HT3.out.blk 3).trans rfl; have hnf3_0 := blk_frozen HT3.out.blk 0; have hnf3_1 := blk_frozen HT3.out.blk 1; have hnf3_2 := blk_frozen HT3.out.blk 2; have hnf3_3 := blk_frozen HT3.out.blk 3; have hne3 := HT3.out.ne) | (go_at_call 127; ((with_reducible refine (impl_scan_number.calls _ gs t a (z + 1) false kd t nx (z + 1) false w0 _ (((((HT3.out.s0 0).s1 0).s2 0).s3 0)).is (((((HT3.out.s0 0).s1 0).s2 0).s3 0)).b0 HN.out).mono ?_); rintro e w4 ⟨rfl, hi, hb, hk⟩); have HT4 := Aside0.mk (TN.num (((((HT3.out.s0 0).s1 0).s2 0).s3 0)) hi hb hk); clear hi hb hk; obtain ⟨HG4, hg4⟩ := HT4.out.is; have hc4_0 := cellS115_0 HG4; have hc4_1 := cellS115_1 HG4; have hc4_2 := cellS115_2 HG4; have hc4_3 := cellS115_3 HG4; have hf4_0 := blk_frozen HG4 0; have hf4_1 := blk_frozen HG4 1; have hf4_2 := blk_frozen HG4 2; have hf4_3 := blk_frozen HG4 3; clear HG4 hg4; have hn4_0 : w4.cell? ⟨gn, 0, none⟩ = some (.int .i64 (0)) := (blk_cell HT4.out.blk 0).trans rfl; have hn4_1 : w4.cell? ⟨gn, 1, none⟩ = some (.int .i64 (0)) := (blk_cell HT4.out.blk 1).trans rfl; have hn4_2 : w4.cell? ⟨gn, 2, none⟩ = some (.int .i64 (0)) := (blk_cell HT4.out.blk 2).trans rfl; have hn4_3 : w4.cell? ⟨gn, 3, none⟩ = some (.int .i64 (0)) := (blk_cell HT4.out.blk 3).trans rfl; have hnf4_0 := blk_frozen HT4.out.blk 0; have hnf4_1 := blk_frozen HT4.out.blk 1; have hnf4_2 := blk_frozen HT4.out.blk 2; have hnf4_3 := blk_frozen HT4.out.blk 3; have hne4 := HT4.out.ne) | (go_at_call 75; ((with_reducible refine (impl_within.calls kd 1 9 true _ HW.out).mono ?_); rintro e w5 ⟨rfl, hb⟩); have HT5 := Aside0.mk (TN.below (HT4.out.s0 kd) hb.below); clear hb; obtain ⟨HG5, hg5⟩ := HT5.out.is; have hc5_0 := cellS115_0 HG5; have hc5_1 := cellS115_1 HG5; have hc5_2 := cellS115_2 HG5; have hc5_3 := cellS115_3 HG5; have hf5_0 := blk_frozen HG5 0; have hf5_1 := blk_frozen HG5 1; have hf5_2 := blk_frozen HG5 2; have hf5_3 := blk_frozen HG5 3; clear HG5 hg5; have hn5_0 : w5.cell? ⟨gn, 0, none⟩ = some (.int .i64 (kd)) := (blk_cell HT5.out.blk 0).trans rfl; have hn5_1 : w5.cell? ⟨gn, 1, none⟩ = some (.int .i64 (0)) := (blk_cell HT5.out.blk 1).trans rfl; have hn5_2 : w5.cell? ⟨gn, 2, none⟩ = some (.int .i64 (0)) := (blk_cell HT5.out.blk 2).trans rfl; have hn5_3 : w5.cell? ⟨gn, 3, none⟩ = some (.int .i64 (0)) := (blk_cell HT5.out.blk 3).trans rfl; have hnf5_0 := blk_frozen HT5.out.blk 0; have hnf5_1 := blk_frozen HT5.out.blk 1; have hnf5_2 := blk_frozen HT5.out.blk 2; have hnf5_3 := blk_frozen HT5.out.blk 3; have hne5 := HT5.out.ne) | (go_at_call 115; ((with_reducible refine (tp_cast HX.out (IH.out w0 _ g gs _ l bb nx HT5.out.st)).mono ?_); rintro e w6 hp); have HT6 := Aside0.mk (TN.sub HT5.out hp); obtain rfl := hp.ret; clear hp; obtain ⟨HG6, hg6⟩ := HT6.out.is; have hc6_0 := cellS115_0 HG6; have hc6_1 := cellS115_1 HG6; have hc6_2 := cellS115_2 HG6; have hc6_3 := cellS115_3 HG6; have hf6_0 := blk_frozen HG6 0; have hf6_1 := blk_frozen HG6 1; have hf6_2 := blk_frozen HG6 2; have hf6_3 := blk_frozen HG6 3; clear HG6 hg6; have hn6_0 : w6.cell? ⟨gn, 0, none⟩ = some (.int .i64 (kd)) := (blk_cell HT6.out.blk 0).trans rfl; have hn6_1 : w6.cell? ⟨gn, 1, none⟩ = some (.int .i64 (0)) := (blk_cell HT6.out.blk 1).trans rfl; have hn6_2 : w6.cell? ⟨gn, 2, none⟩ = some (.int .i64 (0)) := (blk_cell HT6.out.blk 2).trans rfl; have hn6_3 : w6.cell? ⟨gn, 3, none⟩ = some (.int .i64 (0)) := (blk_cell HT6.out.blk 3).trans rfl; have hnf6_0 := blk_frozen HT6.out.blk 0; have hnf6_1 := blk_frozen HT6.out.blk 1; have hnf6_2 := blk_frozen HT6.out.blk 2; have hnf6_3 := blk_frozen HT6.out.blk 3; have hne6 := HT6.out.ne) | (go_at_call 87; ((with_reducible refine (impl_hasB.calls kd _ _ HO.out).mono ?_); rintro e w7 ⟨rfl, hb⟩); have HT7 := Aside0.mk (TN.below (HT6.out.s2 vx) hb.below); clear hb; obtain ⟨HG7, hg7⟩ := HT7.out.is; have hc7_0 := cellS115_0 HG7; have hc7_1 := cellS115_1 HG7; have hc7_2 := cellS115_2 HG7; have hc7_3 := cellS115_3 HG7; have hf7_0 := blk_frozen HG7 0; have hf7_1 := blk_frozen HG7 1; have hf7_2 := blk_frozen HG7 2; have hf7_3 := blk_frozen HG7 3; clear HG7 hg7; have hn7_0 : w7.cell? ⟨gn, 0, none⟩ = some (.int .i64 (kd)) := (blk_cell HT7.out.blk 0).trans rfl; have hn7_1 : w7.cell? ⟨gn, 1, none⟩ = some (.int .i64 (0)) := (blk_cell HT7.out.blk 1).trans rfl; have hn7_2 : w7.cell? ⟨gn, 2, none⟩ = some (.int .i64 (vx)) := (blk_cell HT7.out.blk 2).trans rfl; have hn7_3 : w7.cell? ⟨gn, 3, none⟩ = some (.int .i64 (0)) := (blk_cell HT7.out.blk 3).trans rfl; have hnf7_0 := blk_frozen HT7.out.blk 0; have hnf7_1 := blk_frozen HT7.out.blk 1; have hnf7_2 := blk_frozen HT7.out.blk 2; have hnf7_3 := blk_frozen HT7.out.blk 3; have hne7 := HT7.out.ne))
        go_ret
        rw [HE.out]
        exact HT7.out.post (r := ⟨lx, bbx, ax, zx, true, -1⟩)
       | false =>
        obtain ⟨⟨lp, bp, vp⟩, hp⟩ : ∃ r, putB lx bbx ⟨kd, 0, vx, 0⟩ = r := ⟨_, rfl⟩
        have he : tmI t (d + 1) ⟨l, bb, a, z, false, -1⟩ = ⟨lp, bp, ax, zx, false, vp⟩ := by rw [tmI, if_neg hz]; simp [hr, hk1, hk.1, hk.2, atT, hx, ho, putT, hp]
        have HE := Aside0.mk he
        have HP := Aside0.mk hp
        clear hn he hT hz ih h2 hr hk hx hk1 hz1 hp
        go_enter Try.func115, Try.ntmps115
        go_wp2_with (first | ((with_reducible refine gate_dst (N := 5) rfl ?_); refine box_event ?hg (N := 5) ?hd (cs := #[.int .i64 0, .int .i64 0, .int .i64 0, .int .i64 0]) (t := 34) ?hr ?_; (case hd => rfl); (case hg => rfl); (case hr => first | (go_simp; done) | (go_simp; rfl)); intro gn hg1 w3 hbox hb; have HT3 := Aside0.mk (TN.new (HT0.out.set2 (z + 1)) hg1 hbox hb); clear hg1 hbox hb; obtain ⟨HG3, hg3⟩ := HT3.out.is; have hc3_0 := cellS115_0 HG3; have hc3_1 := cellS115_1 HG3; have hc3_2 := cellS115_2 HG3; have hc3_3 := cellS115_3 HG3; have hf3_0 := blk_frozen HG3 0; have hf3_1 := blk_frozen HG3 1; have hf3_2 := blk_frozen HG3 2; have hf3_3 := blk_frozen HG3 3; clear HG3 hg3; have hn3_0 : w3.cell? ⟨gn, 0, none⟩ = some (.int .i64 (0)) := (blk_cell HT3.out.blk 0).trans rfl; have hn3_1 : w3.cell? ⟨gn, 1, none⟩ = some (.int .i64 (0)) := (blk_cell HT3.out.blk 1).trans rfl; have hn3_2 : w3.cell? ⟨gn, 2, none⟩ = some (.int .i64 (0)) := (blk_cell HT3.out.blk 2).trans rfl; have hn3_3 : w3.cell? ⟨gn, 3, none⟩ = some (.int .i64 (0)) := (blk_cell HT3.out.blk 3).trans rfl; have hnf3_0 := blk_frozen HT3.out.blk 0; have hnf3_1 := blk_frozen HT3.out.blk 1; have hnf3_2 := blk_frozen HT3.out.blk 2; have hnf3_3 := blk_frozen HT3.out.blk 3; have hne3 := HT3.out.ne) | (go_at_call 127; ((with_reducible refine (impl_scan_number.calls _ gs t a (z + 1) false kd t nx (z + 1) false w0 _ (((((HT3.out.s0 0).s1 0).s2 0).s3 0)).is (((((HT3.out.s0 0).s1 0).s2 0).s3 0)).b0 HN.out).mono ?_); rintro e w4 ⟨rfl, hi, hb, hk⟩); have HT4 := Aside0.mk (TN.num (((((HT3.out.s0 0).s1 0).s2 0).s3 0)) hi hb hk); clear hi hb hk; obtain ⟨HG4, hg4⟩ := HT4.out.is; have hc4_0 := cellS115_0 HG4; have hc4_1 := cellS115_1 HG4; have hc4_2 := cellS115_2 HG4; have hc4_3 := cellS115_3 HG4; have hf4_0 := blk_frozen HG4 0; have hf4_1 := blk_frozen HG4 1; have hf4_2 := blk_frozen HG4 2; have hf4_3 := blk_frozen HG4 3; clear HG4 hg4; have hn4_0 : w4.cell? ⟨gn, 0, none⟩ = some (.int .i64 (0)) := (blk_cell HT4.out.blk 0).trans rfl; have hn4_1 : w4.cell? ⟨gn, 1, none⟩ = some (.int .i64 (0)) := (blk_cell HT4.out.blk 1).trans rfl; have hn4_2 : w4.cell? ⟨gn, 2, none⟩ = some (.int .i64 (0)) := (blk_cell HT4.out.blk 2).trans rfl; have hn4_3 : w4.cell? ⟨gn, 3, none⟩ = some (.int .i64 (0)) := (blk_cell HT4.out.blk 3).trans rfl; have hnf4_0 := blk_frozen HT4.out.blk 0; have hnf4_1 := blk_frozen HT4.out.blk 1; have hnf4_2 := blk_frozen HT4.out.blk 2; have hnf4_3 := blk_frozen HT4.out.blk 3; have hne4 := HT4.out.ne) | (go_at_call 75; ((with_reducible refine (impl_within.calls kd 1 9 true _ HW.out).mono ?_); rintro e w5 ⟨rfl, hb⟩); have HT5 := Aside0.mk (TN.below (HT4.out.s0 kd) hb.below); clear hb; obtain ⟨HG5, hg5⟩ := HT5.out.is; have hc5_0 := cellS115_0 HG5; have hc5_1 := cellS115_1 HG5; have hc5_2 := cellS115_2 HG5; have hc5_3 := cellS115_3 HG5; have hf5_0 := blk_frozen HG5 0; have hf5_1 := blk_frozen HG5 1; have hf5_2 := blk_frozen HG5 2; have hf5_3 := blk_frozen HG5 3; clear HG5 hg5; have hn5_0 : w5.cell? ⟨gn, 0, none⟩ = some (.int .i64 (kd)) := (blk_cell HT5.out.blk 0).trans rfl; have hn5_1 : w5.cell? ⟨gn, 1, none⟩ = some (.int .i64 (0)) := (blk_cell HT5.out.blk 1).trans rfl; have hn5_2 : w5.cell? ⟨gn, 2, none⟩ = some (.int .i64 (0)) := (blk_cell HT5.out.blk 2).trans rfl; have hn5_3 : w5.cell? ⟨gn, 3, none⟩ = some (.int .i64 (0)) := (blk_cell HT5.out.blk 3).trans rfl; have hnf5_0 := blk_frozen HT5.out.blk 0; have hnf5_1 := blk_frozen HT5.out.blk 1; have hnf5_2 := blk_frozen HT5.out.blk 2; have hnf5_3 := blk_frozen HT5.out.blk 3; have hne5 := HT5.out.ne) | (go_at_call 115; ((with_reducible refine (tp_cast HX.out (IH.out w0 _ g gs _ l bb nx HT5.out.st)).mono ?_); rintro e w6 hp); have HT6 := Aside0.mk (TN.sub HT5.out hp); obtain rfl := hp.ret; clear hp; obtain ⟨HG6, hg6⟩ := HT6.out.is; have hc6_0 := cellS115_0 HG6; have hc6_1 := cellS115_1 HG6; have hc6_2 := cellS115_2 HG6; have hc6_3 := cellS115_3 HG6; have hf6_0 := blk_frozen HG6 0; have hf6_1 := blk_frozen HG6 1; have hf6_2 := blk_frozen HG6 2; have hf6_3 := blk_frozen HG6 3; clear HG6 hg6; have hn6_0 : w6.cell? ⟨gn, 0, none⟩ = some (.int .i64 (kd)) := (blk_cell HT6.out.blk 0).trans rfl; have hn6_1 : w6.cell? ⟨gn, 1, none⟩ = some (.int .i64 (0)) := (blk_cell HT6.out.blk 1).trans rfl; have hn6_2 : w6.cell? ⟨gn, 2, none⟩ = some (.int .i64 (0)) := (blk_cell HT6.out.blk 2).trans rfl; have hn6_3 : w6.cell? ⟨gn, 3, none⟩ = some (.int .i64 (0)) := (blk_cell HT6.out.blk 3).trans rfl; have hnf6_0 := blk_frozen HT6.out.blk 0; have hnf6_1 := blk_frozen HT6.out.blk 1; have hnf6_2 := blk_frozen HT6.out.blk 2; have hnf6_3 := blk_frozen HT6.out.blk 3; have hne6 := HT6.out.ne) | (go_at_call 87; ((with_reducible refine (impl_hasB.calls kd false _ HO.out).mono ?_); rintro e w7 ⟨rfl, hb⟩); have HT7 := Aside0.mk (TN.below (HT6.out.s2 vx) hb.below); clear hb; obtain ⟨HG7, hg7⟩ := HT7.out.is; have hc7_0 := cellS115_0 HG7; have hc7_1 := cellS115_1 HG7; have hc7_2 := cellS115_2 HG7; have hc7_3 := cellS115_3 HG7; have hf7_0 := blk_frozen HG7 0; have hf7_1 := blk_frozen HG7 1; have hf7_2 := blk_frozen HG7 2; have hf7_3 := blk_frozen HG7 3; clear HG7 hg7; have hn7_0 : w7.cell? ⟨gn, 0, none⟩ = some (.int .i64 (kd)) := (blk_cell HT7.out.blk 0).trans rfl; have hn7_1 : w7.cell? ⟨gn, 1, none⟩ = some (.int .i64 (0)) := (blk_cell HT7.out.blk 1).trans rfl; have hn7_2 : w7.cell? ⟨gn, 2, none⟩ = some (.int .i64 (vx)) := (blk_cell HT7.out.blk 2).trans rfl; have hn7_3 : w7.cell? ⟨gn, 3, none⟩ = some (.int .i64 (0)) := (blk_cell HT7.out.blk 3).trans rfl; have hnf7_0 := blk_frozen HT7.out.blk 0; have hnf7_1 := blk_frozen HT7.out.blk 1; have hnf7_2 := blk_frozen HT7.out.blk 2; have hnf7_3 := blk_frozen HT7.out.blk 3; have hne7 := HT7.out.ne) | (go_at_call 112; ((with_reducible refine (bp_cast HP.out (impl_put lx bbx ⟨kd, 0, vx, 0⟩ _ w0.heap.size g _ HT7.out.bn)).mono ?_); rintro e w8 hp); have HT8 := Aside0.mk (TN.put HT7.out hp); obtain rfl := hp.1; clear hp))
        go_ret
        rw [HE.out]
        exact HT8.out.post (r := ⟨lp, bp, ax, zx, false, vp⟩)
      ·have ho : oneKind kd = false := by simpa using ho
       have HO := Aside0.mk (hasB_two hk1 ho)
       cases bx with
       | true =>
        have he : tmI t (d + 1) ⟨l, bb, a, z, false, -1⟩ = ⟨lx, bbx, ax, zx, true, -1⟩ := by rw [tmI, if_neg hz]; simp [hr, hk1, hk.1, hk.2, atT, hx, badT]
        have HE := Aside0.mk he
        clear hn he hT hz ih h2 hr hk hx hk1 hz1
        go_enter Try.func115, Try.ntmps115
        go_wp2_with (first | ((with_reducible refine gate_dst (N := 5) rfl ?_); refine box_event ?hg (N := 5) ?hd (cs := #[.int .i64 0, .int .i64 0, .int .i64 0, .int .i64 0]) (t := 34) ?hr ?_; (case hd => rfl); (case hg => rfl); (case hr => first | (go_simp; done) | (go_simp; rfl)); intro gn hg1 w3 hbox hb; have HT3 := Aside0.mk (TN.new (HT0.out.set2 (z + 1)) hg1 hbox hb); clear hg1 hbox hb; obtain ⟨HG3, hg3⟩ := HT3.out.is; have hc3_0 := cellS115_0 HG3; have hc3_1 := cellS115_1 HG3; have hc3_2 := cellS115_2 HG3; have hc3_3 := cellS115_3 HG3; have hf3_0 := blk_frozen HG3 0; have hf3_1 := blk_frozen HG3 1; have hf3_2 := blk_frozen HG3 2; have hf3_3 := blk_frozen HG3 3; clear HG3 hg3; have hn3_0 : w3.cell? ⟨gn, 0, none⟩ = some (.int .i64 (0)) := (blk_cell HT3.out.blk 0).trans rfl; have hn3_1 : w3.cell? ⟨gn, 1, none⟩ = some (.int .i64 (0)) := (blk_cell HT3.out.blk 1).trans rfl; have hn3_2 : w3.cell? ⟨gn, 2, none⟩ = some (.int .i64 (0)) := (blk_cell HT3.out.blk 2).trans rfl; have hn3_3 : w3.cell? ⟨gn, 3, none⟩ = some (.int .i64 (0)) := (blk_cell HT3.out.blk 3).trans rfl; have hnf3_0 := blk_frozen HT3.out.blk 0; have hnf3_1 := blk_frozen HT3.out.blk 1; have hnf3_2 := blk_frozen HT3.out.blk 2; have hnf3_3 := blk_frozen HT3.out.blk 3; have hne3 := HT3.out.ne) | (go_at_call 127; ((with_reducible refine (impl_scan_number.calls _ gs t a (z + 1) false kd t nx (z + 1) false w0 _ (((((HT3.out.s0 0).s1 0).s2 0).s3 0)).is (((((HT3.out.s0 0).s1 0).s2 0).s3 0)).b0 HN.out).mono ?_); rintro e w4 ⟨rfl, hi, hb, hk⟩); have HT4 := Aside0.mk (TN.num (((((HT3.out.s0 0).s1 0).s2 0).s3 0)) hi hb hk); clear hi hb hk; obtain ⟨HG4, hg4⟩ := HT4.out.is; have hc4_0 := cellS115_0 HG4; have hc4_1 := cellS115_1 HG4; have hc4_2 := cellS115_2 HG4; have hc4_3 := cellS115_3 HG4; have hf4_0 := blk_frozen HG4 0; have hf4_1 := blk_frozen HG4 1; have hf4_2 := blk_frozen HG4 2; have hf4_3 := blk_frozen HG4 3; clear HG4 hg4; have hn4_0 : w4.cell? ⟨gn, 0, none⟩ = some (.int .i64 (0)) := (blk_cell HT4.out.blk 0).trans rfl; have hn4_1 : w4.cell? ⟨gn, 1, none⟩ = some (.int .i64 (0)) := (blk_cell HT4.out.blk 1).trans rfl; have hn4_2 : w4.cell? ⟨gn, 2, none⟩ = some (.int .i64 (0)) := (blk_cell HT4.out.blk 2).trans rfl; have hn4_3 : w4.cell? ⟨gn, 3, none⟩ = some (.int .i64 (0)) := (blk_cell HT4.out.blk 3).trans rfl; have hnf4_0 := blk_frozen HT4.out.blk 0; have hnf4_1 := blk_frozen HT4.out.blk 1; have hnf4_2 := blk_frozen HT4.out.blk 2; have hnf4_3 := blk_frozen HT4.out.blk 3; have hne4 := HT4.out.ne) | (go_at_call 75; ((with_reducible refine (impl_within.calls kd 1 9 true _ HW.out).mono ?_); rintro e w5 ⟨rfl, hb⟩); have HT5 := Aside0.mk (TN.below (HT4.out.s0 kd) hb.below); clear hb; obtain ⟨HG5, hg5⟩ := HT5.out.is; have hc5_0 := cellS115_0 HG5; have hc5_1 := cellS115_1 HG5; have hc5_2 := cellS115_2 HG5; have hc5_3 := cellS115_3 HG5; have hf5_0 := blk_frozen HG5 0; have hf5_1 := blk_frozen HG5 1; have hf5_2 := blk_frozen HG5 2; have hf5_3 := blk_frozen HG5 3; clear HG5 hg5; have hn5_0 : w5.cell? ⟨gn, 0, none⟩ = some (.int .i64 (kd)) := (blk_cell HT5.out.blk 0).trans rfl; have hn5_1 : w5.cell? ⟨gn, 1, none⟩ = some (.int .i64 (0)) := (blk_cell HT5.out.blk 1).trans rfl; have hn5_2 : w5.cell? ⟨gn, 2, none⟩ = some (.int .i64 (0)) := (blk_cell HT5.out.blk 2).trans rfl; have hn5_3 : w5.cell? ⟨gn, 3, none⟩ = some (.int .i64 (0)) := (blk_cell HT5.out.blk 3).trans rfl; have hnf5_0 := blk_frozen HT5.out.blk 0; have hnf5_1 := blk_frozen HT5.out.blk 1; have hnf5_2 := blk_frozen HT5.out.blk 2; have hnf5_3 := blk_frozen HT5.out.blk 3; have hne5 := HT5.out.ne) | (go_at_call 115; ((with_reducible refine (tp_cast HX.out (IH.out w0 _ g gs _ l bb nx HT5.out.st)).mono ?_); rintro e w6 hp); have HT6 := Aside0.mk (TN.sub HT5.out hp); obtain rfl := hp.ret; clear hp; obtain ⟨HG6, hg6⟩ := HT6.out.is; have hc6_0 := cellS115_0 HG6; have hc6_1 := cellS115_1 HG6; have hc6_2 := cellS115_2 HG6; have hc6_3 := cellS115_3 HG6; have hf6_0 := blk_frozen HG6 0; have hf6_1 := blk_frozen HG6 1; have hf6_2 := blk_frozen HG6 2; have hf6_3 := blk_frozen HG6 3; clear HG6 hg6; have hn6_0 : w6.cell? ⟨gn, 0, none⟩ = some (.int .i64 (kd)) := (blk_cell HT6.out.blk 0).trans rfl; have hn6_1 : w6.cell? ⟨gn, 1, none⟩ = some (.int .i64 (0)) := (blk_cell HT6.out.blk 1).trans rfl; have hn6_2 : w6.cell? ⟨gn, 2, none⟩ = some (.int .i64 (0)) := (blk_cell HT6.out.blk 2).trans rfl; have hn6_3 : w6.cell? ⟨gn, 3, none⟩ = some (.int .i64 (0)) := (blk_cell HT6.out.blk 3).trans rfl; have hnf6_0 := blk_frozen HT6.out.blk 0; have hnf6_1 := blk_frozen HT6.out.blk 1; have hnf6_2 := blk_frozen HT6.out.blk 2; have hnf6_3 := blk_frozen HT6.out.blk 3; have hne6 := HT6.out.ne) | (go_at_call 87; ((with_reducible refine (impl_hasB.calls kd _ _ HO.out).mono ?_); rintro e w7 ⟨rfl, hb⟩); have HT7 := Aside0.mk (TN.below (HT6.out.s2 vx) hb.below); clear hb; obtain ⟨HG7, hg7⟩ := HT7.out.is; have hc7_0 := cellS115_0 HG7; have hc7_1 := cellS115_1 HG7; have hc7_2 := cellS115_2 HG7; have hc7_3 := cellS115_3 HG7; have hf7_0 := blk_frozen HG7 0; have hf7_1 := blk_frozen HG7 1; have hf7_2 := blk_frozen HG7 2; have hf7_3 := blk_frozen HG7 3; clear HG7 hg7; have hn7_0 : w7.cell? ⟨gn, 0, none⟩ = some (.int .i64 (kd)) := (blk_cell HT7.out.blk 0).trans rfl; have hn7_1 : w7.cell? ⟨gn, 1, none⟩ = some (.int .i64 (0)) := (blk_cell HT7.out.blk 1).trans rfl; have hn7_2 : w7.cell? ⟨gn, 2, none⟩ = some (.int .i64 (vx)) := (blk_cell HT7.out.blk 2).trans rfl; have hn7_3 : w7.cell? ⟨gn, 3, none⟩ = some (.int .i64 (0)) := (blk_cell HT7.out.blk 3).trans rfl; have hnf7_0 := blk_frozen HT7.out.blk 0; have hnf7_1 := blk_frozen HT7.out.blk 1; have hnf7_2 := blk_frozen HT7.out.blk 2; have hnf7_3 := blk_frozen HT7.out.blk 3; have hne7 := HT7.out.ne))
        go_ret
        rw [HE.out]
        exact HT7.out.post (r := ⟨lx, bbx, ax, zx, true, -1⟩)
       | false =>
        have hz2 := hz1.2 rfl
        have IH2 := Aside0.mk (fun (w0 w : World) (g gs : Nat) (ok : Nat → Prop) (l : List S34) (bb : Bool) (a : Int) (h : TmS w0 w g gs ok t l bb a zx false) => ih w0 w g gs ok l bb a zx h (by have h3 : z + 1 + 1 ≤ zx := hz2.1; omega) hz2.2 (by have h3 : z + 1 + 1 ≤ zx := hz2.1; omega))
        obtain ⟨⟨ly, bby, ay, zy, by_, vy⟩, hy⟩ : ∃ r, tmI t d ⟨lx, bbx, ax, zx, false, -1⟩ = r := ⟨_, rfl⟩
        have hxv := tmI_v t d lx bbx ax zx false vx
        rw [hy] at hxv
        have HY := Aside0.mk hy
        cases by_ with
        | true =>
         have he : tmI t (d + 1) ⟨l, bb, a, z, false, -1⟩ = ⟨ly, bby, ay, zy, true, -1⟩ := by rw [tmI, if_neg hz]; simp [hr, hk1, hk.1, hk.2, atT, hx, ho, hxv, badT]
         have HE := Aside0.mk he
         clear hn he hT hz ih h2 hr hk hx hk1 hz1 hz2 hxv hy
         go_enter Try.func115, Try.ntmps115
         go_wp2_with (first | ((with_reducible refine gate_dst (N := 5) rfl ?_); refine box_event ?hg (N := 5) ?hd (cs := #[.int .i64 0, .int .i64 0, .int .i64 0, .int .i64 0]) (t := 34) ?hr ?_; (case hd => rfl); (case hg => rfl); (case hr => first | (go_simp; done) | (go_simp; rfl)); intro gn hg1 w3 hbox hb; have HT3 := Aside0.mk (TN.new (HT0.out.set2 (z + 1)) hg1 hbox hb); clear hg1 hbox hb; obtain ⟨HG3, hg3⟩ := HT3.out.is; have hc3_0 := cellS115_0 HG3; have hc3_1 := cellS115_1 HG3; have hc3_2 := cellS115_2 HG3; have hc3_3 := cellS115_3 HG3; have hf3_0 := blk_frozen HG3 0; have hf3_1 := blk_frozen HG3 1; have hf3_2 := blk_frozen HG3 2; have hf3_3 := blk_frozen HG3 3; clear HG3 hg3; have hn3_0 : w3.cell? ⟨gn, 0, none⟩ = some (.int .i64 (0)) := (blk_cell HT3.out.blk 0).trans rfl; have hn3_1 : w3.cell? ⟨gn, 1, none⟩ = some (.int .i64 (0)) := (blk_cell HT3.out.blk 1).trans rfl; have hn3_2 : w3.cell? ⟨gn, 2, none⟩ = some (.int .i64 (0)) := (blk_cell HT3.out.blk 2).trans rfl; have hn3_3 : w3.cell? ⟨gn, 3, none⟩ = some (.int .i64 (0)) := (blk_cell HT3.out.blk 3).trans rfl; have hnf3_0 := blk_frozen HT3.out.blk 0; have hnf3_1 := blk_frozen HT3.out.blk 1; have hnf3_2 := blk_frozen HT3.out.blk 2; have hnf3_3 := blk_frozen HT3.out.blk 3; have hne3 := HT3.out.ne) | (go_at_call 127; ((with_reducible refine (impl_scan_number.calls _ gs t a (z + 1) false kd t nx (z + 1) false w0 _ (((((HT3.out.s0 0).s1 0).s2 0).s3 0)).is (((((HT3.out.s0 0).s1 0).s2 0).s3 0)).b0 HN.out).mono ?_); rintro e w4 ⟨rfl, hi, hb, hk⟩); have HT4 := Aside0.mk (TN.num (((((HT3.out.s0 0).s1 0).s2 0).s3 0)) hi hb hk); clear hi hb hk; obtain ⟨HG4, hg4⟩ := HT4.out.is; have hc4_0 := cellS115_0 HG4; have hc4_1 := cellS115_1 HG4; have hc4_2 := cellS115_2 HG4; have hc4_3 := cellS115_3 HG4; have hf4_0 := blk_frozen HG4 0; have hf4_1 := blk_frozen HG4 1; have hf4_2 := blk_frozen HG4 2; have hf4_3 := blk_frozen HG4 3; clear HG4 hg4; have hn4_0 : w4.cell? ⟨gn, 0, none⟩ = some (.int .i64 (0)) := (blk_cell HT4.out.blk 0).trans rfl; have hn4_1 : w4.cell? ⟨gn, 1, none⟩ = some (.int .i64 (0)) := (blk_cell HT4.out.blk 1).trans rfl; have hn4_2 : w4.cell? ⟨gn, 2, none⟩ = some (.int .i64 (0)) := (blk_cell HT4.out.blk 2).trans rfl; have hn4_3 : w4.cell? ⟨gn, 3, none⟩ = some (.int .i64 (0)) := (blk_cell HT4.out.blk 3).trans rfl; have hnf4_0 := blk_frozen HT4.out.blk 0; have hnf4_1 := blk_frozen HT4.out.blk 1; have hnf4_2 := blk_frozen HT4.out.blk 2; have hnf4_3 := blk_frozen HT4.out.blk 3; have hne4 := HT4.out.ne) | (go_at_call 75; ((with_reducible refine (impl_within.calls kd 1 9 true _ HW.out).mono ?_); rintro e w5 ⟨rfl, hb⟩); have HT5 := Aside0.mk (TN.below (HT4.out.s0 kd) hb.below); clear hb; obtain ⟨HG5, hg5⟩ := HT5.out.is; have hc5_0 := cellS115_0 HG5; have hc5_1 := cellS115_1 HG5; have hc5_2 := cellS115_2 HG5; have hc5_3 := cellS115_3 HG5; have hf5_0 := blk_frozen HG5 0; have hf5_1 := blk_frozen HG5 1; have hf5_2 := blk_frozen HG5 2; have hf5_3 := blk_frozen HG5 3; clear HG5 hg5; have hn5_0 : w5.cell? ⟨gn, 0, none⟩ = some (.int .i64 (kd)) := (blk_cell HT5.out.blk 0).trans rfl; have hn5_1 : w5.cell? ⟨gn, 1, none⟩ = some (.int .i64 (0)) := (blk_cell HT5.out.blk 1).trans rfl; have hn5_2 : w5.cell? ⟨gn, 2, none⟩ = some (.int .i64 (0)) := (blk_cell HT5.out.blk 2).trans rfl; have hn5_3 : w5.cell? ⟨gn, 3, none⟩ = some (.int .i64 (0)) := (blk_cell HT5.out.blk 3).trans rfl; have hnf5_0 := blk_frozen HT5.out.blk 0; have hnf5_1 := blk_frozen HT5.out.blk 1; have hnf5_2 := blk_frozen HT5.out.blk 2; have hnf5_3 := blk_frozen HT5.out.blk 3; have hne5 := HT5.out.ne) | (go_at_call 115; ((with_reducible refine (tp_cast HX.out (IH.out w0 _ g gs _ l bb nx HT5.out.st)).mono ?_); rintro e w6 hp); have HT6 := Aside0.mk (TN.sub HT5.out hp); obtain rfl := hp.ret; clear hp; obtain ⟨HG6, hg6⟩ := HT6.out.is; have hc6_0 := cellS115_0 HG6; have hc6_1 := cellS115_1 HG6; have hc6_2 := cellS115_2 HG6; have hc6_3 := cellS115_3 HG6; have hf6_0 := blk_frozen HG6 0; have hf6_1 := blk_frozen HG6 1; have hf6_2 := blk_frozen HG6 2; have hf6_3 := blk_frozen HG6 3; clear HG6 hg6; have hn6_0 : w6.cell? ⟨gn, 0, none⟩ = some (.int .i64 (kd)) := (blk_cell HT6.out.blk 0).trans rfl; have hn6_1 : w6.cell? ⟨gn, 1, none⟩ = some (.int .i64 (0)) := (blk_cell HT6.out.blk 1).trans rfl; have hn6_2 : w6.cell? ⟨gn, 2, none⟩ = some (.int .i64 (0)) := (blk_cell HT6.out.blk 2).trans rfl; have hn6_3 : w6.cell? ⟨gn, 3, none⟩ = some (.int .i64 (0)) := (blk_cell HT6.out.blk 3).trans rfl; have hnf6_0 := blk_frozen HT6.out.blk 0; have hnf6_1 := blk_frozen HT6.out.blk 1; have hnf6_2 := blk_frozen HT6.out.blk 2; have hnf6_3 := blk_frozen HT6.out.blk 3; have hne6 := HT6.out.ne) | (go_at_call 87; ((with_reducible refine (impl_hasB.calls kd true _ HO.out).mono ?_); rintro e w7 ⟨rfl, hb⟩); have HT7 := Aside0.mk (TN.below (HT6.out.s2 vx) hb.below); clear hb; obtain ⟨HG7, hg7⟩ := HT7.out.is; have hc7_0 := cellS115_0 HG7; have hc7_1 := cellS115_1 HG7; have hc7_2 := cellS115_2 HG7; have hc7_3 := cellS115_3 HG7; have hf7_0 := blk_frozen HG7 0; have hf7_1 := blk_frozen HG7 1; have hf7_2 := blk_frozen HG7 2; have hf7_3 := blk_frozen HG7 3; clear HG7 hg7; have hn7_0 : w7.cell? ⟨gn, 0, none⟩ = some (.int .i64 (kd)) := (blk_cell HT7.out.blk 0).trans rfl; have hn7_1 : w7.cell? ⟨gn, 1, none⟩ = some (.int .i64 (0)) := (blk_cell HT7.out.blk 1).trans rfl; have hn7_2 : w7.cell? ⟨gn, 2, none⟩ = some (.int .i64 (vx)) := (blk_cell HT7.out.blk 2).trans rfl; have hn7_3 : w7.cell? ⟨gn, 3, none⟩ = some (.int .i64 (0)) := (blk_cell HT7.out.blk 3).trans rfl; have hnf7_0 := blk_frozen HT7.out.blk 0; have hnf7_1 := blk_frozen HT7.out.blk 1; have hnf7_2 := blk_frozen HT7.out.blk 2; have hnf7_3 := blk_frozen HT7.out.blk 3; have hne7 := HT7.out.ne) | (go_at_call 115; ((with_reducible refine (tp_cast HY.out (IH2.out w0 _ g gs _ lx bbx ax HT7.out.st)).mono ?_); rintro e w8 hp); have HT8 := Aside0.mk (TN.sub HT7.out hp); obtain rfl := hp.ret; clear hp; obtain ⟨HG8, hg8⟩ := HT8.out.is; have hc8_0 := cellS115_0 HG8; have hc8_1 := cellS115_1 HG8; have hc8_2 := cellS115_2 HG8; have hc8_3 := cellS115_3 HG8; have hf8_0 := blk_frozen HG8 0; have hf8_1 := blk_frozen HG8 1; have hf8_2 := blk_frozen HG8 2; have hf8_3 := blk_frozen HG8 3; clear HG8 hg8; have hn8_0 : w8.cell? ⟨gn, 0, none⟩ = some (.int .i64 (kd)) := (blk_cell HT8.out.blk 0).trans rfl; have hn8_1 : w8.cell? ⟨gn, 1, none⟩ = some (.int .i64 (0)) := (blk_cell HT8.out.blk 1).trans rfl; have hn8_2 : w8.cell? ⟨gn, 2, none⟩ = some (.int .i64 (vx)) := (blk_cell HT8.out.blk 2).trans rfl; have hn8_3 : w8.cell? ⟨gn, 3, none⟩ = some (.int .i64 (0)) := (blk_cell HT8.out.blk 3).trans rfl; have hnf8_0 := blk_frozen HT8.out.blk 0; have hnf8_1 := blk_frozen HT8.out.blk 1; have hnf8_2 := blk_frozen HT8.out.blk 2; have hnf8_3 := blk_frozen HT8.out.blk 3; have hne8 := HT8.out.ne))
         go_ret
         rw [HE.out]
         exact (HT8.out.s3 vy).post (r := ⟨ly, bby, ay, zy, true, -1⟩)
        | false =>
         obtain ⟨⟨lp, bp, vp⟩, hp⟩ : ∃ r, putB ly bby ⟨kd, 0, vx, vy⟩ = r := ⟨_, rfl⟩
         have he : tmI t (d + 1) ⟨l, bb, a, z, false, -1⟩ = ⟨lp, bp, ay, zy, false, vp⟩ := by rw [tmI, if_neg hz]; simp [hr, hk1, hk.1, hk.2, atT, hx, ho, hxv, putT, hp]
         have HE := Aside0.mk he
         have HP := Aside0.mk hp
         clear hn he hT hz ih h2 hr hk hx hk1 hz1 hz2 hxv hy hp
         go_enter Try.func115, Try.ntmps115
         go_wp2_with (first | ((with_reducible refine gate_dst (N := 5) rfl ?_); refine box_event ?hg (N := 5) ?hd (cs := #[.int .i64 0, .int .i64 0, .int .i64 0, .int .i64 0]) (t := 34) ?hr ?_; (case hd => rfl); (case hg => rfl); (case hr => first | (go_simp; done) | (go_simp; rfl)); intro gn hg1 w3 hbox hb; have HT3 := Aside0.mk (TN.new (HT0.out.set2 (z + 1)) hg1 hbox hb); clear hg1 hbox hb; obtain ⟨HG3, hg3⟩ := HT3.out.is; have hc3_0 := cellS115_0 HG3; have hc3_1 := cellS115_1 HG3; have hc3_2 := cellS115_2 HG3; have hc3_3 := cellS115_3 HG3; have hf3_0 := blk_frozen HG3 0; have hf3_1 := blk_frozen HG3 1; have hf3_2 := blk_frozen HG3 2; have hf3_3 := blk_frozen HG3 3; clear HG3 hg3; have hn3_0 : w3.cell? ⟨gn, 0, none⟩ = some (.int .i64 (0)) := (blk_cell HT3.out.blk 0).trans rfl; have hn3_1 : w3.cell? ⟨gn, 1, none⟩ = some (.int .i64 (0)) := (blk_cell HT3.out.blk 1).trans rfl; have hn3_2 : w3.cell? ⟨gn, 2, none⟩ = some (.int .i64 (0)) := (blk_cell HT3.out.blk 2).trans rfl; have hn3_3 : w3.cell? ⟨gn, 3, none⟩ = some (.int .i64 (0)) := (blk_cell HT3.out.blk 3).trans rfl; have hnf3_0 := blk_frozen HT3.out.blk 0; have hnf3_1 := blk_frozen HT3.out.blk 1; have hnf3_2 := blk_frozen HT3.out.blk 2; have hnf3_3 := blk_frozen HT3.out.blk 3; have hne3 := HT3.out.ne) | (go_at_call 127; ((with_reducible refine (impl_scan_number.calls _ gs t a (z + 1) false kd t nx (z + 1) false w0 _ (((((HT3.out.s0 0).s1 0).s2 0).s3 0)).is (((((HT3.out.s0 0).s1 0).s2 0).s3 0)).b0 HN.out).mono ?_); rintro e w4 ⟨rfl, hi, hb, hk⟩); have HT4 := Aside0.mk (TN.num (((((HT3.out.s0 0).s1 0).s2 0).s3 0)) hi hb hk); clear hi hb hk; obtain ⟨HG4, hg4⟩ := HT4.out.is; have hc4_0 := cellS115_0 HG4; have hc4_1 := cellS115_1 HG4; have hc4_2 := cellS115_2 HG4; have hc4_3 := cellS115_3 HG4; have hf4_0 := blk_frozen HG4 0; have hf4_1 := blk_frozen HG4 1; have hf4_2 := blk_frozen HG4 2; have hf4_3 := blk_frozen HG4 3; clear HG4 hg4; have hn4_0 : w4.cell? ⟨gn, 0, none⟩ = some (.int .i64 (0)) := (blk_cell HT4.out.blk 0).trans rfl; have hn4_1 : w4.cell? ⟨gn, 1, none⟩ = some (.int .i64 (0)) := (blk_cell HT4.out.blk 1).trans rfl; have hn4_2 : w4.cell? ⟨gn, 2, none⟩ = some (.int .i64 (0)) := (blk_cell HT4.out.blk 2).trans rfl; have hn4_3 : w4.cell? ⟨gn, 3, none⟩ = some (.int .i64 (0)) := (blk_cell HT4.out.blk 3).trans rfl; have hnf4_0 := blk_frozen HT4.out.blk 0; have hnf4_1 := blk_frozen HT4.out.blk 1; have hnf4_2 := blk_frozen HT4.out.blk 2; have hnf4_3 := blk_frozen HT4.out.blk 3; have hne4 := HT4.out.ne) | (go_at_call 75; ((with_reducible refine (impl_within.calls kd 1 9 true _ HW.out).mono ?_); rintro e w5 ⟨rfl, hb⟩); have HT5 := Aside0.mk (TN.below (HT4.out.s0 kd) hb.below); clear hb; obtain ⟨HG5, hg5⟩ := HT5.out.is; have hc5_0 := cellS115_0 HG5; have hc5_1 := cellS115_1 HG5; have hc5_2 := cellS115_2 HG5; have hc5_3 := cellS115_3 HG5; have hf5_0 := blk_frozen HG5 0; have hf5_1 := blk_frozen HG5 1; have hf5_2 := blk_frozen HG5 2; have hf5_3 := blk_frozen HG5 3; clear HG5 hg5; have hn5_0 : w5.cell? ⟨gn, 0, none⟩ = some (.int .i64 (kd)) := (blk_cell HT5.out.blk 0).trans rfl; have hn5_1 : w5.cell? ⟨gn, 1, none⟩ = some (.int .i64 (0)) := (blk_cell HT5.out.blk 1).trans rfl; have hn5_2 : w5.cell? ⟨gn, 2, none⟩ = some (.int .i64 (0)) := (blk_cell HT5.out.blk 2).trans rfl; have hn5_3 : w5.cell? ⟨gn, 3, none⟩ = some (.int .i64 (0)) := (blk_cell HT5.out.blk 3).trans rfl; have hnf5_0 := blk_frozen HT5.out.blk 0; have hnf5_1 := blk_frozen HT5.out.blk 1; have hnf5_2 := blk_frozen HT5.out.blk 2; have hnf5_3 := blk_frozen HT5.out.blk 3; have hne5 := HT5.out.ne) | (go_at_call 115; ((with_reducible refine (tp_cast HX.out (IH.out w0 _ g gs _ l bb nx HT5.out.st)).mono ?_); rintro e w6 hp); have HT6 := Aside0.mk (TN.sub HT5.out hp); obtain rfl := hp.ret; clear hp; obtain ⟨HG6, hg6⟩ := HT6.out.is; have hc6_0 := cellS115_0 HG6; have hc6_1 := cellS115_1 HG6; have hc6_2 := cellS115_2 HG6; have hc6_3 := cellS115_3 HG6; have hf6_0 := blk_frozen HG6 0; have hf6_1 := blk_frozen HG6 1; have hf6_2 := blk_frozen HG6 2; have hf6_3 := blk_frozen HG6 3; clear HG6 hg6; have hn6_0 : w6.cell? ⟨gn, 0, none⟩ = some (.int .i64 (kd)) := (blk_cell HT6.out.blk 0).trans rfl; have hn6_1 : w6.cell? ⟨gn, 1, none⟩ = some (.int .i64 (0)) := (blk_cell HT6.out.blk 1).trans rfl; have hn6_2 : w6.cell? ⟨gn, 2, none⟩ = some (.int .i64 (0)) := (blk_cell HT6.out.blk 2).trans rfl; have hn6_3 : w6.cell? ⟨gn, 3, none⟩ = some (.int .i64 (0)) := (blk_cell HT6.out.blk 3).trans rfl; have hnf6_0 := blk_frozen HT6.out.blk 0; have hnf6_1 := blk_frozen HT6.out.blk 1; have hnf6_2 := blk_frozen HT6.out.blk 2; have hnf6_3 := blk_frozen HT6.out.blk 3; have hne6 := HT6.out.ne) | (go_at_call 87; ((with_reducible refine (impl_hasB.calls kd true _ HO.out).mono ?_); rintro e w7 ⟨rfl, hb⟩); have HT7 := Aside0.mk (TN.below (HT6.out.s2 vx) hb.below); clear hb; obtain ⟨HG7, hg7⟩ := HT7.out.is; have hc7_0 := cellS115_0 HG7; have hc7_1 := cellS115_1 HG7; have hc7_2 := cellS115_2 HG7; have hc7_3 := cellS115_3 HG7; have hf7_0 := blk_frozen HG7 0; have hf7_1 := blk_frozen HG7 1; have hf7_2 := blk_frozen HG7 2; have hf7_3 := blk_frozen HG7 3; clear HG7 hg7; have hn7_0 : w7.cell? ⟨gn, 0, none⟩ = some (.int .i64 (kd)) := (blk_cell HT7.out.blk 0).trans rfl; have hn7_1 : w7.cell? ⟨gn, 1, none⟩ = some (.int .i64 (0)) := (blk_cell HT7.out.blk 1).trans rfl; have hn7_2 : w7.cell? ⟨gn, 2, none⟩ = some (.int .i64 (vx)) := (blk_cell HT7.out.blk 2).trans rfl; have hn7_3 : w7.cell? ⟨gn, 3, none⟩ = some (.int .i64 (0)) := (blk_cell HT7.out.blk 3).trans rfl; have hnf7_0 := blk_frozen HT7.out.blk 0; have hnf7_1 := blk_frozen HT7.out.blk 1; have hnf7_2 := blk_frozen HT7.out.blk 2; have hnf7_3 := blk_frozen HT7.out.blk 3; have hne7 := HT7.out.ne) | (go_at_call 115; ((with_reducible refine (tp_cast HY.out (IH2.out w0 _ g gs _ lx bbx ax HT7.out.st)).mono ?_); rintro e w8 hp); have HT8 := Aside0.mk (TN.sub HT7.out hp); obtain rfl := hp.ret; clear hp; obtain ⟨HG8, hg8⟩ := HT8.out.is; have hc8_0 := cellS115_0 HG8; have hc8_1 := cellS115_1 HG8; have hc8_2 := cellS115_2 HG8; have hc8_3 := cellS115_3 HG8; have hf8_0 := blk_frozen HG8 0; have hf8_1 := blk_frozen HG8 1; have hf8_2 := blk_frozen HG8 2; have hf8_3 := blk_frozen HG8 3; clear HG8 hg8; have hn8_0 : w8.cell? ⟨gn, 0, none⟩ = some (.int .i64 (kd)) := (blk_cell HT8.out.blk 0).trans rfl; have hn8_1 : w8.cell? ⟨gn, 1, none⟩ = some (.int .i64 (0)) := (blk_cell HT8.out.blk 1).trans rfl; have hn8_2 : w8.cell? ⟨gn, 2, none⟩ = some (.int .i64 (vx)) := (blk_cell HT8.out.blk 2).trans rfl; have hn8_3 : w8.cell? ⟨gn, 3, none⟩ = some (.int .i64 (0)) := (blk_cell HT8.out.blk 3).trans rfl; have hnf8_0 := blk_frozen HT8.out.blk 0; have hnf8_1 := blk_frozen HT8.out.blk 1; have hnf8_2 := blk_frozen HT8.out.blk 2; have hnf8_3 := blk_frozen HT8.out.blk 3; have hne8 := HT8.out.ne) | (go_at_call 112; ((with_reducible refine (bp_cast HP.out (impl_put ly bby ⟨kd, 0, vx, vy⟩ _ w0.heap.size g _ (HT8.out.s3 vy).bn)).mono ?_); rintro e w9 hp); have HT9 := Aside0.mk (TN.put (HT8.out.s3 vy) hp); obtain rfl := hp.1; clear hp))
         go_ret
         rw [HE.out]
         exact HT9.out.post (r := ⟨lp, bp, ay, zy, false, vp⟩)
    ·have HW := Aside0.mk (impl_within_out (a := kd) (b := 1) (c := 9) (by omega))
     have he : tmI t (d + 1) ⟨l, bb, a, z, false, -1⟩ = ⟨l, bb, nx, z + 1, true, -1⟩ := by rw [tmI, if_neg hz]; simp only [hr]; rw [if_neg (by simp), if_pos hk]; rfl
     have HE := Aside0.mk he
     clear hn he hT hz ih h2 hr hk IH
     go_enter Try.func115, Try.ntmps115
     go_wp2_with (first | ((with_reducible refine gate_dst (N := 5) rfl ?_); refine box_event ?hg (N := 5) ?hd (cs := #[.int .i64 0, .int .i64 0, .int .i64 0, .int .i64 0]) (t := 34) ?hr ?_; (case hd => rfl); (case hg => rfl); (case hr => first | (go_simp; done) | (go_simp; rfl)); intro gn hg1 w3 hbox hb; have HT3 := Aside0.mk (TN.new (HT0.out.set2 (z + 1)) hg1 hbox hb); clear hg1 hbox hb; obtain ⟨HG3, hg3⟩ := HT3.out.is; have hc3_0 := cellS115_0 HG3; have hc3_1 := cellS115_1 HG3; have hc3_2 := cellS115_2 HG3; have hc3_3 := cellS115_3 HG3; have hf3_0 := blk_frozen HG3 0; have hf3_1 := blk_frozen HG3 1; have hf3_2 := blk_frozen HG3 2; have hf3_3 := blk_frozen HG3 3; clear HG3 hg3; have hn3_0 : w3.cell? ⟨gn, 0, none⟩ = some (.int .i64 (0)) := (blk_cell HT3.out.blk 0).trans rfl; have hn3_1 : w3.cell? ⟨gn, 1, none⟩ = some (.int .i64 (0)) := (blk_cell HT3.out.blk 1).trans rfl; have hn3_2 : w3.cell? ⟨gn, 2, none⟩ = some (.int .i64 (0)) := (blk_cell HT3.out.blk 2).trans rfl; have hn3_3 : w3.cell? ⟨gn, 3, none⟩ = some (.int .i64 (0)) := (blk_cell HT3.out.blk 3).trans rfl; have hnf3_0 := blk_frozen HT3.out.blk 0; have hnf3_1 := blk_frozen HT3.out.blk 1; have hnf3_2 := blk_frozen HT3.out.blk 2; have hnf3_3 := blk_frozen HT3.out.blk 3; have hne3 := HT3.out.ne) | (go_at_call 127; ((with_reducible refine (impl_scan_number.calls _ gs t a (z + 1) false kd t nx (z + 1) false w0 _ (((((HT3.out.s0 0).s1 0).s2 0).s3 0)).is (((((HT3.out.s0 0).s1 0).s2 0).s3 0)).b0 HN.out).mono ?_); rintro e w4 ⟨rfl, hi, hb, hk⟩); have HT4 := Aside0.mk (TN.num (((((HT3.out.s0 0).s1 0).s2 0).s3 0)) hi hb hk); clear hi hb hk; obtain ⟨HG4, hg4⟩ := HT4.out.is; have hc4_0 := cellS115_0 HG4; have hc4_1 := cellS115_1 HG4; have hc4_2 := cellS115_2 HG4; have hc4_3 := cellS115_3 HG4; have hf4_0 := blk_frozen HG4 0; have hf4_1 := blk_frozen HG4 1; have hf4_2 := blk_frozen HG4 2; have hf4_3 := blk_frozen HG4 3; clear HG4 hg4; have hn4_0 : w4.cell? ⟨gn, 0, none⟩ = some (.int .i64 (0)) := (blk_cell HT4.out.blk 0).trans rfl; have hn4_1 : w4.cell? ⟨gn, 1, none⟩ = some (.int .i64 (0)) := (blk_cell HT4.out.blk 1).trans rfl; have hn4_2 : w4.cell? ⟨gn, 2, none⟩ = some (.int .i64 (0)) := (blk_cell HT4.out.blk 2).trans rfl; have hn4_3 : w4.cell? ⟨gn, 3, none⟩ = some (.int .i64 (0)) := (blk_cell HT4.out.blk 3).trans rfl; have hnf4_0 := blk_frozen HT4.out.blk 0; have hnf4_1 := blk_frozen HT4.out.blk 1; have hnf4_2 := blk_frozen HT4.out.blk 2; have hnf4_3 := blk_frozen HT4.out.blk 3; have hne4 := HT4.out.ne) | (go_at_call 75; ((with_reducible refine (impl_within.calls kd 1 9 false _ HW.out).mono ?_); rintro e w5 ⟨rfl, hb⟩); have HT5 := Aside0.mk (TN.below (HT4.out.s0 kd) hb.below); clear hb; obtain ⟨HG5, hg5⟩ := HT5.out.is; have hc5_0 := cellS115_0 HG5; have hc5_1 := cellS115_1 HG5; have hc5_2 := cellS115_2 HG5; have hc5_3 := cellS115_3 HG5; have hf5_0 := blk_frozen HG5 0; have hf5_1 := blk_frozen HG5 1; have hf5_2 := blk_frozen HG5 2; have hf5_3 := blk_frozen HG5 3; clear HG5 hg5; have hn5_0 : w5.cell? ⟨gn, 0, none⟩ = some (.int .i64 (kd)) := (blk_cell HT5.out.blk 0).trans rfl; have hn5_1 : w5.cell? ⟨gn, 1, none⟩ = some (.int .i64 (0)) := (blk_cell HT5.out.blk 1).trans rfl; have hn5_2 : w5.cell? ⟨gn, 2, none⟩ = some (.int .i64 (0)) := (blk_cell HT5.out.blk 2).trans rfl; have hn5_3 : w5.cell? ⟨gn, 3, none⟩ = some (.int .i64 (0)) := (blk_cell HT5.out.blk 3).trans rfl; have hnf5_0 := blk_frozen HT5.out.blk 0; have hnf5_1 := blk_frozen HT5.out.blk 1; have hnf5_2 := blk_frozen HT5.out.blk 2; have hnf5_3 := blk_frozen HT5.out.blk 3; have hne5 := HT5.out.ne))
     go_ret
     rw [HE.out]
     exact (HT5.out.bad true).post (r := ⟨l, bb, nx, z + 1, true, -1⟩)

end Hand

/-! ### impl_ReadTerm: OWN: function 66 -/
namespace Hand
open Go.Proofs.Ytkckdibalopagaa.Base
theorem impl_hasNode_f (l : List S34) (k : Int) (hl : l.length ≤ 9223372036854775807) : impl_hasNode.f l k = some (decide (0 ≤ k) && decide (k ≤ (l.length : Int) - 1)) := by
 unfold impl_hasNode.f
 rw [w64 (by omega) (by omega), impl_within_b]
 rfl

theorem impl_hasB_f (k : Int) : impl_hasB.f k = some (!decide (k = 1) && !oneKind k) := by
 unfold impl_hasB.f oneKind
 by_cases h1 : k = 1
 ·rw [if_pos h1]; simp [h1]
 ·rw [if_neg h1]
  by_cases h3 : k = 3
  ·rw [if_pos h3]; simp [h3]
  ·rw [if_neg h3]
   by_cases h6 : k = 6
   ·simp [h6]
   ·simp [h1, h3, h6]
theorem take_node (l : List S34) (K i : Nat) (hi : i < K) (hK : K ≤ l.length) : rd_T34 (l.take K) (i : Int) = nodeOf l i := by
 unfold nodeOf
 rw [rdI (by rw [List.length_take]; omega), rdI (by omega), List.getElem_take]
theorem impl_Size_ev (l : List S34) (hl : l.length ≤ 1048576) (K : Nat) (hK : K < l.length) : ∀ (d i : Nat), K + 1 - i = d → i ≤ K + 1 → (∀ j, j < i → rightAt l j = true) →
  Ev (fun k => impl_SizeOf.l0 k (K : Int) (sizes l i) (l.take (K + 1)) ((l.take (K + 1)).length : Int) (i : Int)) (szAt l K) := by
 have hT : (l.take (K + 1)).length = K + 1 := by rw [List.length_take]; omega
 intro d
 induction d with
 | zero =>
  intro i hd hi hall
  have e : i = K + 1 := by omega
  subst e
  refine ev_end (fun k => ?_)
  rw [impl_SizeOf.l0, if_neg (by omega), if_pos (by omega), if_pos (by rw [sizes_length]; omega), sizes_rd l (by omega)]
 | succ d ih =>
  intro i hd hi hall
  have hlt : i < l.length := by omega
  refine Ev.step (fun k => by rw [impl_SizeOf.l0, if_pos (by omega), if_pos (by omega), if_pos (by omega), take_node l (K + 1) i (by omega) (by omega)]) ?_
  refine Ev.bind (impl_nodeRight_f _ _ _ _ (i : Int) (by omega)) ?_
  by_cases hr : rightAt l i = true
  ·refine evT hr ?_
   have hp : i = 0 ∨ rd (sizes l i) ((i : Int) - 1) ≠ 0 := by
    by_cases h0 : i = 0
    ·exact .inl h0
    ·right
     rw [show (i : Int) - 1 = ((i - 1 : Nat) : Int) by omega, sizes_rd l (by omega)]
     have := sz_all l (i - 1) (fun j hj => hall j (by omega))
     omega
   have hnext : ∀ x, size1 l (sizes l i) i = x → Ev (fun k => impl_SizeOf.l0 k (K : Int) (sizes l i ++ [x]) (l.take (K + 1)) ((l.take (K + 1)).length : Int) (wrap64 ((i : Int) + 1))) (szAt l K) := by
    intro x hx
    rw [w64 (by omega) (by omega), ← hx]
    refine ih (i + 1) (by omega) (by omega) (fun j hj => ?_)
    by_cases he : j = i
    ·rw [he]; exact hr
    ·exact hall j (by omega)
   have hlen : (sizes l i).length < 17592186044416 := by rw [sizes_length]; omega
   obtain ⟨_, _, h2, h3⟩ := right_parts hr
   have hs : size1 l (sizes l i) i = mn (if (nodeOf l i).f0 = 1 then 1 else if oneKind (nodeOf l i).f0 = true then 1 + rd (sizes l i) (nodeOf l i).f2 else 1 + rd (sizes l i) (nodeOf l i).f2 + rd (sizes l i) (nodeOf l i).f3) 100000 := by
    unfold size1
    rw [if_pos ⟨hr, hp⟩]
   by_cases h1 : (nodeOf l i).f0 = 1
   ·refine evT h1 (ev_now (impl_hasB_f _) (evF (by simp [h1]) (evT hlen (hnext _ ?_))))
    rw [hs, if_pos h1]
   ·refine evF h1 ?_
    rw [if_neg h1] at hs
    obtain ⟨a, ha, hai⟩ := h2 h1
    have hA := sz_bound l a
    rw [ha] at hs ⊢
    rw [sizes_rd l hai] at hs ⊢
    refine evT (by omega) (evT (by rw [sizes_length]; omega) (ev_now (impl_hasB_f _) ?_))
    rw [w64 (x := 1 + szAt l a) (by omega) (by omega)]
    by_cases ho : oneKind (nodeOf l i).f0 = true
    ·rw [if_pos ho] at hs
     exact evF (by simp [ho]) (evT hlen (hnext _ hs))
    ·rw [if_neg ho] at hs
     refine evT (by simp [ho, h1]) ?_
     obtain ⟨b, hb, hbi⟩ := h3 h1 (by simpa using ho)
     have hB := sz_bound l b
     rw [hb] at hs ⊢
     rw [sizes_rd l hbi] at hs ⊢
     rw [w64 (x := 1 + szAt l a + szAt l b) (by omega) (by omega)]
     exact evT (by omega) (evT (by rw [sizes_length]; omega) (evT hlen (hnext _ hs)))
  ·refine ev_cast (evF hr (Ev.now _)) ?_
   have hb := sz_bound l K
   by_cases hz : szAt l K = 0
   ·exact hz.symm
   ·exact absurd (sz_pos_back l K (by omega) i (by omega)).1 hr
theorem impl_SizeOf_f (l : List S34) (hl : l.length ≤ 1048576) (a : Int) : Ev (fun k => impl_SizeOf.f k l a) (sizeOf l a) := by
 unfold impl_SizeOf.f sizeOf
 simp only [impl_hasNode_f l a (by omega), Option.bind_some]
 by_cases h : 0 ≤ a ∧ a < (l.length : Int)
 ·obtain ⟨K, rfl⟩ := Int.eq_ofNat_of_zero_le h.1
  rw [w64 (by omega) (by omega)]
  refine evT (by simp; omega) (evT (by omega) (evT (by omega) ?_))
  refine ev_cast (impl_Size_ev l hl K (by omega) (K + 1) 0 (by omega) (by omega) (fun j hj => by omega)) ?_
  rw [if_pos h, Int.toNat_natCast]
 ·exact ev_cast (evF (by simp; omega) (Ev.now _)) (if_neg h).symm

theorem impl_VarText_ev (d : Nat) : ∀ (n : Nat) (acc : List Int), n < 128 ^ (d + 1) → n ≤ 9223372036854775807 → acc.length + d ≤ 1000000 → Ev (fun k => impl_VarText.l0 k (n : Int) acc) (strOfNums (acc ++ varN n), true) := by
 induction d with
 | zero =>
  intro n acc h hb ha
  rw [varN_small (by omega)]
  refine ev_end (fun k => ?_)
  rw [impl_VarText.l0, if_neg (by omega), if_pos (by omega)]
  congr 5
  omega
 | succ d ih =>
  intro n acc h hb ha
  by_cases hn : n > 127
  ·rw [varN_big hn]
   refine Ev.step (fun k => by rw [impl_VarText.l0, if_pos (by omega), if_pos (by omega)]) ?_
   have e1 : wrap64 (Int.tdiv (n : Int) 128) = ((n / 128 : Nat) : Int) := by
    rw [Int.tdiv_eq_ediv_of_nonneg (by omega)]
    unfold wrap64
    omega
   have e2 : wrap64 ((Int.tmod (n : Int) 128) + 128) % 256 = ((n % 128 + 128 : Nat) : Int) := by
    rw [Int.tmod_eq_emod_of_nonneg (by omega)]
    unfold wrap64
    omega
   rw [e1, e2]
   refine ev_cast (ih (n / 128) _ (by rw [Nat.div_lt_iff_lt_mul (by omega)]; rw [Nat.pow_succ] at h; exact h) (by omega) (by simp; omega)) ?_
   simp
  ·rw [varN_small (by omega)]
   refine ev_end (fun k => ?_)
   rw [impl_VarText.l0, if_neg (by omega), if_pos (by omega)]
   congr 5
   omega
theorem impl_VarText_in {n : Int} (h : 0 ≤ n) (h' : n ≤ 1000000000) : Ev (fun k => impl_VarText.f k n) (strOfNums (varN n.toNat), true) := by
 obtain ⟨m, rfl⟩ := Int.eq_ofNat_of_zero_le h
 exact ev_now (impl_within_in h h') (evT rfl (impl_VarText_ev 9 m [] (by omega) (by omega) (by simp)))
theorem impl_Term_ev (l : List S34) : ∀ (n k : Nat), k < n → k < l.length → 0 < szAt l k → szAt l k ≤ 2000 → ∀ out : List Int, (out.length : Int) + 4 * szAt l k ≤ 1000000 → Ev (fun m => impl_termBytes.f m out l (k : Int)) (out ++ termL l n k) := by
 intro n
 induction n with
 | zero => intro k h; omega
 | succ n ih =>
  intro k hk hl hp hc out hout
  obtain ⟨hr, h1, h2, h3⟩ := sz_split hp hc
  obtain ⟨g0, g1, _, _⟩ := right_parts hr
  have hv := varN_kind g0.1 g0.2
  refine Ev.step (fun m => by rw [impl_termBytes.f]) ?_
  refine evT (by omega) (evT (by omega) (Ev.bind (impl_VarText_in (n := (nodeOf l k).f0) (by omega) (by omega)) (evT (by rw [strOfNums_size]; omega) (ev_now rfl ?_))))
  rw [bytesOf_str (varN_range _)]
  by_cases e1 : (nodeOf l k).f0 = 1
  ·have hn := varN_num (g1 e1).1 (g1 e1).2
   refine evT e1 (Ev.bind (impl_VarText_in (n := (nodeOf l k).f1) (g1 e1).1 (by have := (g1 e1).2; omega)) (evT (by rw [strOfNums_size, List.length_append]; omega) (ev_cast (Ev.now _) ?_)))
   rw [bytesOf_str (varN_range _), termL, if_pos e1, List.append_assoc]
  ·refine evF e1 ?_
   by_cases ho : oneKind (nodeOf l k).f0 = true
   ·obtain ⟨a, ha, hak, hpa, hs⟩ := h2 e1 ho
    have hA := ih a (by omega) (by omega) hpa (by omega) (out ++ varN (nodeOf l k).f0.toNat) (by rw [List.length_append]; omega)
    rw [← ha] at hA
    refine Ev.bind hA (ev_now (impl_hasB_f _) (evF (by show ¬ ((!decide ((nodeOf l k).f0 = 1) && !oneKind (nodeOf l k).f0) = true); simp [ho]) (ev_cast (Ev.now _) ?_)))
    rw [termL, if_neg e1, if_pos ho, ha, Int.toNat_natCast, List.append_nil, List.append_assoc]
   ·obtain ⟨a, b, ha, hak, hpa, hb, hbk, hpb, hs⟩ := h3 e1 (by simpa using ho)
    have hl1 := termL_length l n a (by omega) hpa (by omega)
    have hA := ih a (by omega) (by omega) hpa (by omega) (out ++ varN (nodeOf l k).f0.toNat) (by rw [List.length_append]; omega)
    rw [← ha] at hA
    have hB := ih b (by omega) (by omega) hpb (by omega) (out ++ varN (nodeOf l k).f0.toNat ++ termL l n a) (by rw [List.length_append, List.length_append]; omega)
    rw [← hb] at hB
    refine Ev.bind hA (ev_now (impl_hasB_f _) (evT (by show (!decide ((nodeOf l k).f0 = 1) && !oneKind (nodeOf l k).f0) = true; simp [ho, e1]) (Ev.bind hB (ev_cast (Ev.now _) ?_))))
    rw [termL, if_neg e1, if_neg ho, ha, hb, Int.toNat_natCast, Int.toNat_natCast, List.append_assoc, List.append_assoc]
theorem impl_TermText_f (l : List S34) (hl : l.length ≤ 1048576) (a : Int) : Ev (fun k => impl_TermText.f k l a) (termText l a) := by
 unfold termText
 refine Ev.bind (impl_SizeOf_f l hl a) ?_
 simp only [impl_within_b, Option.bind_some]
 by_cases h : 1 ≤ sizeOf l a ∧ sizeOf l a ≤ 2000
 ·have hin : 0 ≤ a ∧ a < (l.length : Int) := by
   by_cases hi : 0 ≤ a ∧ a < (l.length : Int)
   ·exact hi
   ·unfold sizeOf at h; rw [if_neg hi] at h; omega
  have hs : sizeOf l a = szAt l a.toNat := by unfold sizeOf; rw [if_pos hin]
  rw [hs] at h ⊢
  have ht := impl_Term_ev l (a.toNat + 1) a.toNat (by omega) (by omega) (by omega) h.2 [] (by simp only [List.length_nil]; omega)
  rw [Int.toNat_of_nonneg hin.1] at ht
  exact ev_cast (evT (by simp [h]) (Ev.bind ht (Ev.now _))) (if_pos h).symm
 ·exact ev_cast (evF (by simpa using h) (Ev.now _)) (if_neg h).symm

theorem TmS.made {w4 w5 w6 : World} {g gs : Nat} {t : ByteArray} {l : List S34} {bb : Bool} (h : BnS w5 w4.heap.size g (fun k => w4.heap.size ≤ k ∧ k ≠ g) l bb) (h5 : Below w4.heap.size w4 w5) (hg : gs = w5.heap.size) (hb : Below w5.heap.size w5 w6) (hbk : w6.heap[gs]? = some (.cells #[.string t, .int .i64 0, .int .i64 0, .bool false] 115 (0, 0))) :
    TmS w4 w6 g gs (fun k => (w4.heap.size ≤ k ∧ k ≠ g) ∧ k ≠ gs) t l bb 0 0 false :=
  ⟨h.without gs (by omega) hb (blk_lt hbk), ⟨hbk, by rw [hg]; exact h5.size⟩, below_step h5 hb, by have := h.1.size.2; omega, fun hk => hk.2 rfl⟩
theorem below_meet {w w4 w6 w7 : World} (h4 : Below w.heap.size w w4) (h6 : Below w.heap.size w w6) (h7 : Below w4.heap.size w4 w7) : Below w.heap.size w w7 := h4.trans (h7.mono h4.size)
theorem top_at {w4 w6 w7 : World} {k : Nat} {o : Obj} (h7 : Below w4.heap.size w4 w7) (h6 : Below w4.heap.size w4 w6) (hb : w6.heap[k]? = some o) (hk : k < w4.heap.size) : w7.heap[k]? = some o :=
  (h7.block k hk).trans ((h6.block k hk).symm.trans hb)
theorem end_made {w8 w9 : World} {base go : Nat} {ok : Nat → Prop} {v u : Value} {l : List S34} (h : Kd.R k34 34 w8 base ok v l) (hb : Below w8.heap.size w8 w9) (hg : go = w8.heap.size) : Kd.R k34 34 (w9.setCell ⟨go, 0, none⟩ u) base ok v l :=
  Kd.R_mono (Kd.R_far (p := ⟨go, 0, none⟩) (Kd.R_below (Kd.R_elderB h go (by omega)) hb) (fun k hk => hk.2) u) (fun k hk => hk.1)
theorem end_own2 {w w4 w7 : World} {g gs gr : Nat} {A : Option Addr} {c : Nat} {l : List S34} {u : Value} (ho : Kd.R k34 34 w7 w4.heap.size (fun k => (w4.heap.size ≤ k ∧ k ≠ g) ∧ k ≠ gs) (.slice A l.length c) l) (hs : w.heap.size ≤ w4.heap.size) (hg : gr < w4.heap.size) : Kd.R k34 34 (w7.setCell ⟨gr, 0, none⟩ u) w.heap.size (fun _ => True) (.slice A l.length c) l :=
  Kd.R_lower (Kd.R_mono (Kd.R_far (p := ⟨gr, 0, none⟩) ho (fun k hk e => by have e' : k = gr := e; have := hk.1.1; omega) _) (fun _ _ => trivial)) hs
theorem tmI_len (t : ByteArray) : ∀ (d : Nat) (s : TmR), s.l.length ≤ 1048576 → (tmI t d s).l.length ≤ 1048576 := by
 intro d
 induction d with
 | zero => intro s h; exact h
 | succ d ih =>
  intro s h
  have h1 := ih (atT s (readVar t s.at_).2.1) h
  have h2 := ih _ h1
  rw [tmI]
  split
  ·exact h
  split
  ·exact h
  split
  ·exact h
  split
  ·split
   ·exact h
   ·exact putB_len h
  split
  ·exact h1
  split
  ·exact putB_len h1
  split
  ·exact h2
  ·exact putB_len h2
theorem endN_len {l0 : List S34} {s : List S34 × Bool × Int} (h0 : l0.length ≤ 1048576) (h : s.1.length ≤ 1048576) : (endN l0 s).1.length ≤ 1048576 := by
 unfold endN
 split
 ·exact h0
 ·exact h
end Hand
open Hand in
def impl_ReadTerm.f (l0_0 : List S34) (a1 : ByteArray) : Option (List S34 × Int × Bool) := if l0_0.length ≤ 1048576 ∧ a1.size ≤ 140737488351232 then some (readI l0_0 a1) else none
open Hand in
set_option maxHeartbeats 8000000 in
set_option maxRecDepth 100000 in
theorem impl_ReadTerm.calls (A0_0 : Option Addr) (c0_0 : Nat) (l0_0 : List (S34)) (a1 : ByteArray) (r1 : List (S34)) (r2 : Int) (r3 : Bool) (w : World) (hr0_0 : Kd.C k34 w A0_0 l0_0.length l0_0) (hc0_0 : l0_0.length ≤ c0_0) (h : impl_ReadTerm.f l0_0 a1 = some (r1, r2, r3)) :
  Calls Try.prog 66 #[.agg #[.slice A0_0 l0_0.length c0_0], .string a1] w fun e w' => ∃ v0_ : Value, e = .returned (.tuple #[.agg #[v0_], .int .i64 r2, .bool r3]) ∧ Kd.R k34 34 w' w.heap.size (fun _ => True) v0_ r1 ∧ Below w.heap.size w w' := by
 have hu26 := Try.underlying26
 have hu115 := Try.underlying115
 unfold impl_ReadTerm.f at h
 by_cases hl : l0_0.length ≤ 1048576 ∧ a1.size ≤ 140737488351232
 ·rw [if_pos hl] at h
  have HCF := Aside0.mk (copyI_f hl.1)
  have HL := Aside0.mk hl.1
  have HTS := Aside0.mk hl.2
  have HR0 := Aside0.mk hr0_0
  have HC0 := Aside0.mk hc0_0
  clear hl hr0_0 hc0_0
  replace h := Option.some.inj h
  obtain ⟨⟨lx, bbx, ax, zx, bx, vx⟩, hx⟩ : ∃ s, tmI a1 2001 ⟨l0_0, false, 0, 0, false, -1⟩ = s := ⟨_, rfl⟩
  have HX := Aside0.mk hx
  unfold readI at h
  rw [hx] at h
  have hlx : lx.length ≤ 1048576 := by have := tmI_len a1 2001 ⟨l0_0, false, 0, 0, false, -1⟩ HL.out; rw [hx] at this; exact this
  clear hx
  simp only at h
  obtain ⟨⟨le, ke⟩, he⟩ : ∃ s, endN l0_0 (lx, bbx, vx) = s := ⟨_, rfl⟩
  have HE := Aside0.mk he
  rw [he] at h
  have hle : le.length ≤ 1048576 := by have := endN_len HL.out (s := (lx, bbx, vx)) hlx; rw [he] at this; exact this
  clear he hlx
  unfold chkT at h
  simp only at h
  by_cases hk : ke < 0
  ·rw [if_pos hk] at h
   have hkd : decide (ke < 0) = true := decide_eq_true hk
   simp only [Prod.mk.injEq] at h
   obtain ⟨rfl, rfl, rfl⟩ := h
   clear hk hle
   go_enter Try.func66, Try.ntmps66
   go_wp2_with (first | ((with_reducible refine gate_dst (N := 2) rfl ?_); refine box_event ?hg (N := 2) ?hd (cs := #[.slice A0_0 l0_0.length c0_0]) (t := 26) ?hr ?_; (case hd => rfl); (case hg => rfl); (case hr => first | (go_simp; done) | (go_simp; rfl)); intro ga hg1 w3 hbox hb; have BKa := Aside0.mk hbox; have HB3 := Aside0.mk hb; have GA := Aside0.mk hg1; clear hg1 hbox hb) | ((with_reducible refine gate_dst (N := 4) rfl ?_); refine box_event ?hg (N := 4) ?hd (cs := #[.slice none 0 0]) (t := 26) ?hr ?_; (case hd => rfl); (case hg => rfl); (case hr => first | (go_simp; done) | (go_simp; rfl)); intro gr hg1 w4 hbox hb; have BKr := Aside0.mk hbox; have HB4 := Aside0.mk hb; have GR := Aside0.mk hg1; clear hg1 hbox hb; have HBw4 := Aside0.mk (below_step HB3.out HB4.out); have BKa4 := Aside0.mk (blk_below BKa.out HB4.out); have hca4 : w4.cell? ⟨ga, 0, none⟩ = some (.slice A0_0 l0_0.length c0_0) := (blk_cell BKa4.out 0).trans rfl) | (go_at_call 92; ((with_reducible refine (impl_benchOf A0_0 c0_0 l0_0 _ (Kd.C_below HR0.out HBw4.out) HC0.out HL.out).mono ?_); rintro e w5 hp); obtain ⟨g, rfl, hgs, hB5, hb5⟩ := hp; have HBN := Aside0.mk hB5; have HB5 := Aside0.mk hb5; clear hgs hB5 hb5) | ((with_reducible refine gate_dst (N := 17) rfl ?_); refine box_event ?hg (N := 17) ?hd (cs := #[.string a1, .int .i64 0, .int .i64 0, .bool false]) (t := 115) ?hr ?_; (case hd => rfl); (case hg => rfl); (case hr => first | (go_simp; done) | (go_simp; rfl)); intro gs hg1 w6 hbox hb; have HT6 := Aside0.mk (TmS.made HBN.out HB5.out hg1 hb hbox); have HB6 := Aside0.mk (below_step (below_step HBw4.out HB5.out) hb); have BKa6 := Aside0.mk (blk_below (blk_below BKa4.out HB5.out) hb); have BKr6 := Aside0.mk (blk_below (blk_below BKr.out HB5.out) hb); clear hg1 hb hbox; have hca6 : w6.cell? ⟨ga, 0, none⟩ = some (.slice A0_0 l0_0.length c0_0) := (blk_cell BKa6.out 0).trans rfl) | (go_at_call 115; ((with_reducible refine (tp_cast HX.out (impl_term a1 HTS.out 2001 w4 _ g gs _ l0_0 false 0 0 HT6.out (by omega) (by omega) (by omega))).mono ?_); rintro e w7 hp); have HP7 := Aside0.mk hp; have HBN7 : Aside0 (BnS w7 w4.heap.size g (fun k => (w4.heap.size ≤ k ∧ k ≠ g) ∧ k ≠ gs) lx bbx) := ⟨hp.2.1.1⟩; have HI7 : Aside0 (IsS115 w4 w7 gs a1 ax zx _) := ⟨hp.2.1.2.1⟩; obtain rfl := hp.ret; clear hp; have HB7 := Aside0.mk (below_meet HBw4.out HB6.out HP7.out.2.1.2.2.1); have BKa7 := Aside0.mk (top_at HP7.out.2.1.2.2.1 HT6.out.2.2.1 BKa6.out (blk_lt BKa4.out)); have BKr7 := Aside0.mk (top_at HP7.out.2.1.2.2.1 HT6.out.2.2.1 BKr6.out (blk_lt BKr.out)); have hca7 : w7.cell? ⟨ga, 0, none⟩ = some (.slice A0_0 l0_0.length c0_0) := (blk_cell BKa7.out 0).trans rfl; have hcr7 : w7.cell? ⟨gr, 0, none⟩ = some (.slice none 0 0) := (blk_cell BKr7.out 0).trans rfl; have hfr7 := blk_frozen BKr7.out 0) | (go_at_call 94; ((with_reducible refine (impl_end' (s := (lx, bbx, vx)) HBN7.out HR0.out HC0.out HB7.out HB7.out.size HL.out HE.out).mono ?_); rintro e w8 hp); obtain ⟨v, rfl, hR8, hb8⟩ := hp; obtain ⟨A8, c8, rfl, hl8, _⟩ := Kd.R_reads hR8; have HR8 := Aside0.mk hR8; have HB78 := Aside0.mk hb8; have HL8 := Aside0.mk hl8; have HI8 := Aside0.mk (HI7.out.below hb8); have HB8 := Aside0.mk (below_step HB7.out hb8); clear hR8 hl8 hb8; have BKa8 := Aside0.mk (blk_below BKa7.out HB78.out); have BKr8 := Aside0.mk (blk_below BKr7.out HB78.out); have hca8 : w8.cell? ⟨ga, 0, none⟩ = some (.slice A0_0 l0_0.length c0_0) := (blk_cell BKa8.out 0).trans rfl; have hcr8 : w8.cell? ⟨gr, 0, none⟩ = some (.slice none 0 0) := (blk_cell BKr8.out 0).trans rfl; have hfr8 := blk_frozen BKr8.out 0) | ((with_reducible refine gate_dst (N := 10) rfl ?_); refine box_event ?hg (N := 10) ?hd (cs := #[.slice none 0 0]) (t := 26) ?hr ?_; (case hd => rfl); (case hg => rfl); (case hr => first | (go_simp; done) | (go_simp; rfl)); intro go hg1 w9 hbox hb; have HBo := Aside0.mk hbox; have HB89 := Aside0.mk hb; have GO := Aside0.mk hg1; have HI9 := Aside0.mk (HI8.out.below hb); have HB9 := Aside0.mk (below_step HB8.out hb); have NEO := Aside0.mk (show gs ≠ go by rw [hg1]; exact Nat.ne_of_lt HI8.out.lt); clear hbox hb hg1; have BKa9 := Aside0.mk (blk_below BKa8.out HB89.out); have BKr9 := Aside0.mk (blk_below BKr8.out HB89.out); have hca9 : w9.cell? ⟨ga, 0, none⟩ = some (.slice A0_0 l0_0.length c0_0) := (blk_cell BKa9.out 0).trans rfl; have hcr9 : w9.cell? ⟨gr, 0, none⟩ = some (.slice none 0 0) := (blk_cell BKr9.out 0).trans rfl; have hfr9 := blk_frozen BKr9.out 0; obtain ⟨HG9, hg9⟩ := HI9.out; have hc9_0 := cellS115_0 HG9; have hc9_1 := cellS115_1 HG9; have hc9_2 := cellS115_2 HG9; have hc9_3 := cellS115_3 HG9; have hf9_0 := blk_frozen HG9 0; have hf9_1 := blk_frozen HG9 1; have hf9_2 := blk_frozen HG9 2; have hf9_3 := blk_frozen HG9 3; clear HG9 hg9; have hco9 : w9.cell? ⟨go, 0, none⟩ = some (.slice none 0 0) := (blk_cell HBo.out 0).trans rfl; have hfo9 := blk_frozen HBo.out 0; have neo := NEO.out; have neo2 := NEO.out.symm; have nea : ga ≠ go := (by rw [GO.out]; exact Nat.ne_of_lt (blk_lt BKa8.out)); have ner : gr ≠ go := (by rw [GO.out]; exact Nat.ne_of_lt (blk_lt BKr8.out)); have nea2 := nea.symm; have ner2 := ner.symm))
   go_wp2_with (go_at_call 103; go_loud (((with_reducible refine (impl_copyArena.calls A0_0 c0_0 l0_0 l0_0 _ (Kd.C_below HR0.out (below_set (g := go) (j := 0) (v := .slice A8 le.length c8) HB9.out (by rw [GO.out]; exact HB8.out.size))) HC0.out HCF.out).mono ?_); rintro e w10 ⟨v10, rfl, ho, hb⟩); have HO10 := Aside0.mk ho; have HBq := Aside0.mk (below_set (g := go) (j := 0) (v := .slice A8 le.length c8) HB9.out (by rw [GO.out]; exact HB8.out.size)); have HB10 := Aside0.mk hb; obtain ⟨A10, c10, rfl, hlo, _⟩ := Kd.R_reads ho; clear ho hb hlo; have BKrq := Aside0.mk (blk_far (p := ⟨go, 0, none⟩) BKr9.out ner (.slice A8 le.length c8)); have BKr10 := Aside0.mk (blk_below BKrq.out HB10.out); have hcr10 : w10.cell? ⟨gr, 0, none⟩ = some (.slice none 0 0) := (blk_cell BKr10.out 0).trans rfl; have hfr10 := blk_frozen BKr10.out 0))
   refine bodyPost_ret (results_ctt rfl _ _ gr 26 #[.slice A10 l0_0.length c10] (0, 0) _ rfl (blk_put BKr10.out 0 _ rfl) Try.underlying26 rfl (by kernel_rfl)) rfl ?_
   exact ⟨_, rfl, top_copy HO10.out HBq.out.size (blk_lt BKrq.out), below_set (below_step HBq.out HB10.out) (by rw [GR.out]; exact HB3.out.size)⟩
  ·rw [if_neg hk] at h
   have hkd : decide (ke < 0) = false := decide_eq_false hk
   clear hk
   cases bx with
   | true =>
    rw [if_pos (by rfl)] at h
    simp only [Prod.mk.injEq] at h
    obtain ⟨rfl, rfl, rfl⟩ := h
    clear hle
    go_enter Try.func66, Try.ntmps66
    go_wp2_with (first | ((with_reducible refine gate_dst (N := 2) rfl ?_); refine box_event ?hg (N := 2) ?hd (cs := #[.slice A0_0 l0_0.length c0_0]) (t := 26) ?hr ?_; (case hd => rfl); (case hg => rfl); (case hr => first | (go_simp; done) | (go_simp; rfl)); intro ga hg1 w3 hbox hb; have BKa := Aside0.mk hbox; have HB3 := Aside0.mk hb; have GA := Aside0.mk hg1; clear hg1 hbox hb) | ((with_reducible refine gate_dst (N := 4) rfl ?_); refine box_event ?hg (N := 4) ?hd (cs := #[.slice none 0 0]) (t := 26) ?hr ?_; (case hd => rfl); (case hg => rfl); (case hr => first | (go_simp; done) | (go_simp; rfl)); intro gr hg1 w4 hbox hb; have BKr := Aside0.mk hbox; have HB4 := Aside0.mk hb; have GR := Aside0.mk hg1; clear hg1 hbox hb; have HBw4 := Aside0.mk (below_step HB3.out HB4.out); have BKa4 := Aside0.mk (blk_below BKa.out HB4.out); have hca4 : w4.cell? ⟨ga, 0, none⟩ = some (.slice A0_0 l0_0.length c0_0) := (blk_cell BKa4.out 0).trans rfl) | (go_at_call 92; ((with_reducible refine (impl_benchOf A0_0 c0_0 l0_0 _ (Kd.C_below HR0.out HBw4.out) HC0.out HL.out).mono ?_); rintro e w5 hp); obtain ⟨g, rfl, hgs, hB5, hb5⟩ := hp; have HBN := Aside0.mk hB5; have HB5 := Aside0.mk hb5; clear hgs hB5 hb5) | ((with_reducible refine gate_dst (N := 17) rfl ?_); refine box_event ?hg (N := 17) ?hd (cs := #[.string a1, .int .i64 0, .int .i64 0, .bool false]) (t := 115) ?hr ?_; (case hd => rfl); (case hg => rfl); (case hr => first | (go_simp; done) | (go_simp; rfl)); intro gs hg1 w6 hbox hb; have HT6 := Aside0.mk (TmS.made HBN.out HB5.out hg1 hb hbox); have HB6 := Aside0.mk (below_step (below_step HBw4.out HB5.out) hb); have BKa6 := Aside0.mk (blk_below (blk_below BKa4.out HB5.out) hb); have BKr6 := Aside0.mk (blk_below (blk_below BKr.out HB5.out) hb); clear hg1 hb hbox; have hca6 : w6.cell? ⟨ga, 0, none⟩ = some (.slice A0_0 l0_0.length c0_0) := (blk_cell BKa6.out 0).trans rfl) | (go_at_call 115; ((with_reducible refine (tp_cast HX.out (impl_term a1 HTS.out 2001 w4 _ g gs _ l0_0 false 0 0 HT6.out (by omega) (by omega) (by omega))).mono ?_); rintro e w7 hp); have HP7 := Aside0.mk hp; have HBN7 : Aside0 (BnS w7 w4.heap.size g (fun k => (w4.heap.size ≤ k ∧ k ≠ g) ∧ k ≠ gs) lx bbx) := ⟨hp.2.1.1⟩; have HI7 : Aside0 (IsS115 w4 w7 gs a1 ax zx _) := ⟨hp.2.1.2.1⟩; obtain rfl := hp.ret; clear hp; have HB7 := Aside0.mk (below_meet HBw4.out HB6.out HP7.out.2.1.2.2.1); have BKa7 := Aside0.mk (top_at HP7.out.2.1.2.2.1 HT6.out.2.2.1 BKa6.out (blk_lt BKa4.out)); have BKr7 := Aside0.mk (top_at HP7.out.2.1.2.2.1 HT6.out.2.2.1 BKr6.out (blk_lt BKr.out)); have hca7 : w7.cell? ⟨ga, 0, none⟩ = some (.slice A0_0 l0_0.length c0_0) := (blk_cell BKa7.out 0).trans rfl; have hcr7 : w7.cell? ⟨gr, 0, none⟩ = some (.slice none 0 0) := (blk_cell BKr7.out 0).trans rfl; have hfr7 := blk_frozen BKr7.out 0) | (go_at_call 94; ((with_reducible refine (impl_end' (s := (lx, bbx, vx)) HBN7.out HR0.out HC0.out HB7.out HB7.out.size HL.out HE.out).mono ?_); rintro e w8 hp); obtain ⟨v, rfl, hR8, hb8⟩ := hp; obtain ⟨A8, c8, rfl, hl8, _⟩ := Kd.R_reads hR8; have HR8 := Aside0.mk hR8; have HB78 := Aside0.mk hb8; have HL8 := Aside0.mk hl8; have HI8 := Aside0.mk (HI7.out.below hb8); have HB8 := Aside0.mk (below_step HB7.out hb8); clear hR8 hl8 hb8; have BKa8 := Aside0.mk (blk_below BKa7.out HB78.out); have BKr8 := Aside0.mk (blk_below BKr7.out HB78.out); have hca8 : w8.cell? ⟨ga, 0, none⟩ = some (.slice A0_0 l0_0.length c0_0) := (blk_cell BKa8.out 0).trans rfl; have hcr8 : w8.cell? ⟨gr, 0, none⟩ = some (.slice none 0 0) := (blk_cell BKr8.out 0).trans rfl; have hfr8 := blk_frozen BKr8.out 0) | ((with_reducible refine gate_dst (N := 10) rfl ?_); refine box_event ?hg (N := 10) ?hd (cs := #[.slice none 0 0]) (t := 26) ?hr ?_; (case hd => rfl); (case hg => rfl); (case hr => first | (go_simp; done) | (go_simp; rfl)); intro go hg1 w9 hbox hb; have HBo := Aside0.mk hbox; have HB89 := Aside0.mk hb; have GO := Aside0.mk hg1; have HI9 := Aside0.mk (HI8.out.below hb); have HB9 := Aside0.mk (below_step HB8.out hb); have NEO := Aside0.mk (show gs ≠ go by rw [hg1]; exact Nat.ne_of_lt HI8.out.lt); clear hbox hb hg1; have BKa9 := Aside0.mk (blk_below BKa8.out HB89.out); have BKr9 := Aside0.mk (blk_below BKr8.out HB89.out); have hca9 : w9.cell? ⟨ga, 0, none⟩ = some (.slice A0_0 l0_0.length c0_0) := (blk_cell BKa9.out 0).trans rfl; have hcr9 : w9.cell? ⟨gr, 0, none⟩ = some (.slice none 0 0) := (blk_cell BKr9.out 0).trans rfl; have hfr9 := blk_frozen BKr9.out 0; obtain ⟨HG9, hg9⟩ := HI9.out; have hc9_0 := cellS115_0 HG9; have hc9_1 := cellS115_1 HG9; have hc9_2 := cellS115_2 HG9; have hc9_3 := cellS115_3 HG9; have hf9_0 := blk_frozen HG9 0; have hf9_1 := blk_frozen HG9 1; have hf9_2 := blk_frozen HG9 2; have hf9_3 := blk_frozen HG9 3; clear HG9 hg9; have hco9 : w9.cell? ⟨go, 0, none⟩ = some (.slice none 0 0) := (blk_cell HBo.out 0).trans rfl; have hfo9 := blk_frozen HBo.out 0; have neo := NEO.out; have neo2 := NEO.out.symm; have nea : ga ≠ go := (by rw [GO.out]; exact Nat.ne_of_lt (blk_lt BKa8.out)); have ner : gr ≠ go := (by rw [GO.out]; exact Nat.ne_of_lt (blk_lt BKr8.out)); have nea2 := nea.symm; have ner2 := ner.symm))
    go_wp2_with (go_at_call 103; go_loud (((with_reducible refine (impl_copyArena.calls A0_0 c0_0 l0_0 l0_0 _ (Kd.C_below HR0.out (below_set (g := go) (j := 0) (v := .slice A8 le.length c8) HB9.out (by rw [GO.out]; exact HB8.out.size))) HC0.out HCF.out).mono ?_); rintro e w10 ⟨v10, rfl, ho, hb⟩); have HO10 := Aside0.mk ho; have HBq := Aside0.mk (below_set (g := go) (j := 0) (v := .slice A8 le.length c8) HB9.out (by rw [GO.out]; exact HB8.out.size)); have HB10 := Aside0.mk hb; obtain ⟨A10, c10, rfl, hlo, _⟩ := Kd.R_reads ho; clear ho hb hlo; have BKrq := Aside0.mk (blk_far (p := ⟨go, 0, none⟩) BKr9.out ner (.slice A8 le.length c8)); have BKr10 := Aside0.mk (blk_below BKrq.out HB10.out); have hcr10 : w10.cell? ⟨gr, 0, none⟩ = some (.slice none 0 0) := (blk_cell BKr10.out 0).trans rfl; have hfr10 := blk_frozen BKr10.out 0))
    refine bodyPost_ret (results_ctt rfl _ _ gr 26 #[.slice A10 l0_0.length c10] (0, 0) _ rfl (blk_put BKr10.out 0 _ rfl) Try.underlying26 rfl (by kernel_rfl)) rfl ?_
    exact ⟨_, rfl, top_copy HO10.out HBq.out.size (blk_lt BKrq.out), below_set (below_step HBq.out HB10.out) (by rw [GR.out]; exact HB3.out.size)⟩
   | false =>
   rw [Bool.false_or] at h
   by_cases hen : (ax != (a1.size : Int)) = true
   ·rw [if_pos hen] at h
    simp only [Prod.mk.injEq] at h
    obtain ⟨rfl, rfl, rfl⟩ := h
    clear hle
    go_enter Try.func66, Try.ntmps66
    go_wp2_with (first | ((with_reducible refine gate_dst (N := 2) rfl ?_); refine box_event ?hg (N := 2) ?hd (cs := #[.slice A0_0 l0_0.length c0_0]) (t := 26) ?hr ?_; (case hd => rfl); (case hg => rfl); (case hr => first | (go_simp; done) | (go_simp; rfl)); intro ga hg1 w3 hbox hb; have BKa := Aside0.mk hbox; have HB3 := Aside0.mk hb; have GA := Aside0.mk hg1; clear hg1 hbox hb) | ((with_reducible refine gate_dst (N := 4) rfl ?_); refine box_event ?hg (N := 4) ?hd (cs := #[.slice none 0 0]) (t := 26) ?hr ?_; (case hd => rfl); (case hg => rfl); (case hr => first | (go_simp; done) | (go_simp; rfl)); intro gr hg1 w4 hbox hb; have BKr := Aside0.mk hbox; have HB4 := Aside0.mk hb; have GR := Aside0.mk hg1; clear hg1 hbox hb; have HBw4 := Aside0.mk (below_step HB3.out HB4.out); have BKa4 := Aside0.mk (blk_below BKa.out HB4.out); have hca4 : w4.cell? ⟨ga, 0, none⟩ = some (.slice A0_0 l0_0.length c0_0) := (blk_cell BKa4.out 0).trans rfl) | (go_at_call 92; ((with_reducible refine (impl_benchOf A0_0 c0_0 l0_0 _ (Kd.C_below HR0.out HBw4.out) HC0.out HL.out).mono ?_); rintro e w5 hp); obtain ⟨g, rfl, hgs, hB5, hb5⟩ := hp; have HBN := Aside0.mk hB5; have HB5 := Aside0.mk hb5; clear hgs hB5 hb5) | ((with_reducible refine gate_dst (N := 17) rfl ?_); refine box_event ?hg (N := 17) ?hd (cs := #[.string a1, .int .i64 0, .int .i64 0, .bool false]) (t := 115) ?hr ?_; (case hd => rfl); (case hg => rfl); (case hr => first | (go_simp; done) | (go_simp; rfl)); intro gs hg1 w6 hbox hb; have HT6 := Aside0.mk (TmS.made HBN.out HB5.out hg1 hb hbox); have HB6 := Aside0.mk (below_step (below_step HBw4.out HB5.out) hb); have BKa6 := Aside0.mk (blk_below (blk_below BKa4.out HB5.out) hb); have BKr6 := Aside0.mk (blk_below (blk_below BKr.out HB5.out) hb); clear hg1 hb hbox; have hca6 : w6.cell? ⟨ga, 0, none⟩ = some (.slice A0_0 l0_0.length c0_0) := (blk_cell BKa6.out 0).trans rfl) | (go_at_call 115; ((with_reducible refine (tp_cast HX.out (impl_term a1 HTS.out 2001 w4 _ g gs _ l0_0 false 0 0 HT6.out (by omega) (by omega) (by omega))).mono ?_); rintro e w7 hp); have HP7 := Aside0.mk hp; have HBN7 : Aside0 (BnS w7 w4.heap.size g (fun k => (w4.heap.size ≤ k ∧ k ≠ g) ∧ k ≠ gs) lx bbx) := ⟨hp.2.1.1⟩; have HI7 : Aside0 (IsS115 w4 w7 gs a1 ax zx _) := ⟨hp.2.1.2.1⟩; obtain rfl := hp.ret; clear hp; have HB7 := Aside0.mk (below_meet HBw4.out HB6.out HP7.out.2.1.2.2.1); have BKa7 := Aside0.mk (top_at HP7.out.2.1.2.2.1 HT6.out.2.2.1 BKa6.out (blk_lt BKa4.out)); have BKr7 := Aside0.mk (top_at HP7.out.2.1.2.2.1 HT6.out.2.2.1 BKr6.out (blk_lt BKr.out)); have hca7 : w7.cell? ⟨ga, 0, none⟩ = some (.slice A0_0 l0_0.length c0_0) := (blk_cell BKa7.out 0).trans rfl; have hcr7 : w7.cell? ⟨gr, 0, none⟩ = some (.slice none 0 0) := (blk_cell BKr7.out 0).trans rfl; have hfr7 := blk_frozen BKr7.out 0) | (go_at_call 94; ((with_reducible refine (impl_end' (s := (lx, bbx, vx)) HBN7.out HR0.out HC0.out HB7.out HB7.out.size HL.out HE.out).mono ?_); rintro e w8 hp); obtain ⟨v, rfl, hR8, hb8⟩ := hp; obtain ⟨A8, c8, rfl, hl8, _⟩ := Kd.R_reads hR8; have HR8 := Aside0.mk hR8; have HB78 := Aside0.mk hb8; have HL8 := Aside0.mk hl8; have HI8 := Aside0.mk (HI7.out.below hb8); have HB8 := Aside0.mk (below_step HB7.out hb8); clear hR8 hl8 hb8; have BKa8 := Aside0.mk (blk_below BKa7.out HB78.out); have BKr8 := Aside0.mk (blk_below BKr7.out HB78.out); have hca8 : w8.cell? ⟨ga, 0, none⟩ = some (.slice A0_0 l0_0.length c0_0) := (blk_cell BKa8.out 0).trans rfl; have hcr8 : w8.cell? ⟨gr, 0, none⟩ = some (.slice none 0 0) := (blk_cell BKr8.out 0).trans rfl; have hfr8 := blk_frozen BKr8.out 0) | ((with_reducible refine gate_dst (N := 10) rfl ?_); refine box_event ?hg (N := 10) ?hd (cs := #[.slice none 0 0]) (t := 26) ?hr ?_; (case hd => rfl); (case hg => rfl); (case hr => first | (go_simp; done) | (go_simp; rfl)); intro go hg1 w9 hbox hb; have HBo := Aside0.mk hbox; have HB89 := Aside0.mk hb; have GO := Aside0.mk hg1; have HI9 := Aside0.mk (HI8.out.below hb); have HB9 := Aside0.mk (below_step HB8.out hb); have NEO := Aside0.mk (show gs ≠ go by rw [hg1]; exact Nat.ne_of_lt HI8.out.lt); clear hbox hb hg1; have BKa9 := Aside0.mk (blk_below BKa8.out HB89.out); have BKr9 := Aside0.mk (blk_below BKr8.out HB89.out); have hca9 : w9.cell? ⟨ga, 0, none⟩ = some (.slice A0_0 l0_0.length c0_0) := (blk_cell BKa9.out 0).trans rfl; have hcr9 : w9.cell? ⟨gr, 0, none⟩ = some (.slice none 0 0) := (blk_cell BKr9.out 0).trans rfl; have hfr9 := blk_frozen BKr9.out 0; obtain ⟨HG9, hg9⟩ := HI9.out; have hc9_0 := cellS115_0 HG9; have hc9_1 := cellS115_1 HG9; have hc9_2 := cellS115_2 HG9; have hc9_3 := cellS115_3 HG9; have hf9_0 := blk_frozen HG9 0; have hf9_1 := blk_frozen HG9 1; have hf9_2 := blk_frozen HG9 2; have hf9_3 := blk_frozen HG9 3; clear HG9 hg9; have hco9 : w9.cell? ⟨go, 0, none⟩ = some (.slice none 0 0) := (blk_cell HBo.out 0).trans rfl; have hfo9 := blk_frozen HBo.out 0; have neo := NEO.out; have neo2 := NEO.out.symm; have nea : ga ≠ go := (by rw [GO.out]; exact Nat.ne_of_lt (blk_lt BKa8.out)); have ner : gr ≠ go := (by rw [GO.out]; exact Nat.ne_of_lt (blk_lt BKr8.out)); have nea2 := nea.symm; have ner2 := ner.symm))
    go_wp2_with (go_at_call 103; go_loud (((with_reducible refine (impl_copyArena.calls A0_0 c0_0 l0_0 l0_0 _ (Kd.C_below HR0.out (below_set (g := go) (j := 0) (v := .slice A8 le.length c8) HB9.out (by rw [GO.out]; exact HB8.out.size))) HC0.out HCF.out).mono ?_); rintro e w10 ⟨v10, rfl, ho, hb⟩); have HO10 := Aside0.mk ho; have HBq := Aside0.mk (below_set (g := go) (j := 0) (v := .slice A8 le.length c8) HB9.out (by rw [GO.out]; exact HB8.out.size)); have HB10 := Aside0.mk hb; obtain ⟨A10, c10, rfl, hlo, _⟩ := Kd.R_reads ho; clear ho hb hlo; have BKrq := Aside0.mk (blk_far (p := ⟨go, 0, none⟩) BKr9.out ner (.slice A8 le.length c8)); have BKr10 := Aside0.mk (blk_below BKrq.out HB10.out); have hcr10 : w10.cell? ⟨gr, 0, none⟩ = some (.slice none 0 0) := (blk_cell BKr10.out 0).trans rfl; have hfr10 := blk_frozen BKr10.out 0))
    refine bodyPost_ret (results_ctt rfl _ _ gr 26 #[.slice A10 l0_0.length c10] (0, 0) _ rfl (blk_put BKr10.out 0 _ rfl) Try.underlying26 rfl (by kernel_rfl)) rfl ?_
    exact ⟨_, rfl, top_copy HO10.out HBq.out.size (blk_lt BKrq.out), below_set (below_step HBq.out HB10.out) (by rw [GR.out]; exact HB3.out.size)⟩
   ·rw [if_neg hen] at h
    have hen : (ax != (a1.size : Int)) = false := by simpa using hen
    obtain ⟨kt, hTT⟩ := impl_TermText_f le hle ke
    have hTT := hTT kt (Nat.le_refl _)
    obtain ⟨⟨back, okt⟩, ht⟩ : ∃ s, termText le ke = s := ⟨_, rfl⟩
    rw [ht] at hTT
    rw [ht] at h
    have HTT := Aside0.mk hTT
    simp only at h
    clear hTT ht hle
    cases okt with
    | false =>
     rw [if_pos rfl] at h
     simp only [Prod.mk.injEq] at h
     obtain ⟨rfl, rfl, rfl⟩ := h
     go_enter Try.func66, Try.ntmps66
     go_wp2_with (first | ((with_reducible refine gate_dst (N := 2) rfl ?_); refine box_event ?hg (N := 2) ?hd (cs := #[.slice A0_0 l0_0.length c0_0]) (t := 26) ?hr ?_; (case hd => rfl); (case hg => rfl); (case hr => first | (go_simp; done) | (go_simp; rfl)); intro ga hg1 w3 hbox hb; have BKa := Aside0.mk hbox; have HB3 := Aside0.mk hb; have GA := Aside0.mk hg1; clear hg1 hbox hb) | ((with_reducible refine gate_dst (N := 4) rfl ?_); refine box_event ?hg (N := 4) ?hd (cs := #[.slice none 0 0]) (t := 26) ?hr ?_; (case hd => rfl); (case hg => rfl); (case hr => first | (go_simp; done) | (go_simp; rfl)); intro gr hg1 w4 hbox hb; have BKr := Aside0.mk hbox; have HB4 := Aside0.mk hb; have GR := Aside0.mk hg1; clear hg1 hbox hb; have HBw4 := Aside0.mk (below_step HB3.out HB4.out); have BKa4 := Aside0.mk (blk_below BKa.out HB4.out); have hca4 : w4.cell? ⟨ga, 0, none⟩ = some (.slice A0_0 l0_0.length c0_0) := (blk_cell BKa4.out 0).trans rfl) | (go_at_call 92; ((with_reducible refine (impl_benchOf A0_0 c0_0 l0_0 _ (Kd.C_below HR0.out HBw4.out) HC0.out HL.out).mono ?_); rintro e w5 hp); obtain ⟨g, rfl, hgs, hB5, hb5⟩ := hp; have HBN := Aside0.mk hB5; have HB5 := Aside0.mk hb5; clear hgs hB5 hb5) | ((with_reducible refine gate_dst (N := 17) rfl ?_); refine box_event ?hg (N := 17) ?hd (cs := #[.string a1, .int .i64 0, .int .i64 0, .bool false]) (t := 115) ?hr ?_; (case hd => rfl); (case hg => rfl); (case hr => first | (go_simp; done) | (go_simp; rfl)); intro gs hg1 w6 hbox hb; have HT6 := Aside0.mk (TmS.made HBN.out HB5.out hg1 hb hbox); have HB6 := Aside0.mk (below_step (below_step HBw4.out HB5.out) hb); have BKa6 := Aside0.mk (blk_below (blk_below BKa4.out HB5.out) hb); have BKr6 := Aside0.mk (blk_below (blk_below BKr.out HB5.out) hb); clear hg1 hb hbox; have hca6 : w6.cell? ⟨ga, 0, none⟩ = some (.slice A0_0 l0_0.length c0_0) := (blk_cell BKa6.out 0).trans rfl) | (go_at_call 115; ((with_reducible refine (tp_cast HX.out (impl_term a1 HTS.out 2001 w4 _ g gs _ l0_0 false 0 0 HT6.out (by omega) (by omega) (by omega))).mono ?_); rintro e w7 hp); have HP7 := Aside0.mk hp; have HBN7 : Aside0 (BnS w7 w4.heap.size g (fun k => (w4.heap.size ≤ k ∧ k ≠ g) ∧ k ≠ gs) lx bbx) := ⟨hp.2.1.1⟩; have HI7 : Aside0 (IsS115 w4 w7 gs a1 ax zx _) := ⟨hp.2.1.2.1⟩; obtain rfl := hp.ret; clear hp; have HB7 := Aside0.mk (below_meet HBw4.out HB6.out HP7.out.2.1.2.2.1); have BKa7 := Aside0.mk (top_at HP7.out.2.1.2.2.1 HT6.out.2.2.1 BKa6.out (blk_lt BKa4.out)); have BKr7 := Aside0.mk (top_at HP7.out.2.1.2.2.1 HT6.out.2.2.1 BKr6.out (blk_lt BKr.out)); have hca7 : w7.cell? ⟨ga, 0, none⟩ = some (.slice A0_0 l0_0.length c0_0) := (blk_cell BKa7.out 0).trans rfl; have hcr7 : w7.cell? ⟨gr, 0, none⟩ = some (.slice none 0 0) := (blk_cell BKr7.out 0).trans rfl; have hfr7 := blk_frozen BKr7.out 0) | (go_at_call 94; ((with_reducible refine (impl_end' (s := (lx, bbx, vx)) HBN7.out HR0.out HC0.out HB7.out HB7.out.size HL.out HE.out).mono ?_); rintro e w8 hp); obtain ⟨v, rfl, hR8, hb8⟩ := hp; obtain ⟨A8, c8, rfl, hl8, _⟩ := Kd.R_reads hR8; have HR8 := Aside0.mk hR8; have HB78 := Aside0.mk hb8; have HL8 := Aside0.mk hl8; have HI8 := Aside0.mk (HI7.out.below hb8); have HB8 := Aside0.mk (below_step HB7.out hb8); clear hR8 hl8 hb8; have BKa8 := Aside0.mk (blk_below BKa7.out HB78.out); have BKr8 := Aside0.mk (blk_below BKr7.out HB78.out); have hca8 : w8.cell? ⟨ga, 0, none⟩ = some (.slice A0_0 l0_0.length c0_0) := (blk_cell BKa8.out 0).trans rfl; have hcr8 : w8.cell? ⟨gr, 0, none⟩ = some (.slice none 0 0) := (blk_cell BKr8.out 0).trans rfl; have hfr8 := blk_frozen BKr8.out 0) | ((with_reducible refine gate_dst (N := 10) rfl ?_); refine box_event ?hg (N := 10) ?hd (cs := #[.slice none 0 0]) (t := 26) ?hr ?_; (case hd => rfl); (case hg => rfl); (case hr => first | (go_simp; done) | (go_simp; rfl)); intro go hg1 w9 hbox hb; have HBo := Aside0.mk hbox; have HB89 := Aside0.mk hb; have GO := Aside0.mk hg1; have HI9 := Aside0.mk (HI8.out.below hb); have HB9 := Aside0.mk (below_step HB8.out hb); have NEO := Aside0.mk (show gs ≠ go by rw [hg1]; exact Nat.ne_of_lt HI8.out.lt); clear hbox hb hg1; have BKa9 := Aside0.mk (blk_below BKa8.out HB89.out); have BKr9 := Aside0.mk (blk_below BKr8.out HB89.out); have hca9 : w9.cell? ⟨ga, 0, none⟩ = some (.slice A0_0 l0_0.length c0_0) := (blk_cell BKa9.out 0).trans rfl; have hcr9 : w9.cell? ⟨gr, 0, none⟩ = some (.slice none 0 0) := (blk_cell BKr9.out 0).trans rfl; have hfr9 := blk_frozen BKr9.out 0; obtain ⟨HG9, hg9⟩ := HI9.out; have hc9_0 := cellS115_0 HG9; have hc9_1 := cellS115_1 HG9; have hc9_2 := cellS115_2 HG9; have hc9_3 := cellS115_3 HG9; have hf9_0 := blk_frozen HG9 0; have hf9_1 := blk_frozen HG9 1; have hf9_2 := blk_frozen HG9 2; have hf9_3 := blk_frozen HG9 3; clear HG9 hg9; have hco9 : w9.cell? ⟨go, 0, none⟩ = some (.slice none 0 0) := (blk_cell HBo.out 0).trans rfl; have hfo9 := blk_frozen HBo.out 0; have neo := NEO.out; have neo2 := NEO.out.symm; have nea : ga ≠ go := (by rw [GO.out]; exact Nat.ne_of_lt (blk_lt BKa8.out)); have ner : gr ≠ go := (by rw [GO.out]; exact Nat.ne_of_lt (blk_lt BKr8.out)); have nea2 := nea.symm; have ner2 := ner.symm) | (go_at_call 32; ((with_reducible refine (impl_TermText.calls kt A8 c8 le ke back false _ (Kd.R_reads' (end_made HR8.out HB89.out GO.out)).2.2 HL8.out HTT.out).mono ?_); rintro e w10 ⟨rfl, hb⟩); have HB10 := Aside0.mk (below_step (below_set (g := go) (j := 0) (v := .slice A8 le.length c8) HB9.out (by rw [GO.out]; exact HB8.out.size)) hb); have BKr10 := Aside0.mk (blk_below (blk_far BKr9.out ner _) hb); have BKa10 := Aside0.mk (blk_below (blk_far BKa9.out nea _) hb); have HG10 := Aside0.mk (blk_below (blk_put HBo.out 0 _ rfl) hb); have HR10 := Aside0.mk (Kd.R_below (end_made HR8.out HB89.out GO.out) hb); clear hb; have hcg10 : w10.cell? ⟨go, 0, none⟩ = some (.slice A8 le.length c8) := (blk_cell HG10.out 0).trans rfl; have hcr10 : w10.cell? ⟨gr, 0, none⟩ = some (.slice none 0 0) := (blk_cell BKr10.out 0).trans rfl; have hfr10 := blk_frozen BKr10.out 0; have hca10 : w10.cell? ⟨ga, 0, none⟩ = some (.slice A0_0 l0_0.length c0_0) := (blk_cell BKa10.out 0).trans rfl))
     go_wp2_with (go_at_call 103; go_loud (((with_reducible refine (impl_copyArena.calls A0_0 c0_0 l0_0 l0_0 _ (Kd.C_below HR0.out HB10.out) HC0.out HCF.out).mono ?_); rintro e w11 ⟨v11, rfl, ho, hb⟩); have HO11 := Aside0.mk ho; have HBq := Aside0.mk HB10.out; have HB11 := Aside0.mk hb; obtain ⟨A11, c11, rfl, hlo, _⟩ := Kd.R_reads ho; clear ho hb hlo; have BKrq := Aside0.mk BKr10.out; have BKr11 := Aside0.mk (blk_below BKrq.out HB11.out); have hcr11 : w11.cell? ⟨gr, 0, none⟩ = some (.slice none 0 0) := (blk_cell BKr11.out 0).trans rfl; have hfr11 := blk_frozen BKr11.out 0))
     refine bodyPost_ret (results_ctt rfl _ _ gr 26 #[.slice A11 l0_0.length c11] (0, 0) _ rfl (blk_put BKr11.out 0 _ rfl) Try.underlying26 rfl (by kernel_rfl)) rfl ?_
     exact ⟨_, rfl, top_copy HO11.out HBq.out.size (blk_lt BKrq.out), below_set (below_step HBq.out HB11.out) (by rw [GR.out]; exact HB3.out.size)⟩
    | true =>
     rw [if_neg (by simp)] at h
     by_cases hbt : back.toList ≠ a1.toList
     ·rw [if_pos hbt] at h
      have hbe : (back.toList == a1.toList) = false := beq_eq_false_iff_ne.2 hbt
      simp only [Prod.mk.injEq] at h
      obtain ⟨rfl, rfl, rfl⟩ := h
      clear hbt
      go_enter Try.func66, Try.ntmps66
      go_wp2_with (first | ((with_reducible refine gate_dst (N := 2) rfl ?_); refine box_event ?hg (N := 2) ?hd (cs := #[.slice A0_0 l0_0.length c0_0]) (t := 26) ?hr ?_; (case hd => rfl); (case hg => rfl); (case hr => first | (go_simp; done) | (go_simp; rfl)); intro ga hg1 w3 hbox hb; have BKa := Aside0.mk hbox; have HB3 := Aside0.mk hb; have GA := Aside0.mk hg1; clear hg1 hbox hb) | ((with_reducible refine gate_dst (N := 4) rfl ?_); refine box_event ?hg (N := 4) ?hd (cs := #[.slice none 0 0]) (t := 26) ?hr ?_; (case hd => rfl); (case hg => rfl); (case hr => first | (go_simp; done) | (go_simp; rfl)); intro gr hg1 w4 hbox hb; have BKr := Aside0.mk hbox; have HB4 := Aside0.mk hb; have GR := Aside0.mk hg1; clear hg1 hbox hb; have HBw4 := Aside0.mk (below_step HB3.out HB4.out); have BKa4 := Aside0.mk (blk_below BKa.out HB4.out); have hca4 : w4.cell? ⟨ga, 0, none⟩ = some (.slice A0_0 l0_0.length c0_0) := (blk_cell BKa4.out 0).trans rfl) | (go_at_call 92; ((with_reducible refine (impl_benchOf A0_0 c0_0 l0_0 _ (Kd.C_below HR0.out HBw4.out) HC0.out HL.out).mono ?_); rintro e w5 hp); obtain ⟨g, rfl, hgs, hB5, hb5⟩ := hp; have HBN := Aside0.mk hB5; have HB5 := Aside0.mk hb5; clear hgs hB5 hb5) | ((with_reducible refine gate_dst (N := 17) rfl ?_); refine box_event ?hg (N := 17) ?hd (cs := #[.string a1, .int .i64 0, .int .i64 0, .bool false]) (t := 115) ?hr ?_; (case hd => rfl); (case hg => rfl); (case hr => first | (go_simp; done) | (go_simp; rfl)); intro gs hg1 w6 hbox hb; have HT6 := Aside0.mk (TmS.made HBN.out HB5.out hg1 hb hbox); have HB6 := Aside0.mk (below_step (below_step HBw4.out HB5.out) hb); have BKa6 := Aside0.mk (blk_below (blk_below BKa4.out HB5.out) hb); have BKr6 := Aside0.mk (blk_below (blk_below BKr.out HB5.out) hb); clear hg1 hb hbox; have hca6 : w6.cell? ⟨ga, 0, none⟩ = some (.slice A0_0 l0_0.length c0_0) := (blk_cell BKa6.out 0).trans rfl) | (go_at_call 115; ((with_reducible refine (tp_cast HX.out (impl_term a1 HTS.out 2001 w4 _ g gs _ l0_0 false 0 0 HT6.out (by omega) (by omega) (by omega))).mono ?_); rintro e w7 hp); have HP7 := Aside0.mk hp; have HBN7 : Aside0 (BnS w7 w4.heap.size g (fun k => (w4.heap.size ≤ k ∧ k ≠ g) ∧ k ≠ gs) lx bbx) := ⟨hp.2.1.1⟩; have HI7 : Aside0 (IsS115 w4 w7 gs a1 ax zx _) := ⟨hp.2.1.2.1⟩; obtain rfl := hp.ret; clear hp; have HB7 := Aside0.mk (below_meet HBw4.out HB6.out HP7.out.2.1.2.2.1); have BKa7 := Aside0.mk (top_at HP7.out.2.1.2.2.1 HT6.out.2.2.1 BKa6.out (blk_lt BKa4.out)); have BKr7 := Aside0.mk (top_at HP7.out.2.1.2.2.1 HT6.out.2.2.1 BKr6.out (blk_lt BKr.out)); have hca7 : w7.cell? ⟨ga, 0, none⟩ = some (.slice A0_0 l0_0.length c0_0) := (blk_cell BKa7.out 0).trans rfl; have hcr7 : w7.cell? ⟨gr, 0, none⟩ = some (.slice none 0 0) := (blk_cell BKr7.out 0).trans rfl; have hfr7 := blk_frozen BKr7.out 0) | (go_at_call 94; ((with_reducible refine (impl_end' (s := (lx, bbx, vx)) HBN7.out HR0.out HC0.out HB7.out HB7.out.size HL.out HE.out).mono ?_); rintro e w8 hp); obtain ⟨v, rfl, hR8, hb8⟩ := hp; obtain ⟨A8, c8, rfl, hl8, _⟩ := Kd.R_reads hR8; have HR8 := Aside0.mk hR8; have HB78 := Aside0.mk hb8; have HL8 := Aside0.mk hl8; have HI8 := Aside0.mk (HI7.out.below hb8); have HB8 := Aside0.mk (below_step HB7.out hb8); clear hR8 hl8 hb8; have BKa8 := Aside0.mk (blk_below BKa7.out HB78.out); have BKr8 := Aside0.mk (blk_below BKr7.out HB78.out); have hca8 : w8.cell? ⟨ga, 0, none⟩ = some (.slice A0_0 l0_0.length c0_0) := (blk_cell BKa8.out 0).trans rfl; have hcr8 : w8.cell? ⟨gr, 0, none⟩ = some (.slice none 0 0) := (blk_cell BKr8.out 0).trans rfl; have hfr8 := blk_frozen BKr8.out 0) | ((with_reducible refine gate_dst (N := 10) rfl ?_); refine box_event ?hg (N := 10) ?hd (cs := #[.slice none 0 0]) (t := 26) ?hr ?_; (case hd => rfl); (case hg => rfl); (case hr => first | (go_simp; done) | (go_simp; rfl)); intro go hg1 w9 hbox hb; have HBo := Aside0.mk hbox; have HB89 := Aside0.mk hb; have GO := Aside0.mk hg1; have HI9 := Aside0.mk (HI8.out.below hb); have HB9 := Aside0.mk (below_step HB8.out hb); have NEO := Aside0.mk (show gs ≠ go by rw [hg1]; exact Nat.ne_of_lt HI8.out.lt); clear hbox hb hg1; have BKa9 := Aside0.mk (blk_below BKa8.out HB89.out); have BKr9 := Aside0.mk (blk_below BKr8.out HB89.out); have hca9 : w9.cell? ⟨ga, 0, none⟩ = some (.slice A0_0 l0_0.length c0_0) := (blk_cell BKa9.out 0).trans rfl; have hcr9 : w9.cell? ⟨gr, 0, none⟩ = some (.slice none 0 0) := (blk_cell BKr9.out 0).trans rfl; have hfr9 := blk_frozen BKr9.out 0; obtain ⟨HG9, hg9⟩ := HI9.out; have hc9_0 := cellS115_0 HG9; have hc9_1 := cellS115_1 HG9; have hc9_2 := cellS115_2 HG9; have hc9_3 := cellS115_3 HG9; have hf9_0 := blk_frozen HG9 0; have hf9_1 := blk_frozen HG9 1; have hf9_2 := blk_frozen HG9 2; have hf9_3 := blk_frozen HG9 3; clear HG9 hg9; have hco9 : w9.cell? ⟨go, 0, none⟩ = some (.slice none 0 0) := (blk_cell HBo.out 0).trans rfl; have hfo9 := blk_frozen HBo.out 0; have neo := NEO.out; have neo2 := NEO.out.symm; have nea : ga ≠ go := (by rw [GO.out]; exact Nat.ne_of_lt (blk_lt BKa8.out)); have ner : gr ≠ go := (by rw [GO.out]; exact Nat.ne_of_lt (blk_lt BKr8.out)); have nea2 := nea.symm; have ner2 := ner.symm) | (go_at_call 32; ((with_reducible refine (impl_TermText.calls kt A8 c8 le ke back true _ (Kd.R_reads' (end_made HR8.out HB89.out GO.out)).2.2 HL8.out HTT.out).mono ?_); rintro e w10 ⟨rfl, hb⟩); have HB10 := Aside0.mk (below_step (below_set (g := go) (j := 0) (v := .slice A8 le.length c8) HB9.out (by rw [GO.out]; exact HB8.out.size)) hb); have BKr10 := Aside0.mk (blk_below (blk_far BKr9.out ner _) hb); have BKa10 := Aside0.mk (blk_below (blk_far BKa9.out nea _) hb); have HG10 := Aside0.mk (blk_below (blk_put HBo.out 0 _ rfl) hb); have HR10 := Aside0.mk (Kd.R_below (end_made HR8.out HB89.out GO.out) hb); clear hb; have hcg10 : w10.cell? ⟨go, 0, none⟩ = some (.slice A8 le.length c8) := (blk_cell HG10.out 0).trans rfl; have hcr10 : w10.cell? ⟨gr, 0, none⟩ = some (.slice none 0 0) := (blk_cell BKr10.out 0).trans rfl; have hfr10 := blk_frozen BKr10.out 0; have hca10 : w10.cell? ⟨ga, 0, none⟩ = some (.slice A0_0 l0_0.length c0_0) := (blk_cell BKa10.out 0).trans rfl))
      go_wp2_with (go_at_call 103; go_loud (((with_reducible refine (impl_copyArena.calls A0_0 c0_0 l0_0 l0_0 _ (Kd.C_below HR0.out HB10.out) HC0.out HCF.out).mono ?_); rintro e w11 ⟨v11, rfl, ho, hb⟩); have HO11 := Aside0.mk ho; have HBq := Aside0.mk HB10.out; have HB11 := Aside0.mk hb; obtain ⟨A11, c11, rfl, hlo, _⟩ := Kd.R_reads ho; clear ho hb hlo; have BKrq := Aside0.mk BKr10.out; have BKr11 := Aside0.mk (blk_below BKrq.out HB11.out); have hcr11 : w11.cell? ⟨gr, 0, none⟩ = some (.slice none 0 0) := (blk_cell BKr11.out 0).trans rfl; have hfr11 := blk_frozen BKr11.out 0))
      refine bodyPost_ret (results_ctt rfl _ _ gr 26 #[.slice A11 l0_0.length c11] (0, 0) _ rfl (blk_put BKr11.out 0 _ rfl) Try.underlying26 rfl (by kernel_rfl)) rfl ?_
      exact ⟨_, rfl, top_copy HO11.out HBq.out.size (blk_lt BKrq.out), below_set (below_step HBq.out HB11.out) (by rw [GR.out]; exact HB3.out.size)⟩
     ·rw [if_neg hbt] at h
      have hbt : back.toList = a1.toList := by simpa using hbt
      have hbe : (back.toList == a1.toList) = true := beq_iff_eq.2 hbt
      simp only [Prod.mk.injEq] at h
      obtain ⟨rfl, rfl, rfl⟩ := h
      clear hbt
      go_enter Try.func66, Try.ntmps66
      go_wp2_with (first | ((with_reducible refine gate_dst (N := 2) rfl ?_); refine box_event ?hg (N := 2) ?hd (cs := #[.slice A0_0 l0_0.length c0_0]) (t := 26) ?hr ?_; (case hd => rfl); (case hg => rfl); (case hr => first | (go_simp; done) | (go_simp; rfl)); intro ga hg1 w3 hbox hb; have BKa := Aside0.mk hbox; have HB3 := Aside0.mk hb; have GA := Aside0.mk hg1; clear hg1 hbox hb) | ((with_reducible refine gate_dst (N := 4) rfl ?_); refine box_event ?hg (N := 4) ?hd (cs := #[.slice none 0 0]) (t := 26) ?hr ?_; (case hd => rfl); (case hg => rfl); (case hr => first | (go_simp; done) | (go_simp; rfl)); intro gr hg1 w4 hbox hb; have BKr := Aside0.mk hbox; have HB4 := Aside0.mk hb; have GR := Aside0.mk hg1; clear hg1 hbox hb; have HBw4 := Aside0.mk (below_step HB3.out HB4.out); have BKa4 := Aside0.mk (blk_below BKa.out HB4.out); have hca4 : w4.cell? ⟨ga, 0, none⟩ = some (.slice A0_0 l0_0.length c0_0) := (blk_cell BKa4.out 0).trans rfl) | (go_at_call 92; ((with_reducible refine (impl_benchOf A0_0 c0_0 l0_0 _ (Kd.C_below HR0.out HBw4.out) HC0.out HL.out).mono ?_); rintro e w5 hp); obtain ⟨g, rfl, hgs, hB5, hb5⟩ := hp; have HBN := Aside0.mk hB5; have HB5 := Aside0.mk hb5; clear hgs hB5 hb5) | ((with_reducible refine gate_dst (N := 17) rfl ?_); refine box_event ?hg (N := 17) ?hd (cs := #[.string a1, .int .i64 0, .int .i64 0, .bool false]) (t := 115) ?hr ?_; (case hd => rfl); (case hg => rfl); (case hr => first | (go_simp; done) | (go_simp; rfl)); intro gs hg1 w6 hbox hb; have HT6 := Aside0.mk (TmS.made HBN.out HB5.out hg1 hb hbox); have HB6 := Aside0.mk (below_step (below_step HBw4.out HB5.out) hb); have BKa6 := Aside0.mk (blk_below (blk_below BKa4.out HB5.out) hb); have BKr6 := Aside0.mk (blk_below (blk_below BKr.out HB5.out) hb); clear hg1 hb hbox; have hca6 : w6.cell? ⟨ga, 0, none⟩ = some (.slice A0_0 l0_0.length c0_0) := (blk_cell BKa6.out 0).trans rfl) | (go_at_call 115; ((with_reducible refine (tp_cast HX.out (impl_term a1 HTS.out 2001 w4 _ g gs _ l0_0 false 0 0 HT6.out (by omega) (by omega) (by omega))).mono ?_); rintro e w7 hp); have HP7 := Aside0.mk hp; have HBN7 : Aside0 (BnS w7 w4.heap.size g (fun k => (w4.heap.size ≤ k ∧ k ≠ g) ∧ k ≠ gs) lx bbx) := ⟨hp.2.1.1⟩; have HI7 : Aside0 (IsS115 w4 w7 gs a1 ax zx _) := ⟨hp.2.1.2.1⟩; obtain rfl := hp.ret; clear hp; have HB7 := Aside0.mk (below_meet HBw4.out HB6.out HP7.out.2.1.2.2.1); have BKa7 := Aside0.mk (top_at HP7.out.2.1.2.2.1 HT6.out.2.2.1 BKa6.out (blk_lt BKa4.out)); have BKr7 := Aside0.mk (top_at HP7.out.2.1.2.2.1 HT6.out.2.2.1 BKr6.out (blk_lt BKr.out)); have hca7 : w7.cell? ⟨ga, 0, none⟩ = some (.slice A0_0 l0_0.length c0_0) := (blk_cell BKa7.out 0).trans rfl; have hcr7 : w7.cell? ⟨gr, 0, none⟩ = some (.slice none 0 0) := (blk_cell BKr7.out 0).trans rfl; have hfr7 := blk_frozen BKr7.out 0) | (go_at_call 94; ((with_reducible refine (impl_end' (s := (lx, bbx, vx)) HBN7.out HR0.out HC0.out HB7.out HB7.out.size HL.out HE.out).mono ?_); rintro e w8 hp); obtain ⟨v, rfl, hR8, hb8⟩ := hp; obtain ⟨A8, c8, rfl, hl8, _⟩ := Kd.R_reads hR8; have HR8 := Aside0.mk hR8; have HB78 := Aside0.mk hb8; have HL8 := Aside0.mk hl8; have HI8 := Aside0.mk (HI7.out.below hb8); have HB8 := Aside0.mk (below_step HB7.out hb8); clear hR8 hl8 hb8; have BKa8 := Aside0.mk (blk_below BKa7.out HB78.out); have BKr8 := Aside0.mk (blk_below BKr7.out HB78.out); have hca8 : w8.cell? ⟨ga, 0, none⟩ = some (.slice A0_0 l0_0.length c0_0) := (blk_cell BKa8.out 0).trans rfl; have hcr8 : w8.cell? ⟨gr, 0, none⟩ = some (.slice none 0 0) := (blk_cell BKr8.out 0).trans rfl; have hfr8 := blk_frozen BKr8.out 0) | ((with_reducible refine gate_dst (N := 10) rfl ?_); refine box_event ?hg (N := 10) ?hd (cs := #[.slice none 0 0]) (t := 26) ?hr ?_; (case hd => rfl); (case hg => rfl); (case hr => first | (go_simp; done) | (go_simp; rfl)); intro go hg1 w9 hbox hb; have HBo := Aside0.mk hbox; have HB89 := Aside0.mk hb; have GO := Aside0.mk hg1; have HI9 := Aside0.mk (HI8.out.below hb); have HB9 := Aside0.mk (below_step HB8.out hb); have NEO := Aside0.mk (show gs ≠ go by rw [hg1]; exact Nat.ne_of_lt HI8.out.lt); clear hbox hb hg1; have BKa9 := Aside0.mk (blk_below BKa8.out HB89.out); have BKr9 := Aside0.mk (blk_below BKr8.out HB89.out); have hca9 : w9.cell? ⟨ga, 0, none⟩ = some (.slice A0_0 l0_0.length c0_0) := (blk_cell BKa9.out 0).trans rfl; have hcr9 : w9.cell? ⟨gr, 0, none⟩ = some (.slice none 0 0) := (blk_cell BKr9.out 0).trans rfl; have hfr9 := blk_frozen BKr9.out 0; obtain ⟨HG9, hg9⟩ := HI9.out; have hc9_0 := cellS115_0 HG9; have hc9_1 := cellS115_1 HG9; have hc9_2 := cellS115_2 HG9; have hc9_3 := cellS115_3 HG9; have hf9_0 := blk_frozen HG9 0; have hf9_1 := blk_frozen HG9 1; have hf9_2 := blk_frozen HG9 2; have hf9_3 := blk_frozen HG9 3; clear HG9 hg9; have hco9 : w9.cell? ⟨go, 0, none⟩ = some (.slice none 0 0) := (blk_cell HBo.out 0).trans rfl; have hfo9 := blk_frozen HBo.out 0; have neo := NEO.out; have neo2 := NEO.out.symm; have nea : ga ≠ go := (by rw [GO.out]; exact Nat.ne_of_lt (blk_lt BKa8.out)); have ner : gr ≠ go := (by rw [GO.out]; exact Nat.ne_of_lt (blk_lt BKr8.out)); have nea2 := nea.symm; have ner2 := ner.symm) | (go_at_call 32; ((with_reducible refine (impl_TermText.calls kt A8 c8 le ke back true _ (Kd.R_reads' (end_made HR8.out HB89.out GO.out)).2.2 HL8.out HTT.out).mono ?_); rintro e w10 ⟨rfl, hb⟩); have HB10 := Aside0.mk (below_step (below_set (g := go) (j := 0) (v := .slice A8 le.length c8) HB9.out (by rw [GO.out]; exact HB8.out.size)) hb); have BKr10 := Aside0.mk (blk_below (blk_far BKr9.out ner _) hb); have BKa10 := Aside0.mk (blk_below (blk_far BKa9.out nea _) hb); have HG10 := Aside0.mk (blk_below (blk_put HBo.out 0 _ rfl) hb); have HR10 := Aside0.mk (Kd.R_below (end_made HR8.out HB89.out GO.out) hb); clear hb; have hcg10 : w10.cell? ⟨go, 0, none⟩ = some (.slice A8 le.length c8) := (blk_cell HG10.out 0).trans rfl; have hcr10 : w10.cell? ⟨gr, 0, none⟩ = some (.slice none 0 0) := (blk_cell BKr10.out 0).trans rfl; have hfr10 := blk_frozen BKr10.out 0; have hca10 : w10.cell? ⟨ga, 0, none⟩ = some (.slice A0_0 l0_0.length c0_0) := (blk_cell BKa10.out 0).trans rfl))
      refine bodyPost_ret (results_ctt rfl _ _ gr 26 #[.slice A8 le.length c8] (0, 0) _ rfl (blk_put BKr10.out 0 _ rfl) Try.underlying26 rfl (by kernel_rfl)) rfl ?_
      exact ⟨_, rfl, end_own2 HR10.out HBw4.out.size (blk_lt BKr.out), below_set HB10.out (by rw [GR.out]; exact HB3.out.size)⟩
 ·rw [if_neg hl] at h
  cases h
namespace Hand

end Hand

end Go.Proofs.Ytkckdibalopagaa.SFnTerms
