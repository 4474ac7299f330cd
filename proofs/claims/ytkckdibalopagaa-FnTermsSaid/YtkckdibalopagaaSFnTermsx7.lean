-- Began as a print of the kit over stubs (wip/stub.py); the sections that are named OWN are this session's.
import Derived.Test.YtkckdibalopagaaSFnTermsx0
import Derived.Test.YtkckdibalopagaaSFnTermsx4
import Derived.Test.YtkckdibalopagaaSFnTermsx6
import Derived.Test.YtkckdibalopagaaUBase
import Derived.Test.YtkckdibalopagaaUMapOnce
import Derived.RegionTactic
import Derived.BigRegion
import Derived.Carry
import Derived.DeepKeys4
import Derived.Test.YtkckdibalopagaaUShort
namespace Go.Proofs.Ytkckdibalopagaa.SFnTerms
open Go.RowKit Go.Proofs.YtkckdibalopagaaW.PrintWords Go.Proofs.YtkckdibalopagaaW.PrintLast Go.Proofs.YtkckdibalopagaaW.PrintMore Go.Proofs.Ytkckdibalopagaa.Short
attribute [local go_sem] max2_int min2_int max_two min_two max_three min_three max_four min_four   -- for this text's walks alone
set_option linter.unusedVariables false
set_option linter.unusedSimpArgs false

/-! ### spec_ReadVar: function 126 -/
mutual
def spec_ReadVar.l0 : Nat → ByteArray → Int → Int → Int → Int → Option (Int × Int × Bool)
  | 0, _, _, _, _, _ => none
  | k + 1, x0, x1, x7, x8, x9 => if x9 < (x0.size : Int) then (spec_ReadVar.j1 k x0 x1 x7 x8 x9 (decide (x9 < (wrap64 (x1 + 5))))) else (spec_ReadVar.j1 k x0 x1 x7 x8 x9 false)
def spec_ReadVar.j1 : Nat → ByteArray → Int → Int → Int → Int → Bool → Option (Int × Int × Bool)
  | 0, _, _, _, _, _, _ => none
  | k + 1, x0, x1, x7, x8, x9, x25 => if x25 = true then (if 0 ≤ x9 then (if x9 < (x0.size : Int) then (if (bt x0 x9) < 128 then (if (wrap64 (x7 + (wrap64 ((Int.tmod (wrap64 (bt x0 x9)) 128) * x8)))) > 1000000000 then (some (0, 0, false)) else ((spec_l01Var.f k (wrap64 (x7 + (wrap64 ((Int.tmod (wrap64 (bt x0 x9)) 128) * x8))))).bind fun t351 => (if 0 ≤ x1 then (if x1 ≤ (wrap64 (x9 + 1)) then (if (wrap64 (x9 + 1)) ≤ (x0.size : Int) then (if t351.toList = (x0.extract (x1 : Int).toNat ((wrap64 (x9 + 1)) : Int).toNat).toList then (some (wrap64 (x7 + (wrap64 ((Int.tmod (wrap64 (bt x0 x9)) 128) * x8))), wrap64 (x9 + 1), true)) else (some (0, 0, false))) else (none)) else (none)) else (none)))) else (spec_ReadVar.l0 k x0 x1 (wrap64 (x7 + (wrap64 ((Int.tmod (wrap64 (bt x0 x9)) 128) * x8)))) (wrap64 (x8 * 128)) (wrap64 (x9 + 1)))) else (none)) else (none)) else (some (0, 0, false))
end
def spec_ReadVar.f (k : Nat) (a0 : ByteArray) (a1 : Int) : Option (Int × Int × Bool) := (spec_l01In.f a1 0 (a0.size : Int)).bind fun t350 => (if t350 = true then (spec_ReadVar.l0 k a0 a1 0 1 a1) else (some (0, 0, false)))
def spec_ReadVar.T11 : Bool × List (List Nat × List Nat) := (true, [([], []), ([0], [0]), ([1], [1]), ([2], [2]), ([3, 2, 2], [2, 3]), ([2], [2]), ([2], [2]), ([2], [2]), ([7, 2], [2, 7]), ([5, 6, 8, 2], [2, 5, 6, 8]), ([4, 9, 2], [2, 4, 9]), ([2, 10], [2, 10])])
def spec_ReadVar.B11 : List Nat := [0, 1, 3, 7, 15, 7, 7, 7, 135, 487, 1023, 2047]
theorem spec_ReadVar.tab11 : rtab .any (opsOf Try.f126 11) = spec_ReadVar.T11 := by kernel_rfl
theorem spec_ReadVar.bits11 : waitsOk spec_ReadVar.T11.2 spec_ReadVar.B11 = true := by kernel_rfl
set_option maxHeartbeats 8000000 in
set_option maxRecDepth 100000 in
theorem spec_ReadVar.calls (k : Nat) (a0 : ByteArray) (a1 : Int) (r1 : Int) (r2 : Int) (r3 : Bool) (w : World) (h : spec_ReadVar.f k a0 a1 = some (r1, r2, r3)) :
  Calls Try.prog 126 #[.string a0, .int .i64 a1] w fun e w' => e = .returned (.tuple #[.int .i64 r1, .int .i64 r2, .bool r3]) ∧ Below w.heap.size w w' := by
 have HB := Aside0.mk (Below.refl w.heap.size w)
 have H : ((spec_l01In.f a1 0 (a0.size : Int)).bind fun t350 => (if t350 = true then (spec_ReadVar.l0 k a0 a1 0 1 a1) else (some (0, 0, false)))) = some (r1, r2, r3) := h
 clear h
 replace H := Option.bind_eq_some_iff.mp H
 obtain ⟨t350, A30, H⟩ := H
 replace H : (if t350 = true then (spec_ReadVar.l0 k a0 a1 0 1 a1) else (some (0, 0, false))) = some (r1, r2, r3) := H
 have A3 := Aside0.mk A30
 clear A30
 by_cases c4 : t350 = true
 ·subst c4
  have H1 : (spec_ReadVar.l0 k a0 a1 0 1 a1) = some (r1, r2, r3) := by rw [if_pos rfl] at H; exact H
  clear H
  have H := H1
  clear H1
  have H' := Aside0.mk H
  clear H
  go_enter Try.func126, Try.ntmps126
  go_wp2_with (first | ((with_reducible refine gate_callee (f := 79) rfl ?_); refine goesL_ (some 13) rfl rfl Try.func79 (by kernel_rfl) rfl #[.int .i64 a1, .int .i64 0, .int .i64 (a0.size : Int)] rfl ar ?_; (with_reducible refine (spec_l01In.calls a1 0 (a0.size : Int) true _ A3.out).mono ?_); rintro e w' ⟨rfl, ⟨nd, rfl⟩⟩; refine ⟨_, rfl, ?_⟩))
  go_loopg [7, 8, 9] k (fun kq v7 v8 v9 w' => ∃ (x7_1 : Int) (x8_1 : Int) (x9_1 : Int), v7 = .int .i64 x7_1 ∧ v8 = .int .i64 x8_1 ∧ v9 = .int .i64 x9_1 ∧ Aside0 (spec_ReadVar.l0 kq a0 a1 x7_1 x8_1 x9_1 = some (r1, r2, r3)) ∧ Aside0 (kq ≤ k) ∧ Aside0 (Below w.heap.size w w'))
  case atStart => exact ⟨(0), (1), (a1), (by first | rfl | (simp; done) | (simp [*]; done)), (by first | rfl | (simp; done) | (simp [*]; done)), (by first | rfl | (simp; done) | (simp [*]; done)), H', ⟨Nat.le_refl _⟩, ⟨bw HB.out⟩⟩
  case round =>
   clear H'
   try clear c1
   try clear p2
   try clear c4
   obtain ⟨x7_1, x8_1, x9_1, rfl, rfl, rfl, HA, HK1, HB⟩ := hrel
   cases gk with
   | zero => exact absurd HA.out (by simp [spec_ReadVar.l0])
   | succ k1 =>
    have H := HA.out
    clear HA
    simp only [spec_ReadVar.l0] at H
    have HC5 := Aside0.mk H
    clear H
    go_upto_region 6 with (fail)
    go_cut [25] (fun v25 wc => ∃ (kq : Nat) (x25_4 : Bool), v25 = .bool x25_4 ∧ Aside0 (spec_ReadVar.j1 kq a0 a1 x7_1 x8_1 x9_1 x25_4 = some (r1, r2, r3)) ∧ Aside0 (kq ≤ k1) ∧ Aside0 (Below w.heap.size w wc))
    case first =>
     have H := HC5.out
     clear HC5
     by_cases c6 : x9_1 < (a0.size : Int)
     ·rw [if_pos c6] at H
      have c6b0 : decide (x9_1 < (a0.size : Int)) = true := decide_eq_true c6
      clear c6
      (first | rw [c6b0] | (simp only [i64_w, i32_w]; rw [c6b0]) | skip)
      have H' := Aside0.mk H
      clear H
      go_wp2
      go_meet
      case rel => exact ⟨_, (decide (x9_1 < (wrap64 (a1 + 5)))), (by first | rfl | (simp; done) | (simp [*]; done)), H', ⟨by have := HK1.out; first | omega | exact Nat.le_refl _⟩, ⟨bw HB.out⟩⟩
     ·rw [if_neg c6] at H
      have c6b0 : decide (x9_1 < (a0.size : Int)) = false := decide_eq_false c6
      clear c6
      (first | rw [c6b0] | (simp only [i64_w, i32_w]; rw [c6b0]) | skip)
      have H' := Aside0.mk H
      clear H
      go_wp2
      go_meet
      case rel => exact ⟨_, (false), (by first | rfl | (simp; done) | (simp [*]; done)), H', ⟨by have := HK1.out; first | omega | exact Nat.le_refl _⟩, ⟨bw HB.out⟩⟩
    case rest =>
     clear HC5
     try clear c1
     try clear p2
     try clear c4
     try clear c6
     try clear c6b0
     try clear p6
     try clear p2
     obtain ⟨kq, x25_4, rfl, HA, HJ4, HB⟩ := hcut
     cases kq with
     | zero => exact absurd HA.out (by simp [spec_ReadVar.j1])
     | succ kj4 =>
      have H := HA.out
      clear HA
      simp only [spec_ReadVar.j1] at H
      by_cases c7 : x25_4 = true
      ·subst c7
       have H1 : (if 0 ≤ x9_1 then (if x9_1 < (a0.size : Int) then (if (bt a0 x9_1) < 128 then (if (wrap64 (x7_1 + (wrap64 ((Int.tmod (wrap64 (bt a0 x9_1)) 128) * x8_1)))) > 1000000000 then (some (0, 0, false)) else ((spec_l01Var.f kj4 (wrap64 (x7_1 + (wrap64 ((Int.tmod (wrap64 (bt a0 x9_1)) 128) * x8_1))))).bind fun t351 => (if 0 ≤ a1 then (if a1 ≤ (wrap64 (x9_1 + 1)) then (if (wrap64 (x9_1 + 1)) ≤ (a0.size : Int) then (if t351.toList = (a0.extract (a1 : Int).toNat ((wrap64 (x9_1 + 1)) : Int).toNat).toList then (some (wrap64 (x7_1 + (wrap64 ((Int.tmod (wrap64 (bt a0 x9_1)) 128) * x8_1))), wrap64 (x9_1 + 1), true)) else (some (0, 0, false))) else (none)) else (none)) else (none)))) else (spec_ReadVar.l0 kj4 a0 a1 (wrap64 (x7_1 + (wrap64 ((Int.tmod (wrap64 (bt a0 x9_1)) 128) * x8_1)))) (wrap64 (x8_1 * 128)) (wrap64 (x9_1 + 1)))) else (none)) else (none)) = some (r1, r2, r3) := by rw [if_pos rfl] at H; exact H
       clear H
       have H := H1
       clear H1
       by_cases c8 : 0 ≤ x9_1
       ·rw [if_pos c8] at H
        have c8b0 : decide (0 ≤ x9_1) = true := decide_eq_true c8
        clear c8
        by_cases c9 : x9_1 < (a0.size : Int)
        ·rw [if_pos c9] at H
         have c9b0 : decide (x9_1 < (a0.size : Int)) = true := decide_eq_true c9
         clear c9
         by_cases c12 : (bt a0 x9_1) < 128
         ·rw [if_pos c12] at H
          have c12b0 : decide ((bt a0 x9_1) < 128) = true := decide_eq_true c12
          clear c12
          by_cases c13 : (wrap64 (x7_1 + (wrap64 ((Int.tmod (wrap64 (bt a0 x9_1)) 128) * x8_1)))) > 1000000000
          ·rw [if_pos c13] at H
           have c13b0 : decide (1000000000 < (wrap64 (x7_1 + (wrap64 ((Int.tmod (wrap64 (bt a0 x9_1)) 128) * x8_1))))) = true := decide_eq_true c13
           clear c13
           simp only [Option.some.injEq, Prod.mk.injEq] at H
           obtain ⟨rfl, rfl, rfl⟩ := H
           have p10 : 0 ≤ (x9_1 : Int) := oda
           have q10 : x9_1 < (a0.size : Int) := oda
           have hx10 := bt_at a0 x9_1
           replace p10 := eq_true p10
           replace q10 := eq_true q10
           have p11 : 0 ≤ (x9_1 : Int) := oda
           have q11 : x9_1 < (a0.size : Int) := oda
           have hx11 := bt_at a0 x9_1
           replace p11 := eq_true p11
           replace q11 := eq_true q11
           try go_wp2
           have n0_ := Aside0.mk (below_drew1 HB.out)
           clear HB
           have HB := n0_
           clear n0_
           refine start_ (n := 12) (S := fun w' => True) (ds := []) #[false, false, false, false, false, false, false, false, false, false, false, false] (by kernel_rfl) rfl rfl trivial (fun hHeld => ?_); refine with_tabW spec_ReadVar.tab11 spec_ReadVar.bits11 (fun HT_ HW_ => ?_)
           generalize wc.drew = w14 at HB hHeld ⊢
           refine pure_ (i := 0) (N := some 43) (v := ?_) (a' := ?_) #[true, false, false, false, false, false, false, false, false, false, false, false] rfl rfl (any_of HT_.out (by kernel_rfl)) (fun _ _ _ h => h) (Or.inl ⟨by rfl, ?_⟩) ?_ ?_
           rotate_left
           ·intro w'
            go_simp
            with_reducible rfl
           rotate_left
           ·simp only [Act.put, List.setIfInBounds_toArray, List.set_cons_zero, List.set_cons_succ, i64_w, i32_w]
            rfl
           refine pure_ (i := 1) (N := some 44) (v := ?_) (a' := ?_) #[true, true, false, false, false, false, false, false, false, false, false, false] rfl rfl (any_of HT_.out (by kernel_rfl)) (fun _ _ _ h => h) (Or.inl ⟨by rfl, ?_⟩) ?_ ?_
           rotate_left
           ·intro w'
            go_simp
            with_reducible rfl
           rotate_left
           ·simp only [Act.put, List.setIfInBounds_toArray, List.set_cons_zero, List.set_cons_succ, i64_w, i32_w]
            rfl
           refine pure_ (i := 2) (N := some 45) (v := ?_) (a' := ?_) #[true, true, true, false, false, false, false, false, false, false, false, false] rfl rfl (any_of HT_.out (by kernel_rfl)) (fun _ _ _ h => h) (Or.inl ⟨by rfl, ?_⟩) ?_ ?_
           rotate_left
           ·intro w'
            go_simp
            with_reducible rfl
           rotate_left
           ·simp only [Act.put, List.setIfInBounds_toArray, List.set_cons_zero, List.set_cons_succ, i64_w, i32_w]
            rfl
           refine pure_ (i := 3) (N := some 46) (v := undef) (a' := ?_) #[true, true, true, true, false, false, false, false, false, false, false, false] rfl rfl (any_of HT_.out (by kernel_rfl)) (fun _ _ _ h => h) (Or.inr ⟨by rfl, rfl⟩) ?_ ?_
           rotate_left
           ·simp only [Act.put, List.setIfInBounds_toArray, List.set_cons_zero, List.set_cons_succ, i64_w, i32_w]
            rfl
           refine pure_ (i := 4) (N := some 47) (v := undef) (a' := ?_) #[true, true, true, true, true, false, false, false, false, false, false, false] rfl rfl (any_of HT_.out (by kernel_rfl)) (fun _ _ _ h => h) (Or.inr ⟨by rfl, rfl⟩) ?_ ?_
           rotate_left
           ·simp only [Act.put, List.setIfInBounds_toArray, List.set_cons_zero, List.set_cons_succ, i64_w, i32_w]
            rfl
           refine pure_ (i := 5) (N := some 48) (v := undef) (a' := ?_) #[true, true, true, true, true, true, false, false, false, false, false, false] rfl rfl (any_of HT_.out (by kernel_rfl)) (fun _ _ _ h => h) (Or.inr ⟨by rfl, rfl⟩) ?_ ?_
           rotate_left
           ·simp only [Act.put, List.setIfInBounds_toArray, List.set_cons_zero, List.set_cons_succ, i64_w, i32_w]
            rfl
           refine pure_ (i := 6) (N := some 49) (v := undef) (a' := ?_) #[true, true, true, true, true, true, true, false, false, false, false, false] rfl rfl (any_of HT_.out (by kernel_rfl)) (fun _ _ _ h => h) (Or.inr ⟨by rfl, rfl⟩) ?_ ?_
           rotate_left
           ·simp only [Act.put, List.setIfInBounds_toArray, List.set_cons_zero, List.set_cons_succ, i64_w, i32_w]
            rfl
           refine pure_ (i := 7) (N := some 50) (v := undef) (a' := ?_) #[true, true, true, true, true, true, true, true, false, false, false, false] rfl rfl (any_of HT_.out (by kernel_rfl)) (fun _ _ _ h => h) (Or.inr ⟨by rfl, rfl⟩) ?_ ?_
           rotate_left
           ·simp only [Act.put, List.setIfInBounds_toArray, List.set_cons_zero, List.set_cons_succ, i64_w, i32_w]
            rfl
           refine pure_ (i := 8) (N := some 51) (v := undef) (a' := ?_) #[true, true, true, true, true, true, true, true, true, false, false, false] rfl rfl (any_of HT_.out (by kernel_rfl)) (fun _ _ _ h => h) (Or.inr ⟨by rfl, rfl⟩) ?_ ?_
           rotate_left
           ·simp only [Act.put, List.setIfInBounds_toArray, List.set_cons_zero, List.set_cons_succ, i64_w, i32_w]
            rfl
           refine pure_ (i := 9) (N := some 52) (v := undef) (a' := ?_) #[true, true, true, true, true, true, true, true, true, true, false, false] rfl rfl (any_of HT_.out (by kernel_rfl)) (fun _ _ _ h => h) (Or.inr ⟨by rfl, rfl⟩) ?_ ?_
           rotate_left
           ·simp only [Act.put, List.setIfInBounds_toArray, List.set_cons_zero, List.set_cons_succ, i64_w, i32_w]
            rfl
           refine pure_ (i := 10) (N := some 53) (v := undef) (a' := ?_) #[true, true, true, true, true, true, true, true, true, true, true, false] rfl rfl (any_of HT_.out (by kernel_rfl)) (fun _ _ _ h => h) (Or.inr ⟨by rfl, rfl⟩) ?_ ?_
           rotate_left
           ·simp only [Act.put, List.setIfInBounds_toArray, List.set_cons_zero, List.set_cons_succ, i64_w, i32_w]
            rfl
           refine pure_ (i := 11) (N := some 54) (v := ?_) (a' := ?_) #[true, true, true, true, true, true, true, true, true, true, true, true] rfl rfl (any_of HT_.out (by kernel_rfl)) (fun _ _ _ h => h) (Or.inl ⟨by rfl, ?_⟩) ?_ ?_
           rotate_left
           ·intro w'
            go_simp
            with_reducible rfl
           rotate_left
           ·simp only [Act.put, List.setIfInBounds_toArray, List.set_cons_zero, List.set_cons_succ, i64_w, i32_w]
            rfl
           refine done_ (done_of HT_.out (by kernel_rfl)) ?_
           try go_wp2
           go_ret3
           exact ⟨by first | rfl | (simp [errW_none, errW_some] <;> rfl) | (simp [*, errW_none, errW_some] <;> rfl), bw HB.out⟩
          ·rw [if_neg c13] at H
           have c13b0 : decide (1000000000 < (wrap64 (x7_1 + (wrap64 ((Int.tmod (wrap64 (bt a0 x9_1)) 128) * x8_1))))) = false := decide_eq_false c13
           clear c13
           replace H := Option.bind_eq_some_iff.mp H
           obtain ⟨t351, A150, H⟩ := H
           replace H : (if 0 ≤ a1 then (if a1 ≤ (wrap64 (x9_1 + 1)) then (if (wrap64 (x9_1 + 1)) ≤ (a0.size : Int) then (if t351.toList = (a0.extract (a1 : Int).toNat ((wrap64 (x9_1 + 1)) : Int).toNat).toList then (some (wrap64 (x7_1 + (wrap64 ((Int.tmod (wrap64 (bt a0 x9_1)) 128) * x8_1))), wrap64 (x9_1 + 1), true)) else (some (0, 0, false))) else (none)) else (none)) else (none)) = some (r1, r2, r3) := H
           have A15 := Aside0.mk A150
           clear A150
           by_cases c16 : 0 ≤ a1
           ·rw [if_pos c16] at H
            have c16b0 := eq_true c16
            have c16b1 : decide (0 ≤ a1) = true := decide_eq_true c16
            clear c16
            by_cases c17 : a1 ≤ (wrap64 (x9_1 + 1))
            ·rw [if_pos c17] at H
             have c17b0 := eq_true c17
             have c17b1 : decide (a1 ≤ (wrap64 (x9_1 + 1))) = true := decide_eq_true c17
             by_cases c18 : (wrap64 (x9_1 + 1)) ≤ (a0.size : Int)
             ·rw [if_pos c18] at H
              have c18b0 := eq_true c18
              have c18b1 : decide ((wrap64 (x9_1 + 1)) ≤ (a0.size : Int)) = true := decide_eq_true c18
              by_cases c19 : t351.toList = (a0.extract (a1 : Int).toNat ((wrap64 (x9_1 + 1)) : Int).toNat).toList
              ·rw [if_pos c19] at H
               have c19b0 : (t351.toList == (a0.extract (a1 : Int).toNat ((wrap64 (x9_1 + 1)) : Int).toNat).toList) = true := beq_iff_eq.mpr c19
               have c19b1 : (t351.toList != (a0.extract (a1 : Int).toNat ((wrap64 (x9_1 + 1)) : Int).toNat).toList) = false := bne_eq_false_iff_eq.mpr c19
               clear c19
               simp only [Option.some.injEq, Prod.mk.injEq] at H
               obtain ⟨rfl, rfl, rfl⟩ := H
               have p10 : 0 ≤ (x9_1 : Int) := oda
               have q10 : x9_1 < (a0.size : Int) := oda
               have hx10 := bt_at a0 x9_1
               replace p10 := eq_true p10
               replace q10 := eq_true q10
               have p11 : 0 ≤ (x9_1 : Int) := oda
               have q11 : x9_1 < (a0.size : Int) := oda
               have hx11 := bt_at a0 x9_1
               replace p11 := eq_true p11
               replace q11 := eq_true q11
               try go_wp2
               have n0_ := Aside0.mk (below_drew1 HB.out)
               clear HB
               have HB := n0_
               clear n0_
               refine start_ (n := 12) (S := fun w' => True) (ds := []) #[false, false, false, false, false, false, false, false, false, false, false, false] (by kernel_rfl) rfl rfl trivial (fun hHeld => ?_); refine with_tabW spec_ReadVar.tab11 spec_ReadVar.bits11 (fun HT_ HW_ => ?_)
               generalize wc.drew = w20 at HB hHeld ⊢
               refine pure_ (i := 0) (N := some 43) (v := ?_) (a' := ?_) #[true, false, false, false, false, false, false, false, false, false, false, false] rfl rfl (any_of HT_.out (by kernel_rfl)) (fun _ _ _ h => h) (Or.inl ⟨by rfl, ?_⟩) ?_ ?_
               rotate_left
               ·intro w'
                go_simp
                with_reducible rfl
               rotate_left
               ·simp only [Act.put, List.setIfInBounds_toArray, List.set_cons_zero, List.set_cons_succ, i64_w, i32_w]
                rfl
               refine pure_ (i := 1) (N := some 44) (v := ?_) (a' := ?_) #[true, true, false, false, false, false, false, false, false, false, false, false] rfl rfl (any_of HT_.out (by kernel_rfl)) (fun _ _ _ h => h) (Or.inl ⟨by rfl, ?_⟩) ?_ ?_
               rotate_left
               ·intro w'
                go_simp
                with_reducible rfl
               rotate_left
               ·simp only [Act.put, List.setIfInBounds_toArray, List.set_cons_zero, List.set_cons_succ, i64_w, i32_w]
                rfl
               refine pure_ (i := 2) (N := some 45) (v := ?_) (a' := ?_) #[true, true, true, false, false, false, false, false, false, false, false, false] rfl rfl (any_of HT_.out (by kernel_rfl)) (fun _ _ _ h => h) (Or.inl ⟨by rfl, ?_⟩) ?_ ?_
               rotate_left
               ·intro w'
                go_simp
                with_reducible rfl
               rotate_left
               ·simp only [Act.put, List.setIfInBounds_toArray, List.set_cons_zero, List.set_cons_succ, i64_w, i32_w]
                rfl
               refine pure_ (i := 3) (N := some 46) (v := ?_) (a' := ?_) #[true, true, true, true, false, false, false, false, false, false, false, false] rfl rfl (any_of HT_.out (by kernel_rfl)) (fun _ _ _ h => h) (Or.inl ⟨by rfl, ?_⟩) ?_ ?_
               rotate_left
               ·intro w'
                go_simp
                with_reducible rfl
               rotate_left
               ·simp only [Act.put, List.setIfInBounds_toArray, List.set_cons_zero, List.set_cons_succ, i64_w, i32_w]
                rfl
               refine pure_ (i := 5) (N := some 48) (v := ?_) (a' := ?_) #[true, true, true, true, false, true, false, false, false, false, false, false] rfl rfl (any_of HT_.out (by kernel_rfl)) (fun _ _ _ h => h) (Or.inl ⟨by rfl, ?_⟩) ?_ ?_
               rotate_left
               ·intro w'
                go_simp
                with_reducible rfl
               rotate_left
               ·simp only [Act.put, List.setIfInBounds_toArray, List.set_cons_zero, List.set_cons_succ, i64_w, i32_w]
                rfl
               refine pure_ (i := 6) (N := some 49) (v := ?_) (a' := ?_) #[true, true, true, true, false, true, true, false, false, false, false, false] rfl rfl (any_of HT_.out (by kernel_rfl)) (fun _ _ _ h => h) (Or.inl ⟨by rfl, ?_⟩) ?_ ?_
               rotate_left
               ·intro w'
                go_simp
                with_reducible rfl
               rotate_left
               ·simp only [Act.put, List.setIfInBounds_toArray, List.set_cons_zero, List.set_cons_succ, i64_w, i32_w]
                rfl
               refine pure_ (i := 7) (N := some 50) (v := ?_) (a' := ?_) #[true, true, true, true, false, true, true, true, false, false, false, false] rfl rfl (any_of HT_.out (by kernel_rfl)) (fun _ _ _ h => h) (Or.inl ⟨by rfl, ?_⟩) ?_ ?_
               rotate_left
               ·intro w'
                go_simp
                with_reducible rfl
               rotate_left
               ·simp only [Act.put, List.setIfInBounds_toArray, List.set_cons_zero, List.set_cons_succ, i64_w, i32_w]
                rfl
               refine pure_ (i := 8) (N := some 51) (v := ?_) (a' := ?_) #[true, true, true, true, false, true, true, true, true, false, false, false] rfl rfl (any_of HT_.out (by kernel_rfl)) (fun _ _ _ h => h) (Or.inl ⟨by rfl, ?_⟩) ?_ ?_
               rotate_left
               ·intro w'
                go_simp
                with_reducible rfl
               rotate_left
               ·simp only [Act.put, List.setIfInBounds_toArray, List.set_cons_zero, List.set_cons_succ, i64_w, i32_w]
                rfl
               refine pure_ (i := 9) (N := some 52) (v := ?_) (a' := ?_) #[true, true, true, true, false, true, true, true, true, true, false, false] rfl rfl (any_of HT_.out (by kernel_rfl)) (fun _ _ _ h => h) (Or.inl ⟨by rfl, ?_⟩) ?_ ?_
               rotate_left
               ·intro w'
                go_simp
                with_reducible rfl
               rotate_left
               ·simp only [Act.put, List.setIfInBounds_toArray, List.set_cons_zero, List.set_cons_succ, i64_w, i32_w]
                rfl
               refine one_ (i := 4) (N := some 47) #[true, true, true, true, true, true, true, true, true, true, false, false] rfl rfl (one_of HT_.out (by kernel_rfl)) (by decide) (fun K hK => ?_)
               refine goes_ Try.func123 (by kernel_rfl) rfl #[.int .i64 (wrap64 (x7_1 + (wrap64 ((Int.tmod (wrap64 (bt a0 x9_1)) 128) * x8_1))))] (by rfl) rfl rfl ar ?_
               with_reducible refine (spec_l01Var.calls kj4 (wrap64 (x7_1 + (wrap64 ((Int.tmod (wrap64 (bt a0 x9_1)) 128) * x8_1)))) t351 _ A15.out).mono ?_
               rintro e w21 ⟨rfl, hb⟩
               refine ⟨_, rfl, ?_⟩
               have n0_ := Aside0.mk (below_step (bw HB.out) hb)
               clear HB
               have HB := n0_
               clear n0_
               (try clear hb)
               (try clear hb2)
               (try clear hk)
               (try clear hi)
               refine hK.out _ _ trivial (fun hHeld => ?_)
               clear hK K
               refine norm_ (a' := ?_) ?_ ?_
               rotate_left
               ·show Act.put _ (some 47) _ = _
                simp only [Act.put, List.setIfInBounds_toArray, List.set_cons_zero, List.set_cons_succ, i64_w, i32_w]
                rfl
               refine pure_ (i := 10) (N := some 53) (v := ?_) (a' := ?_) #[true, true, true, true, true, true, true, true, true, true, true, false] rfl rfl (any_of HT_.out (by kernel_rfl)) (fun _ _ _ h => h) (Or.inl ⟨by rfl, ?_⟩) ?_ ?_
               rotate_left
               ·intro w'
                go_simp
                with_reducible rfl
               rotate_left
               ·simp only [Act.put, List.setIfInBounds_toArray, List.set_cons_zero, List.set_cons_succ, i64_w, i32_w]
                rfl
               refine pure_ (i := 11) (N := some 54) (v := ?_) (a' := ?_) #[true, true, true, true, true, true, true, true, true, true, true, true] rfl rfl (any_of HT_.out (by kernel_rfl)) (fun _ _ _ h => h) (Or.inl ⟨by rfl, ?_⟩) ?_ ?_
               rotate_left
               ·intro w'
                go_simp
                with_reducible rfl
               rotate_left
               ·simp only [Act.put, List.setIfInBounds_toArray, List.set_cons_zero, List.set_cons_succ, i64_w, i32_w]
                rfl
               refine done_ (done_of HT_.out (by kernel_rfl)) ?_
               try go_wp2
               go_ret3
               exact ⟨by first | rfl | (simp [errW_none, errW_some] <;> rfl) | (simp [*, errW_none, errW_some] <;> rfl), bw HB.out⟩
              ·rw [if_neg c19] at H
               have c19b0 : (t351.toList == (a0.extract (a1 : Int).toNat ((wrap64 (x9_1 + 1)) : Int).toNat).toList) = false := beq_eq_false_iff_ne.mpr c19
               have c19b1 : (t351.toList != (a0.extract (a1 : Int).toNat ((wrap64 (x9_1 + 1)) : Int).toNat).toList) = true := bne_iff_ne.mpr c19
               simp only [Option.some.injEq, Prod.mk.injEq] at H
               obtain ⟨rfl, rfl, rfl⟩ := H
               have p10 : 0 ≤ (x9_1 : Int) := oda
               have q10 : x9_1 < (a0.size : Int) := oda
               have hx10 := bt_at a0 x9_1
               replace p10 := eq_true p10
               replace q10 := eq_true q10
               have p11 : 0 ≤ (x9_1 : Int) := oda
               have q11 : x9_1 < (a0.size : Int) := oda
               have hx11 := bt_at a0 x9_1
               replace p11 := eq_true p11
               replace q11 := eq_true q11
               try go_wp2
               have n0_ := Aside0.mk (below_drew1 HB.out)
               clear HB
               have HB := n0_
               clear n0_
               refine start_ (n := 12) (S := fun w' => True) (ds := []) #[false, false, false, false, false, false, false, false, false, false, false, false] (by kernel_rfl) rfl rfl trivial (fun hHeld => ?_); refine with_tabW spec_ReadVar.tab11 spec_ReadVar.bits11 (fun HT_ HW_ => ?_)
               generalize wc.drew = w22 at HB hHeld ⊢
               refine pure_ (i := 0) (N := some 43) (v := ?_) (a' := ?_) #[true, false, false, false, false, false, false, false, false, false, false, false] rfl rfl (any_of HT_.out (by kernel_rfl)) (fun _ _ _ h => h) (Or.inl ⟨by rfl, ?_⟩) ?_ ?_
               rotate_left
               ·intro w'
                go_simp
                with_reducible rfl
               rotate_left
               ·simp only [Act.put, List.setIfInBounds_toArray, List.set_cons_zero, List.set_cons_succ, i64_w, i32_w]
                rfl
               refine pure_ (i := 1) (N := some 44) (v := ?_) (a' := ?_) #[true, true, false, false, false, false, false, false, false, false, false, false] rfl rfl (any_of HT_.out (by kernel_rfl)) (fun _ _ _ h => h) (Or.inl ⟨by rfl, ?_⟩) ?_ ?_
               rotate_left
               ·intro w'
                go_simp
                with_reducible rfl
               rotate_left
               ·simp only [Act.put, List.setIfInBounds_toArray, List.set_cons_zero, List.set_cons_succ, i64_w, i32_w]
                rfl
               refine pure_ (i := 2) (N := some 45) (v := ?_) (a' := ?_) #[true, true, true, false, false, false, false, false, false, false, false, false] rfl rfl (any_of HT_.out (by kernel_rfl)) (fun _ _ _ h => h) (Or.inl ⟨by rfl, ?_⟩) ?_ ?_
               rotate_left
               ·intro w'
                go_simp
                with_reducible rfl
               rotate_left
               ·simp only [Act.put, List.setIfInBounds_toArray, List.set_cons_zero, List.set_cons_succ, i64_w, i32_w]
                rfl
               refine pure_ (i := 3) (N := some 46) (v := ?_) (a' := ?_) #[true, true, true, true, false, false, false, false, false, false, false, false] rfl rfl (any_of HT_.out (by kernel_rfl)) (fun _ _ _ h => h) (Or.inl ⟨by rfl, ?_⟩) ?_ ?_
               rotate_left
               ·intro w'
                go_simp
                with_reducible rfl
               rotate_left
               ·simp only [Act.put, List.setIfInBounds_toArray, List.set_cons_zero, List.set_cons_succ, i64_w, i32_w]
                rfl
               refine pure_ (i := 5) (N := some 48) (v := ?_) (a' := ?_) #[true, true, true, true, false, true, false, false, false, false, false, false] rfl rfl (any_of HT_.out (by kernel_rfl)) (fun _ _ _ h => h) (Or.inl ⟨by rfl, ?_⟩) ?_ ?_
               rotate_left
               ·intro w'
                go_simp
                with_reducible rfl
               rotate_left
               ·simp only [Act.put, List.setIfInBounds_toArray, List.set_cons_zero, List.set_cons_succ, i64_w, i32_w]
                rfl
               refine pure_ (i := 6) (N := some 49) (v := ?_) (a' := ?_) #[true, true, true, true, false, true, true, false, false, false, false, false] rfl rfl (any_of HT_.out (by kernel_rfl)) (fun _ _ _ h => h) (Or.inl ⟨by rfl, ?_⟩) ?_ ?_
               rotate_left
               ·intro w'
                go_simp
                with_reducible rfl
               rotate_left
               ·simp only [Act.put, List.setIfInBounds_toArray, List.set_cons_zero, List.set_cons_succ, i64_w, i32_w]
                rfl
               refine pure_ (i := 7) (N := some 50) (v := ?_) (a' := ?_) #[true, true, true, true, false, true, true, true, false, false, false, false] rfl rfl (any_of HT_.out (by kernel_rfl)) (fun _ _ _ h => h) (Or.inl ⟨by rfl, ?_⟩) ?_ ?_
               rotate_left
               ·intro w'
                go_simp
                with_reducible rfl
               rotate_left
               ·simp only [Act.put, List.setIfInBounds_toArray, List.set_cons_zero, List.set_cons_succ, i64_w, i32_w]
                rfl
               refine pure_ (i := 8) (N := some 51) (v := ?_) (a' := ?_) #[true, true, true, true, false, true, true, true, true, false, false, false] rfl rfl (any_of HT_.out (by kernel_rfl)) (fun _ _ _ h => h) (Or.inl ⟨by rfl, ?_⟩) ?_ ?_
               rotate_left
               ·intro w'
                go_simp
                with_reducible rfl
               rotate_left
               ·simp only [Act.put, List.setIfInBounds_toArray, List.set_cons_zero, List.set_cons_succ, i64_w, i32_w]
                rfl
               refine pure_ (i := 9) (N := some 52) (v := ?_) (a' := ?_) #[true, true, true, true, false, true, true, true, true, true, false, false] rfl rfl (any_of HT_.out (by kernel_rfl)) (fun _ _ _ h => h) (Or.inl ⟨by rfl, ?_⟩) ?_ ?_
               rotate_left
               ·intro w'
                go_simp
                with_reducible rfl
               rotate_left
               ·simp only [Act.put, List.setIfInBounds_toArray, List.set_cons_zero, List.set_cons_succ, i64_w, i32_w]
                rfl
               refine one_ (i := 4) (N := some 47) #[true, true, true, true, true, true, true, true, true, true, false, false] rfl rfl (one_of HT_.out (by kernel_rfl)) (by decide) (fun K hK => ?_)
               refine goes_ Try.func123 (by kernel_rfl) rfl #[.int .i64 (wrap64 (x7_1 + (wrap64 ((Int.tmod (wrap64 (bt a0 x9_1)) 128) * x8_1))))] (by rfl) rfl rfl ar ?_
               with_reducible refine (spec_l01Var.calls kj4 (wrap64 (x7_1 + (wrap64 ((Int.tmod (wrap64 (bt a0 x9_1)) 128) * x8_1)))) t351 _ A15.out).mono ?_
               rintro e w23 ⟨rfl, hb⟩
               refine ⟨_, rfl, ?_⟩
               have n0_ := Aside0.mk (below_step (bw HB.out) hb)
               clear HB
               have HB := n0_
               clear n0_
               (try clear hb)
               (try clear hb2)
               (try clear hk)
               (try clear hi)
               refine hK.out _ _ trivial (fun hHeld => ?_)
               clear hK K
               refine norm_ (a' := ?_) ?_ ?_
               rotate_left
               ·show Act.put _ (some 47) _ = _
                simp only [Act.put, List.setIfInBounds_toArray, List.set_cons_zero, List.set_cons_succ, i64_w, i32_w]
                rfl
               refine pure_ (i := 10) (N := some 53) (v := ?_) (a' := ?_) #[true, true, true, true, true, true, true, true, true, true, true, false] rfl rfl (any_of HT_.out (by kernel_rfl)) (fun _ _ _ h => h) (Or.inl ⟨by rfl, ?_⟩) ?_ ?_
               rotate_left
               ·intro w'
                go_simp
                with_reducible rfl
               rotate_left
               ·simp only [Act.put, List.setIfInBounds_toArray, List.set_cons_zero, List.set_cons_succ, i64_w, i32_w]
                rfl
               refine pure_ (i := 11) (N := some 54) (v := ?_) (a' := ?_) #[true, true, true, true, true, true, true, true, true, true, true, true] rfl rfl (any_of HT_.out (by kernel_rfl)) (fun _ _ _ h => h) (Or.inl ⟨by rfl, ?_⟩) ?_ ?_
               rotate_left
               ·intro w'
                go_simp
                with_reducible rfl
               rotate_left
               ·simp only [Act.put, List.setIfInBounds_toArray, List.set_cons_zero, List.set_cons_succ, i64_w, i32_w]
                rfl
               refine done_ (done_of HT_.out (by kernel_rfl)) ?_
               try go_wp2
               go_ret3
               exact ⟨by first | rfl | (simp [errW_none, errW_some] <;> rfl) | (simp [*, errW_none, errW_some] <;> rfl), bw HB.out⟩
             ·rw [if_neg c18] at H
              exact absurd H (by simp)
            ·rw [if_neg c17] at H
             exact absurd H (by simp)
           ·rw [if_neg c16] at H
            exact absurd H (by simp)
         ·rw [if_neg c12] at H
          have c12b0 : decide ((bt a0 x9_1) < 128) = false := decide_eq_false c12
          clear c12
          have H' := Aside0.mk H
          clear H
          have p10 : 0 ≤ (x9_1 : Int) := oda
          have q10 : x9_1 < (a0.size : Int) := oda
          have hx10 := bt_at a0 x9_1
          replace p10 := eq_true p10
          replace q10 := eq_true q10
          have p11 : 0 ≤ (x9_1 : Int) := oda
          have q11 : x9_1 < (a0.size : Int) := oda
          have hx11 := bt_at a0 x9_1
          replace p11 := eq_true p11
          replace q11 := eq_true q11
          go_wp2
          go_roundg kj4
          case measure => have := HK1.out; have := HJ4.out; omega
          case rel => exact ⟨(wrap64 (x7_1 + (wrap64 ((Int.tmod (wrap64 (bt a0 x9_1)) 128) * x8_1)))), (wrap64 (x8_1 * 128)), (wrap64 (x9_1 + 1)), (by first | rfl | (simp; done) | (simp [*]; done)), (by first | rfl | (simp; done) | (simp [*]; done)), (by first | rfl | (simp; done) | (simp [*]; done)), H', ⟨by have := HK1.out; have := HJ4.out; omega⟩, ⟨bw HB.out⟩⟩
        ·rw [if_neg c9] at H
         exact absurd H (by simp)
       ·rw [if_neg c8] at H
        exact absurd H (by simp)
      ·replace c7 := Bool.eq_false_iff.mpr c7
       subst c7
       have H1 : (some (0, 0, false)) = some (r1, r2, r3) := by rw [if_neg (show ¬ (false = true) by decide)] at H; exact H
       clear H
       have H := H1
       clear H1
       simp only [Option.some.injEq, Prod.mk.injEq] at H
       obtain ⟨rfl, rfl, rfl⟩ := H
       go_wp2
       go_ret3
       exact ⟨by first | rfl | (simp [errW_none, errW_some] <;> rfl) | (simp [*, errW_none, errW_some] <;> rfl), bw HB.out⟩
 ·replace c4 := Bool.eq_false_iff.mpr c4
  subst c4
  have H1 : (some (0, 0, false)) = some (r1, r2, r3) := by rw [if_neg (show ¬ (false = true) by decide)] at H; exact H
  clear H
  have H := H1
  clear H1
  simp only [Option.some.injEq, Prod.mk.injEq] at H
  obtain ⟨rfl, rfl, rfl⟩ := H
  go_enter Try.func126, Try.ntmps126
  go_wp2_with (first | ((with_reducible refine gate_callee (f := 79) rfl ?_); refine goesL_ (some 13) rfl rfl Try.func79 (by kernel_rfl) rfl #[.int .i64 a1, .int .i64 0, .int .i64 (a0.size : Int)] rfl ar ?_; (with_reducible refine (spec_l01In.calls a1 0 (a0.size : Int) false _ A3.out).mono ?_); rintro e w' ⟨rfl, ⟨nd, rfl⟩⟩; refine ⟨_, rfl, ?_⟩))
  go_ret3
  exact ⟨by first | rfl | (simp [errW_none, errW_some] <;> rfl) | (simp [*, errW_none, errW_some] <;> rfl), bw HB.out⟩

-- NOT PRINTED: function 114 (spec_l03Read)

/-! ### spec_ReadTerm: OWN: function 65 -/
namespace Hand
open Go.Proofs.Ytkckdibalopagaa.Base
/-! numbers as texts -/
theorem spec_l01Var_ev (d : Nat) : ∀ (n : Nat) (acc : List Int), n < 128 ^ (d + 1) → n ≤ 9223372036854775807 → acc.length + d ≤ 1000000 → Ev (fun k => spec_l01Var.l0 k (n : Int) acc) (strOfNums (acc ++ varN n)) := by
 induction d with
 | zero =>
  intro n acc h hb ha
  rw [varN_small (by omega)]
  refine ev_end (fun k => ?_)
  rw [spec_l01Var.l0, if_neg (by omega), if_pos (by omega)]
  congr 4
  omega
 | succ d ih =>
  intro n acc h hb ha
  by_cases hn : n > 127
  ·rw [varN_big hn]
   refine Ev.step (fun k => by rw [spec_l01Var.l0, if_pos (by omega), if_pos (by omega)]) ?_
   have e1 : wrap64 (Int.tdiv (n : Int) 128) = ((n / 128 : Nat) : Int) := by
    rw [Int.tdiv_eq_ediv_of_nonneg (by omega)]
    unfold wrap64
    omega
   have e2 : wrap64 ((Int.tmod (n : Int) 128) + 128) % 256 = ((n % 128 + 128 : Nat) : Int) := by
    rw [Int.tmod_eq_emod_of_nonneg (by omega)]
    unfold wrap64
    omega
   rw [e1, e2]
   refine ev_cast (ih (n / 128) _ (by rw [Nat.div_lt_iff_lt_mul (by omega)]; rw [Nat.pow_succ] at h; exact h) (by omega) (by simp; omega)) ?_
   simp
  ·rw [varN_small (by omega)]
   refine ev_end (fun k => ?_)
   rw [spec_l01Var.l0, if_neg (by omega), if_pos (by omega)]
   congr 4
   omega
theorem spec_l01Var_f (n : Nat) (h : n ≤ 9223372036854775807) : Ev (fun k => spec_l01Var.f k (n : Int)) (strOfNums (varN n)) :=
  spec_l01Var_ev 9 n [] (by omega) h (by simp)

/-! the reference's ReadVar -/
theorem spec_ReadVar_ev (s : ByteArray) (hs : s.size ≤ 140737488351232) (A : Nat) (hA : A ≤ s.size) : ∀ (d j : Nat) (n : Int), 5 - j = d → j ≤ 5 → 0 ≤ n → n < 128 ^ j →
  Ev (fun k => spec_ReadVar.l0 k s (A : Int) n (128 ^ j) ((A + j : Nat) : Int)) (readVj ((bytesOf s).drop A) ((bytesOf s).drop (A + j)) A j n) := by
 intro d
 induction d with
 | zero =>
  intro j n hd hj h0 h1
  obtain rfl : j = 5 := by omega
  rw [readVj_end]
  by_cases hlt : A + 5 < s.size
  ·refine Ev.step (fun k => by rw [spec_ReadVar.l0, if_pos (by omega), w64 (by omega) (by omega)]) (ev_end (fun k => ?_))
   rw [spec_ReadVar.j1, if_neg (by simp only [decide_eq_true_eq]; omega)]
  ·refine Ev.step (fun k => by rw [spec_ReadVar.l0, if_neg (by omega)]) (ev_end (fun k => ?_))
   rw [spec_ReadVar.j1, if_neg (by simp)]
 | succ d ih =>
  intro j n hd hj h0 h1
  have hj5 : j < 5 := by omega
  by_cases hlt : A + j < s.size
  ·have hr := bt_range s ((A + j : Nat) : Int)
   rw [bytesOf_drop hlt]
   have hp : (0 : Int) < 128 ^ j ∧ (128 : Int) ^ j ≤ 268435456 ∧ (128 : Int) ^ (j + 1) = 128 * 128 ^ j := by
    have : j = 0 ∨ j = 1 ∨ j = 2 ∨ j = 3 ∨ j = 4 := by omega
    rcases this with rfl | rfl | rfl | rfl | rfl <;> decide
   generalize hP : (128 : Int) ^ j = P at hp h1
   obtain ⟨hp0, hp1, hp2⟩ := hp
   refine Ev.step (fun k => by rw [spec_ReadVar.l0, if_pos (by omega), w64 (by omega) (by omega)]) ?_
   have e0 : wrap64 (bt s ((A + j : Nat) : Int)) = bt s ((A + j : Nat) : Int) := w64 (by omega) (by omega)
   have em : Int.tmod (bt s ((A + j : Nat) : Int)) 128 = bt s ((A + j : Nat) : Int) % 128 := Int.tmod_eq_emod_of_nonneg (by omega)
   have hc0 : 0 ≤ bt s ((A + j : Nat) : Int) % 128 ∧ bt s ((A + j : Nat) : Int) % 128 ≤ 127 := by omega
   have hm : bt s ((A + j : Nat) : Int) % 128 * P = P * (bt s ((A + j : Nat) : Int) % 128) := Int.mul_comm _ _
   have hb0 : 0 ≤ P * (bt s ((A + j : Nat) : Int) % 128) := Int.mul_nonneg (by omega) hc0.1
   have hb1 : P * (bt s ((A + j : Nat) : Int) % 128) ≤ P * 127 := Int.mul_le_mul_of_nonneg_left hc0.2 (by omega)
   refine Ev.step (fun k => by rw [spec_ReadVar.j1, if_pos (by simp only [decide_eq_true_eq]; omega), if_pos (by omega), if_pos (by omega), e0, em, hm, w64 (x := P * _) (by omega) (by omega), w64 (x := n + _) (by omega) (by omega), w64 (x := _ + 1) (by omega) (by omega)]) ?_
   by_cases hc : bt s ((A + j : Nat) : Int) < 128
   ·refine evT hc ?_
    have ec : bt s ((A + j : Nat) : Int) % 128 = bt s ((A + j : Nat) : Int) := by omega
    rw [readVj_small _ _ _ _ _ _ hj5 (by omega) (by omega), hP]
    rw [ec] at hb0 hb1 ⊢
    by_cases hbig : n + P * bt s ((A + j : Nat) : Int) > 1000000000
    ·refine evT hbig ?_
     rw [if_neg (by omega)]
     exact Ev.now _
    ·refine evF hbig ?_
     have hv := spec_l01Var_f (n + P * bt s ((A + j : Nat) : Int)).toNat (by omega)
     rw [Int.toNat_of_nonneg (by omega)] at hv
     refine Ev.bind hv (evT (by omega) (evT (by omega) (evT (by omega) ?_)))
     have hiff := str_ext_iff (varN_range (n + P * bt s ((A + j : Nat) : Int)).toNat) s A (A + j + 1)
     rw [show A + j + 1 - A = j + 1 by omega] at hiff
     have ei : (((A + j : Nat) : Int) + 1).toNat = A + j + 1 := by omega
     rw [ei, Int.toNat_natCast]
     by_cases hq : varN (n + P * bt s ((A + j : Nat) : Int)).toNat = ((bytesOf s).drop A).take (j + 1)
     ·refine ev_cast (evT (hiff.2 hq) (Ev.now _)) ?_
      rw [if_pos ⟨by omega, hq⟩]
      congr 2
     ·exact ev_cast (evF (fun h => hq (hiff.1 h)) (Ev.now _)) (if_neg (fun h => hq h.2)).symm
   ·refine evF hc ?_
    rw [readVj_big _ _ _ _ _ _ hj5 (by omega) (by omega), hP]
    have e1 : wrap64 (P * 128) = 128 ^ (j + 1) := by rw [hp2, w64 (by omega) (by omega)]; omega
    have e2 : ((A + j : Nat) : Int) + 1 = ((A + (j + 1) : Nat) : Int) := by omega
    rw [e1, e2]
    have := ih (j + 1) (n + P * (bt s ((A + j : Nat) : Int) % 128)) (by omega) (by omega) (by omega) (by omega)
    exact this
  ·rw [bytesOf_all (i := A + j) (by omega), readVj_nil]
   refine Ev.step (fun k => by rw [spec_ReadVar.l0, if_neg (by omega)]) (ev_end (fun k => ?_))
   rw [spec_ReadVar.j1, if_neg (by simp)]
theorem spec_ReadVar_f (s : ByteArray) (hs : s.size ≤ 140737488351232) (a : Int) : Ev (fun k => spec_ReadVar.f k s a) (readVar s a) := by
 unfold readVar
 by_cases h : 0 ≤ a ∧ a ≤ s.size
 ·rw [if_pos h]
  obtain ⟨A, rfl⟩ := Int.eq_ofNat_of_zero_le h.1
  refine ev_now (spec_In_in h.1 h.2) (evT rfl ?_)
  have := spec_ReadVar_ev s hs A (by omega) 5 0 0 (by omega) (by omega) (by omega) (by simp)
  rw [Int.toNat_natCast, ← readVj_zero]
  simpa using this
 ·rw [if_neg h]
  exact ev_now (spec_In_out (by omega)) (evF (by simp) (Ev.now _))

/-! reading a term: the reference's way -/
def rdS (t : ByteArray) : Nat → List S34 → Int → List S34 × Int × Int
  | 0, l, _ => (l, -1, 0)
  | d + 1, l, a =>
    if (readVar t a).2.2 = true ∧ 1 ≤ (readVar t a).1 ∧ (readVar t a).1 ≤ 9 then
      (if (readVar t a).1 = 1 then
        (if (readVar t (readVar t a).2.1).2.2 = true then ((putN l ⟨1, (readVar t (readVar t a).2.1).1, 0, 0⟩).1, (putN l ⟨1, (readVar t (readVar t a).2.1).1, 0, 0⟩).2, (readVar t (readVar t a).2.1).2.1) else (l, -1, 0))
      else if (rdS t d l (readVar t a).2.1).2.1 < 0 then ((rdS t d l (readVar t a).2.1).1, -1, 0)
      else if (readVar t a).1 = 3 ∨ (readVar t a).1 = 6 then
        ((putN (rdS t d l (readVar t a).2.1).1 ⟨(readVar t a).1, 0, (rdS t d l (readVar t a).2.1).2.1, 0⟩).1, (putN (rdS t d l (readVar t a).2.1).1 ⟨(readVar t a).1, 0, (rdS t d l (readVar t a).2.1).2.1, 0⟩).2, (rdS t d l (readVar t a).2.1).2.2)
      else if (rdS t d (rdS t d l (readVar t a).2.1).1 (rdS t d l (readVar t a).2.1).2.2).2.1 < 0 then ((rdS t d (rdS t d l (readVar t a).2.1).1 (rdS t d l (readVar t a).2.1).2.2).1, -1, 0)
      else ((putN (rdS t d (rdS t d l (readVar t a).2.1).1 (rdS t d l (readVar t a).2.1).2.2).1 ⟨(readVar t a).1, 0, (rdS t d l (readVar t a).2.1).2.1, (rdS t d (rdS t d l (readVar t a).2.1).1 (rdS t d l (readVar t a).2.1).2.2).2.1⟩).1,
            (putN (rdS t d (rdS t d l (readVar t a).2.1).1 (rdS t d l (readVar t a).2.1).2.2).1 ⟨(readVar t a).1, 0, (rdS t d l (readVar t a).2.1).2.1, (rdS t d (rdS t d l (readVar t a).2.1).1 (rdS t d l (readVar t a).2.1).2.2).2.1⟩).2,
            (rdS t d (rdS t d l (readVar t a).2.1).1 (rdS t d l (readVar t a).2.1).2.2).2.2))
    else (l, -1, 0)

def RPost (w : World) (base g : Nat) (ok : Nat → Prop) (r : List S34 × Int × Int) (e : Ending) (w' : World) : Prop := e = .returned (.tuple #[.int .i64 r.2.1, .int .i64 r.2.2]) ∧ ArS w' base g ok r.1 ∧ Below base w w' ∧ Kept w w' (Mine g ok)
/-- how far the walk has come -/
def RAt (w wr : World) (base g : Nat) (ok : Nat → Prop) (l : List S34) : Prop := ArS wr base g ok l ∧ Below base w wr ∧ Kept w wr (Mine g ok)
theorem RAt.start {w : World} {base g : Nat} {ok : Nat → Prop} {l : List S34} (h : ArS w base g ok l) : RAt w w base g ok l := ⟨h, Below.refl _ _, Kept.refl _ _⟩
theorem RAt.below {w wr w1 : World} {base g : Nat} {ok : Nat → Prop} {l : List S34} (h : RAt w wr base g ok l) (hb : Below wr.heap.size wr w1) : RAt w w1 base g ok l :=
  ⟨h.1.keep hb, h.2.1.trans (hb.mono (by have := h.1.1.size; omega)), h.2.2.below hb⟩
theorem RAt.put {w wr w1 : World} {base g : Nat} {ok : Nat → Prop} {l : List S34} {r : List S34 × Int} {e : Ending} (h : RAt w wr base g ok l) (hp : ArPost wr base g ok r e w1) : RAt w w1 base g ok r.1 :=
  ⟨hp.2.1, h.2.1.trans hp.2.2.1, h.2.2.then_ hp.2.2.2 (fun _ h => .inl h)⟩
theorem RAt.read {w wr w1 : World} {base g : Nat} {ok : Nat → Prop} {l : List S34} {r : List S34 × Int × Int} {e : Ending} (h : RAt w wr base g ok l) (hp : RPost wr base g ok r e w1) : RAt w w1 base g ok r.1 :=
  ⟨hp.2.1, h.2.1.trans hp.2.2.1, h.2.2.then_ hp.2.2.2 (fun _ h => .inl h)⟩
theorem RAt.ars {w wr : World} {base g : Nat} {ok : Nat → Prop} {l : List S34} (h : RAt w wr base g ok l) : ArS wr base g ok l := h.1
theorem RAt.post {w wr : World} {base g : Nat} {ok : Nat → Prop} {r : List S34 × Int × Int} (h : RAt w wr base g ok r.1) : RPost w base g ok r (.returned (.tuple #[.int .i64 r.2.1, .int .i64 r.2.2])) wr := ⟨rfl, h⟩
theorem as_post' {P : Program} {f : Nat} {args : Array Value} {w : World} {base g : Nat} {ok : Nat → Prop} {u s : List S34 × Int} (h : u = s) (hc : Calls P f args w (ArPost w base g ok u)) : Calls P f args w (ArPost w base g ok s) := h ▸ hc
theorem rd_post {P : Program} {f : Nat} {args : Array Value} {w : World} {base g : Nat} {ok : Nat → Prop} {u s : List S34 × Int × Int} (h : u = s) (hc : Calls P f args w (RPost w base g ok u)) : Calls P f args w (RPost w base g ok s) := h ▸ hc
set_option maxHeartbeats 4000000 in
set_option maxRecDepth 100000 in
theorem spec_read (t : ByteArray) (ht : t.size ≤ 140737488351232) : ∀ (d : Nat), d ≤ 2001 → ∀ (dp : Int), dp = 2001 - (d : Int) → ∀ (l : List S34) (a : Int) (w : World) (base g : Nat) (ok : Nat → Prop), ArS w base g ok l →
  Calls Try.prog 114 #[.pointer (some ⟨g, 0, none⟩), .string t, .int .i64 a, .int .i64 dp] w (RPost w base g ok (rdS t d l a)) := by
 intro d
 induction d with
 | zero =>
  intro hd dp hdp l a w base g ok hA
  obtain ⟨kv, hv⟩ := spec_ReadVar_f t ht a
  have hv := hv kv (Nat.le_refl _)
  obtain ⟨⟨kd, nx, okb⟩, hr⟩ : ∃ r, readVar t a = r := ⟨_, rfl⟩
  rw [hr] at hv
  have HV := Aside0.mk hv
  have Aw := Aside0.mk (RAt.start hA)
  have hdd : decide (2000 < dp) = true := decide_eq_true (by omega)
  clear hv hr hA hdp hd
  cases okb with
  | true =>
   go_enter Try.func114, Try.ntmps114
   go_wp2_with (first | (go_at_call 126; ((with_reducible refine (spec_ReadVar.calls kv t a kd nx true _ HV.out).mono ?_); rintro e w1 ⟨rfl, hb⟩); have Aw1 := Aside0.mk (Aw.out.below hb); clear hb))
   go_ret2
   exact Aw1.out.post
  | false =>
   go_enter Try.func114, Try.ntmps114
   go_wp2_with (first | (go_at_call 126; ((with_reducible refine (spec_ReadVar.calls kv t a kd nx false _ HV.out).mono ?_); rintro e w1 ⟨rfl, hb⟩); have Aw1 := Aside0.mk (Aw.out.below hb); clear hb))
   go_ret2
   exact Aw1.out.post
 | succ d ih =>
  intro hd dp hdp l a w base g ok hA
  have IH := Aside0.mk (ih (by omega) (dp + 1) (by omega))
  clear ih
  have hdd : decide (2000 < dp) = false := decide_eq_false (by omega)
  have hdp0 : 0 ≤ dp := by omega
  have hdp1 : dp ≤ 2000 := by omega
  clear hdp hd
  obtain ⟨kv, hv⟩ := spec_ReadVar_f t ht a
  have hv := hv kv (Nat.le_refl _)
  obtain ⟨⟨kd, nx, okb⟩, hr⟩ : ∃ r, readVar t a = r := ⟨_, rfl⟩
  rw [hr] at hv
  have HV := Aside0.mk hv
  have Aw := Aside0.mk (RAt.start hA)
  have HR := Aside0.mk hr
  clear hv hA hr
  cases okb with
  | false =>
   have he : rdS t (d + 1) l a = (l, -1, 0) := by rw [rdS, HR.out, if_neg (by simp)]
   have HE := Aside0.mk he
   clear he
   go_enter Try.func114, Try.ntmps114
   go_wp2_with (first | (go_at_call 126; ((with_reducible refine (spec_ReadVar.calls kv t a kd nx false _ HV.out).mono ?_); rintro e w1 ⟨rfl, hb⟩); have Aw1 := Aside0.mk (Aw.out.below hb); clear hb))
   go_ret2
   rw [HE.out]
   exact RAt.post (r := (l, -1, 0)) Aw1.out
  | true =>
   by_cases hk : 1 ≤ kd ∧ kd ≤ 9
   ·have HIN : Aside0 (spec_l01In.f kd 1 9 = some true) := ⟨by rw [spec_In_b]; simp [hk]⟩
    have HK := Aside0.mk hk
    clear hk
    by_cases h1 : kd = 1
    ·subst h1
     obtain ⟨kn, hv2⟩ := spec_ReadVar_f t ht nx
     have hv2 := hv2 kn (Nat.le_refl _)
     obtain ⟨⟨nm, en, ok2⟩, hr2⟩ : ∃ r, readVar t nx = r := ⟨_, rfl⟩
     rw [hr2] at hv2
     have HV2 := Aside0.mk hv2
     have HR2 := Aside0.mk hr2
     clear hv2 hr2
     cases ok2 with
     | false =>
      have he : rdS t (d + 1) l a = (l, -1, 0) := by simp [rdS, HR.out, HR2.out]
      have HE := Aside0.mk he
      clear he
      go_enter Try.func114, Try.ntmps114
      go_wp2_with (first | (go_at_call 126; ((with_reducible refine (spec_ReadVar.calls kv t a 1 nx true _ HV.out).mono ?_); rintro e w1 ⟨rfl, hb⟩); have Aw1 := Aside0.mk (Aw.out.below hb); clear hb) | (go_at_call 79; ((with_reducible refine (spec_l01In.calls 1 1 9 true _ HIN.out).mono ?_); rintro e w2 ⟨rfl, hb⟩); have Aw2 := Aside0.mk (Aw1.out.below hb.below); clear hb) | (go_at_call 126; ((with_reducible refine (spec_ReadVar.calls kn t nx nm en false _ HV2.out).mono ?_); rintro e w3 ⟨rfl, hb⟩); have Aw3 := Aside0.mk (Aw2.out.below hb); clear hb))
      go_ret2
      rw [HE.out]
      exact RAt.post (r := (l, -1, 0)) Aw3.out
     | true =>
      obtain ⟨s, hs⟩ : ∃ s, putN l ⟨1, nm, 0, 0⟩ = s := ⟨_, rfl⟩
      have he : rdS t (d + 1) l a = (s.1, s.2, en) := by simp [rdS, HR.out, HR2.out, hs]
      have HE := Aside0.mk he
      have HS := Aside0.mk hs
      clear he hs
      go_enter Try.func114, Try.ntmps114
      go_wp2_with (first | (go_at_call 126; ((with_reducible refine (spec_ReadVar.calls kv t a 1 nx true _ HV.out).mono ?_); rintro e w1 ⟨rfl, hb⟩); have Aw1 := Aside0.mk (Aw.out.below hb); clear hb) | (go_at_call 79; ((with_reducible refine (spec_l01In.calls 1 1 9 true _ HIN.out).mono ?_); rintro e w2 ⟨rfl, hb⟩); have Aw2 := Aside0.mk (Aw1.out.below hb.below); clear hb) | (go_at_call 126; ((with_reducible refine (spec_ReadVar.calls kn t nx nm en true _ HV2.out).mono ?_); rintro e w3 ⟨rfl, hb⟩); have Aw3 := Aside0.mk (Aw2.out.below hb); clear hb) | (go_at_call 113; ((with_reducible refine (as_post' HS.out (spec_put l ⟨1, nm, 0, 0⟩ _ base g ok Aw3.out.ars)).mono ?_); rintro e w4 hp); have Aw4 := Aside0.mk (Aw3.out.put hp); obtain ⟨rfl, _⟩ := hp))
      go_ret2
      rw [HE.out]
      exact RAt.post (r := (s.1, s.2, en)) Aw4.out
    ·have h1b : (kd == 1) = false := by simpa using h1
     have H1 := Aside0.mk h1
     clear h1
     obtain ⟨⟨lx, px, ex⟩, hx⟩ : ∃ r, rdS t d l nx = r := ⟨_, rfl⟩
     have HX := Aside0.mk hx
     by_cases hpx : px < 0
     ·have he : rdS t (d + 1) l a = (lx, -1, 0) := by rw [rdS, HR.out]; simp only; rw [if_pos ⟨trivial, HK.out⟩, if_neg H1.out, hx]; simp only; rw [if_pos hpx]
      have HE := Aside0.mk he
      have hpd : decide (px < 0) = true := decide_eq_true hpx
      clear he hpx hx
      go_enter Try.func114, Try.ntmps114
      go_wp2_with (first | (go_at_call 126; ((with_reducible refine (spec_ReadVar.calls kv t a kd nx true _ HV.out).mono ?_); rintro e w1 ⟨rfl, hb⟩); have Aw1 := Aside0.mk (Aw.out.below hb); clear hb) | (go_at_call 79; ((with_reducible refine (spec_l01In.calls kd 1 9 true _ HIN.out).mono ?_); rintro e w2 ⟨rfl, hb⟩); have Aw2 := Aside0.mk (Aw1.out.below hb.below); clear hb) | (go_at_call 114; ((with_reducible refine (rd_post HX.out (IH.out l nx _ base g ok Aw2.out.ars)).mono ?_); rintro e w3 hp); have Aw3 : Aside0 (RAt w w3 base g ok lx) := ⟨Aw2.out.read hp⟩; obtain ⟨rfl, _⟩ := hp))
      go_ret2
      rw [HE.out]
      exact RAt.post (r := (lx, -1, 0)) Aw3.out
     ·have hpd : decide (px < 0) = false := decide_eq_false hpx
      have HPX := Aside0.mk hpx
      clear hpx
      by_cases h3 : kd = 3 ∨ kd = 6
      ·have HO := Aside0.mk ((spec_One_f kd).trans (congrArg some (decide_eq_true h3)))
       obtain ⟨s, hs⟩ : ∃ s, putN lx ⟨kd, 0, px, 0⟩ = s := ⟨_, rfl⟩
       have he : rdS t (d + 1) l a = (s.1, s.2, ex) := by rw [rdS, HR.out]; simp only; rw [if_pos ⟨trivial, HK.out⟩, if_neg H1.out, hx]; simp only; rw [if_neg HPX.out, if_pos h3, hs]
       have HE := Aside0.mk he
       have HS := Aside0.mk hs
       clear he hs hx h3
       go_enter Try.func114, Try.ntmps114
       go_wp2_with (first | (go_at_call 126; ((with_reducible refine (spec_ReadVar.calls kv t a kd nx true _ HV.out).mono ?_); rintro e w1 ⟨rfl, hb⟩); have Aw1 := Aside0.mk (Aw.out.below hb); clear hb) | (go_at_call 79; ((with_reducible refine (spec_l01In.calls kd 1 9 true _ HIN.out).mono ?_); rintro e w2 ⟨rfl, hb⟩); have Aw2 := Aside0.mk (Aw1.out.below hb.below); clear hb) | (go_at_call 114; ((with_reducible refine (rd_post HX.out (IH.out l nx _ base g ok Aw2.out.ars)).mono ?_); rintro e w3 hp); have Aw3 : Aside0 (RAt w w3 base g ok lx) := ⟨Aw2.out.read hp⟩; obtain ⟨rfl, _⟩ := hp) | (go_at_call 111; ((with_reducible refine (spec_l03One.calls kd true _ HO.out).mono ?_); rintro e w4 ⟨rfl, hb⟩); have Aw4 := Aside0.mk (Aw3.out.below hb.below); clear hb) | (go_at_call 113; ((with_reducible refine (as_post' HS.out (spec_put lx ⟨kd, 0, px, 0⟩ _ base g ok Aw4.out.ars)).mono ?_); rintro e w5 hp); have Aw5 := Aside0.mk (Aw4.out.put hp); obtain ⟨rfl, _⟩ := hp))
       go_ret2
       rw [HE.out]
       exact RAt.post (r := (s.1, s.2, ex)) Aw5.out
      ·have HO := Aside0.mk ((spec_One_f kd).trans (congrArg some (decide_eq_false h3)))
       obtain ⟨⟨ly, py, ey⟩, hy⟩ : ∃ r, rdS t d lx ex = r := ⟨_, rfl⟩
       have HY := Aside0.mk hy
       by_cases hpy : py < 0
       ·have he : rdS t (d + 1) l a = (ly, -1, 0) := by rw [rdS, HR.out]; simp only; rw [if_pos ⟨trivial, HK.out⟩, if_neg H1.out, hx]; simp only; rw [if_neg HPX.out, if_neg h3, hy]; simp only; rw [if_pos hpy]
        have HE := Aside0.mk he
        have hpyd : decide (py < 0) = true := decide_eq_true hpy
        clear he hx hy hpy h3
        go_enter Try.func114, Try.ntmps114
        go_wp2_with (first | (go_at_call 126; ((with_reducible refine (spec_ReadVar.calls kv t a kd nx true _ HV.out).mono ?_); rintro e w1 ⟨rfl, hb⟩); have Aw1 := Aside0.mk (Aw.out.below hb); clear hb) | (go_at_call 79; ((with_reducible refine (spec_l01In.calls kd 1 9 true _ HIN.out).mono ?_); rintro e w2 ⟨rfl, hb⟩); have Aw2 := Aside0.mk (Aw1.out.below hb.below); clear hb) | (go_at_call 114; ((with_reducible refine (rd_post HX.out (IH.out l nx _ base g ok Aw2.out.ars)).mono ?_); rintro e w3 hp); have Aw3 : Aside0 (RAt w w3 base g ok lx) := ⟨Aw2.out.read hp⟩; obtain ⟨rfl, _⟩ := hp) | (go_at_call 111; ((with_reducible refine (spec_l03One.calls kd false _ HO.out).mono ?_); rintro e w4 ⟨rfl, hb⟩); have Aw4 := Aside0.mk (Aw3.out.below hb.below); clear hb) | (go_at_call 114; ((with_reducible refine (rd_post HY.out (IH.out lx ex _ base g ok Aw4.out.ars)).mono ?_); rintro e w5 hp); have Aw5 : Aside0 (RAt w w5 base g ok ly) := ⟨Aw4.out.read hp⟩; obtain ⟨rfl, _⟩ := hp))
        go_ret2
        rw [HE.out]
        exact RAt.post (r := (ly, -1, 0)) Aw5.out
       ·obtain ⟨s, hs⟩ : ∃ s, putN ly ⟨kd, 0, px, py⟩ = s := ⟨_, rfl⟩
        have he : rdS t (d + 1) l a = (s.1, s.2, ey) := by rw [rdS, HR.out]; simp only; rw [if_pos ⟨trivial, HK.out⟩, if_neg H1.out, hx]; simp only; rw [if_neg HPX.out, if_neg h3, hy]; simp only; rw [if_neg hpy, hs]
        have HE := Aside0.mk he
        have HS := Aside0.mk hs
        have hpyd : decide (py < 0) = false := decide_eq_false hpy
        clear he hs hx hy hpy h3
        go_enter Try.func114, Try.ntmps114
        go_wp2_with (first | (go_at_call 126; ((with_reducible refine (spec_ReadVar.calls kv t a kd nx true _ HV.out).mono ?_); rintro e w1 ⟨rfl, hb⟩); have Aw1 := Aside0.mk (Aw.out.below hb); clear hb) | (go_at_call 79; ((with_reducible refine (spec_l01In.calls kd 1 9 true _ HIN.out).mono ?_); rintro e w2 ⟨rfl, hb⟩); have Aw2 := Aside0.mk (Aw1.out.below hb.below); clear hb) | (go_at_call 114; ((with_reducible refine (rd_post HX.out (IH.out l nx _ base g ok Aw2.out.ars)).mono ?_); rintro e w3 hp); have Aw3 : Aside0 (RAt w w3 base g ok lx) := ⟨Aw2.out.read hp⟩; obtain ⟨rfl, _⟩ := hp) | (go_at_call 111; ((with_reducible refine (spec_l03One.calls kd false _ HO.out).mono ?_); rintro e w4 ⟨rfl, hb⟩); have Aw4 := Aside0.mk (Aw3.out.below hb.below); clear hb) | (go_at_call 114; ((with_reducible refine (rd_post HY.out (IH.out lx ex _ base g ok Aw4.out.ars)).mono ?_); rintro e w5 hp); have Aw5 : Aside0 (RAt w w5 base g ok ly) := ⟨Aw4.out.read hp⟩; obtain ⟨rfl, _⟩ := hp) | (go_at_call 113; ((with_reducible refine (as_post' HS.out (spec_put ly ⟨kd, 0, px, py⟩ _ base g ok Aw5.out.ars)).mono ?_); rintro e w6 hp); have Aw6 := Aside0.mk (Aw5.out.put hp); obtain ⟨rfl, _⟩ := hp))
        go_ret2
        rw [HE.out]
        exact RAt.post (r := (s.1, s.2, ey)) Aw6.out
   ·have HIN : Aside0 (spec_l01In.f kd 1 9 = some false) := ⟨by rw [spec_In_b]; simp; omega⟩
    have he : rdS t (d + 1) l a = (l, -1, 0) := by rw [rdS, HR.out]; simp only; rw [if_neg (fun h => hk h.2)]
    have HE := Aside0.mk he
    clear he hk
    go_enter Try.func114, Try.ntmps114
    go_wp2_with (first | (go_at_call 126; ((with_reducible refine (spec_ReadVar.calls kv t a kd nx true _ HV.out).mono ?_); rintro e w1 ⟨rfl, hb⟩); have Aw1 := Aside0.mk (Aw.out.below hb); clear hb) | (go_at_call 79; ((with_reducible refine (spec_l01In.calls kd 1 9 false _ HIN.out).mono ?_); rintro e w2 ⟨rfl, hb⟩); have Aw2 := Aside0.mk (Aw1.out.below hb.below); clear hb))
    go_ret2
    rw [HE.out]
    exact RAt.post (r := (l, -1, 0)) Aw2.out
theorem rdS_len (t : ByteArray) : ∀ (d : Nat) (l : List S34) (a : Int), l.length ≤ 1048576 → (rdS t d l a).1.length ≤ 1048576 := by
 intro d
 induction d with
 | zero => intro l a h; exact h
 | succ d ih =>
  intro l a h
  rw [rdS]
  split
  ·split
   ·split
    ·exact putN_len h
    ·exact h
   ·split
    ·exact ih _ _ h
    ·split
     ·exact putN_len (ih _ _ h)
     ·split
      ·exact ih _ _ (ih _ _ h)
      ·exact putN_len (ih _ _ (ih _ _ h))
  ·exact h

theorem copyS_f {l : List S34} (h : l.length ≤ 1048576) : spec_l03Copy.f l = some l := by
 unfold spec_l03Copy.f
 simp only [Option.bind_some, List.length_nil, List.nil_append]
 rw [if_pos (by omega)]
theorem ArS.made {w4 w5 w6 : World} {g : Nat} {A : Option Addr} {c : Nat} {l : List S34} (ho : Kd.R k34 34 w5 w4.heap.size (fun _ => True) (.slice A l.length c) l) (h45 : w4.heap.size ≤ w5.heap.size) (hg : g = w5.heap.size) (h6 : Below w5.heap.size w5 w6)
  (hbk : w6.heap[g]? = some (.cells #[.slice none 0 0] 26 (0, 0))) (hl : l.length ≤ 1048576) : ArS (w6.setCell ⟨g, 0, none⟩ (.slice A l.length c)) w4.heap.size g (fun k => w4.heap.size ≤ k ∧ k ≠ g) l := by
 have hlt : g < w6.heap.size := blk_lt hbk
 refine ⟨⟨_, blk_put hbk 0 _ rfl, by omega, fun h => h.2 rfl, ?_⟩, fun k hk => ?_, hl⟩
 ·exact Kd.R_far (p := ⟨g, 0, none⟩) (Kd.R_below (Kd.R_mono (Kd.R_bound ho) (fun k hk => ⟨hk.2.1, by have := hk.2.2.1; omega⟩)) h6) (fun k hk => hk.2) _
 ·have hs : (w6.setCell ⟨g, 0, none⟩ (.slice A l.length c)).heap.size = w6.heap.size := by simp [World.setCell]
  rw [hs] at hk
  exact ⟨by have := h6.size; omega, by omega⟩
theorem top_below {w w4 w5 w6 w7 : World} {g : Nat} {u : Value} (h4 : Below w.heap.size w w4) (h5 : Below w4.heap.size w4 w5) (h6 : Below w5.heap.size w5 w6) (hg : g = w5.heap.size) (h7 : Below w4.heap.size (w6.setCell ⟨g, 0, none⟩ u) w7) : Below w.heap.size w w7 :=
  (below_set (below_step (below_step h4 h5) h6) (by rw [hg]; have := h4.size; have := h5.size; omega)).trans (h7.mono h4.size)
theorem top_blk {w6 w7 : World} {b : Nat} {g k : Nat} {u : Value} {o : Obj} (hb : w6.heap[k]? = some o) (hk : k < b) (hne : k ≠ g) (h7 : Below b (w6.setCell ⟨g, 0, none⟩ u) w7) : w7.heap[k]? = some o :=
  (h7.block k hk).trans ((Below.heap_setCell w6 ⟨g, 0, none⟩ u k hne).trans hb)
theorem top_copy {w w7 w8 : World} {gr : Nat} {A : Option Addr} {c : Nat} {l : List S34} {u : Value} (ho : Kd.R k34 34 w8 w7.heap.size (fun _ => True) (.slice A l.length c) l) (hs : w.heap.size ≤ w7.heap.size) (hg : gr < w7.heap.size) : Kd.R k34 34 (w8.setCell ⟨gr, 0, none⟩ u) w.heap.size (fun _ => True) (.slice A l.length c) l :=
  Kd.R_lower (Kd.R_mono (Kd.R_far (p := ⟨gr, 0, none⟩) (Kd.R_mono (Kd.R_bound ho) (fun k hk => (show w7.heap.size ≤ k from hk.2.1))) (fun k hk e => by have e' : k = gr := e; omega) _) (fun _ _ => trivial)) hs

theorem rd_nat {xs : List Int} {i : Nat} (h : i < xs.length) : rd xs (i : Int) = xs[i] := by
 unfold rd
 rw [Int.toNat_natCast, List.getD_eq_getElem?_getD, List.getElem?_eq_getElem h]
 rfl
/-! a right node's parts -/
def oneKind (k : Int) : Bool := decide (k = 3 ∨ k = 6)
theorem node_parts {f0 f1 f2 f3 k : Int} (h : nodeB f0 f1 f2 f3 k = true) : (1 ≤ f0 ∧ f0 ≤ 9) ∧ (f0 = 1 → 0 ≤ f1 ∧ f1 ≤ 999999 ∧ f2 = 0 ∧ f3 = 0) ∧ (f0 ≠ 1 → f1 = 0 ∧ 0 ≤ f2 ∧ f2 < k) ∧ ((f0 = 3 ∨ f0 = 6) → f3 = 0) ∧ (f0 ≠ 1 → ¬ (f0 = 3 ∨ f0 = 6) → 0 ≤ f3 ∧ f3 < k) := by
 unfold nodeB at h
 by_cases h1 : f0 = 1
 ·rw [if_pos h1] at h
  simp only [Bool.and_eq_true, decide_eq_true_eq] at h
  omega
 ·rw [if_neg h1] at h
  by_cases h3 : f0 = 3 ∨ f0 = 6
  ·rw [if_pos h3] at h
   simp only [Bool.and_eq_true, decide_eq_true_eq] at h
   omega
  ·rw [if_neg h3] at h
   simp only [Bool.and_eq_true, decide_eq_true_eq] at h
   omega
/-- the node's parts, as places -/
theorem right_parts {l : List S34} {i : Nat} (h : rightAt l i = true) : (1 ≤ (nodeOf l i).f0 ∧ (nodeOf l i).f0 ≤ 9) ∧ ((nodeOf l i).f0 = 1 → 0 ≤ (nodeOf l i).f1 ∧ (nodeOf l i).f1 ≤ 999999) ∧
  ((nodeOf l i).f0 ≠ 1 → ∃ a : Nat, (nodeOf l i).f2 = (a : Int) ∧ a < i) ∧ ((nodeOf l i).f0 ≠ 1 → oneKind (nodeOf l i).f0 = false → ∃ b : Nat, (nodeOf l i).f3 = (b : Int) ∧ b < i) := by
 obtain ⟨h0, h1, h2, _, h4⟩ := node_parts h
 refine ⟨h0, fun e => ⟨(h1 e).1, (h1 e).2.1⟩, fun e => ?_, fun e e2 => ?_⟩
 ·obtain ⟨a, ha⟩ := Int.eq_ofNat_of_zero_le (h2 e).2.1
  exact ⟨a, ha, by have := (h2 e).2.2; omega⟩
 ·have := h4 e (by simpa [oneKind] using e2)
  obtain ⟨b, hb⟩ := Int.eq_ofNat_of_zero_le this.1
  exact ⟨b, hb, by omega⟩

/-! sizes -/
def size1 (l : List S34) (S : List Int) (i : Nat) : Int :=
  if rightAt l i = true ∧ (i = 0 ∨ rd S ((i : Int) - 1) ≠ 0) then
    mn (if (nodeOf l i).f0 = 1 then 1 else if oneKind (nodeOf l i).f0 = true then 1 + rd S (nodeOf l i).f2 else 1 + rd S (nodeOf l i).f2 + rd S (nodeOf l i).f3) 100000
  else 0
def sizes (l : List S34) : Nat → List Int
  | 0 => []
  | n + 1 => sizes l n ++ [size1 l (sizes l n) n]
theorem sizes_length (l : List S34) (n : Nat) : (sizes l n).length = n := by
 induction n with
 | zero => rfl
 | succ n ih => simp [sizes, ih]
def szAt (l : List S34) (i : Nat) : Int := size1 l (sizes l i) i
theorem sizes_rd (l : List S34) : ∀ {n i : Nat}, i < n → rd (sizes l n) (i : Int) = szAt l i
 | n + 1, i, h => by
  rw [sizes]
  unfold rd
  rw [Int.toNat_natCast]
  by_cases hi : i < n
  ·have := sizes_rd l hi
   unfold rd at this
   rw [Int.toNat_natCast] at this
   rw [List.getD_eq_getElem?_getD, List.getElem?_append_left (by rw [sizes_length]; exact hi), ← List.getD_eq_getElem?_getD, this]
  ·have : i = n := by omega
   subst this
   rw [List.getD_eq_getElem?_getD, List.getElem?_append_right (by rw [sizes_length]; omega), sizes_length, Nat.sub_self]
   rfl
theorem size1_eq (l : List S34) (i : Nat) : szAt l i = if rightAt l i = true ∧ (i = 0 ∨ szAt l (i - 1) ≠ 0) then
  mn (if (nodeOf l i).f0 = 1 then 1 else if oneKind (nodeOf l i).f0 = true then 1 + szAt l (nodeOf l i).f2.toNat else 1 + szAt l (nodeOf l i).f2.toNat + szAt l (nodeOf l i).f3.toNat) 100000 else 0 := by
 have hprev : ∀ h : i ≠ 0, rd (sizes l i) ((i : Int) - 1) = szAt l (i - 1) := fun h => by
  rw [show (i : Int) - 1 = ((i - 1 : Nat) : Int) by omega]
  exact sizes_rd l (by omega)
 have hc : (rightAt l i = true ∧ (i = 0 ∨ rd (sizes l i) ((i : Int) - 1) ≠ 0)) ↔ (rightAt l i = true ∧ (i = 0 ∨ szAt l (i - 1) ≠ 0)) := by
  by_cases h0 : i = 0
  ·simp [h0]
  ·rw [hprev h0]
 have e : szAt l i = size1 l (sizes l i) i := rfl
 rw [e]
 unfold size1
 by_cases h : rightAt l i = true ∧ (i = 0 ∨ rd (sizes l i) ((i : Int) - 1) ≠ 0)
 ·rw [if_pos h, if_pos (hc.1 h)]
  obtain ⟨_, _, h2, h3⟩ := right_parts h.1
  congr 1
  by_cases h1 : (nodeOf l i).f0 = 1
  ·rw [if_pos h1, if_pos h1]
  ·rw [if_neg h1, if_neg h1]
   obtain ⟨a, ha, hai⟩ := h2 h1
   rw [ha, Int.toNat_natCast, sizes_rd l hai]
   by_cases ho : oneKind (nodeOf l i).f0 = true
   ·rw [if_pos ho, if_pos ho]
   ·rw [if_neg ho, if_neg ho]
    obtain ⟨b, hb, hbi⟩ := h3 h1 (by simpa using ho)
    rw [hb, Int.toNat_natCast, sizes_rd l hbi]
 ·rw [if_neg h, if_neg (fun hh => h (hc.2 hh))]
theorem mn_le (a b : Int) : mn a b ≤ a ∧ mn a b ≤ b ∧ (mn a b = a ∨ mn a b = b) := by unfold mn; split <;> omega
theorem sz_bound (l : List S34) (i : Nat) : 0 ≤ szAt l i ∧ szAt l i ≤ 100000 := by
 induction i using Nat.strongRecOn with
 | _ i ih =>
  rw [size1_eq]
  by_cases h : rightAt l i = true ∧ (i = 0 ∨ szAt l (i - 1) ≠ 0)
  ·rw [if_pos h]
   obtain ⟨_, _, h2, h3⟩ := right_parts h.1
   have hm := mn_le (if (nodeOf l i).f0 = 1 then 1 else if oneKind (nodeOf l i).f0 = true then 1 + szAt l (nodeOf l i).f2.toNat else 1 + szAt l (nodeOf l i).f2.toNat + szAt l (nodeOf l i).f3.toNat) 100000
   refine ⟨?_, hm.2.1⟩
   rcases hm.2.2 with he | he
   ·rw [he]
    by_cases h1 : (nodeOf l i).f0 = 1
    ·rw [if_pos h1]; omega
    ·rw [if_neg h1]
     obtain ⟨a, ha, hai⟩ := h2 h1
     have hA := ih a hai
     rw [ha, Int.toNat_natCast]
     by_cases ho : oneKind (nodeOf l i).f0 = true
     ·rw [if_pos ho]; omega
     ·rw [if_neg ho]
      obtain ⟨b, hb, hbi⟩ := h3 h1 (by simpa using ho)
      have hB := ih b hbi
      rw [hb, Int.toNat_natCast]
      omega
   ·rw [he]; omega
  ·rw [if_neg h]; omega
theorem sz_pos_of (l : List S34) (i : Nat) (h : rightAt l i = true ∧ (i = 0 ∨ szAt l (i - 1) ≠ 0)) : 0 < szAt l i := by
 rw [size1_eq, if_pos h]
 obtain ⟨_, _, h2, h3⟩ := right_parts h.1
 have hm := mn_le (if (nodeOf l i).f0 = 1 then 1 else if oneKind (nodeOf l i).f0 = true then 1 + szAt l (nodeOf l i).f2.toNat else 1 + szAt l (nodeOf l i).f2.toNat + szAt l (nodeOf l i).f3.toNat) 100000
 rcases hm.2.2 with he | he
 ·rw [he]
  by_cases h1 : (nodeOf l i).f0 = 1
  ·rw [if_pos h1]; omega
  ·rw [if_neg h1]
   have hA := sz_bound l (nodeOf l i).f2.toNat
   have hB := sz_bound l (nodeOf l i).f3.toNat
   split <;> omega
 ·rw [he]; omega
/-- a size above nought: all nodes up to it are right, and have one -/
theorem sz_pos_back (l : List S34) : ∀ (i : Nat), 0 < szAt l i → ∀ j, j ≤ i → rightAt l j = true ∧ 0 < szAt l j := by
 intro i
 induction i with
 | zero =>
  intro h j hj
  obtain rfl : j = 0 := by omega
  rw [size1_eq] at h
  by_cases hc : rightAt l 0 = true ∧ ((0 : Nat) = 0 ∨ szAt l (0 - 1) ≠ 0)
  ·exact ⟨hc.1, sz_pos_of l 0 hc⟩
  ·rw [if_neg hc] at h; omega
 | succ i ih =>
  intro h j hj
  have hc : rightAt l (i + 1) = true ∧ (i + 1 = 0 ∨ szAt l (i + 1 - 1) ≠ 0) := by
   rw [size1_eq] at h
   by_cases hc : rightAt l (i + 1) = true ∧ (i + 1 = 0 ∨ szAt l (i + 1 - 1) ≠ 0)
   ·exact hc
   ·rw [if_neg hc] at h; omega
  by_cases he : j = i + 1
  ·subst he
   exact ⟨hc.1, h⟩
  ·have hb := sz_bound l i
   rcases hc.2 with h0 | h0
   ·omega
   ·rw [Nat.add_sub_cancel] at h0
    exact ih (by omega) j (by omega)
theorem sz_all (l : List S34) : ∀ (i : Nat), (∀ j, j ≤ i → rightAt l j = true) → 0 < szAt l i := by
 intro i
 induction i with
 | zero => intro h; exact sz_pos_of l 0 ⟨h 0 (by omega), .inl rfl⟩
 | succ i ih =>
  intro h
  have := ih (fun j hj => h j (by omega))
  refine sz_pos_of l (i + 1) ⟨h (i + 1) (by omega), .inr ?_⟩
  rw [Nat.add_sub_cancel]
  omega
/-- what SizeOf tells -/
def sizeOf (l : List S34) (a : Int) : Int := if 0 ≤ a ∧ a < (l.length : Int) then szAt l a.toNat else 0

theorem spec_Sizes_ev (l : List S34) (hl : l.length ≤ 1048576) (K : Nat) (hK : K < l.length) : ∀ (d i : Nat), K + 1 - i = d → i ≤ K + 1 → Ev (fun k => spec_l03Sizes.l0 k (K : Int) (sizes l i) (i : Int) l) (sizes l (K + 1)) := by
 intro d
 induction d with
 | zero =>
  intro i hd hi
  have e : i = K + 1 := by omega
  subst e
  refine Ev.step (fun k => by rw [spec_l03Sizes.l0, if_neg (by omega)]) ?_
  exact ev_end (fun k => by rw [spec_l03Sizes.j1, if_neg (by simp)])
 | succ d ih =>
  intro i hd hi
  have hlt : i < l.length := by omega
  refine Ev.step (fun k => by rw [spec_l03Sizes.l0, if_pos (by omega)]) ?_
  refine Ev.step (fun k => by rw [spec_l03Sizes.j1]) ?_
  refine evT (by simpa using hlt) (evT (by omega) (evT (by omega) (Ev.bind (spec_l03Node_f _ _ _ _ (i : Int) (by omega)) ?_)))
  have hnext : ∀ x, size1 l (sizes l i) i = x → Ev (fun k => spec_l03Sizes.l0 k (K : Int) (sizes l i ++ [x]) (wrap64 ((i : Int) + 1)) l) (sizes l (K + 1)) := by
   intro x hx
   rw [w64 (by omega) (by omega), ← hx]
   exact ih (i + 1) (by omega) (by omega)
  have hlen : (sizes l i).length < 17592186044416 := by rw [sizes_length]; omega
  have hbad : ∀ c, (rightAt l i = false ∨ (i ≠ 0 ∧ rd (sizes l i) ((i : Int) - 1) = 0)) → c = true → Ev (fun k => spec_l03Sizes.j2 k (K : Int) (sizes l i) (i : Int) c l (nodeOf l i).f0 (nodeOf l i).f1 (nodeOf l i).f2 (nodeOf l i).f3) (sizes l (K + 1)) := by
   intro c h hc
   subst hc
   refine Ev.step (fun k => by rw [spec_l03Sizes.j2]) ?_
   refine evT rfl (evT hlen (hnext 0 ?_))
   unfold size1
   rw [if_neg]
   rcases h with h | h
   ·rw [h]; simp
   ·rintro ⟨_, h2⟩
    rcases h2 with h2 | h2
    ·exact h.1 h2
    ·exact h2 h.2
  have hgood : ∀ c, rightAt l i = true → (i = 0 ∨ rd (sizes l i) ((i : Int) - 1) ≠ 0) → c = false → Ev (fun k => spec_l03Sizes.j2 k (K : Int) (sizes l i) (i : Int) c l (nodeOf l i).f0 (nodeOf l i).f1 (nodeOf l i).f2 (nodeOf l i).f3) (sizes l (K + 1)) := by
   intro c hr hp hc
   subst hc
   obtain ⟨_, _, h2, h3⟩ := right_parts hr
   have hs : size1 l (sizes l i) i = mn (if (nodeOf l i).f0 = 1 then 1 else if oneKind (nodeOf l i).f0 = true then 1 + rd (sizes l i) (nodeOf l i).f2 else 1 + rd (sizes l i) (nodeOf l i).f2 + rd (sizes l i) (nodeOf l i).f3) 100000 := by
    unfold size1
    rw [if_pos ⟨hr, hp⟩]
   refine Ev.step (fun k => by rw [spec_l03Sizes.j2]) ?_
   refine evF (by simp) ?_
   by_cases h1 : (nodeOf l i).f0 = 1
   ·refine evT h1 (evF (by omega) (evT hlen (hnext 1 ?_)))
    rw [hs, if_pos h1]
    rfl
   ·refine evF h1 ?_
    rw [if_neg h1] at hs
    obtain ⟨a, ha, hai⟩ := h2 h1
    have hA := sz_bound l a
    rw [ha] at hs ⊢
    rw [sizes_rd l hai] at hs ⊢
    refine evT (by omega) (evT (by rw [sizes_length]; omega) (ev_now (spec_One_f _) ?_))
    by_cases ho : oneKind (nodeOf l i).f0 = true
    ·rw [if_pos ho] at hs
     refine evT ho ?_
     rw [w64 (x := 1 + szAt l a) (by omega) (by omega)]
     by_cases hc : 1 + szAt l a > 100000
     ·exact evT hc (evT hlen (hnext _ (by rw [hs]; unfold mn; rw [if_pos (by omega)])))
     ·exact evF hc (evT hlen (hnext _ (by rw [hs]; unfold mn; rw [if_neg (by omega)])))
    ·rw [if_neg ho] at hs
     refine evF ho ?_
     obtain ⟨b, hb, hbi⟩ := h3 h1 (by simpa using ho)
     have hB := sz_bound l b
     rw [hb] at hs ⊢
     rw [sizes_rd l hbi] at hs ⊢
     rw [w64 (x := 1 + szAt l a) (by omega) (by omega), w64 (x := 1 + szAt l a + szAt l b) (by omega) (by omega)]
     refine evT (by omega) (evT (by rw [sizes_length]; omega) ?_)
     by_cases hc : 1 + szAt l a + szAt l b > 100000
     ·exact evT hc (evT hlen (hnext _ (by rw [hs]; unfold mn; rw [if_pos (by omega)])))
     ·exact evF hc (evT hlen (hnext _ (by rw [hs]; unfold mn; rw [if_neg (by omega)])))
  by_cases hr : rightAt l i = true
  ·refine evT hr ?_
   by_cases h0 : i = 0
   ·refine evF (by omega) (hgood _ hr (.inl h0) rfl)
   ·have ew : wrap64 ((i : Int) - 1) = (i : Int) - 1 := w64 (by omega) (by omega)
    rw [ew]
    refine evT (by omega) (evT (by omega) (evT (by rw [sizes_length]; omega) ?_))
    by_cases hz : rd (sizes l i) ((i : Int) - 1) = 0
    ·exact hbad _ (.inr ⟨h0, hz⟩) (by simp [hz])
    ·exact hgood _ hr (.inr hz) (by simp [hz])
  ·exact evF hr (hbad _ (.inl (by simpa using hr)) rfl)
theorem spec_SizeOf_f (l : List S34) (hl : l.length ≤ 1048576) (a : Int) : Ev (fun k => spec_SizeOf.f k l a) (sizeOf l a) := by
 unfold spec_SizeOf.f sizeOf
 rw [w64 (by omega) (by omega)]
 simp only [spec_In_b, Option.bind_some]
 by_cases h : 0 ≤ a ∧ a < (l.length : Int)
 ·obtain ⟨K, rfl⟩ := Int.eq_ofNat_of_zero_le h.1
  refine ev_cast (evT (by simp; omega) (Ev.bind (spec_Sizes_ev l hl K (by omega) (K + 1) 0 (by omega) (by omega)) (evT h.1 (evT (by rw [sizes_length]; omega) (Ev.now _))))) ?_
  rw [if_pos h, sizes_rd l (by omega), Int.toNat_natCast]
 ·exact ev_cast (evF (by simp; omega) (Ev.now _)) (if_neg h).symm

/-! the text of a term -/
def termL (l : List S34) : Nat → Nat → List Int
  | 0, _ => []
  | n + 1, k => varN (nodeOf l k).f0.toNat ++ (if (nodeOf l k).f0 = 1 then varN (nodeOf l k).f1.toNat else termL l n (nodeOf l k).f2.toNat ++ (if oneKind (nodeOf l k).f0 = true then [] else termL l n (nodeOf l k).f3.toNat))
/-- a term whose size is below the cap: the sum of its parts', and one -/
theorem sz_split {l : List S34} {k : Nat} (h : 0 < szAt l k) (hc : szAt l k ≤ 2000) : rightAt l k = true ∧
  ((nodeOf l k).f0 = 1 → szAt l k = 1) ∧
  ((nodeOf l k).f0 ≠ 1 → oneKind (nodeOf l k).f0 = true → ∃ a : Nat, (nodeOf l k).f2 = (a : Int) ∧ a < k ∧ 0 < szAt l a ∧ szAt l k = 1 + szAt l a) ∧
  ((nodeOf l k).f0 ≠ 1 → oneKind (nodeOf l k).f0 = false → ∃ a b : Nat, (nodeOf l k).f2 = (a : Int) ∧ a < k ∧ 0 < szAt l a ∧ (nodeOf l k).f3 = (b : Int) ∧ b < k ∧ 0 < szAt l b ∧ szAt l k = 1 + szAt l a + szAt l b) := by
 have hback := sz_pos_back l k h
 have hr := (hback k (Nat.le_refl _)).1
 have e := size1_eq l k
 have hcond : rightAt l k = true ∧ (k = 0 ∨ szAt l (k - 1) ≠ 0) := by
  refine ⟨hr, ?_⟩
  by_cases h0 : k = 0
  ·exact .inl h0
  ·right
   have := (hback (k - 1) (by omega)).2
   omega
 rw [if_pos hcond] at e
 obtain ⟨_, _, h2, h3⟩ := right_parts hr
 refine ⟨hr, fun h1 => ?_, fun h1 ho => ?_, fun h1 ho => ?_⟩
 ·rw [if_pos h1] at e
  rw [e]
  rfl
 ·rw [if_neg h1, if_pos ho] at e
  obtain ⟨a, ha, hai⟩ := h2 h1
  rw [ha, Int.toNat_natCast] at e
  refine ⟨a, ha, hai, (hback a (by omega)).2, ?_⟩
  have := mn_le (1 + szAt l a) 100000
  omega
 ·rw [if_neg h1, if_neg (by simp [ho])] at e
  obtain ⟨a, ha, hai⟩ := h2 h1
  obtain ⟨b, hb, hbi⟩ := h3 h1 ho
  rw [ha, hb, Int.toNat_natCast, Int.toNat_natCast] at e
  refine ⟨a, b, ha, hai, (hback a (by omega)).2, hb, hbi, (hback b (by omega)).2, ?_⟩
  have := mn_le (1 + szAt l a + szAt l b) 100000
  omega
theorem varN_kind {x : Int} (h0 : 1 ≤ x) (h1 : x ≤ 9) : (varN x.toNat).length = 1 := by
 rw [varN_small (by omega)]
 rfl
theorem varN_num {x : Int} (h0 : 0 ≤ x) (h1 : x ≤ 999999) : (varN x.toNat).length ≤ 3 := (varN_length 2 x.toNat (by omega)).2
theorem termL_length (l : List S34) : ∀ (n k : Nat), k < n → 0 < szAt l k → szAt l k ≤ 2000 → ((termL l n k).length : Int) ≤ 4 * szAt l k := by
 intro n
 induction n with
 | zero => intro k h; omega
 | succ n ih =>
  intro k hk hp hc
  obtain ⟨hr, h1, h2, h3⟩ := sz_split hp hc
  obtain ⟨g0, g1, _, _⟩ := right_parts hr
  have hv := varN_kind g0.1 g0.2
  rw [termL, List.length_append, hv]
  by_cases e1 : (nodeOf l k).f0 = 1
  ·rw [if_pos e1]
   have hz := h1 e1
   have hn := varN_num (g1 e1).1 (g1 e1).2
   omega
  ·rw [if_neg e1, List.length_append]
   by_cases ho : oneKind (nodeOf l k).f0 = true
   ·rw [if_pos ho]
    obtain ⟨a, ha, hak, hpa, hs⟩ := h2 e1 ho
    rw [ha, Int.toNat_natCast]
    have := ih a (by omega) hpa (by omega)
    simp only [List.length_nil]
    omega
   ·rw [if_neg ho]
    obtain ⟨a, b, ha, hak, hpa, hb, hbk, hpb, hs⟩ := h3 e1 (by simpa using ho)
    rw [ha, hb, Int.toNat_natCast, Int.toNat_natCast]
    have hA := ih a (by omega) hpa (by omega)
    have hB := ih b (by omega) hpb (by omega)
    omega
theorem termL_range (l : List S34) : ∀ (n k : Nat), ∀ x ∈ termL l n k, 0 ≤ x ∧ x ≤ 255 := by
 intro n
 induction n with
 | zero => intro k x hx; simp [termL] at hx
 | succ n ih =>
  intro k x hx
  rw [termL] at hx
  rcases List.mem_append.1 hx with hx | hx
  ·exact varN_range _ x hx
  ·split at hx
   ·exact varN_range _ x hx
   ·rcases List.mem_append.1 hx with hx | hx
    ·exact ih _ x hx
    ·split at hx
     ·simp at hx
     ·exact ih _ x hx
theorem str_app (xs ys : List Int) : strOfNums xs ++ strOfNums ys = strOfNums (xs ++ ys) := by
 unfold strOfNums
 rw [List.map_append]
 apply bytesOf_inj
 simp [bytesOf, ByteArray.data_append]
/-- what TermText tells -/
def termText (l : List S34) (a : Int) : ByteArray × Bool := if 1 ≤ sizeOf l a ∧ sizeOf l a ≤ 2000 then (strOfNums (termL l (a.toNat + 1) a.toNat), true) else ((⟨#[]⟩ : ByteArray), false)

theorem spec_Var_i {x : Int} (h0 : 0 ≤ x) (h1 : x ≤ 9223372036854775807) : Ev (fun k => spec_l01Var.f k x) (strOfNums (varN x.toNat)) := by
 have := spec_l01Var_f x.toNat (by omega)
 rwa [Int.toNat_of_nonneg h0] at this
theorem spec_Text_ev (l : List S34) : ∀ (n k : Nat), k < n → k < l.length → 0 < szAt l k → szAt l k ≤ 2000 → Ev (fun m => spec_l03Text.f m l (k : Int)) (strOfNums (termL l n k)) := by
 intro n
 induction n with
 | zero => intro k h; omega
 | succ n ih =>
  intro k hk hl hp hc
  obtain ⟨hr, h1, h2, h3⟩ := sz_split hp hc
  obtain ⟨g0, g1, _, _⟩ := right_parts hr
  have hv := varN_kind g0.1 g0.2
  refine Ev.step (fun m => by rw [spec_l03Text.f]) ?_
  refine evT (by omega) (evT (by omega) (Ev.bind (spec_Var_i (x := (nodeOf l k).f0) (by omega) (by omega)) ?_))
  by_cases e1 : (nodeOf l k).f0 = 1
  ·have hn := varN_num (g1 e1).1 (g1 e1).2
   refine evT e1 (Ev.bind (spec_Var_i (x := (nodeOf l k).f1) (g1 e1).1 (by have := (g1 e1).2; omega)) (evT (by rw [strOfNums_size, strOfNums_size]; omega) (ev_cast (Ev.now _) ?_)))
   rw [termL, if_pos e1, str_app]
  ·refine evF e1 ?_
   by_cases ho : oneKind (nodeOf l k).f0 = true
   ·obtain ⟨a, ha, hak, hpa, hs⟩ := h2 e1 ho
    have hl1 := termL_length l n a (by omega) hpa (by omega)
    have hA := ih a (by omega) (by omega) hpa (by omega)
    rw [← ha] at hA
    refine Ev.bind hA (evT (by rw [strOfNums_size, strOfNums_size]; omega) (ev_now (spec_One_f _) (evT ho (ev_cast (Ev.now _) ?_))))
    rw [termL, if_neg e1, if_pos ho, ha, Int.toNat_natCast, List.append_nil, str_app]
   ·obtain ⟨a, b, ha, hak, hpa, hb, hbk, hpb, hs⟩ := h3 e1 (by simpa using ho)
    have hl1 := termL_length l n a (by omega) hpa (by omega)
    have hl2 := termL_length l n b (by omega) hpb (by omega)
    have hA := ih a (by omega) (by omega) hpa (by omega)
    have hB := ih b (by omega) (by omega) hpb (by omega)
    rw [← ha] at hA
    rw [← hb] at hB
    refine Ev.bind hA (evT (by rw [strOfNums_size, strOfNums_size]; omega) (ev_now (spec_One_f _) (evF ho (Ev.bind hB (evT ?_ (ev_cast (Ev.now _) ?_))))))
    ·rw [str_app, strOfNums_size, strOfNums_size, List.length_append]
     omega
    ·rw [termL, if_neg e1, if_neg ho, ha, hb, Int.toNat_natCast, Int.toNat_natCast, str_app, str_app, List.append_assoc]
theorem spec_TermText_f (l : List S34) (hl : l.length ≤ 1048576) (a : Int) : Ev (fun k => spec_TermText.f k l a) (termText l a) := by
 unfold termText
 refine Ev.bind (spec_SizeOf_f l hl a) ?_
 simp only [spec_In_b, Option.bind_some]
 by_cases h : 1 ≤ sizeOf l a ∧ sizeOf l a ≤ 2000
 ·have hin : 0 ≤ a ∧ a < (l.length : Int) := by
   by_cases hi : 0 ≤ a ∧ a < (l.length : Int)
   ·exact hi
   ·unfold sizeOf at h; rw [if_neg hi] at h; omega
  have hs : sizeOf l a = szAt l a.toNat := by unfold sizeOf; rw [if_pos hin]
  rw [hs] at h ⊢
  have ht := spec_Text_ev l (a.toNat + 1) a.toNat (by omega) (by omega) (by omega) h.2
  rw [Int.toNat_of_nonneg hin.1] at ht
  exact ev_cast (evT (by simp [h]) (Ev.bind ht (Ev.now _))) (if_pos h).symm
 ·exact ev_cast (evF (by simpa using h) (Ev.now _)) (if_neg h).symm

/-! reading a term: the program's way -/
structure TmR where
  l : List S34
  bb : Bool
  at_ : Int
  sz : Int
  sb : Bool
  v : Int
def putT (y : TmR) (x : S34) : TmR := ⟨(putB y.l y.bb x).1, (putB y.l y.bb x).2.1, y.at_, y.sz, y.sb, (putB y.l y.bb x).2.2⟩
def badT (y : TmR) : TmR := ⟨y.l, y.bb, y.at_, y.sz, true, -1⟩
def atT (y : TmR) (a : Int) : TmR := ⟨y.l, y.bb, a, y.sz + 1, false, -1⟩
def tmI (t : ByteArray) : Nat → TmR → TmR
  | 0, s => badT s
  | d + 1, s =>
    if 2000 < s.sz + 1 then badT (atT s s.at_)
    else if (readVar t s.at_).2.2 = false then badT (atT s s.at_)
    else if ¬ (1 ≤ (readVar t s.at_).1 ∧ (readVar t s.at_).1 ≤ 9) then badT (atT s (readVar t s.at_).2.1)
    else if (readVar t s.at_).1 = 1 then
      (if (readVar t (readVar t s.at_).2.1).2.2 = false then badT (atT s (readVar t s.at_).2.1)
       else putT (atT s (readVar t (readVar t s.at_).2.1).2.1) ⟨1, (readVar t (readVar t s.at_).2.1).1, 0, 0⟩)
    else if (tmI t d (atT s (readVar t s.at_).2.1)).sb = true then badT (tmI t d (atT s (readVar t s.at_).2.1))
    else if oneKind (readVar t s.at_).1 = true then putT (tmI t d (atT s (readVar t s.at_).2.1)) ⟨(readVar t s.at_).1, 0, (tmI t d (atT s (readVar t s.at_).2.1)).v, 0⟩
    else if (tmI t d (tmI t d (atT s (readVar t s.at_).2.1))).sb = true then badT (tmI t d (tmI t d (atT s (readVar t s.at_).2.1)))
    else putT (tmI t d (tmI t d (atT s (readVar t s.at_).2.1))) ⟨(readVar t s.at_).1, 0, (tmI t d (atT s (readVar t s.at_).2.1)).v, (tmI t d (tmI t d (atT s (readVar t s.at_).2.1))).v⟩
/-- the size read so far grows, and stays in its bound while the scan is good -/
theorem tmI_sz (t : ByteArray) : ∀ (d : Nat) (s : TmR), s.sz ≤ (tmI t d s).sz ∧ ((tmI t d s).sb = false → s.sz + 1 ≤ (tmI t d s).sz ∧ (tmI t d s).sz ≤ 2000) := by
 intro d
 induction d with
 | zero => intro s; simp [tmI, badT]
 | succ d ih =>
  intro s
  have h1 := ih (atT s (readVar t s.at_).2.1)
  have h2 := ih (tmI t d (atT s (readVar t s.at_).2.1))
  have e : (atT s (readVar t s.at_).2.1).sz = s.sz + 1 := rfl
  rw [e] at h1
  rw [tmI]
  split
  ·simp [badT, atT]; omega
  split
  ·simp [badT, atT]; omega
  split
  ·simp [badT, atT]; omega
  split
  ·split
   ·simp [badT, atT]; omega
   ·simp [putT, atT]; omega
  split
  ·simp only [badT]; simp; omega
  split
  ·rename_i hx _
   have hx' : (tmI t d (atT s (readVar t s.at_).2.1)).sb = false := by simpa using hx
   have h3 := h1.2 hx'
   simp only [putT]
   exact ⟨by omega, fun _ => by omega⟩
  split
  ·simp only [badT]; simp; omega
  ·rename_i hx _ hy
   have hx' : (tmI t d (atT s (readVar t s.at_).2.1)).sb = false := by simpa using hx
   have h3 := h1.2 hx'
   simp only [putT]
   refine ⟨by omega, fun hs => ?_⟩
   have h4 := h2.2 hs
   omega

/-! the check of what was read -/
def chkT (l0 : List S34) (t : ByteArray) (r : List S34 × Int) (bad : Bool) : List S34 × Int × Bool :=
  if r.2 < 0 then (l0, -1, false) else if bad = true then (l0, -1, false) else if (termText r.1 r.2).2 = false then (l0, -1, false) else if (termText r.1 r.2).1.toList ≠ t.toList then (l0, -1, false) else (r.1, r.2, true)
def readS (l0 : List S34) (t : ByteArray) : List S34 × Int × Bool := chkT l0 t ((rdS t 2001 l0 0).1, (rdS t 2001 l0 0).2.1) ((rdS t 2001 l0 0).2.2 != (t.size : Int))
def readI (l0 : List S34) (t : ByteArray) : List S34 × Int × Bool :=
  chkT l0 t (endN l0 ((tmI t 2001 ⟨l0, false, 0, 0, false, -1⟩).l, (tmI t 2001 ⟨l0, false, 0, 0, false, -1⟩).bb, (tmI t 2001 ⟨l0, false, 0, 0, false, -1⟩).v))
    ((tmI t 2001 ⟨l0, false, 0, 0, false, -1⟩).sb || (tmI t 2001 ⟨l0, false, 0, 0, false, -1⟩).at_ != (t.size : Int))

end Hand
open Hand in
def spec_ReadTerm.f (l0_0 : List S34) (a1 : ByteArray) : Option (List S34 × Int × Bool) := if l0_0.length ≤ 1048576 ∧ a1.size ≤ 140737488351232 then some (readS l0_0 a1) else none
open Hand in
set_option maxHeartbeats 8000000 in
set_option maxRecDepth 100000 in
theorem spec_ReadTerm.calls (A0_0 : Option Addr) (c0_0 : Nat) (l0_0 : List (S34)) (a1 : ByteArray) (r1 : List (S34)) (r2 : Int) (r3 : Bool) (w : World) (hr0_0 : Kd.C k34 w A0_0 l0_0.length l0_0) (hc0_0 : l0_0.length ≤ c0_0) (h : spec_ReadTerm.f l0_0 a1 = some (r1, r2, r3)) :
  Calls Try.prog 65 #[.agg #[.slice A0_0 l0_0.length c0_0], .string a1] w fun e w' => ∃ v0_ : Value, e = .returned (.tuple #[.agg #[v0_], .int .i64 r2, .bool r3]) ∧ Kd.R k34 34 w' w.heap.size (fun _ => True) v0_ r1 ∧ Below w.heap.size w w' := by
 have hu26 := Try.underlying26
 unfold spec_ReadTerm.f at h
 by_cases hl : l0_0.length ≤ 1048576 ∧ a1.size ≤ 140737488351232
 ·rw [if_pos hl] at h
  have HCF := Aside0.mk (copyS_f hl.1)
  have HL := Aside0.mk hl.1
  have HTS := Aside0.mk hl.2
  have HR0 := Aside0.mk hr0_0
  have HC0 := Aside0.mk hc0_0
  clear hl hr0_0 hc0_0
  replace h := Option.some.inj h
  obtain ⟨⟨lx, k, en⟩, hx⟩ : ∃ s, rdS a1 2001 l0_0 0 = s := ⟨_, rfl⟩
  have HX := Aside0.mk hx
  unfold readS at h
  rw [hx] at h
  clear hx
  unfold chkT at h
  simp only at h
  by_cases hk : k < 0
  ·rw [if_pos hk] at h
   have hkd : decide (k < 0) = true := decide_eq_true hk
   simp only [Prod.mk.injEq] at h
   obtain ⟨rfl, rfl, rfl⟩ := h
   clear hk
   go_enter Try.func65, Try.ntmps65
   go_wp2_with (first | ((with_reducible refine gate_dst (N := 2) rfl ?_); refine box_event ?hg (N := 2) ?hd (cs := #[.slice A0_0 l0_0.length c0_0]) (t := 26) ?hr ?_; (case hd => rfl); (case hg => rfl); (case hr => first | (go_simp; done) | (go_simp; rfl)); intro ga hg1 w3 hbox hb; have BKa := Aside0.mk hbox; have HB3 := Aside0.mk hb; have GA := Aside0.mk hg1; clear hg1 hbox hb) | ((with_reducible refine gate_dst (N := 4) rfl ?_); refine box_event ?hg (N := 4) ?hd (cs := #[.slice none 0 0]) (t := 26) ?hr ?_; (case hd => rfl); (case hg => rfl); (case hr => first | (go_simp; done) | (go_simp; rfl)); intro gr hg1 w4 hbox hb; have BKr := Aside0.mk hbox; have HB4 := Aside0.mk hb; have GR := Aside0.mk hg1; clear hg1 hbox hb; have HBw4 := Aside0.mk (below_step HB3.out HB4.out); have BKa4 := Aside0.mk (blk_below BKa.out HB4.out); have hca4 : w4.cell? ⟨ga, 0, none⟩ = some (.slice A0_0 l0_0.length c0_0) := (blk_cell BKa4.out 0).trans rfl) | (go_at_call 90; ((with_reducible refine (spec_l03Copy.calls A0_0 c0_0 l0_0 l0_0 _ (Kd.C_below HR0.out HBw4.out) HC0.out HCF.out).mono ?_); rintro e w5 ⟨v0, rfl, ho, hb⟩); have HO5 := Aside0.mk ho; have HB5 := Aside0.mk hb; obtain ⟨Ao, co, rfl, hlo, _⟩ := Kd.R_reads ho; clear ho hb hlo) | ((with_reducible refine gate_dst (N := 7) rfl ?_); refine box_event ?hg (N := 7) ?hd (cs := #[.slice none 0 0]) (t := 26) ?hr ?_; (case hd => rfl); (case hg => rfl); (case hr => first | (go_simp; done) | (go_simp; rfl)); intro g hg1 w6 hbox hb; have BK6 := Aside0.mk hbox; have HB6 := Aside0.mk hb; have GB6 := Aside0.mk hg1; clear hg1 hbox hb; have hcg6 : w6.cell? ⟨g, 0, none⟩ = some (.slice none 0 0) := (blk_cell BK6.out 0).trans rfl; have hfg6 := blk_frozen BK6.out 0; have HA6 := Aside0.mk (ArS.made HO5.out HB5.out.size GB6.out HB6.out BK6.out HL.out)) | (go_at_call 114; ((with_reducible refine (rd_post HX.out (spec_read a1 HTS.out 2001 (Nat.le_refl _) 0 rfl l0_0 0 _ _ g _ HA6.out)).mono ?_); rintro e w7 hp); have HP7 := Aside0.mk hp; obtain ⟨rfl, _, _⟩ := hp; obtain ⟨v7, hv7, _, _, hr7⟩ := HP7.out.2.1.1; obtain ⟨A7, c7, rfl, hl7, hC7⟩ := Kd.R_reads hr7; have HC7 := Aside0.mk hC7; have HL7 := Aside0.mk hl7; have HR7 := Aside0.mk hr7; have HG7 := Aside0.mk hv7; have HB7 := Aside0.mk (top_below HBw4.out HB5.out HB6.out GB6.out HP7.out.2.2.1); have BKr7 := Aside0.mk (top_blk (blk_below (blk_below BKr.out HB5.out) HB6.out) (blk_lt BKr.out) (by rw [GB6.out]; exact Nat.ne_of_lt (Nat.lt_of_lt_of_le (blk_lt BKr.out) HB5.out.size)) HP7.out.2.2.1); have BKa7 := Aside0.mk (top_blk (blk_below (blk_below BKa4.out HB5.out) HB6.out) (blk_lt BKa4.out) (by rw [GB6.out]; exact Nat.ne_of_lt (Nat.lt_of_lt_of_le (blk_lt BKa4.out) HB5.out.size)) HP7.out.2.2.1); clear hr7 hv7 hl7 hC7; have hcg7 : w7.cell? ⟨g, 0, none⟩ = some (.slice A7 lx.length c7) := (blk_cell HG7.out 0).trans rfl; have hcr7 : w7.cell? ⟨gr, 0, none⟩ = some (.slice none 0 0) := (blk_cell BKr7.out 0).trans rfl; have hfr7 := blk_frozen BKr7.out 0; have hca7 : w7.cell? ⟨ga, 0, none⟩ = some (.slice A0_0 l0_0.length c0_0) := (blk_cell BKa7.out 0).trans rfl))
   go_wp2_with (go_at_call 90; ((with_reducible refine (spec_l03Copy.calls A0_0 c0_0 l0_0 l0_0 _ (Kd.C_below HR0.out HB7.out) HC0.out HCF.out).mono ?_); rintro e w8 ⟨v8, rfl, ho, hb⟩); have HO8 := Aside0.mk ho; have HB8 := Aside0.mk hb; obtain ⟨A8, c8, rfl, hlo, _⟩ := Kd.R_reads ho; clear ho hb hlo; have BKr8 := Aside0.mk (blk_below BKr7.out HB8.out); have hcr8 : w8.cell? ⟨gr, 0, none⟩ = some (.slice none 0 0) := (blk_cell BKr8.out 0).trans rfl; have hfr8 := blk_frozen BKr8.out 0)
   refine bodyPost_ret (results_ctt rfl _ _ gr 26 #[.slice A8 l0_0.length c8] (0, 0) _ rfl (blk_put BKr8.out 0 _ rfl) Try.underlying26 rfl (by kernel_rfl)) rfl ?_
   exact ⟨_, rfl, top_copy HO8.out HB7.out.size (blk_lt BKr7.out), below_set (below_step HB7.out HB8.out) (by rw [GR.out]; exact HB3.out.size)⟩
  ·rw [if_neg hk] at h
   have hkd : decide (k < 0) = false := decide_eq_false hk
   clear hk
   by_cases hen : (en != (a1.size : Int)) = true
   ·rw [if_pos hen] at h
    simp only [Prod.mk.injEq] at h
    obtain ⟨rfl, rfl, rfl⟩ := h
    go_enter Try.func65, Try.ntmps65
    go_wp2_with (first | ((with_reducible refine gate_dst (N := 2) rfl ?_); refine box_event ?hg (N := 2) ?hd (cs := #[.slice A0_0 l0_0.length c0_0]) (t := 26) ?hr ?_; (case hd => rfl); (case hg => rfl); (case hr => first | (go_simp; done) | (go_simp; rfl)); intro ga hg1 w3 hbox hb; have BKa := Aside0.mk hbox; have HB3 := Aside0.mk hb; have GA := Aside0.mk hg1; clear hg1 hbox hb) | ((with_reducible refine gate_dst (N := 4) rfl ?_); refine box_event ?hg (N := 4) ?hd (cs := #[.slice none 0 0]) (t := 26) ?hr ?_; (case hd => rfl); (case hg => rfl); (case hr => first | (go_simp; done) | (go_simp; rfl)); intro gr hg1 w4 hbox hb; have BKr := Aside0.mk hbox; have HB4 := Aside0.mk hb; have GR := Aside0.mk hg1; clear hg1 hbox hb; have HBw4 := Aside0.mk (below_step HB3.out HB4.out); have BKa4 := Aside0.mk (blk_below BKa.out HB4.out); have hca4 : w4.cell? ⟨ga, 0, none⟩ = some (.slice A0_0 l0_0.length c0_0) := (blk_cell BKa4.out 0).trans rfl) | (go_at_call 90; ((with_reducible refine (spec_l03Copy.calls A0_0 c0_0 l0_0 l0_0 _ (Kd.C_below HR0.out HBw4.out) HC0.out HCF.out).mono ?_); rintro e w5 ⟨v0, rfl, ho, hb⟩); have HO5 := Aside0.mk ho; have HB5 := Aside0.mk hb; obtain ⟨Ao, co, rfl, hlo, _⟩ := Kd.R_reads ho; clear ho hb hlo) | ((with_reducible refine gate_dst (N := 7) rfl ?_); refine box_event ?hg (N := 7) ?hd (cs := #[.slice none 0 0]) (t := 26) ?hr ?_; (case hd => rfl); (case hg => rfl); (case hr => first | (go_simp; done) | (go_simp; rfl)); intro g hg1 w6 hbox hb; have BK6 := Aside0.mk hbox; have HB6 := Aside0.mk hb; have GB6 := Aside0.mk hg1; clear hg1 hbox hb; have hcg6 : w6.cell? ⟨g, 0, none⟩ = some (.slice none 0 0) := (blk_cell BK6.out 0).trans rfl; have hfg6 := blk_frozen BK6.out 0; have HA6 := Aside0.mk (ArS.made HO5.out HB5.out.size GB6.out HB6.out BK6.out HL.out)) | (go_at_call 114; ((with_reducible refine (rd_post HX.out (spec_read a1 HTS.out 2001 (Nat.le_refl _) 0 rfl l0_0 0 _ _ g _ HA6.out)).mono ?_); rintro e w7 hp); have HP7 := Aside0.mk hp; obtain ⟨rfl, _, _⟩ := hp; obtain ⟨v7, hv7, _, _, hr7⟩ := HP7.out.2.1.1; obtain ⟨A7, c7, rfl, hl7, hC7⟩ := Kd.R_reads hr7; have HC7 := Aside0.mk hC7; have HL7 := Aside0.mk hl7; have HR7 := Aside0.mk hr7; have HG7 := Aside0.mk hv7; have HB7 := Aside0.mk (top_below HBw4.out HB5.out HB6.out GB6.out HP7.out.2.2.1); have BKr7 := Aside0.mk (top_blk (blk_below (blk_below BKr.out HB5.out) HB6.out) (blk_lt BKr.out) (by rw [GB6.out]; exact Nat.ne_of_lt (Nat.lt_of_lt_of_le (blk_lt BKr.out) HB5.out.size)) HP7.out.2.2.1); have BKa7 := Aside0.mk (top_blk (blk_below (blk_below BKa4.out HB5.out) HB6.out) (blk_lt BKa4.out) (by rw [GB6.out]; exact Nat.ne_of_lt (Nat.lt_of_lt_of_le (blk_lt BKa4.out) HB5.out.size)) HP7.out.2.2.1); clear hr7 hv7 hl7 hC7; have hcg7 : w7.cell? ⟨g, 0, none⟩ = some (.slice A7 lx.length c7) := (blk_cell HG7.out 0).trans rfl; have hcr7 : w7.cell? ⟨gr, 0, none⟩ = some (.slice none 0 0) := (blk_cell BKr7.out 0).trans rfl; have hfr7 := blk_frozen BKr7.out 0; have hca7 : w7.cell? ⟨ga, 0, none⟩ = some (.slice A0_0 l0_0.length c0_0) := (blk_cell BKa7.out 0).trans rfl))
    go_wp2_with (go_at_call 90; ((with_reducible refine (spec_l03Copy.calls A0_0 c0_0 l0_0 l0_0 _ (Kd.C_below HR0.out HB7.out) HC0.out HCF.out).mono ?_); rintro e w8 ⟨v8, rfl, ho, hb⟩); have HO8 := Aside0.mk ho; have HB8 := Aside0.mk hb; obtain ⟨A8, c8, rfl, hlo, _⟩ := Kd.R_reads ho; clear ho hb hlo; have BKr8 := Aside0.mk (blk_below BKr7.out HB8.out); have hcr8 : w8.cell? ⟨gr, 0, none⟩ = some (.slice none 0 0) := (blk_cell BKr8.out 0).trans rfl; have hfr8 := blk_frozen BKr8.out 0)
    refine bodyPost_ret (results_ctt rfl _ _ gr 26 #[.slice A8 l0_0.length c8] (0, 0) _ rfl (blk_put BKr8.out 0 _ rfl) Try.underlying26 rfl (by kernel_rfl)) rfl ?_
    exact ⟨_, rfl, top_copy HO8.out HB7.out.size (blk_lt BKr7.out), below_set (below_step HB7.out HB8.out) (by rw [GR.out]; exact HB3.out.size)⟩
   ·rw [if_neg hen] at h
    have hen : (en != (a1.size : Int)) = false := by simpa using hen
    have hlx : lx.length ≤ 1048576 := by have := rdS_len a1 2001 l0_0 0 HL.out; rw [HX.out] at this; exact this
    obtain ⟨kt, hTT⟩ := spec_TermText_f lx hlx k
    have hTT := hTT kt (Nat.le_refl _)
    obtain ⟨⟨back, okt⟩, ht⟩ : ∃ s, termText lx k = s := ⟨_, rfl⟩
    rw [ht] at hTT
    rw [ht] at h
    have HTT := Aside0.mk hTT
    simp only at h
    clear hTT ht hlx
    cases okt with
    | false =>
     rw [if_pos rfl] at h
     simp only [Prod.mk.injEq] at h
     obtain ⟨rfl, rfl, rfl⟩ := h
     go_enter Try.func65, Try.ntmps65
     go_wp2_with (first | ((with_reducible refine gate_dst (N := 2) rfl ?_); refine box_event ?hg (N := 2) ?hd (cs := #[.slice A0_0 l0_0.length c0_0]) (t := 26) ?hr ?_; (case hd => rfl); (case hg => rfl); (case hr => first | (go_simp; done) | (go_simp; rfl)); intro ga hg1 w3 hbox hb; have BKa := Aside0.mk hbox; have HB3 := Aside0.mk hb; have GA := Aside0.mk hg1; clear hg1 hbox hb) | ((with_reducible refine gate_dst (N := 4) rfl ?_); refine box_event ?hg (N := 4) ?hd (cs := #[.slice none 0 0]) (t := 26) ?hr ?_; (case hd => rfl); (case hg => rfl); (case hr => first | (go_simp; done) | (go_simp; rfl)); intro gr hg1 w4 hbox hb; have BKr := Aside0.mk hbox; have HB4 := Aside0.mk hb; have GR := Aside0.mk hg1; clear hg1 hbox hb; have HBw4 := Aside0.mk (below_step HB3.out HB4.out); have BKa4 := Aside0.mk (blk_below BKa.out HB4.out); have hca4 : w4.cell? ⟨ga, 0, none⟩ = some (.slice A0_0 l0_0.length c0_0) := (blk_cell BKa4.out 0).trans rfl) | (go_at_call 90; ((with_reducible refine (spec_l03Copy.calls A0_0 c0_0 l0_0 l0_0 _ (Kd.C_below HR0.out HBw4.out) HC0.out HCF.out).mono ?_); rintro e w5 ⟨v0, rfl, ho, hb⟩); have HO5 := Aside0.mk ho; have HB5 := Aside0.mk hb; obtain ⟨Ao, co, rfl, hlo, _⟩ := Kd.R_reads ho; clear ho hb hlo) | ((with_reducible refine gate_dst (N := 7) rfl ?_); refine box_event ?hg (N := 7) ?hd (cs := #[.slice none 0 0]) (t := 26) ?hr ?_; (case hd => rfl); (case hg => rfl); (case hr => first | (go_simp; done) | (go_simp; rfl)); intro g hg1 w6 hbox hb; have BK6 := Aside0.mk hbox; have HB6 := Aside0.mk hb; have GB6 := Aside0.mk hg1; clear hg1 hbox hb; have hcg6 : w6.cell? ⟨g, 0, none⟩ = some (.slice none 0 0) := (blk_cell BK6.out 0).trans rfl; have hfg6 := blk_frozen BK6.out 0; have HA6 := Aside0.mk (ArS.made HO5.out HB5.out.size GB6.out HB6.out BK6.out HL.out)) | (go_at_call 114; ((with_reducible refine (rd_post HX.out (spec_read a1 HTS.out 2001 (Nat.le_refl _) 0 rfl l0_0 0 _ _ g _ HA6.out)).mono ?_); rintro e w7 hp); have HP7 := Aside0.mk hp; obtain ⟨rfl, _, _⟩ := hp; obtain ⟨v7, hv7, _, _, hr7⟩ := HP7.out.2.1.1; obtain ⟨A7, c7, rfl, hl7, hC7⟩ := Kd.R_reads hr7; have HC7 := Aside0.mk hC7; have HL7 := Aside0.mk hl7; have HR7 := Aside0.mk hr7; have HG7 := Aside0.mk hv7; have HB7 := Aside0.mk (top_below HBw4.out HB5.out HB6.out GB6.out HP7.out.2.2.1); have BKr7 := Aside0.mk (top_blk (blk_below (blk_below BKr.out HB5.out) HB6.out) (blk_lt BKr.out) (by rw [GB6.out]; exact Nat.ne_of_lt (Nat.lt_of_lt_of_le (blk_lt BKr.out) HB5.out.size)) HP7.out.2.2.1); have BKa7 := Aside0.mk (top_blk (blk_below (blk_below BKa4.out HB5.out) HB6.out) (blk_lt BKa4.out) (by rw [GB6.out]; exact Nat.ne_of_lt (Nat.lt_of_lt_of_le (blk_lt BKa4.out) HB5.out.size)) HP7.out.2.2.1); clear hr7 hv7 hl7 hC7; have hcg7 : w7.cell? ⟨g, 0, none⟩ = some (.slice A7 lx.length c7) := (blk_cell HG7.out 0).trans rfl; have hcr7 : w7.cell? ⟨gr, 0, none⟩ = some (.slice none 0 0) := (blk_cell BKr7.out 0).trans rfl; have hfr7 := blk_frozen BKr7.out 0; have hca7 : w7.cell? ⟨ga, 0, none⟩ = some (.slice A0_0 l0_0.length c0_0) := (blk_cell BKa7.out 0).trans rfl) | (go_at_call 31; ((with_reducible refine (spec_TermText.calls kt A7 c7 lx k back false _ HC7.out HL7.out HTT.out).mono ?_); rintro e w8 ⟨rfl, hb⟩); have HB78 := Aside0.mk hb; have HB8 := Aside0.mk (below_step HB7.out hb); have BKr8 := Aside0.mk (blk_below BKr7.out hb); have BKa8 := Aside0.mk (blk_below BKa7.out hb); have HG8 := Aside0.mk (blk_below HG7.out hb); have HR8 := Aside0.mk (Kd.R_below HR7.out hb); clear hb; have hcg8 : w8.cell? ⟨g, 0, none⟩ = some (.slice A7 lx.length c7) := (blk_cell HG8.out 0).trans rfl; have hcr8 : w8.cell? ⟨gr, 0, none⟩ = some (.slice none 0 0) := (blk_cell BKr8.out 0).trans rfl; have hfr8 := blk_frozen BKr8.out 0; have hca8 : w8.cell? ⟨ga, 0, none⟩ = some (.slice A0_0 l0_0.length c0_0) := (blk_cell BKa8.out 0).trans rfl))
     go_wp2_with (go_at_call 90; ((with_reducible refine (spec_l03Copy.calls A0_0 c0_0 l0_0 l0_0 _ (Kd.C_below HR0.out HB8.out) HC0.out HCF.out).mono ?_); rintro e w9 ⟨v9, rfl, ho, hb⟩); have HO9 := Aside0.mk ho; have HB9 := Aside0.mk hb; obtain ⟨A9, c9, rfl, hlo, _⟩ := Kd.R_reads ho; clear ho hb hlo; have BKr9 := Aside0.mk (blk_below BKr8.out HB9.out); have hcr9 : w9.cell? ⟨gr, 0, none⟩ = some (.slice none 0 0) := (blk_cell BKr9.out 0).trans rfl; have hfr9 := blk_frozen BKr9.out 0)
     refine bodyPost_ret (results_ctt rfl _ _ gr 26 #[.slice A9 l0_0.length c9] (0, 0) _ rfl (blk_put BKr9.out 0 _ rfl) Try.underlying26 rfl (by kernel_rfl)) rfl ?_
     exact ⟨_, rfl, top_copy HO9.out HB8.out.size (blk_lt BKr8.out), below_set (below_step HB8.out HB9.out) (by rw [GR.out]; exact HB3.out.size)⟩
    | true =>
     rw [if_neg (by simp)] at h
     by_cases hbt : back.toList ≠ a1.toList
     ·rw [if_pos hbt] at h
      have hbe : (back.toList == a1.toList) = false := beq_eq_false_iff_ne.2 hbt
      simp only [Prod.mk.injEq] at h
      obtain ⟨rfl, rfl, rfl⟩ := h
      clear hbt
      go_enter Try.func65, Try.ntmps65
      go_wp2_with (first | ((with_reducible refine gate_dst (N := 2) rfl ?_); refine box_event ?hg (N := 2) ?hd (cs := #[.slice A0_0 l0_0.length c0_0]) (t := 26) ?hr ?_; (case hd => rfl); (case hg => rfl); (case hr => first | (go_simp; done) | (go_simp; rfl)); intro ga hg1 w3 hbox hb; have BKa := Aside0.mk hbox; have HB3 := Aside0.mk hb; have GA := Aside0.mk hg1; clear hg1 hbox hb) | ((with_reducible refine gate_dst (N := 4) rfl ?_); refine box_event ?hg (N := 4) ?hd (cs := #[.slice none 0 0]) (t := 26) ?hr ?_; (case hd => rfl); (case hg => rfl); (case hr => first | (go_simp; done) | (go_simp; rfl)); intro gr hg1 w4 hbox hb; have BKr := Aside0.mk hbox; have HB4 := Aside0.mk hb; have GR := Aside0.mk hg1; clear hg1 hbox hb; have HBw4 := Aside0.mk (below_step HB3.out HB4.out); have BKa4 := Aside0.mk (blk_below BKa.out HB4.out); have hca4 : w4.cell? ⟨ga, 0, none⟩ = some (.slice A0_0 l0_0.length c0_0) := (blk_cell BKa4.out 0).trans rfl) | (go_at_call 90; ((with_reducible refine (spec_l03Copy.calls A0_0 c0_0 l0_0 l0_0 _ (Kd.C_below HR0.out HBw4.out) HC0.out HCF.out).mono ?_); rintro e w5 ⟨v0, rfl, ho, hb⟩); have HO5 := Aside0.mk ho; have HB5 := Aside0.mk hb; obtain ⟨Ao, co, rfl, hlo, _⟩ := Kd.R_reads ho; clear ho hb hlo) | ((with_reducible refine gate_dst (N := 7) rfl ?_); refine box_event ?hg (N := 7) ?hd (cs := #[.slice none 0 0]) (t := 26) ?hr ?_; (case hd => rfl); (case hg => rfl); (case hr => first | (go_simp; done) | (go_simp; rfl)); intro g hg1 w6 hbox hb; have BK6 := Aside0.mk hbox; have HB6 := Aside0.mk hb; have GB6 := Aside0.mk hg1; clear hg1 hbox hb; have hcg6 : w6.cell? ⟨g, 0, none⟩ = some (.slice none 0 0) := (blk_cell BK6.out 0).trans rfl; have hfg6 := blk_frozen BK6.out 0; have HA6 := Aside0.mk (ArS.made HO5.out HB5.out.size GB6.out HB6.out BK6.out HL.out)) | (go_at_call 114; ((with_reducible refine (rd_post HX.out (spec_read a1 HTS.out 2001 (Nat.le_refl _) 0 rfl l0_0 0 _ _ g _ HA6.out)).mono ?_); rintro e w7 hp); have HP7 := Aside0.mk hp; obtain ⟨rfl, _, _⟩ := hp; obtain ⟨v7, hv7, _, _, hr7⟩ := HP7.out.2.1.1; obtain ⟨A7, c7, rfl, hl7, hC7⟩ := Kd.R_reads hr7; have HC7 := Aside0.mk hC7; have HL7 := Aside0.mk hl7; have HR7 := Aside0.mk hr7; have HG7 := Aside0.mk hv7; have HB7 := Aside0.mk (top_below HBw4.out HB5.out HB6.out GB6.out HP7.out.2.2.1); have BKr7 := Aside0.mk (top_blk (blk_below (blk_below BKr.out HB5.out) HB6.out) (blk_lt BKr.out) (by rw [GB6.out]; exact Nat.ne_of_lt (Nat.lt_of_lt_of_le (blk_lt BKr.out) HB5.out.size)) HP7.out.2.2.1); have BKa7 := Aside0.mk (top_blk (blk_below (blk_below BKa4.out HB5.out) HB6.out) (blk_lt BKa4.out) (by rw [GB6.out]; exact Nat.ne_of_lt (Nat.lt_of_lt_of_le (blk_lt BKa4.out) HB5.out.size)) HP7.out.2.2.1); clear hr7 hv7 hl7 hC7; have hcg7 : w7.cell? ⟨g, 0, none⟩ = some (.slice A7 lx.length c7) := (blk_cell HG7.out 0).trans rfl; have hcr7 : w7.cell? ⟨gr, 0, none⟩ = some (.slice none 0 0) := (blk_cell BKr7.out 0).trans rfl; have hfr7 := blk_frozen BKr7.out 0; have hca7 : w7.cell? ⟨ga, 0, none⟩ = some (.slice A0_0 l0_0.length c0_0) := (blk_cell BKa7.out 0).trans rfl) | (go_at_call 31; ((with_reducible refine (spec_TermText.calls kt A7 c7 lx k back true _ HC7.out HL7.out HTT.out).mono ?_); rintro e w8 ⟨rfl, hb⟩); have HB78 := Aside0.mk hb; have HB8 := Aside0.mk (below_step HB7.out hb); have BKr8 := Aside0.mk (blk_below BKr7.out hb); have BKa8 := Aside0.mk (blk_below BKa7.out hb); have HG8 := Aside0.mk (blk_below HG7.out hb); have HR8 := Aside0.mk (Kd.R_below HR7.out hb); clear hb; have hcg8 : w8.cell? ⟨g, 0, none⟩ = some (.slice A7 lx.length c7) := (blk_cell HG8.out 0).trans rfl; have hcr8 : w8.cell? ⟨gr, 0, none⟩ = some (.slice none 0 0) := (blk_cell BKr8.out 0).trans rfl; have hfr8 := blk_frozen BKr8.out 0; have hca8 : w8.cell? ⟨ga, 0, none⟩ = some (.slice A0_0 l0_0.length c0_0) := (blk_cell BKa8.out 0).trans rfl))
      go_wp2_with (go_at_call 90; ((with_reducible refine (spec_l03Copy.calls A0_0 c0_0 l0_0 l0_0 _ (Kd.C_below HR0.out HB8.out) HC0.out HCF.out).mono ?_); rintro e w9 ⟨v9, rfl, ho, hb⟩); have HO9 := Aside0.mk ho; have HB9 := Aside0.mk hb; obtain ⟨A9, c9, rfl, hlo, _⟩ := Kd.R_reads ho; clear ho hb hlo; have BKr9 := Aside0.mk (blk_below BKr8.out HB9.out); have hcr9 : w9.cell? ⟨gr, 0, none⟩ = some (.slice none 0 0) := (blk_cell BKr9.out 0).trans rfl; have hfr9 := blk_frozen BKr9.out 0)
      refine bodyPost_ret (results_ctt rfl _ _ gr 26 #[.slice A9 l0_0.length c9] (0, 0) _ rfl (blk_put BKr9.out 0 _ rfl) Try.underlying26 rfl (by kernel_rfl)) rfl ?_
      exact ⟨_, rfl, top_copy HO9.out HB8.out.size (blk_lt BKr8.out), below_set (below_step HB8.out HB9.out) (by rw [GR.out]; exact HB3.out.size)⟩
     ·rw [if_neg hbt] at h
      have hbt : back.toList = a1.toList := by simpa using hbt
      have hbe : (back.toList == a1.toList) = true := beq_iff_eq.2 hbt
      simp only [Prod.mk.injEq] at h
      obtain ⟨rfl, rfl, rfl⟩ := h
      clear hbt
      go_enter Try.func65, Try.ntmps65
      go_wp2_with (first | ((with_reducible refine gate_dst (N := 2) rfl ?_); refine box_event ?hg (N := 2) ?hd (cs := #[.slice A0_0 l0_0.length c0_0]) (t := 26) ?hr ?_; (case hd => rfl); (case hg => rfl); (case hr => first | (go_simp; done) | (go_simp; rfl)); intro ga hg1 w3 hbox hb; have BKa := Aside0.mk hbox; have HB3 := Aside0.mk hb; have GA := Aside0.mk hg1; clear hg1 hbox hb) | ((with_reducible refine gate_dst (N := 4) rfl ?_); refine box_event ?hg (N := 4) ?hd (cs := #[.slice none 0 0]) (t := 26) ?hr ?_; (case hd => rfl); (case hg => rfl); (case hr => first | (go_simp; done) | (go_simp; rfl)); intro gr hg1 w4 hbox hb; have BKr := Aside0.mk hbox; have HB4 := Aside0.mk hb; have GR := Aside0.mk hg1; clear hg1 hbox hb; have HBw4 := Aside0.mk (below_step HB3.out HB4.out); have BKa4 := Aside0.mk (blk_below BKa.out HB4.out); have hca4 : w4.cell? ⟨ga, 0, none⟩ = some (.slice A0_0 l0_0.length c0_0) := (blk_cell BKa4.out 0).trans rfl) | (go_at_call 90; ((with_reducible refine (spec_l03Copy.calls A0_0 c0_0 l0_0 l0_0 _ (Kd.C_below HR0.out HBw4.out) HC0.out HCF.out).mono ?_); rintro e w5 ⟨v0, rfl, ho, hb⟩); have HO5 := Aside0.mk ho; have HB5 := Aside0.mk hb; obtain ⟨Ao, co, rfl, hlo, _⟩ := Kd.R_reads ho; clear ho hb hlo) | ((with_reducible refine gate_dst (N := 7) rfl ?_); refine box_event ?hg (N := 7) ?hd (cs := #[.slice none 0 0]) (t := 26) ?hr ?_; (case hd => rfl); (case hg => rfl); (case hr => first | (go_simp; done) | (go_simp; rfl)); intro g hg1 w6 hbox hb; have BK6 := Aside0.mk hbox; have HB6 := Aside0.mk hb; have GB6 := Aside0.mk hg1; clear hg1 hbox hb; have hcg6 : w6.cell? ⟨g, 0, none⟩ = some (.slice none 0 0) := (blk_cell BK6.out 0).trans rfl; have hfg6 := blk_frozen BK6.out 0; have HA6 := Aside0.mk (ArS.made HO5.out HB5.out.size GB6.out HB6.out BK6.out HL.out)) | (go_at_call 114; ((with_reducible refine (rd_post HX.out (spec_read a1 HTS.out 2001 (Nat.le_refl _) 0 rfl l0_0 0 _ _ g _ HA6.out)).mono ?_); rintro e w7 hp); have HP7 := Aside0.mk hp; obtain ⟨rfl, _, _⟩ := hp; obtain ⟨v7, hv7, _, _, hr7⟩ := HP7.out.2.1.1; obtain ⟨A7, c7, rfl, hl7, hC7⟩ := Kd.R_reads hr7; have HC7 := Aside0.mk hC7; have HL7 := Aside0.mk hl7; have HR7 := Aside0.mk hr7; have HG7 := Aside0.mk hv7; have HB7 := Aside0.mk (top_below HBw4.out HB5.out HB6.out GB6.out HP7.out.2.2.1); have BKr7 := Aside0.mk (top_blk (blk_below (blk_below BKr.out HB5.out) HB6.out) (blk_lt BKr.out) (by rw [GB6.out]; exact Nat.ne_of_lt (Nat.lt_of_lt_of_le (blk_lt BKr.out) HB5.out.size)) HP7.out.2.2.1); have BKa7 := Aside0.mk (top_blk (blk_below (blk_below BKa4.out HB5.out) HB6.out) (blk_lt BKa4.out) (by rw [GB6.out]; exact Nat.ne_of_lt (Nat.lt_of_lt_of_le (blk_lt BKa4.out) HB5.out.size)) HP7.out.2.2.1); clear hr7 hv7 hl7 hC7; have hcg7 : w7.cell? ⟨g, 0, none⟩ = some (.slice A7 lx.length c7) := (blk_cell HG7.out 0).trans rfl; have hcr7 : w7.cell? ⟨gr, 0, none⟩ = some (.slice none 0 0) := (blk_cell BKr7.out 0).trans rfl; have hfr7 := blk_frozen BKr7.out 0; have hca7 : w7.cell? ⟨ga, 0, none⟩ = some (.slice A0_0 l0_0.length c0_0) := (blk_cell BKa7.out 0).trans rfl) | (go_at_call 31; ((with_reducible refine (spec_TermText.calls kt A7 c7 lx k back true _ HC7.out HL7.out HTT.out).mono ?_); rintro e w8 ⟨rfl, hb⟩); have HB78 := Aside0.mk hb; have HB8 := Aside0.mk (below_step HB7.out hb); have BKr8 := Aside0.mk (blk_below BKr7.out hb); have BKa8 := Aside0.mk (blk_below BKa7.out hb); have HG8 := Aside0.mk (blk_below HG7.out hb); have HR8 := Aside0.mk (Kd.R_below HR7.out hb); clear hb; have hcg8 : w8.cell? ⟨g, 0, none⟩ = some (.slice A7 lx.length c7) := (blk_cell HG8.out 0).trans rfl; have hcr8 : w8.cell? ⟨gr, 0, none⟩ = some (.slice none 0 0) := (blk_cell BKr8.out 0).trans rfl; have hfr8 := blk_frozen BKr8.out 0; have hca8 : w8.cell? ⟨ga, 0, none⟩ = some (.slice A0_0 l0_0.length c0_0) := (blk_cell BKa8.out 0).trans rfl))
      refine bodyPost_ret (results_ctt rfl _ _ gr 26 #[.slice A7 lx.length c7] (0, 0) _ rfl (blk_put BKr8.out 0 _ rfl) Try.underlying26 rfl (by kernel_rfl)) rfl ?_
      exact ⟨_, rfl, top_own HR8.out HBw4.out.size (blk_lt BKr.out), below_set HB8.out (by rw [GR.out]; exact HB3.out.size)⟩
 ·rw [if_neg hl] at h
  cases h
namespace Hand

end Hand

end Go.Proofs.Ytkckdibalopagaa.SFnTerms
