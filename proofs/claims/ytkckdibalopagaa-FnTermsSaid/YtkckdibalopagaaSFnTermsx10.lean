-- Began as a print of the kit over stubs (wip/stub.py); the sections that are named OWN are this session's.
import Derived.Test.YtkckdibalopagaaSFnTermsx0
import Derived.Test.YtkckdibalopagaaSFnTermsx2
import Derived.Test.YtkckdibalopagaaSFnTermsx4
import Derived.Test.YtkckdibalopagaaSFnTermsx6
import Derived.Test.YtkckdibalopagaaSFnTermsx9
import Derived.Test.YtkckdibalopagaaUShort
namespace Go.Proofs.Ytkckdibalopagaa.SFnTerms
open Go.RowKit Go.Proofs.YtkckdibalopagaaW.PrintWords Go.Proofs.YtkckdibalopagaaW.PrintLast Go.Proofs.YtkckdibalopagaaW.PrintMore Go.Proofs.Ytkckdibalopagaa.Short
attribute [local go_sem] max2_int min2_int max_two min_two max_three min_three max_four min_four   -- for this text's walks alone
set_option linter.unusedVariables false
set_option linter.unusedSimpArgs false

/-! ### spec_l01Text: function 128 -/
mutual
def spec_l01Text.j0 : Nat → Int → List Int → Int → Int → Option (ByteArray × Int × Int)
  | 0, _, _, _, _ => none
  | k + 1, x1, x1000, x1001, x1002 => spec_l01Text.l0 k x1 (([] : List Int)) 0 x1000 x1001 x1002
def spec_l01Text.l0 : Nat → Int → List Int → Int → List Int → Int → Int → Option (ByteArray × Int × Int)
  | 0, _, _, _, _, _, _ => none
  | k + 1, x1, x5, x6, x1000, x1001, x1002 => if x6 < x1 then ((spec_l01Byte.f x1000 x1001 x1002).bind fun bt403 => (if x5.length < 140737488355328 then (spec_l01Text.l0 k x1 (x5 ++ [(bt403.1) % 256]) (wrap64 (x6 + 1)) x1000 bt403.2.1 bt403.2.2) else (none))) else (some (strOfNums x5, x1001, x1002))
end
def spec_l01Text.f (k : Nat) (s0_0 : List Int) (s0_1 : Int) (s0_2 : Int) (a1 : Int) : Option (ByteArray × Int × Int) := if a1 > 5000 then (spec_l01Text.j0 k 5000 s0_0 s0_1 s0_2) else (spec_l01Text.j0 k a1 s0_0 s0_1 s0_2)
set_option maxHeartbeats 8000000 in
set_option maxRecDepth 100000 in
theorem spec_l01Text.calls (k : Nat) (g : Nat) (s0_0 : List Int) (s0_1 : Int) (s0_2 : Int) (a1 : Int) (r1 : ByteArray) (r2 : Int) (r3 : Int) (w0 w : World) (hI : IsS119 w0 w g s0_0 s0_1 s0_2) (hB : Below w0.heap.size w0 w) (h : spec_l01Text.f k s0_0 s0_1 s0_2 a1 = some (r1, r2, r3)) :
  Calls Try.prog 128 #[.pointer (some ⟨g, 0, none⟩), .int .i64 a1] w fun e w' => e = .returned (.string r1) ∧ IsS119 w0 w' g s0_0 r2 r3 ∧ Below w0.heap.size w0 w' ∧ KeepBut w w' g none := by
 have HI0 := Aside0.mk hI
 have HK := Aside0.mk (KeepBut.refl w g none)
 have HL := Aside0.mk hB.size
 clear hI
 have HW0 := Aside0.mk hB.size
 have HB := Aside0.mk hB
 clear hB
 have H : (if a1 > 5000 then (spec_l01Text.j0 k 5000 s0_0 s0_1 s0_2) else (spec_l01Text.j0 k a1 s0_0 s0_1 s0_2)) = some (r1, r2, r3) := h
 clear h
 have HC3 := Aside0.mk H
 clear H
 go_enter Try.func128, Try.ntmps128
 go_upto_if 8 with (fail)
 go_cut [1] (fun v1 wc => ∃ (kq : Nat) (x1_2 : Int), v1 = .int .i64 x1_2 ∧ Aside0 (spec_l01Text.j0 kq x1_2 s0_0 s0_1 s0_2 = some (r1, r2, r3)) ∧ Aside0 (kq ≤ k) ∧ Aside0 (IsS119 w0 wc g s0_0 s0_1 s0_2) ∧ Aside0 (KeepBut w wc g none) ∧ Aside0 (Below w0.heap.size w0 wc))
 case first =>
  have H := HC3.out
  clear HC3
  by_cases c4 : a1 > 5000
  ·rw [if_pos c4] at H
   have c4b0 : decide (5000 < a1) = true := decide_eq_true c4
   clear c4
   (first | rw [c4b0] | (simp only [i64_w, i32_w]; rw [c4b0]) | skip)
   have H' := Aside0.mk H
   clear H
   go_wp2
   go_meet
   case rel => exact ⟨_, (5000), (by first | rfl | (simp; done) | (simp [*]; done)), H', ⟨by first | omega | exact Nat.le_refl _⟩, ⟨i9 HI0.out⟩, ⟨kp HK.out⟩, ⟨b9 HB.out⟩⟩
  ·rw [if_neg c4] at H
   have c4b0 : decide (5000 < a1) = false := decide_eq_false c4
   clear c4
   (first | rw [c4b0] | (simp only [i64_w, i32_w]; rw [c4b0]) | skip)
   have H' := Aside0.mk H
   clear H
   go_wp2
   go_meet
   case rel => exact ⟨_, (a1), (by first | rfl | (simp; done) | (simp [*]; done)), H', ⟨by first | omega | exact Nat.le_refl _⟩, ⟨i9 HI0.out⟩, ⟨kp HK.out⟩, ⟨b9 HB.out⟩⟩
 case rest =>
  clear HC3
  try clear c1
  try clear p2
  try clear c4
  try clear c4b0
  obtain ⟨kq, x1_2, rfl, HA, HJ2, HI0, HK, HB⟩ := hcut
  cases kq with
  | zero => exact absurd HA.out (by simp [spec_l01Text.j0])
  | succ kj2 =>
   have H := HA.out
   clear HA
   simp only [spec_l01Text.j0] at H
   obtain ⟨y400, hy400⟩ : ∃ y_ : List Int, y_ = (([] : List Int)) := ⟨_, rfl⟩
   replace H : (spec_l01Text.l0 kj2 x1_2 y400 0 s0_0 s0_1 s0_2) = some (r1, r2, r3) := by first | (rw [hy400]; with_reducible exact H) | (have H2_ := (Option.bind_some _ _).symm.trans H; rw [hy400]; with_reducible exact H2_) | (have H2_ := (Option.bind_some _ _).symm.trans H; with_reducible exact H2_) | with_reducible exact H | (rw [hy400]; exact H) | exact H
   have Ny400 := Aside0.mk hy400
   clear hy400
   have H' := Aside0.mk H
   clear H
   go_wp2_with (first | ((with_reducible refine gate_dst (N := 9) rfl ?_); refine Kd.R_lit (Kd.int .u8) _ 5 ?hg (N := 9) ?hd (xs := ([] : List Int)) (inner := []) (ok := fun _ => True) (okp := fun _ => True) ?hr ?hp (fun _ hk => hk) trivial (Below.refl _ _) (Nat.le_refl _) (by simp) ?_; (case hd => rfl); (case hg => rfl); (case hr => first | (go_simp; done) | (go_simp; rfl)); (case hp => exact (Reps.none _ _)); intro v401 w5 ho6 hb hg_ hnew_; clear hg_ hnew_; (first | rw [← Ny400.out] at ho6 | (simp only [Int.reduceToNat] at ho6; rw [← Ny400.out] at ho6)); have n0_ := Aside0.mk (Kd.R_lower ho6 (keep_size (w := w) (g := g) (row := none) (kp HK.out))); have n1_ := Aside0.mk (IsS119.below (i9 HI0.out) hb); have n2_ := Aside0.mk (KeepBut.trans (kp HK.out) (KeepBut.of_below hb g none) (.inl rfl)); have n3_ := Aside0.mk (below_step (b9 HB.out) hb); clear HI0 HK HB; have HO402 := n0_; have HI0 := n1_; have HK := n2_; have HB := n3_; clear n0_ n1_ n2_ n3_ hb ho6))
   go_loopg [5, 6] kj2 (fun kq v5 v6 w' => ∃ (x5_2 : List Int) (x6_2 : Int) (x1001_2 : Int) (x1002_2 : Int), v6 = .int .i64 x6_2 ∧ Aside0 (spec_l01Text.l0 kq x1_2 x5_2 x6_2 s0_0 x1001_2 x1002_2 = some (r1, r2, r3)) ∧ Aside0 (kq ≤ kj2) ∧ Aside0 (Kd.R (Kd.int .u8) 5 w' w.heap.size (fun _ => True) v5 x5_2) ∧ Aside0 (IsS119 w0 w' g s0_0 x1001_2 x1002_2) ∧ Aside0 (KeepBut w w' g none) ∧ Aside0 (Below w0.heap.size w0 w'))
   case atStart => exact ⟨(y400), (0), (s0_1), (s0_2), (by first | rfl | (simp; done) | (simp [*]; done)), H', ⟨Nat.le_refl _⟩, ⟨rl HO402.out⟩, ⟨i9 HI0.out⟩, ⟨kp HK.out⟩, ⟨b9 HB.out⟩⟩
   case round =>
    clear H'
    try clear c1
    try clear p2
    try clear c4
    try clear c4b0
    try clear p2
    obtain ⟨x5_2, x6_2, x1001_2, x1002_2, rfl, HA, HK2, HO_5, HI0, HK, HB⟩ := hrel
    cases gk with
    | zero => exact absurd HA.out (by simp [spec_l01Text.l0])
    | succ k2 =>
     have H := HA.out
     clear HA
     simp only [spec_l01Text.l0] at H
     by_cases c7 : x6_2 < x1_2
     ·rw [if_pos c7] at H
      have c7b0 : decide (x6_2 < x1_2) = true := decide_eq_true c7
      clear c7
      replace H := Option.bind_eq_some_iff.mp H
      obtain ⟨⟨t403, t404, t405⟩, A80, H⟩ := H
      replace H : (if x5_2.length < 140737488355328 then (spec_l01Text.l0 k2 x1_2 (x5_2 ++ [(t403) % 256]) (wrap64 (x6_2 + 1)) s0_0 t404 t405) else (none)) = some (r1, r2, r3) := H
      have A8 := Aside0.mk A80
      clear A80
      by_cases c9 : x5_2.length < 140737488355328
      ·rw [if_pos c9] at H
       have LMc9 := Aside0.mk c9
       clear c9
       obtain ⟨y406, hy406⟩ : ∃ y_ : List Int, y_ = (x5_2 ++ [(t403) % 256]) := ⟨_, rfl⟩
       replace H : (spec_l01Text.l0 k2 x1_2 y406 (wrap64 (x6_2 + 1)) s0_0 t404 t405) = some (r1, r2, r3) := by first | (rw [hy406]; with_reducible exact H) | (have H2_ := (Option.bind_some _ _).symm.trans H; rw [hy406]; with_reducible exact H2_) | (have H2_ := (Option.bind_some _ _).symm.trans H; with_reducible exact H2_) | with_reducible exact H | (rw [hy406]; exact H) | exact H
       have Ny406 := Aside0.mk hy406
       clear hy406
       have H' := Aside0.mk H
       clear H
       go_wp2_with (first | ((with_reducible refine gate_callee (f := 74) rfl ?_); refine goesL_ (some 17) rfl rfl Try.func74 (by kernel_rfl) rfl #[.pointer (some ⟨g, 0, none⟩)] rfl ar ?_; (with_reducible refine (spec_l01Byte.calls g s0_0 x1001_2 x1002_2 t403 t404 t405 w0 _ ?side1 ?side2 A8.out).mono ?_); (case side1 => exact i9 HI0.out); (case side2 => exact b9 HB.out); rintro e w10 ⟨rfl, hi, hb, hk⟩; refine ⟨_, rfl, ?_⟩; have n0_ := Aside0.mk (Kd.R_mono (Kd.R_keep (IsS119.apart (show IsS119 w0 _ g s0_0 x1001_2 x1002_2 from i9 HI0.out) (rl HO_5.out) (by decide)) hk (fun _ h => h.2)) (fun _ h => h.1)); have n1_ := Aside0.mk (KeepBut.trans (kp HK.out) hk (.inl rfl)); have n2_ := Aside0.mk (hb); have n3_ := Aside0.mk (hi); clear HO_5 HK HB HI0; have HO_5 := n0_; have HK := n1_; have HB := n2_; have HI0 := n3_; clear n0_ n1_ n2_ n3_; (try clear hb); (try clear hb2); (try clear hk); (try clear hi)) | ((with_reducible refine gate_builtin (b := .append) (xs := #[.tmp 15, .tmp 19]) rfl ?_); at_builtin; refine Kd.R_append (Kd.int .u8) w.heap.size rfl (.tmp 15) (.tmp 19) 22 5 (.int .u8 0) 1 rfl Try.underlying22 info5 rfl (by decide) (by omega) u5 x5_2 ((t403) % 256) [.int .u8 ((t403) % 256)] (fun _ => True) (fun _ => False) rfl rfl ?aP (fun _ hk => hk.elim) ?aF ?aO (Below.refl _ _) ?aS ?aL ?_; (case aP => exact rfl); (case aF => exact (fun _ _ => trivial)); (case aO => exact (rl HO_5.out)); (case aS => exact (keep_size (w := w) (g := g) (row := none) (kp HK.out))); (case aL => have := LMc9.out; omega); intro v407 w11 ho hb hg hat; rw [← Ny406.out] at ho; have n0_ := Aside0.mk (IsS119.grown (i9 HI0.out) hg (IsS119.own_ne HI0.out HO_5.out (by decide))); have n1_ := Aside0.mk (below_weaken (b9 HB.out) HL.out hb); have n2_ := Aside0.mk (KeepBut.trans (kp HK.out) (KeepBut.of_grown hg g) (Kd.R_base2 HO_5.out)); have n3_ := Aside0.mk (ho); clear HI0 HB HK HO_5; have HI0 := n0_; have HB := n1_; have HK := n2_; have HO408 := n3_; clear n0_ n1_ n2_ n3_ ho hb hg hat))
       go_roundg k2
       case measure => have := HJ2.out; have := HK2.out; omega
       case rel => exact ⟨(y406), (wrap64 (x6_2 + 1)), (t404), (t405), (by first | rfl | (simp; done) | (simp [*]; done)), H', ⟨by have := HJ2.out; have := HK2.out; omega⟩, ⟨rl HO408.out⟩, ⟨i9 HI0.out⟩, ⟨kp HK.out⟩, ⟨b9 HB.out⟩⟩
      ·rw [if_neg c9] at H
       exact absurd H (by simp)
     ·rw [if_neg c7] at H
      have c7b0 : decide (x6_2 < x1_2) = false := decide_eq_false c7
      clear c7
      simp only [Option.some.injEq, Prod.mk.injEq] at H
      obtain ⟨rfl, rfl, rfl⟩ := H
      have hcv12 := own_string (P := Try.prog) Try.underlying22 Try.underlying5 Try.underlying9 (Kd.own_of_R HO_5.out)
      go_wp2
      go_ret
      exact ⟨by first | rfl | (simp [errW_none, errW_some] <;> rfl) | (simp [*, errW_none, errW_some] <;> rfl), i9 HI0.out, b9 HB.out, kp HK.out⟩

/-! ### spec_l02Spoilt: OWN: function 116 -/
def spec_l02Spoilt.j0 : Nat → ByteArray → Bool → List Int → Int → Int → Option (ByteArray × Int × Int)
  | 0, _, _, _, _, _ => none
  | k + 1, x1, x23, x1000, x1001, x1002 => if x23 = true then (if (x1.size : Int) > 0 then ((spec_l01Below.f x1000 x1001 x1002 (x1.size : Int)).bind fun bt418 => (if 0 ≤ bt418.1 then (if bt418.1 ≤ (x1.size : Int) then ((spec_l01Text.f k x1000 bt418.2.1 bt418.2.2 1).bind fun bt421 => (if (x1.extract 0 (bt418.1 : Int).toNat).size + bt421.1.size ≤ 9223372036854775807 then (if 0 ≤ (wrap64 (bt418.1 + 1)) then (if (wrap64 (bt418.1 + 1)) ≤ (x1.size : Int) then (if ((x1.extract 0 (bt418.1 : Int).toNat) ++ bt421.1).size + (x1.extract ((wrap64 (bt418.1 + 1)) : Int).toNat x1.size).size ≤ 9223372036854775807 then (some (((x1.extract 0 (bt418.1 : Int).toNat) ++ bt421.1) ++ (x1.extract ((wrap64 (bt418.1 + 1)) : Int).toNat x1.size), bt421.2.1, bt421.2.2)) else (none)) else (none)) else (none)) else (none))) else (none)) else (none))) else (some (x1, x1001, x1002))) else (some (x1, x1001, x1002))
def spec_l02Spoilt.f (k : Nat) (s0_0 : List Int) (s0_1 : Int) (s0_2 : Int) (a1 : ByteArray) : Option (ByteArray × Int × Int) := (spec_l01Below.f s0_0 s0_1 s0_2 12).bind fun bt409 => (if bt409.1 = 0 then ((spec_l01Text.f k s0_0 bt409.2.1 bt409.2.2 1).bind fun bt412 => (if a1.size + bt412.1.size ≤ 9223372036854775807 then (some (a1 ++ bt412.1, bt412.2.1, bt412.2.2)) else (none))) else (if bt409.1 = 1 then ((spec_l01Below.f s0_0 bt409.2.1 bt409.2.2 (wrap64 ((a1.size : Int) + 1))).bind fun bt415 => (if 0 ≤ bt415.1 then (if bt415.1 ≤ (a1.size : Int) then (some (a1.extract 0 (bt415.1 : Int).toNat, bt415.2.1, bt415.2.2)) else (none)) else (none))) else (if bt409.1 = 2 then (spec_l02Spoilt.j0 k a1 (bt409.1 == 2) s0_0 bt409.2.1 bt409.2.2) else (spec_l02Spoilt.j0 k a1 (bt409.1 == 3) s0_0 bt409.2.1 bt409.2.2))))
def spec_l02Spoilt.T10 : Bool × List (List Nat × List Nat) := (true, [([], []), ([], []), ([0, 1], [0, 1]), ([], []), ([3], [3]), ([2, 4], [2, 4]), ([], []), ([], []), ([7], [7]), ([6, 8], [6, 8]), ([5, 9], [5, 9]), ([10, 4, 0, 1, 2, 3, 4, 5, 6, 7, 8, 9, 10], [10])])
def spec_l02Spoilt.B10 : List Nat := [0, 0, 3, 0, 8, 31, 0, 0, 128, 448, 1023, 2047]
theorem spec_l02Spoilt.tab10 : rtab .any (opsOf Try.f116 10) = spec_l02Spoilt.T10 := by kernel_rfl
theorem spec_l02Spoilt.bits10 : waitsOk spec_l02Spoilt.T10.2 spec_l02Spoilt.B10 = true := by kernel_rfl
set_option maxHeartbeats 8000000 in
set_option maxRecDepth 100000 in
theorem spec_l02Spoilt.calls (k : Nat) (g : Nat) (s0_0 : List Int) (s0_1 : Int) (s0_2 : Int) (a1 : ByteArray) (r1 : ByteArray) (r2 : Int) (r3 : Int) (w0 w : World) (hI : IsS119 w0 w g s0_0 s0_1 s0_2) (hB : Below w0.heap.size w0 w) (h : spec_l02Spoilt.f k s0_0 s0_1 s0_2 a1 = some (r1, r2, r3)) :
  Calls Try.prog 116 #[.pointer (some ⟨g, 0, none⟩), .string a1] w fun e w' => e = .returned (.string r1) ∧ IsS119 w0 w' g s0_0 r2 r3 ∧ Below w0.heap.size w0 w' ∧ KeepBut w w' g none := by
 have HI0 := Aside0.mk hI
 have HK := Aside0.mk (KeepBut.refl w g none)
 have HL := Aside0.mk hB.size
 clear hI
 have HW0 := Aside0.mk hB.size
 have HB := Aside0.mk hB
 clear hB
 have H : ((spec_l01Below.f s0_0 s0_1 s0_2 12).bind fun bt409 => (if bt409.1 = 0 then ((spec_l01Text.f k s0_0 bt409.2.1 bt409.2.2 1).bind fun bt412 => (if a1.size + bt412.1.size ≤ 9223372036854775807 then (some (a1 ++ bt412.1, bt412.2.1, bt412.2.2)) else (none))) else (if bt409.1 = 1 then ((spec_l01Below.f s0_0 bt409.2.1 bt409.2.2 (wrap64 ((a1.size : Int) + 1))).bind fun bt415 => (if 0 ≤ bt415.1 then (if bt415.1 ≤ (a1.size : Int) then (some (a1.extract 0 (bt415.1 : Int).toNat, bt415.2.1, bt415.2.2)) else (none)) else (none))) else (if bt409.1 = 2 then (spec_l02Spoilt.j0 k a1 (bt409.1 == 2) s0_0 bt409.2.1 bt409.2.2) else (spec_l02Spoilt.j0 k a1 (bt409.1 == 3) s0_0 bt409.2.1 bt409.2.2))))) = some (r1, r2, r3) := h
 clear h
 replace H := Option.bind_eq_some_iff.mp H
 obtain ⟨⟨t409, t410, t411⟩, A30, H⟩ := H
 replace H : (if t409 = 0 then ((spec_l01Text.f k s0_0 t410 t411 1).bind fun bt412 => (if a1.size + bt412.1.size ≤ 9223372036854775807 then (some (a1 ++ bt412.1, bt412.2.1, bt412.2.2)) else (none))) else (if t409 = 1 then ((spec_l01Below.f s0_0 t410 t411 (wrap64 ((a1.size : Int) + 1))).bind fun bt415 => (if 0 ≤ bt415.1 then (if bt415.1 ≤ (a1.size : Int) then (some (a1.extract 0 (bt415.1 : Int).toNat, bt415.2.1, bt415.2.2)) else (none)) else (none))) else (if t409 = 2 then (spec_l02Spoilt.j0 k a1 (t409 == 2) s0_0 t410 t411) else (spec_l02Spoilt.j0 k a1 (t409 == 3) s0_0 t410 t411)))) = some (r1, r2, r3) := H
 have A3 := Aside0.mk A30
 clear A30
 by_cases c4 : t409 = 0
 ·rw [if_pos c4] at H
  have c4b0 : (t409 == 0) = true := beq_iff_eq.mpr c4
  have c4b1 : (t409 != 0) = false := bne_eq_false_iff_eq.mpr c4
  clear c4
  replace H := Option.bind_eq_some_iff.mp H
  obtain ⟨⟨t412, t413, t414⟩, A50, H⟩ := H
  replace H : (if a1.size + t412.size ≤ 9223372036854775807 then (some (a1 ++ t412, t413, t414)) else (none)) = some (r1, r2, r3) := H
  have A5 := Aside0.mk A50
  clear A50
  by_cases c6 : a1.size + t412.size ≤ 9223372036854775807
  ·rw [if_pos c6] at H
   have c6b0 := eq_true c6
   have c6b1 : decide (a1.size + t412.size ≤ 9223372036854775807) = true := decide_eq_true c6
   try have c6b2 : (9223372036854775807 < a1.size + t412.size) = False := eq_false (Nat.not_lt.2 c6)
   simp only [Option.some.injEq, Prod.mk.injEq] at H
   obtain ⟨rfl, rfl, rfl⟩ := H
   go_enter Try.func116, Try.ntmps116
   go_wp2_with (first | ((with_reducible refine gate_callee (f := 70) rfl ?_); refine goesL_ (some 7) rfl rfl Try.func70 (by kernel_rfl) rfl #[.pointer (some ⟨g, 0, none⟩), .int .i64 12] rfl ar ?_; (with_reducible refine (spec_l01Below.calls g s0_0 s0_1 s0_2 12 t409 t410 t411 w0 _ ?side1 ?side2 A3.out).mono ?_); (case side1 => exact i9 HI0.out); (case side2 => exact b9 HB.out); rintro e w7 ⟨rfl, hi, hb, hk⟩; refine ⟨_, rfl, ?_⟩; have n0_ := Aside0.mk (KeepBut.trans (kp HK.out) hk (.inl rfl)); have n1_ := Aside0.mk (hb); have n2_ := Aside0.mk (hi); clear HK HB HI0; have HK := n0_; have HB := n1_; have HI0 := n2_; clear n0_ n1_ n2_; (try clear hb); (try clear hb2); (try clear hk); (try clear hi)) | ((with_reducible refine gate_callee (f := 128) rfl ?_); refine goesL_ (some 12) rfl rfl Try.func128 (by kernel_rfl) rfl #[.pointer (some ⟨g, 0, none⟩), .int .i64 1] rfl ar ?_; (with_reducible refine (spec_l01Text.calls k g s0_0 t410 t411 1 t412 t413 t414 w0 _ ?side1 ?side2 A5.out).mono ?_); (case side1 => exact i9 HI0.out); (case side2 => exact b9 HB.out); rintro e w8 ⟨rfl, hi, hb, hk⟩; refine ⟨_, rfl, ?_⟩; have n0_ := Aside0.mk (KeepBut.trans (kp HK.out) hk (.inl rfl)); have n1_ := Aside0.mk (hb); have n2_ := Aside0.mk (hi); clear HK HB HI0; have HK := n0_; have HB := n1_; have HI0 := n2_; clear n0_ n1_ n2_; (try clear hb); (try clear hb2); (try clear hk); (try clear hi)))
   go_ret
   exact ⟨by first | rfl | (simp [errW_none, errW_some] <;> rfl) | (simp [*, errW_none, errW_some] <;> rfl), i9 HI0.out, b9 HB.out, kp HK.out⟩
  ·rw [if_neg c6] at H
   exact absurd H (by simp)
 ·rw [if_neg c4] at H
  have c4b0 : (t409 == 0) = false := beq_eq_false_iff_ne.mpr c4
  have c4b1 : (t409 != 0) = true := bne_iff_ne.mpr c4
  by_cases c9 : t409 = 1
  ·rw [if_pos c9] at H
   have c9b0 : (t409 == 1) = true := beq_iff_eq.mpr c9
   have c9b1 : (t409 != 1) = false := bne_eq_false_iff_eq.mpr c9
   clear c9
   replace H := Option.bind_eq_some_iff.mp H
   obtain ⟨⟨t415, t416, t417⟩, A100, H⟩ := H
   replace H : (if 0 ≤ t415 then (if t415 ≤ (a1.size : Int) then (some (a1.extract 0 (t415 : Int).toNat, t416, t417)) else (none)) else (none)) = some (r1, r2, r3) := H
   have A10 := Aside0.mk A100
   clear A100
   by_cases c11 : 0 ≤ t415
   ·rw [if_pos c11] at H
    have c11b0 := eq_true c11
    have c11b1 : decide (0 ≤ t415) = true := decide_eq_true c11
    clear c11
    by_cases c12 : t415 ≤ (a1.size : Int)
    ·rw [if_pos c12] at H
     have c12b0 := eq_true c12
     have c12b1 : decide (t415 ≤ (a1.size : Int)) = true := decide_eq_true c12
     clear c12
     simp only [Option.some.injEq, Prod.mk.injEq] at H
     obtain ⟨rfl, rfl, rfl⟩ := H
     go_enter Try.func116, Try.ntmps116
     go_wp2_with (first | ((with_reducible refine gate_callee (f := 70) rfl ?_); refine goesL_ (some 7) rfl rfl Try.func70 (by kernel_rfl) rfl #[.pointer (some ⟨g, 0, none⟩), .int .i64 12] rfl ar ?_; (with_reducible refine (spec_l01Below.calls g s0_0 s0_1 s0_2 12 t409 t410 t411 w0 _ ?side1 ?side2 A3.out).mono ?_); (case side1 => exact i9 HI0.out); (case side2 => exact b9 HB.out); rintro e w13 ⟨rfl, hi, hb, hk⟩; refine ⟨_, rfl, ?_⟩; have n0_ := Aside0.mk (KeepBut.trans (kp HK.out) hk (.inl rfl)); have n1_ := Aside0.mk (hb); have n2_ := Aside0.mk (hi); clear HK HB HI0; have HK := n0_; have HB := n1_; have HI0 := n2_; clear n0_ n1_ n2_; (try clear hb); (try clear hb2); (try clear hk); (try clear hi)) | ((with_reducible refine gate_callee (f := 70) rfl ?_); refine goesL_ (some 21) rfl rfl Try.func70 (by kernel_rfl) rfl #[.pointer (some ⟨g, 0, none⟩), .int .i64 (wrap64 ((a1.size : Int) + 1))] rfl ar ?_; (with_reducible refine (spec_l01Below.calls g s0_0 t410 t411 (wrap64 ((a1.size : Int) + 1)) t415 t416 t417 w0 _ ?side1 ?side2 A10.out).mono ?_); (case side1 => exact i9 HI0.out); (case side2 => exact b9 HB.out); rintro e w14 ⟨rfl, hi, hb, hk⟩; refine ⟨_, rfl, ?_⟩; have n0_ := Aside0.mk (KeepBut.trans (kp HK.out) hk (.inl rfl)); have n1_ := Aside0.mk (hb); have n2_ := Aside0.mk (hi); clear HK HB HI0; have HK := n0_; have HB := n1_; have HI0 := n2_; clear n0_ n1_ n2_; (try clear hb); (try clear hb2); (try clear hk); (try clear hi)))
     go_ret
     exact ⟨by first | rfl | (simp [errW_none, errW_some] <;> rfl) | (simp [*, errW_none, errW_some] <;> rfl), i9 HI0.out, b9 HB.out, kp HK.out⟩
    ·rw [if_neg c12] at H
     exact absurd H (by simp)
   ·rw [if_neg c11] at H
    exact absurd H (by simp)
  ·rw [if_neg c9] at H
   have c9b0 : (t409 == 1) = false := beq_eq_false_iff_ne.mpr c9
   have c9b1 : (t409 != 1) = true := bne_iff_ne.mpr c9
   have HC15 := Aside0.mk H
   clear H
   go_enter Try.func116, Try.ntmps116
   go_upto_if 23 with (first | ((with_reducible refine gate_callee (f := 70) rfl ?_); refine goesL_ (some 7) rfl rfl Try.func70 (by kernel_rfl) rfl #[.pointer (some ⟨g, 0, none⟩), .int .i64 12] rfl ar ?_; (with_reducible refine (spec_l01Below.calls g s0_0 s0_1 s0_2 12 t409 t410 t411 w0 _ ?side1 ?side2 A3.out).mono ?_); (case side1 => exact i9 HI0.out); (case side2 => exact b9 HB.out); rintro e w16 ⟨rfl, hi, hb, hk⟩; refine ⟨_, rfl, ?_⟩; have n0_ := Aside0.mk (KeepBut.trans (kp HK.out) hk (.inl rfl)); have n1_ := Aside0.mk (hb); have n2_ := Aside0.mk (hi); clear HK HB HI0; have HK := n0_; have HB := n1_; have HI0 := n2_; clear n0_ n1_ n2_; (try clear hb); (try clear hb2); (try clear hk); (try clear hi)))
   (try simp only [Act.put, List.setIfInBounds_toArray, List.set_cons_zero, List.set_cons_succ])
   go_cut [23] (fun v23 wc => ∃ (kq : Nat) (x23_14 : Bool), v23 = .bool x23_14 ∧ Aside0 (spec_l02Spoilt.j0 kq a1 x23_14 s0_0 t410 t411 = some (r1, r2, r3)) ∧ Aside0 (kq ≤ k) ∧ Aside0 (IsS119 w0 wc g s0_0 t410 t411) ∧ Aside0 (KeepBut w wc g none) ∧ Aside0 (Below w0.heap.size w0 wc))
   case first =>
    have H := HC15.out
    clear HC15
    by_cases c17 : t409 = 2
    ·rw [if_pos c17] at H
     have c17b0 : (t409 == 2) = true := beq_iff_eq.mpr c17
     have c17b1 : (t409 != 2) = false := bne_eq_false_iff_eq.mpr c17
     clear c17
     (first | rw [c17b0] | (simp only [i64_w, i32_w]; rw [c17b0]) | skip)
     have H' := Aside0.mk H
     clear H
     go_wp2
     go_meet
     case rel => exact ⟨_, ((t409 == 2)), (by first | rfl | (simp; done) | (simp [*]; done)), H', ⟨by first | omega | exact Nat.le_refl _⟩, ⟨i9 HI0.out⟩, ⟨kp HK.out⟩, ⟨b9 HB.out⟩⟩
    ·rw [if_neg c17] at H
     have c17b0 : (t409 == 2) = false := beq_eq_false_iff_ne.mpr c17
     have c17b1 : (t409 != 2) = true := bne_iff_ne.mpr c17
     (first | rw [c17b0] | (simp only [i64_w, i32_w]; rw [c17b0]) | skip)
     have H' := Aside0.mk H
     clear H
     go_wp2
     go_meet
     case rel => exact ⟨_, ((t409 == 3)), (by first | rfl | (simp; done) | (simp [*]; done)), H', ⟨by first | omega | exact Nat.le_refl _⟩, ⟨i9 HI0.out⟩, ⟨kp HK.out⟩, ⟨b9 HB.out⟩⟩
   case rest =>
    clear HC15
    try clear c1
    try clear p2
    try clear c4
    try clear c4b0
    try clear c4b1
    try clear c6
    try clear c6b0
    try clear c6b1
    try clear c6b2
    try clear p6
    try clear c7
    try clear c9
    try clear c9b0
    try clear c9b1
    try clear c11
    try clear c11b0
    try clear c11b1
    try clear c12
    try clear c12b0
    try clear c12b1
    try clear c17
    try clear c17b0
    try clear c17b1
    obtain ⟨kq, x23_14, rfl, HA, HJ14, HI0, HK, HB⟩ := hcut
    cases kq with
    | zero => exact absurd HA.out (by simp [spec_l02Spoilt.j0])
    | succ kj14 =>
     have H := HA.out
     clear HA
     simp only [spec_l02Spoilt.j0] at H
     by_cases c18 : x23_14 = true
     ·subst c18
      have H1 : (if (a1.size : Int) > 0 then ((spec_l01Below.f s0_0 t410 t411 (a1.size : Int)).bind fun bt418 => (if 0 ≤ bt418.1 then (if bt418.1 ≤ (a1.size : Int) then ((spec_l01Text.f kj14 s0_0 bt418.2.1 bt418.2.2 1).bind fun bt421 => (if (a1.extract 0 (bt418.1 : Int).toNat).size + bt421.1.size ≤ 9223372036854775807 then (if 0 ≤ (wrap64 (bt418.1 + 1)) then (if (wrap64 (bt418.1 + 1)) ≤ (a1.size : Int) then (if ((a1.extract 0 (bt418.1 : Int).toNat) ++ bt421.1).size + (a1.extract ((wrap64 (bt418.1 + 1)) : Int).toNat a1.size).size ≤ 9223372036854775807 then (some (((a1.extract 0 (bt418.1 : Int).toNat) ++ bt421.1) ++ (a1.extract ((wrap64 (bt418.1 + 1)) : Int).toNat a1.size), bt421.2.1, bt421.2.2)) else (none)) else (none)) else (none)) else (none))) else (none)) else (none))) else (some (a1, t410, t411))) = some (r1, r2, r3) := by rw [if_pos rfl] at H; exact H
      clear H
      have H := H1
      clear H1
      by_cases c19 : (a1.size : Int) > 0
      ·rw [if_pos c19] at H
       have c19b0 : decide (0 < (a1.size : Int)) = true := decide_eq_true c19
       have c19b1 : decide (0 < a1.size) = true := decide_eq_true (by omega)
       clear c19
       replace H := Option.bind_eq_some_iff.mp H
       obtain ⟨⟨t418, t419, t420⟩, A200, H⟩ := H
       replace H : (if 0 ≤ t418 then (if t418 ≤ (a1.size : Int) then ((spec_l01Text.f kj14 s0_0 t419 t420 1).bind fun bt421 => (if (a1.extract 0 (t418 : Int).toNat).size + bt421.1.size ≤ 9223372036854775807 then (if 0 ≤ (wrap64 (t418 + 1)) then (if (wrap64 (t418 + 1)) ≤ (a1.size : Int) then (if ((a1.extract 0 (t418 : Int).toNat) ++ bt421.1).size + (a1.extract ((wrap64 (t418 + 1)) : Int).toNat a1.size).size ≤ 9223372036854775807 then (some (((a1.extract 0 (t418 : Int).toNat) ++ bt421.1) ++ (a1.extract ((wrap64 (t418 + 1)) : Int).toNat a1.size), bt421.2.1, bt421.2.2)) else (none)) else (none)) else (none)) else (none))) else (none)) else (none)) = some (r1, r2, r3) := H
       have A20 := Aside0.mk A200
       clear A200
       by_cases c21 : 0 ≤ t418
       ·rw [if_pos c21] at H
        have c21b0 := eq_true c21
        have c21b1 : decide (0 ≤ t418) = true := decide_eq_true c21
        clear c21
        by_cases c22 : t418 ≤ (a1.size : Int)
        ·rw [if_pos c22] at H
         have c22b0 := eq_true c22
         have c22b1 : decide (t418 ≤ (a1.size : Int)) = true := decide_eq_true c22
         clear c22
         replace H := Option.bind_eq_some_iff.mp H
         obtain ⟨⟨t421, t422, t423⟩, A230, H⟩ := H
         replace H : (if (a1.extract 0 (t418 : Int).toNat).size + t421.size ≤ 9223372036854775807 then (if 0 ≤ (wrap64 (t418 + 1)) then (if (wrap64 (t418 + 1)) ≤ (a1.size : Int) then (if ((a1.extract 0 (t418 : Int).toNat) ++ t421).size + (a1.extract ((wrap64 (t418 + 1)) : Int).toNat a1.size).size ≤ 9223372036854775807 then (some (((a1.extract 0 (t418 : Int).toNat) ++ t421) ++ (a1.extract ((wrap64 (t418 + 1)) : Int).toNat a1.size), t422, t423)) else (none)) else (none)) else (none)) else (none)) = some (r1, r2, r3) := H
         have A23 := Aside0.mk A230
         clear A230
         by_cases c24 : (a1.extract 0 (t418 : Int).toNat).size + t421.size ≤ 9223372036854775807
         ·rw [if_pos c24] at H
          have c24b0 := eq_true c24
          have c24b1 : decide ((a1.extract 0 (t418 : Int).toNat).size + t421.size ≤ 9223372036854775807) = true := decide_eq_true c24
          try have c24b2 : (9223372036854775807 < (a1.extract 0 (t418 : Int).toNat).size + t421.size) = False := eq_false (Nat.not_lt.2 c24)
          have c24z : (9223372036854775807 < t418.toNat + t421.size) = False := eq_false (by have h_ := c24; rw [ByteArray.size_extract] at h_; have g1_ := of_decide_eq_true c22b1; omega)
          obtain ⟨ji25, hji25⟩ : ∃ j_ : Int, (wrap64 (t418 + 1)) = j_ := ⟨_, rfl⟩
          replace H : (if 0 ≤ (ji25) then (if (ji25) ≤ (a1.size : Int) then (if ((a1.extract 0 (t418 : Int).toNat) ++ t421).size + (a1.extract ((ji25) : Int).toNat a1.size).size ≤ 9223372036854775807 then (some (((a1.extract 0 (t418 : Int).toNat) ++ t421) ++ (a1.extract ((ji25) : Int).toNat a1.size), t422, t423)) else (none)) else (none)) else (none)) = some (r1, r2, r3) := by first | (rw [hji25] at H; exact H) | (simp only [hji25] at H ⊢; exact H)
          (try rw [hji25] at A20)
          (try rw [hji25] at A23)
          have hji25w : (IntKind.i64.wrap (t418 + 1)) = ji25 := (i64_w _).trans hji25
          by_cases c26 : 0 ≤ (ji25)
          ·rw [if_pos c26] at H
           have c26b0 := eq_true c26
           have c26b1 : decide (0 ≤ (ji25)) = true := decide_eq_true c26
           clear c26
           by_cases c27 : (ji25) ≤ (a1.size : Int)
           ·rw [if_pos c27] at H
            have c27b0 := eq_true c27
            have c27b1 : decide ((ji25) ≤ (a1.size : Int)) = true := decide_eq_true c27
            clear c27
            by_cases c28 : ((a1.extract 0 (t418 : Int).toNat) ++ t421).size + (a1.extract ((ji25) : Int).toNat a1.size).size ≤ 9223372036854775807
            ·rw [if_pos c28] at H
             have c28b0 := eq_true c28
             have c28b1 : decide (((a1.extract 0 (t418 : Int).toNat) ++ t421).size + (a1.extract ((ji25) : Int).toNat a1.size).size ≤ 9223372036854775807) = true := decide_eq_true c28
             try have c28b2 : (9223372036854775807 < ((a1.extract 0 (t418 : Int).toNat) ++ t421).size + (a1.extract ((ji25) : Int).toNat a1.size).size) = False := eq_false (Nat.not_lt.2 c28)
             have c28z : (9223372036854775807 < t418.toNat + t421.size + (a1.size - ji25.toNat)) = False := eq_false (by have h_ := c28; rw [ByteArray.size_append, ByteArray.size_extract, ByteArray.size_extract] at h_; have g1_ := of_decide_eq_true c22b1; omega)
             simp only [Option.some.injEq, Prod.mk.injEq] at H
             obtain ⟨rfl, rfl, rfl⟩ := H
             try go_wp2_with (first | ((with_reducible refine gate_callee (f := 70) rfl ?_); refine goesL_ (some 32) rfl rfl Try.func70 (by kernel_rfl) rfl #[.pointer (some ⟨g, 0, none⟩), .int .i64 (a1.size : Int)] rfl ar ?_; (with_reducible refine (spec_l01Below.calls g s0_0 t410 t411 (a1.size : Int) t418 t419 t420 w0 _ ?side1 ?side2 A20.out).mono ?_); (case side1 => exact i9 HI0.out); (case side2 => exact b9 HB.out); rintro e w29 ⟨rfl, hi, hb, hk⟩; refine ⟨_, rfl, ?_⟩; have n0_ := Aside0.mk (KeepBut.trans (kp HK.out) hk (.inl rfl)); have n1_ := Aside0.mk (hb); have n2_ := Aside0.mk (hi); clear HK HB HI0; have HK := n0_; have HB := n1_; have HI0 := n2_; clear n0_ n1_ n2_; (try clear hb); (try clear hb2); (try clear hk); (try clear hi)))
             have n0_ := Aside0.mk (IsS119.drew HI0.out)
             have n1_ := Aside0.mk (keep_drew HK.out)
             have n2_ := Aside0.mk (below_drew1 HB.out)
             clear HI0
             clear HK
             clear HB
             have HI0 := n0_
             have HK := n1_
             have HB := n2_
             clear n0_ n1_ n2_
             refine start_ (n := 12) (S := fun w' => True) (ds := []) #[false, false, false, false, false, false, false, false, false, false, false, false] (by kernel_rfl) rfl rfl trivial (fun hHeld => ?_); refine with_tabW spec_l02Spoilt.tab10 spec_l02Spoilt.bits10 (fun HT_ HW_ => ?_)
             generalize w29.drew = w30 at HI0 HK HB hHeld ⊢
             refine pure_ (i := 0) (N := some 33) (v := ?_) (a' := ?_) #[true, false, false, false, false, false, false, false, false, false, false, false] rfl rfl (any_of HT_.out (by kernel_rfl)) (fun _ _ _ h => h) (Or.inl ⟨by rfl, ?_⟩) ?_ ?_
             rotate_left
             ·intro w'
              go_simp
              with_reducible rfl
             rotate_left
             ·simp only [Act.put, List.setIfInBounds_toArray, List.set_cons_zero, List.set_cons_succ, i64_w, i32_w]
              rfl
             refine pure_ (i := 1) (N := some 34) (v := ?_) (a' := ?_) #[true, true, false, false, false, false, false, false, false, false, false, false] rfl rfl (any_of HT_.out (by kernel_rfl)) (fun _ _ _ h => h) (Or.inl ⟨by rfl, ?_⟩) ?_ ?_
             rotate_left
             ·intro w'
              go_simp
              with_reducible rfl
             rotate_left
             ·simp only [Act.put, List.setIfInBounds_toArray, List.set_cons_zero, List.set_cons_succ, i64_w, i32_w]
              rfl
             refine pure_ (i := 2) (N := some 35) (v := ?_) (a' := ?_) #[true, true, true, false, false, false, false, false, false, false, false, false] rfl rfl (any_of HT_.out (by kernel_rfl)) (fun _ _ _ h => h) (Or.inl ⟨by rfl, ?_⟩) ?_ ?_
             rotate_left
             ·intro w'
              go_simp
              with_reducible rfl
             rotate_left
             ·simp only [Act.put, List.setIfInBounds_toArray, List.set_cons_zero, List.set_cons_succ, i64_w, i32_w]
              rfl
             refine pure_ (i := 3) (N := some 36) (v := ?_) (a' := ?_) #[true, true, true, true, false, false, false, false, false, false, false, false] rfl rfl (any_of HT_.out (by kernel_rfl)) (fun _ _ _ h => h) (Or.inl ⟨by rfl, ?_⟩) ?_ ?_
             rotate_left
             ·intro w'
              go_simp
              with_reducible rfl
             rotate_left
             ·simp only [Act.put, List.setIfInBounds_toArray, List.set_cons_zero, List.set_cons_succ, i64_w, i32_w]
              rfl
             refine pure_ (i := 6) (N := some 39) (v := ?_) (a' := ?_) #[true, true, true, true, false, false, true, false, false, false, false, false] rfl rfl (any_of HT_.out (by kernel_rfl)) (fun _ _ _ h => h) (Or.inl ⟨by rfl, ?_⟩) ?_ ?_
             rotate_left
             ·intro w'
              go_simp
              with_reducible rfl
             rotate_left
             ·simp only [Act.put, List.setIfInBounds_toArray, List.set_cons_zero, List.set_cons_succ, i64_w, i32_w]
              rfl
             refine pure_ (i := 7) (N := some 40) (v := ?_) (a' := ?_) #[true, true, true, true, false, false, true, true, false, false, false, false] rfl rfl (any_of HT_.out (by kernel_rfl)) (fun _ _ _ h => h) (Or.inl ⟨by rfl, ?_⟩) ?_ ?_
             rotate_left
             ·intro w'
              go_simp
              with_reducible rfl
             rotate_left
             ·simp only [Act.put, List.setIfInBounds_toArray, List.set_cons_zero, List.set_cons_succ, i64_w, i32_w]
              rfl
             refine pure_ (i := 8) (N := some 41) (v := ?_) (a' := ?_) #[true, true, true, true, false, false, true, true, true, false, false, false] rfl rfl (any_of HT_.out (by kernel_rfl)) (fun _ _ _ h => h) (Or.inl ⟨by rfl, ?_⟩) ?_ ?_
             rotate_left
             ·intro w'
              go_simp
              with_reducible rfl
             rotate_left
             ·simp only [Act.put, List.setIfInBounds_toArray, List.set_cons_zero, List.set_cons_succ, i64_w, i32_w]
              rfl
             refine pure_ (i := 9) (N := some 42) (v := ?_) (a' := ?_) #[true, true, true, true, false, false, true, true, true, true, false, false] rfl rfl (any_of HT_.out (by kernel_rfl)) (fun _ _ _ h => h) (Or.inl ⟨by rfl, ?_⟩) ?_ ?_
             rotate_left
             ·intro w'
              go_simp
              with_reducible rfl
             rotate_left
             ·simp only [Act.put, List.setIfInBounds_toArray, List.set_cons_zero, List.set_cons_succ, i64_w, i32_w]
              rfl
             refine one_ (i := 4) (N := some 37) #[true, true, true, true, true, false, true, true, true, true, false, false] rfl rfl (one_of HT_.out (by kernel_rfl)) (by decide) (fun K hK => ?_)
             refine goes_ Try.func128 (by kernel_rfl) rfl #[.pointer (some ⟨g, 0, none⟩), .int .i64 1] (by rfl) rfl rfl ar ?_
             with_reducible refine (spec_l01Text.calls kj14 g s0_0 t419 t420 1 t421 t422 t423 w0 _ ?side1 ?side2 A23.out).mono ?_
             (case side1 => exact i9 HI0.out)
             (case side2 => exact b9 HB.out)
             rintro e w31 ⟨rfl, hi, hb, hk⟩
             refine ⟨_, rfl, ?_⟩
             have n0_ := Aside0.mk (KeepBut.trans (kp HK.out) hk (.inl rfl))
             have n1_ := Aside0.mk (hb)
             have n2_ := Aside0.mk (hi)
             clear HK
             clear HB
             clear HI0
             have HK := n0_
             have HB := n1_
             have HI0 := n2_
             clear n0_ n1_ n2_
             (try clear hb)
             (try clear hb2)
             (try clear hk)
             (try clear hi)
             refine hK.out _ _ trivial (fun hHeld => ?_)
             clear hK K
             refine norm_ (a' := ?_) ?_ ?_
             rotate_left
             ·show Act.put _ (some 37) _ = _
              simp only [Act.put, List.setIfInBounds_toArray, List.set_cons_zero, List.set_cons_succ, i64_w, i32_w]
              rfl
             refine pure_ (i := 5) (N := some 38) (v := ?_) (a' := ?_) #[true, true, true, true, true, true, true, true, true, true, false, false] rfl rfl (any_of HT_.out (by kernel_rfl)) (fun _ _ _ h => h) (Or.inl ⟨by rfl, ?_⟩) ?_ ?_
             rotate_left
             ·intro w'
              go_simp
              with_reducible rfl
             rotate_left
             ·simp only [Act.put, List.setIfInBounds_toArray, List.set_cons_zero, List.set_cons_succ, i64_w, i32_w]
              rfl
             refine pure_ (i := 10) (N := some 43) (v := ?_) (a' := ?_) #[true, true, true, true, true, true, true, true, true, true, true, false] rfl rfl (any_of HT_.out (by kernel_rfl)) (fun _ _ _ h => h) (Or.inl ⟨by rfl, ?_⟩) ?_ ?_
             rotate_left
             ·intro w'
              go_simp
              with_reducible rfl
             rotate_left
             ·simp only [Act.put, List.setIfInBounds_toArray, List.set_cons_zero, List.set_cons_succ, i64_w, i32_w]
              rfl
             refine pure_ (i := 11) (N := some 4) (v := ?_) (a' := ?_) #[true, true, true, true, true, true, true, true, true, true, true, true] rfl rfl (any_of HT_.out (by kernel_rfl)) (fun _ _ _ h => h) (Or.inl ⟨by rfl, ?_⟩) ?_ ?_
             rotate_left
             ·intro w'
              go_simp
              with_reducible rfl
             rotate_left
             ·simp only [Act.put, List.setIfInBounds_toArray, List.set_cons_zero, List.set_cons_succ, i64_w, i32_w]
              rfl
             refine done_ (done_of HT_.out (by kernel_rfl)) ?_
             try go_wp2
             go_ret
             exact ⟨by first | rfl | (simp [errW_none, errW_some] <;> rfl) | (simp only [← hji25]; first | rfl | (simp [errW_none, errW_some] <;> rfl)) | (simp [*, errW_none, errW_some] <;> rfl), i9 HI0.out, b9 HB.out, kp HK.out⟩
            ·rw [if_neg c28] at H
             exact absurd H (by simp)
           ·rw [if_neg c27] at H
            exact absurd H (by simp)
          ·rw [if_neg c26] at H
           exact absurd H (by simp)
         ·rw [if_neg c24] at H
          exact absurd H (by simp)
        ·rw [if_neg c22] at H
         exact absurd H (by simp)
       ·rw [if_neg c21] at H
        exact absurd H (by simp)
      ·rw [if_neg c19] at H
       have c19b0 : decide (0 < (a1.size : Int)) = false := decide_eq_false c19
       have c19b1 : decide (0 < a1.size) = false := decide_eq_false (by omega)
       clear c19
       simp only [Option.some.injEq, Prod.mk.injEq] at H
       obtain ⟨rfl, rfl, rfl⟩ := H
       go_wp2
       go_ret
       exact ⟨by first | rfl | (simp [errW_none, errW_some] <;> rfl) | (simp [*, errW_none, errW_some] <;> rfl), i9 HI0.out, b9 HB.out, kp HK.out⟩
     ·replace c18 := Bool.eq_false_iff.mpr c18
      subst c18
      have H1 : (some (a1, t410, t411)) = some (r1, r2, r3) := by rw [if_neg (show ¬ (false = true) by decide)] at H; exact H
      clear H
      have H := H1
      clear H1
      simp only [Option.some.injEq, Prod.mk.injEq] at H
      obtain ⟨rfl, rfl, rfl⟩ := H
      go_wp2
      go_ret
      exact ⟨by first | rfl | (simp [errW_none, errW_some] <;> rfl) | (simp [*, errW_none, errW_some] <;> rfl), i9 HI0.out, b9 HB.out, kp HK.out⟩

/-! ### spec_DrawReadTerm: function 67 -/
def spec_DrawReadTerm.f (k : Nat) (l0 : List Int) : Option ((List (S34)) × ByteArray) := (spec_l01New.f k l0).bind fun bt425 => ((spec_l01Below.f bt425.1 bt425.2.1 bt425.2.2 5).bind fun bt429 => ((spec_l03Arena.f bt425.1 bt429.2.1 bt429.2.2).bind fun bt432 => ((spec_TermText.f k bt432.1 (wrap64 ((bt432.1.length : Int) - 1))).bind fun bt438 => ((spec_l03Any.f bt425.1 bt432.2.1 bt432.2.2).bind fun bt440 => (if bt429.1 = 0 then ((spec_l02Spoilt.f k bt425.1 bt440.2.1 bt440.2.2 bt438.1).bind fun bt446 => (some (bt440.1, bt446.1))) else (if bt429.1 = 1 then (if bt438.1.size + 1 ≤ 9223372036854775807 then (some (bt440.1, bt438.1 ++ (⟨#[1]⟩ : ByteArray))) else (none)) else (if bt429.1 = 2 then (some (bt432.1, bt438.1)) else (some (bt440.1, bt438.1)))))))))
set_option maxHeartbeats 8000000 in
set_option maxRecDepth 100000 in
theorem spec_DrawReadTerm.calls (k : Nat) (A0 : Option Addr) (c0 : Nat) (l0 : List Int) (r1 : List (S34)) (r2 : ByteArray) (w : World) (hr0 : Kd.C (Kd.int .u8) w A0 l0.length l0) (hc0 : l0.length ≤ c0) (h : spec_DrawReadTerm.f k l0 = some (r1, r2)) :
  Calls Try.prog 67 #[.slice A0 l0.length c0] w fun e w' => ∃ v0_ : Value, e = .returned (.tuple #[.agg #[v0_], .string r2]) ∧ Kd.R k34 34 w' w.heap.size (fun _ => True) v0_ r1 ∧ Below w.heap.size w w' := by
 have hu26 := Try.underlying26
 have HR0 := Aside0.mk hr0
 have HC0 := Aside0.mk hc0
 clear hr0 hc0
 have HB := Aside0.mk (Below.refl w.heap.size w)
 have H : ((spec_l01New.f k l0).bind fun bt425 => ((spec_l01Below.f bt425.1 bt425.2.1 bt425.2.2 5).bind fun bt429 => ((spec_l03Arena.f bt425.1 bt429.2.1 bt429.2.2).bind fun bt432 => ((spec_TermText.f k bt432.1 (wrap64 ((bt432.1.length : Int) - 1))).bind fun bt438 => ((spec_l03Any.f bt425.1 bt432.2.1 bt432.2.2).bind fun bt440 => (if bt429.1 = 0 then ((spec_l02Spoilt.f k bt425.1 bt440.2.1 bt440.2.2 bt438.1).bind fun bt446 => (some (bt440.1, bt446.1))) else (if bt429.1 = 1 then (if bt438.1.size + 1 ≤ 9223372036854775807 then (some (bt440.1, bt438.1 ++ (⟨#[1]⟩ : ByteArray))) else (none)) else (if bt429.1 = 2 then (some (bt432.1, bt438.1)) else (some (bt440.1, bt438.1)))))))))) = some (r1, r2) := h
 clear h
 replace H := Option.bind_eq_some_iff.mp H
 obtain ⟨⟨t425, t426, t427⟩, A20, H⟩ := H
 replace H : ((spec_l01Below.f t425 t426 t427 5).bind fun bt429 => ((spec_l03Arena.f t425 bt429.2.1 bt429.2.2).bind fun bt432 => ((spec_TermText.f k bt432.1 (wrap64 ((bt432.1.length : Int) - 1))).bind fun bt438 => ((spec_l03Any.f t425 bt432.2.1 bt432.2.2).bind fun bt440 => (if bt429.1 = 0 then ((spec_l02Spoilt.f k t425 bt440.2.1 bt440.2.2 bt438.1).bind fun bt446 => (some (bt440.1, bt446.1))) else (if bt429.1 = 1 then (if bt438.1.size + 1 ≤ 9223372036854775807 then (some (bt440.1, bt438.1 ++ (⟨#[1]⟩ : ByteArray))) else (none)) else (if bt429.1 = 2 then (some (bt432.1, bt438.1)) else (some (bt440.1, bt438.1))))))))) = some (r1, r2) := H
 have A2 := Aside0.mk A20
 clear A20
 replace H := Option.bind_eq_some_iff.mp H
 obtain ⟨⟨t429, t430, t431⟩, A30, H⟩ := H
 replace H : ((spec_l03Arena.f t425 t430 t431).bind fun bt432 => ((spec_TermText.f k bt432.1 (wrap64 ((bt432.1.length : Int) - 1))).bind fun bt438 => ((spec_l03Any.f t425 bt432.2.1 bt432.2.2).bind fun bt440 => (if t429 = 0 then ((spec_l02Spoilt.f k t425 bt440.2.1 bt440.2.2 bt438.1).bind fun bt446 => (some (bt440.1, bt446.1))) else (if t429 = 1 then (if bt438.1.size + 1 ≤ 9223372036854775807 then (some (bt440.1, bt438.1 ++ (⟨#[1]⟩ : ByteArray))) else (none)) else (if t429 = 2 then (some (bt432.1, bt438.1)) else (some (bt440.1, bt438.1)))))))) = some (r1, r2) := H
 have A3 := Aside0.mk A30
 clear A30
 replace H := Option.bind_eq_some_iff.mp H
 obtain ⟨⟨t432, t435, t436⟩, A40, H⟩ := H
 replace H : ((spec_TermText.f k t432 (wrap64 ((t432.length : Int) - 1))).bind fun bt438 => ((spec_l03Any.f t425 t435 t436).bind fun bt440 => (if t429 = 0 then ((spec_l02Spoilt.f k t425 bt440.2.1 bt440.2.2 bt438.1).bind fun bt446 => (some (bt440.1, bt446.1))) else (if t429 = 1 then (if bt438.1.size + 1 ≤ 9223372036854775807 then (some (bt440.1, bt438.1 ++ (⟨#[1]⟩ : ByteArray))) else (none)) else (if t429 = 2 then (some (t432, bt438.1)) else (some (bt440.1, bt438.1))))))) = some (r1, r2) := H
 have A4 := Aside0.mk A40
 clear A40
 replace H := Option.bind_eq_some_iff.mp H
 obtain ⟨⟨t438, t439⟩, A50, H⟩ := H
 replace H : ((spec_l03Any.f t425 t435 t436).bind fun bt440 => (if t429 = 0 then ((spec_l02Spoilt.f k t425 bt440.2.1 bt440.2.2 t438).bind fun bt446 => (some (bt440.1, bt446.1))) else (if t429 = 1 then (if t438.size + 1 ≤ 9223372036854775807 then (some (bt440.1, t438 ++ (⟨#[1]⟩ : ByteArray))) else (none)) else (if t429 = 2 then (some (t432, t438)) else (some (bt440.1, t438)))))) = some (r1, r2) := H
 have A5 := Aside0.mk A50
 clear A50
 replace H := Option.bind_eq_some_iff.mp H
 obtain ⟨⟨t440, t443, t444⟩, A60, H⟩ := H
 replace H : (if t429 = 0 then ((spec_l02Spoilt.f k t425 t443 t444 t438).bind fun bt446 => (some (t440, bt446.1))) else (if t429 = 1 then (if t438.size + 1 ≤ 9223372036854775807 then (some (t440, t438 ++ (⟨#[1]⟩ : ByteArray))) else (none)) else (if t429 = 2 then (some (t432, t438)) else (some (t440, t438))))) = some (r1, r2) := H
 have A6 := Aside0.mk A60
 clear A60
 by_cases c7 : t429 = 0
 ·rw [if_pos c7] at H
  have c7b0 : (t429 == 0) = true := beq_iff_eq.mpr c7
  have c7b1 : (t429 != 0) = false := bne_eq_false_iff_eq.mpr c7
  clear c7
  replace H := Option.bind_eq_some_iff.mp H
  obtain ⟨⟨t446, t447, t448⟩, A80, H⟩ := H
  replace H : (some (t440, t446)) = some (r1, r2) := H
  have A8 := Aside0.mk A80
  clear A80
  simp only [Option.some.injEq, Prod.mk.injEq] at H
  obtain ⟨rfl, rfl⟩ := H
  go_enter Try.func67, Try.ntmps67
  try go_wp2_with (first | ((with_reducible refine gate_dst (N := 2) rfl ?_); refine box_event ?hg (N := 2) ?hd (cs := #[.slice none 0 0]) (t := 26) ?hr ?_; (case hd => rfl); (case hg => rfl); (case hr => first | (go_simp; done) | (go_simp; rfl)); intro gb424 hg w9 hbox hb; have n0_ := Aside0.mk (below_step (bw HB.out) hb); have n1_ := Aside0.mk (hbox); have n2_ := Aside0.mk ((by rw [hg]; exact (below_size (bw HB.out)) : w.heap.size ≤ gb424)); have n3_ := Aside0.mk ((by rw [hg]; exact (below_size (bw HB.out)) : w.heap.size ≤ gb424)); clear HB; have HB := n0_; have BK424 := n1_; have GW424 := n2_; have GE424 := n3_; clear n0_ n1_ n2_ n3_ hb hbox hg) | ((with_reducible refine gate_callee (f := 68) rfl ?_); refine goesL_ (some 11) rfl rfl Try.func68 (by kernel_rfl) rfl #[.slice A0 l0.length c0] rfl ar ?_; (with_reducible refine (spec_l01New.calls k _ _ l0 t425 t426 t427 w _ ?side1 ?side2 ?side3 A2.out).mono ?_); (case side1 => exact bw HB.out); (case side2 => exact HR0.out); (case side3 => exact HC0.out); rintro e w10 ⟨g428, rfl, hi, hb, hb2⟩; refine ⟨_, rfl, ?_⟩; have n0_ := Aside0.mk (blk_below (g := gb424) (o := .cells #[.slice none 0 0] 26 (0, 0)) (bl BK424.out) hb2); have n1_ := Aside0.mk (hb); have n2_ := Aside0.mk (hi); have n3_ := Aside0.mk (IsS119.ne_blk hi (blk_below (g := gb424) (o := .cells #[.slice none 0 0] 26 (0, 0)) (bl BK424.out) hb2) (by decide)); have n4_ := Aside0.mk (Ne.symm (IsS119.ne_blk hi (blk_below (g := gb424) (o := .cells #[.slice none 0 0] 26 (0, 0)) (bl BK424.out) hb2) (by decide))); clear BK424 HB; have BK424 := n0_; have HB := n1_; have HI428 := n2_; have NB428_424 := n3_; have NB424_428 := n4_; clear n0_ n1_ n2_ n3_ n4_; (try clear hb); (try clear hb2); (try clear hk); (try clear hi)) | ((with_reducible refine gate_callee (f := 70) rfl ?_); refine goesL_ (some 13) rfl rfl Try.func70 (by kernel_rfl) rfl #[.pointer (some ⟨g428, 0, none⟩), .int .i64 5] rfl ar ?_; (with_reducible refine (spec_l01Below.calls g428 t425 t426 t427 5 t429 t430 t431 w _ ?side1 ?side2 A3.out).mono ?_); (case side1 => exact i9 HI428.out); (case side2 => exact b9 HB.out); rintro e w11 ⟨rfl, hi, hb, hk⟩; refine ⟨_, rfl, ?_⟩; have n0_ := Aside0.mk (KeepBut.blk hk (g' := gb424) (o := .cells #[.slice none 0 0] 26 (0, 0)) (bl BK424.out) NB424_428.out (by simp)); have n1_ := Aside0.mk (hb); have n2_ := Aside0.mk (hi); clear BK424 HB HI428; have BK424 := n0_; have HB := n1_; have HI428 := n2_; clear n0_ n1_ n2_; (try clear hb); (try clear hb2); (try clear hk); (try clear hi)) | ((with_reducible refine gate_callee (f := 69) rfl ?_); refine goesL_ (some 15) rfl rfl Try.func69 (by kernel_rfl) rfl #[.pointer (some ⟨g428, 0, none⟩)] rfl ar ?_; (with_reducible refine (spec_l03Arena.calls g428 t425 t430 t431 t432 t435 t436 w _ ?side1 ?side2 A4.out).mono ?_); (case side1 => exact i9 HI428.out); (case side2 => exact b9 HB.out); rintro e w12 ⟨v433, rfl, ho0, hi, hb, hk⟩; refine ⟨_, rfl, ?_⟩; have n0_ := Aside0.mk (KeepBut.blk hk (g' := gb424) (o := .cells #[.slice none 0 0] 26 (0, 0)) (bl BK424.out) NB424_428.out (by simp)); have n1_ := Aside0.mk (Kd.R_lower ho0 (below_size (b9 HB.out))); have n2_ := Aside0.mk (hb); have n3_ := Aside0.mk (hi); clear BK424 HB HI428; have BK424 := n0_; have HO434 := n1_; have HB := n2_; have HI428 := n3_; clear n0_ n1_ n2_ n3_; (try clear hb); (try clear hb2); (try clear hk); (try clear hi); (try clear ho0)) | ((with_reducible refine gate_dst (N := 6) rfl ?_); refine box_event ?hg (N := 6) ?hd (cs := #[.slice none 0 0]) (t := 26) ?hr ?_; (case hd => rfl); (case hg => rfl); (case hr => first | (go_simp; done) | (go_simp; rfl)); intro gb437 hg w13 hbox hb; have n0_ := Aside0.mk (Kd.R_below (rl HO434.out) hb); have n1_ := Aside0.mk (blk_below (g := gb424) (o := .cells #[.slice none 0 0] 26 (0, 0)) (bl BK424.out) hb); have n2_ := Aside0.mk (IsS119.below (i9 HI428.out) hb); have n3_ := Aside0.mk (below_step (b9 HB.out) hb); have n4_ := Aside0.mk (hbox); have n5_ := Aside0.mk ((by rw [hg]; exact (below_size (b9 HB.out)) : w.heap.size ≤ gb437)); have n6_ := Aside0.mk ((by rw [hg]; exact (below_size (b9 HB.out)) : w.heap.size ≤ gb437)); have n7_ := Aside0.mk ((by rw [hg]; exact Nat.ne_of_lt (blk_lt (g := gb424) (o := .cells #[.slice none 0 0] 26 (0, 0)) (bl BK424.out)) : gb424 ≠ gb437)); have n8_ := Aside0.mk ((by rw [hg]; exact Nat.ne_of_gt (blk_lt (g := gb424) (o := .cells #[.slice none 0 0] 26 (0, 0)) (bl BK424.out)) : gb437 ≠ gb424)); have n9_ := Aside0.mk ((by rw [hg]; exact Nat.ne_of_lt (IsS119.lt (show IsS119 w _ g428 t425 t435 t436 from i9 HI428.out)) : g428 ≠ gb437)); have n10_ := Aside0.mk ((by rw [hg]; exact Nat.ne_of_gt (IsS119.lt (show IsS119 w _ g428 t425 t435 t436 from i9 HI428.out)) : gb437 ≠ g428)); clear HO434 BK424 HI428 HB; have HO434 := n0_; have BK424 := n1_; have HI428 := n2_; have HB := n3_; have BK437 := n4_; have GW437 := n5_; have GE437 := n6_; have NB424_437 := n7_; have NB437_424 := n8_; have NB428_437 := n9_; have NB437_428 := n10_; clear n0_ n1_ n2_ n3_ n4_ n5_ n6_ n7_ n8_ n9_ n10_ hb hbox hg; obtain ⟨Ao14, co14, eo14⟩ := Kd.R_slice HO434.out; subst eo14; have hnb15 := NB437_424.out; have hnc15 := NB424_437.out; have hnb16 := NB437_428.out; have hnc16 := NB428_437.out; have hcz17_0 : w13.cell? ⟨gb437, 0, none⟩ = some (.slice none 0 0) := (blk_cell BK437.out 0).trans rfl; have hfz17_0 := blk_frozen BK437.out 0) | ((with_reducible refine gate_callee (f := 31) rfl ?_); refine goesL_ (some 22) rfl rfl Try.func31 (by kernel_rfl) rfl #[.agg #[.slice Ao14 t432.length co14], .int .i64 (wrap64 ((t432.length : Int) - 1))] rfl ar ?_; (with_reducible refine (spec_TermText.calls k _ _ t432 (wrap64 ((t432.length : Int) - 1)) t438 t439 _ ?side1 ?side2 A5.out).mono ?_); (case side1 => refine (Kd.R_reads' (e := 34) (base := w.heap.size) (ok := fun k_ => True) (n := t432.length) (c := co14) ?_).2.2; exact (by (with_reducible repeat (first | apply Kd.R_alloc | apply Kd.R_drewN | apply Kd.R_drew)); exact (Kd.R_mono (Kd.R_far (p := ⟨gb437, 0, none⟩) (Kd.R_types HO434.out BK437.out (by decide)) (fun _ hk => hk.2) (.slice Ao14 t432.length co14)) (fun _ h_ => h_.1)))); (case side2 => exact (Kd.R_reads' HO434.out).2.1); rintro e w18 ⟨rfl, hb⟩; refine ⟨_, rfl, ?_⟩; have n0_ := Aside0.mk (Kd.R_below (by (with_reducible repeat (first | apply Kd.R_alloc | apply Kd.R_drewN | apply Kd.R_drew)); exact (Kd.R_mono (Kd.R_far (p := ⟨gb437, 0, none⟩) (Kd.R_types HO434.out BK437.out (by decide)) (fun _ hk => hk.2) (.slice Ao14 t432.length co14)) (fun _ h_ => h_.1))) hb); have n1_ := Aside0.mk (blk_below (g := gb424) (o := .cells #[.slice none 0 0] 26 (0, 0)) (by (with_reducible repeat (first | refine blk_drewN ?_ _ | refine blk_drew ?_ | refine blk_alloc ?_ _)); refine blk_far ?_ NB424_437.out _; exact bl BK424.out) hb); have n2_ := Aside0.mk (IsS119.below (show IsS119 w (w13.setCell ⟨gb437, 0, none⟩ (.slice Ao14 t432.length co14)) g428 t425 t435 t436 from i9 HI428.out) hb); have n3_ := Aside0.mk (blk_below (g := gb437) (o := .cells #[.slice Ao14 t432.length co14] 26 (0, 0)) (by (with_reducible repeat (first | refine blk_drewN ?_ _ | refine blk_drew ?_ | refine blk_alloc ?_ _)); refine blk_put (cs := #[.slice none 0 0]) ?_ 0 _ rfl; exact bl BK437.out) hb); have n4_ := Aside0.mk (below_step (b9 HB.out) hb); clear HO434 BK424 HI428 BK437 HB; have HO434 := n0_; have BK424 := n1_; have HI428 := n2_; have BK437 := n3_; have HB := n4_; clear n0_ n1_ n2_ n3_ n4_; (try clear hb); (try clear hb2); (try clear hk); (try clear hi)) | ((with_reducible refine gate_callee (f := 76) rfl ?_); refine goesL_ (some 26) rfl rfl Try.func76 (by kernel_rfl) rfl #[.pointer (some ⟨g428, 0, none⟩)] rfl ar ?_; (with_reducible refine (spec_l03Any.calls g428 t425 t435 t436 t440 t443 t444 w _ ?side1 ?side2 A6.out).mono ?_); (case side1 => exact i9 HI428.out); (case side2 => exact b9 HB.out); rintro e w19 ⟨v441, rfl, ho0, hi, hb, hk⟩; refine ⟨_, rfl, ?_⟩; have n0_ := Aside0.mk (KeepBut.blk hk (g' := gb424) (o := .cells #[.slice none 0 0] 26 (0, 0)) (bl BK424.out) NB424_428.out (by simp)); have n1_ := Aside0.mk (Kd.R_mono (Kd.R_told (Kd.R_oldK (IsS119.apart (show IsS119 w _ g428 t425 t435 t436 from i9 HI428.out) (rl HO434.out) (by decide)) hk) (Kd.R_base ho0)) (fun _ h_ => h_.1)); have n2_ := Aside0.mk (KeepBut.blk hk (g' := gb437) (o := .cells #[.slice Ao14 t432.length co14] 26 (0, 0)) (bl BK437.out) NB437_428.out (by simp)); have n3_ := Aside0.mk (Kd.R_lower (Kd.R_new' ho0 (Kd.R_lt (rl HO434.out))) (below_size (b9 HB.out))); have n4_ := Aside0.mk (hb); have n5_ := Aside0.mk (hi); clear BK424 HO434 BK437 HB HI428; have BK424 := n0_; have HO434 := n1_; have BK437 := n2_; have HO442 := n3_; have HB := n4_; have HI428 := n5_; clear n0_ n1_ n2_ n3_ n4_ n5_; (try clear hb); (try clear hb2); (try clear hk); (try clear hi); (try clear ho0)) | ((with_reducible refine gate_dst (N := 9) rfl ?_); refine box_event ?hg (N := 9) ?hd (cs := #[.slice none 0 0]) (t := 26) ?hr ?_; (case hd => rfl); (case hg => rfl); (case hr => first | (go_simp; done) | (go_simp; rfl)); intro gb445 hg w20 hbox hb; have n0_ := Aside0.mk (Kd.R_below (rl HO434.out) hb); have n1_ := Aside0.mk (Kd.R_below (rl HO442.out) hb); have n2_ := Aside0.mk (blk_below (g := gb424) (o := .cells #[.slice none 0 0] 26 (0, 0)) (bl BK424.out) hb); have n3_ := Aside0.mk (IsS119.below (i9 HI428.out) hb); have n4_ := Aside0.mk (blk_below (g := gb437) (o := .cells #[.slice Ao14 t432.length co14] 26 (0, 0)) (bl BK437.out) hb); have n5_ := Aside0.mk (below_step (b9 HB.out) hb); have n6_ := Aside0.mk (hbox); have n7_ := Aside0.mk ((by rw [hg]; exact (below_size (b9 HB.out)) : w.heap.size ≤ gb445)); have n8_ := Aside0.mk ((by rw [hg]; exact (below_size (b9 HB.out)) : w.heap.size ≤ gb445)); have n9_ := Aside0.mk ((by rw [hg]; exact Nat.ne_of_lt (blk_lt (g := gb424) (o := .cells #[.slice none 0 0] 26 (0, 0)) (bl BK424.out)) : gb424 ≠ gb445)); have n10_ := Aside0.mk ((by rw [hg]; exact Nat.ne_of_gt (blk_lt (g := gb424) (o := .cells #[.slice none 0 0] 26 (0, 0)) (bl BK424.out)) : gb445 ≠ gb424)); have n11_ := Aside0.mk ((by rw [hg]; exact Nat.ne_of_lt (blk_lt (g := gb437) (o := .cells #[.slice Ao14 t432.length co14] 26 (0, 0)) (bl BK437.out)) : gb437 ≠ gb445)); have n12_ := Aside0.mk ((by rw [hg]; exact Nat.ne_of_gt (blk_lt (g := gb437) (o := .cells #[.slice Ao14 t432.length co14] 26 (0, 0)) (bl BK437.out)) : gb445 ≠ gb437)); have n13_ := Aside0.mk ((by rw [hg]; exact Nat.ne_of_lt (IsS119.lt (show IsS119 w _ g428 t425 t443 t444 from i9 HI428.out)) : g428 ≠ gb445)); have n14_ := Aside0.mk ((by rw [hg]; exact Nat.ne_of_gt (IsS119.lt (show IsS119 w _ g428 t425 t443 t444 from i9 HI428.out)) : gb445 ≠ g428)); clear HO434 HO442 BK424 HI428 BK437 HB; have HO434 := n0_; have HO442 := n1_; have BK424 := n2_; have HI428 := n3_; have BK437 := n4_; have HB := n5_; have BK445 := n6_; have GW445 := n7_; have GE445 := n8_; have NB424_445 := n9_; have NB445_424 := n10_; have NB437_445 := n11_; have NB445_437 := n12_; have NB428_445 := n13_; have NB445_428 := n14_; clear n0_ n1_ n2_ n3_ n4_ n5_ n6_ n7_ n8_ n9_ n10_ n11_ n12_ n13_ n14_ hb hbox hg; obtain ⟨Ao21, co21, eo21⟩ := Kd.R_slice HO442.out; subst eo21; have hnb22 := NB445_424.out; have hnc22 := NB424_445.out; have hnb23 := NB445_437.out; have hnc23 := NB437_445.out; have hnb24 := NB445_428.out; have hnc24 := NB428_445.out; have hcz25_0 : w20.cell? ⟨gb445, 0, none⟩ = some (.slice none 0 0) := (blk_cell BK445.out 0).trans rfl; have hfz25_0 := blk_frozen BK445.out 0))
  have n0_ : Aside0 (Kd.R k34 34 (w20.setCell ⟨gb445, 0, none⟩ (.slice Ao21 t440.length co21)) w.heap.size (fun k_ => some k_ ≠ (.slice Ao21 t440.length co21 : Value).ownBlock) (.slice Ao14 t432.length co14) t432) := ⟨by (with_reducible repeat (first | apply Kd.R_alloc | apply Kd.R_drewN | apply Kd.R_drew)); exact Kd.R_mono (Kd.R_far (p := ⟨gb445, 0, none⟩) (Kd.R_types HO434.out BK445.out (by decide)) (fun _ hk => hk.2) (.slice Ao21 t440.length co21)) (fun _ hk => hk.1.2)⟩
  have n1_ : Aside0 (Kd.R k34 34 (w20.setCell ⟨gb445, 0, none⟩ (.slice Ao21 t440.length co21)) w.heap.size (fun k_ => some k_ ≠ (.slice Ao14 t432.length co14 : Value).ownBlock) (.slice Ao21 t440.length co21) t440) := ⟨by (with_reducible repeat (first | apply Kd.R_alloc | apply Kd.R_drewN | apply Kd.R_drew)); exact Kd.R_mono (Kd.R_far (p := ⟨gb445, 0, none⟩) (Kd.R_types HO442.out BK445.out (by decide)) (fun _ hk => hk.2) (.slice Ao21 t440.length co21)) (fun _ hk => hk.1.2)⟩
  have n2_ : Aside0 ((w20.setCell ⟨gb445, 0, none⟩ (.slice Ao21 t440.length co21)).heap[gb424]? = some (.cells #[.slice none 0 0] 26 (0, 0))) := ⟨by (with_reducible repeat (first | refine blk_drewN ?_ _ | refine blk_drew ?_ | refine blk_alloc ?_ _)); refine blk_far ?_ NB424_445.out _; exact bl BK424.out⟩
  have n3_ : Aside0 ((w20.setCell ⟨gb445, 0, none⟩ (.slice Ao21 t440.length co21)).heap[gb437]? = some (.cells #[.slice Ao14 t432.length co14] 26 (0, 0))) := ⟨by (with_reducible repeat (first | refine blk_drewN ?_ _ | refine blk_drew ?_ | refine blk_alloc ?_ _)); refine blk_far ?_ NB437_445.out _; exact bl BK437.out⟩
  have n4_ : Aside0 ((w20.setCell ⟨gb445, 0, none⟩ (.slice Ao21 t440.length co21)).heap[gb445]? = some (.cells #[.slice Ao21 t440.length co21] 26 (0, 0))) := ⟨by (with_reducible repeat (first | refine blk_drewN ?_ _ | refine blk_drew ?_ | refine blk_alloc ?_ _)); refine blk_put (cs := #[.slice none 0 0]) ?_ 0 _ rfl; exact bl BK445.out⟩
  have n5_ : Aside0 (IsS119 w (w20.setCell ⟨gb445, 0, none⟩ (.slice Ao21 t440.length co21)) g428 t425 t443 t444) := ⟨i9 HI428.out⟩
  have n6_ : Aside0 (Below w.heap.size w (w20.setCell ⟨gb445, 0, none⟩ (.slice Ao21 t440.length co21))) := ⟨b9 HB.out⟩
  (try clear HO434)
  (try clear HO442)
  (try clear BK424)
  (try clear BK437)
  (try clear BK445)
  (try clear HI428)
  (try clear HB)
  generalize (w20.setCell ⟨gb445, 0, none⟩ (.slice Ao21 t440.length co21)) = w26 at n0_ n1_ n2_ n3_ n4_ n5_ n6_ ⊢
  have HO434 := n0_
  have HO442 := n1_
  have BK424 := n2_
  have BK437 := n3_
  have BK445 := n4_
  have HI428 := n5_
  have HB := n6_
  clear n0_ n1_ n2_ n3_ n4_ n5_ n6_
  have n0_ := Aside0.mk (Kd.R_drew HO434.out)
  have n1_ := Aside0.mk (Kd.R_drew HO442.out)
  have n2_ := Aside0.mk (blk_drew BK424.out)
  have n3_ := Aside0.mk (blk_drew BK437.out)
  have n4_ := Aside0.mk (blk_drew BK445.out)
  have n5_ := Aside0.mk (IsS119.drew HI428.out)
  have n6_ := Aside0.mk (below_drew1 HB.out)
  clear HO434
  clear HO442
  clear BK424
  clear BK437
  clear BK445
  clear HI428
  clear HB
  have HO434 := n0_
  have HO442 := n1_
  have BK424 := n2_
  have BK437 := n3_
  have BK445 := n4_
  have HI428 := n5_
  have HB := n6_
  clear n0_ n1_ n2_ n3_ n4_ n5_ n6_
  refine start_ (n := 6) (S := fun w' => w'.cell? ⟨gb445, 0, none⟩ = some (.slice Ao21 t440.length co21)) (ds := []) #[false, false, false, false, false, false] (by kernel_rfl) rfl rfl ((blk_cell BK445.out 0).trans rfl) (fun hHeld => ?_)
  generalize w26.drew = w27 at HO434 HO442 BK424 BK437 BK445 HI428 HB hHeld ⊢
  refine pure_ (i := 1) (N := some 31) (v := ?_) (a' := ?_) #[false, true, false, false, false, false] rfl rfl (by kernel_rfl) (fun _ _ _ h => h) (Or.inl ⟨by rfl, ?_⟩) ?_ ?_
  rotate_left
  ·intro w'
   go_simp
   with_reducible rfl
  rotate_left
  ·simp only [Act.put, List.setIfInBounds_toArray, List.set_cons_zero, List.set_cons_succ, i64_w, i32_w]
   rfl
  refine pure_ (i := 2) (N := some 32) (v := ?_) (a' := ?_) #[false, true, true, false, false, false] rfl rfl (by kernel_rfl) (fun _ _ _ h => h) (Or.inl ⟨by rfl, ?_⟩) ?_ ?_
  rotate_left
  ·intro w'
   go_simp
   with_reducible rfl
  rotate_left
  ·simp only [Act.put, List.setIfInBounds_toArray, List.set_cons_zero, List.set_cons_succ, i64_w, i32_w]
   rfl
  refine take_ (i := 0) (N := some 30) (v := ?_) (a' := ?_) #[true, true, true, false, false, false] rfl rfl (by kernel_rfl) (fun _ _ _ h => h) (Or.inl ⟨by rfl, ?_⟩) hHeld ?_ ?_
  rotate_left
  ·intro w' s0
   go_simp
   with_reducible rfl
  rotate_left
  ·simp only [Act.put, List.setIfInBounds_toArray, List.set_cons_zero, List.set_cons_succ, i64_w, i32_w]
   rfl
  refine one_ (i := 3) (N := some 33) #[true, true, true, true, false, false] rfl rfl (by kernel_rfl) (by decide) (fun K hK => ?_)
  refine goes_ Try.func116 (by kernel_rfl) rfl #[.pointer (some ⟨g428, 0, none⟩), .string t438] (by rfl) rfl rfl ar ?_
  with_reducible refine (spec_l02Spoilt.calls k g428 t425 t443 t444 t438 t446 t447 t448 w _ ?side1 ?side2 A8.out).mono ?_
  (case side1 => exact i9 HI428.out)
  (case side2 => exact b9 HB.out)
  rintro e w28 ⟨rfl, hi, hb, hk⟩
  refine ⟨_, rfl, ?_⟩
  have n0_ := Aside0.mk (KeepBut.blk hk (g' := gb424) (o := .cells #[.slice none 0 0] 26 (0, 0)) (bl BK424.out) NB424_428.out (by simp))
  have n1_ := Aside0.mk (Kd.R_mono (Kd.R_keep (IsS119.apart (show IsS119 w _ g428 t425 t443 t444 from i9 HI428.out) (rl HO434.out) (by decide)) hk (fun _ h => h.2)) (fun _ h => h.1))
  have n2_ := Aside0.mk (KeepBut.blk hk (g' := gb437) (o := .cells #[.slice Ao14 t432.length co14] 26 (0, 0)) (bl BK437.out) NB437_428.out (by simp))
  have n3_ := Aside0.mk (Kd.R_mono (Kd.R_keep (IsS119.apart (show IsS119 w _ g428 t425 t443 t444 from i9 HI428.out) (rl HO442.out) (by decide)) hk (fun _ h => h.2)) (fun _ h => h.1))
  have n4_ := Aside0.mk (KeepBut.blk hk (g' := gb445) (o := .cells #[.slice Ao21 t440.length co21] 26 (0, 0)) (bl BK445.out) NB445_428.out (by simp))
  have n5_ := Aside0.mk (hb)
  have n6_ := Aside0.mk (hi)
  clear BK424
  clear HO434
  clear BK437
  clear HO442
  clear BK445
  clear HB
  clear HI428
  have BK424 := n0_
  have HO434 := n1_
  have BK437 := n2_
  have HO442 := n3_
  have BK445 := n4_
  have HB := n5_
  have HI428 := n6_
  clear n0_ n1_ n2_ n3_ n4_ n5_ n6_
  (try clear hb)
  (try clear hb2)
  (try clear hk)
  (try clear hi)
  refine hK.out _ _ ((blk_cell BK445.out 0).trans rfl) (fun hHeld => ?_)
  clear hK K
  refine norm_ (a' := ?_) ?_ ?_
  rotate_left
  ·show Act.put _ (some 33) _ = _
   simp only [Act.put, List.setIfInBounds_toArray, List.set_cons_zero, List.set_cons_succ, i64_w, i32_w]
   rfl
  refine one_ (i := 4) (N := none) #[true, true, true, true, true, false] rfl rfl (by kernel_rfl) (by decide) (fun K hK => ?_)
  have hs29 : w28.cell? ⟨gb424, 0, none⟩ = some (.slice none 0 0) := (blk_cell BK424.out 0).trans rfl
  have hfs29 := blk_frozen BK424.out 0
  have hns29_1 := NB437_424.out
  have hns29_2 := NB445_424.out
  have hms29_1 := NB424_437.out
  have hms29_2 := NB424_445.out
  refine skip_ (w1 := ?_) (by rfl) rfl ?_ ?_
  rotate_left
  ·go_simp
   rfl
  refine hK.out _ _ (((cell_far (p := ⟨gb424, _, none⟩) NB445_424.out _).trans (hHeld))) (fun hHeld => ?_)
  clear hK K
  refine pure_ (i := 5) (N := some 3) (v := ?_) (a' := ?_) #[true, true, true, true, true, true] rfl rfl (by kernel_rfl) (fun _ _ _ h => h) (Or.inl ⟨by rfl, ?_⟩) ?_ ?_
  rotate_left
  ·intro w'
   go_simp
   with_reducible rfl
  rotate_left
  ·simp only [Act.put, List.setIfInBounds_toArray, List.set_cons_zero, List.set_cons_succ, i64_w, i32_w]
   rfl
  refine done_ (by kernel_rfl) ?_
  try go_wp2
  refine bodyPost_ret (results_ct rfl _ _ gb424 26 #[.slice Ao21 t440.length co21] (0, 0) _ rfl (by (with_reducible repeat (first | refine blk_drewN ?_ _ | refine blk_drew ?_ | refine blk_alloc ?_ _)); refine blk_put (cs := #[.slice none 0 0]) ?_ 0 _ rfl; exact bl BK424.out) Try.underlying26 rfl (by kernel_rfl)) rfl ?_
  exact ⟨_, by first | rfl | (simp [errW_none, errW_some] <;> rfl) | (simp [*, errW_none, errW_some] <;> rfl), by (with_reducible repeat (first | apply Kd.R_alloc | apply Kd.R_drewN | apply Kd.R_drew)); exact Kd.R_mono (Kd.R_far (p := ⟨gb424, 0, none⟩) (Kd.R_types HO442.out BK424.out (by decide)) (fun _ hk => hk.2) (.slice Ao21 t440.length co21)) (fun _ hk => trivial), b9 HB.out⟩
 ·rw [if_neg c7] at H
  have c7b0 : (t429 == 0) = false := beq_eq_false_iff_ne.mpr c7
  have c7b1 : (t429 != 0) = true := bne_iff_ne.mpr c7
  by_cases c30 : t429 = 1
  ·rw [if_pos c30] at H
   have c30b0 : (t429 == 1) = true := beq_iff_eq.mpr c30
   have c30b1 : (t429 != 1) = false := bne_eq_false_iff_eq.mpr c30
   clear c30
   by_cases c31 : t438.size + 1 ≤ 9223372036854775807
   ·rw [if_pos c31] at H
    have c31b0 := eq_true c31
    have c31b1 : decide (t438.size + 1 ≤ 9223372036854775807) = true := decide_eq_true c31
    try have c31b2 : (9223372036854775807 < t438.size + 1) = False := eq_false (Nat.not_lt.2 c31)
    simp only [Option.some.injEq, Prod.mk.injEq] at H
    obtain ⟨rfl, rfl⟩ := H
    go_enter Try.func67, Try.ntmps67
    go_wp2_with (first | ((with_reducible refine gate_dst (N := 2) rfl ?_); refine box_event ?hg (N := 2) ?hd (cs := #[.slice none 0 0]) (t := 26) ?hr ?_; (case hd => rfl); (case hg => rfl); (case hr => first | (go_simp; done) | (go_simp; rfl)); intro gb424 hg w32 hbox hb; have n0_ := Aside0.mk (below_step (bw HB.out) hb); have n1_ := Aside0.mk (hbox); have n2_ := Aside0.mk ((by rw [hg]; exact (below_size (bw HB.out)) : w.heap.size ≤ gb424)); have n3_ := Aside0.mk ((by rw [hg]; exact (below_size (bw HB.out)) : w.heap.size ≤ gb424)); clear HB; have HB := n0_; have BK424 := n1_; have GW424 := n2_; have GE424 := n3_; clear n0_ n1_ n2_ n3_ hb hbox hg) | ((with_reducible refine gate_callee (f := 68) rfl ?_); refine goesL_ (some 11) rfl rfl Try.func68 (by kernel_rfl) rfl #[.slice A0 l0.length c0] rfl ar ?_; (with_reducible refine (spec_l01New.calls k _ _ l0 t425 t426 t427 w _ ?side1 ?side2 ?side3 A2.out).mono ?_); (case side1 => exact bw HB.out); (case side2 => exact HR0.out); (case side3 => exact HC0.out); rintro e w33 ⟨g428, rfl, hi, hb, hb2⟩; refine ⟨_, rfl, ?_⟩; have n0_ := Aside0.mk (blk_below (g := gb424) (o := .cells #[.slice none 0 0] 26 (0, 0)) (bl BK424.out) hb2); have n1_ := Aside0.mk (hb); have n2_ := Aside0.mk (hi); have n3_ := Aside0.mk (IsS119.ne_blk hi (blk_below (g := gb424) (o := .cells #[.slice none 0 0] 26 (0, 0)) (bl BK424.out) hb2) (by decide)); have n4_ := Aside0.mk (Ne.symm (IsS119.ne_blk hi (blk_below (g := gb424) (o := .cells #[.slice none 0 0] 26 (0, 0)) (bl BK424.out) hb2) (by decide))); clear BK424 HB; have BK424 := n0_; have HB := n1_; have HI428 := n2_; have NB428_424 := n3_; have NB424_428 := n4_; clear n0_ n1_ n2_ n3_ n4_; (try clear hb); (try clear hb2); (try clear hk); (try clear hi)) | ((with_reducible refine gate_callee (f := 70) rfl ?_); refine goesL_ (some 13) rfl rfl Try.func70 (by kernel_rfl) rfl #[.pointer (some ⟨g428, 0, none⟩), .int .i64 5] rfl ar ?_; (with_reducible refine (spec_l01Below.calls g428 t425 t426 t427 5 t429 t430 t431 w _ ?side1 ?side2 A3.out).mono ?_); (case side1 => exact i9 HI428.out); (case side2 => exact b9 HB.out); rintro e w34 ⟨rfl, hi, hb, hk⟩; refine ⟨_, rfl, ?_⟩; have n0_ := Aside0.mk (KeepBut.blk hk (g' := gb424) (o := .cells #[.slice none 0 0] 26 (0, 0)) (bl BK424.out) NB424_428.out (by simp)); have n1_ := Aside0.mk (hb); have n2_ := Aside0.mk (hi); clear BK424 HB HI428; have BK424 := n0_; have HB := n1_; have HI428 := n2_; clear n0_ n1_ n2_; (try clear hb); (try clear hb2); (try clear hk); (try clear hi)) | ((with_reducible refine gate_callee (f := 69) rfl ?_); refine goesL_ (some 15) rfl rfl Try.func69 (by kernel_rfl) rfl #[.pointer (some ⟨g428, 0, none⟩)] rfl ar ?_; (with_reducible refine (spec_l03Arena.calls g428 t425 t430 t431 t432 t435 t436 w _ ?side1 ?side2 A4.out).mono ?_); (case side1 => exact i9 HI428.out); (case side2 => exact b9 HB.out); rintro e w35 ⟨v433, rfl, ho0, hi, hb, hk⟩; refine ⟨_, rfl, ?_⟩; have n0_ := Aside0.mk (KeepBut.blk hk (g' := gb424) (o := .cells #[.slice none 0 0] 26 (0, 0)) (bl BK424.out) NB424_428.out (by simp)); have n1_ := Aside0.mk (Kd.R_lower ho0 (below_size (b9 HB.out))); have n2_ := Aside0.mk (hb); have n3_ := Aside0.mk (hi); clear BK424 HB HI428; have BK424 := n0_; have HO434 := n1_; have HB := n2_; have HI428 := n3_; clear n0_ n1_ n2_ n3_; (try clear hb); (try clear hb2); (try clear hk); (try clear hi); (try clear ho0)) | ((with_reducible refine gate_dst (N := 6) rfl ?_); refine box_event ?hg (N := 6) ?hd (cs := #[.slice none 0 0]) (t := 26) ?hr ?_; (case hd => rfl); (case hg => rfl); (case hr => first | (go_simp; done) | (go_simp; rfl)); intro gb437 hg w36 hbox hb; have n0_ := Aside0.mk (Kd.R_below (rl HO434.out) hb); have n1_ := Aside0.mk (blk_below (g := gb424) (o := .cells #[.slice none 0 0] 26 (0, 0)) (bl BK424.out) hb); have n2_ := Aside0.mk (IsS119.below (i9 HI428.out) hb); have n3_ := Aside0.mk (below_step (b9 HB.out) hb); have n4_ := Aside0.mk (hbox); have n5_ := Aside0.mk ((by rw [hg]; exact (below_size (b9 HB.out)) : w.heap.size ≤ gb437)); have n6_ := Aside0.mk ((by rw [hg]; exact (below_size (b9 HB.out)) : w.heap.size ≤ gb437)); have n7_ := Aside0.mk ((by rw [hg]; exact Nat.ne_of_lt (blk_lt (g := gb424) (o := .cells #[.slice none 0 0] 26 (0, 0)) (bl BK424.out)) : gb424 ≠ gb437)); have n8_ := Aside0.mk ((by rw [hg]; exact Nat.ne_of_gt (blk_lt (g := gb424) (o := .cells #[.slice none 0 0] 26 (0, 0)) (bl BK424.out)) : gb437 ≠ gb424)); have n9_ := Aside0.mk ((by rw [hg]; exact Nat.ne_of_lt (IsS119.lt (show IsS119 w _ g428 t425 t435 t436 from i9 HI428.out)) : g428 ≠ gb437)); have n10_ := Aside0.mk ((by rw [hg]; exact Nat.ne_of_gt (IsS119.lt (show IsS119 w _ g428 t425 t435 t436 from i9 HI428.out)) : gb437 ≠ g428)); clear HO434 BK424 HI428 HB; have HO434 := n0_; have BK424 := n1_; have HI428 := n2_; have HB := n3_; have BK437 := n4_; have GW437 := n5_; have GE437 := n6_; have NB424_437 := n7_; have NB437_424 := n8_; have NB428_437 := n9_; have NB437_428 := n10_; clear n0_ n1_ n2_ n3_ n4_ n5_ n6_ n7_ n8_ n9_ n10_ hb hbox hg; obtain ⟨Ao37, co37, eo37⟩ := Kd.R_slice HO434.out; subst eo37; have hnb38 := NB437_424.out; have hnc38 := NB424_437.out; have hnb39 := NB437_428.out; have hnc39 := NB428_437.out; have hcz40_0 : w36.cell? ⟨gb437, 0, none⟩ = some (.slice none 0 0) := (blk_cell BK437.out 0).trans rfl; have hfz40_0 := blk_frozen BK437.out 0) | ((with_reducible refine gate_callee (f := 31) rfl ?_); refine goesL_ (some 22) rfl rfl Try.func31 (by kernel_rfl) rfl #[.agg #[.slice Ao37 t432.length co37], .int .i64 (wrap64 ((t432.length : Int) - 1))] rfl ar ?_; (with_reducible refine (spec_TermText.calls k _ _ t432 (wrap64 ((t432.length : Int) - 1)) t438 t439 _ ?side1 ?side2 A5.out).mono ?_); (case side1 => refine (Kd.R_reads' (e := 34) (base := w.heap.size) (ok := fun k_ => True) (n := t432.length) (c := co37) ?_).2.2; exact (by (with_reducible repeat (first | apply Kd.R_alloc | apply Kd.R_drewN | apply Kd.R_drew)); exact (Kd.R_mono (Kd.R_far (p := ⟨gb437, 0, none⟩) (Kd.R_types HO434.out BK437.out (by decide)) (fun _ hk => hk.2) (.slice Ao37 t432.length co37)) (fun _ h_ => h_.1)))); (case side2 => exact (Kd.R_reads' HO434.out).2.1); rintro e w41 ⟨rfl, hb⟩; refine ⟨_, rfl, ?_⟩; have n0_ := Aside0.mk (Kd.R_below (by (with_reducible repeat (first | apply Kd.R_alloc | apply Kd.R_drewN | apply Kd.R_drew)); exact (Kd.R_mono (Kd.R_far (p := ⟨gb437, 0, none⟩) (Kd.R_types HO434.out BK437.out (by decide)) (fun _ hk => hk.2) (.slice Ao37 t432.length co37)) (fun _ h_ => h_.1))) hb); have n1_ := Aside0.mk (blk_below (g := gb424) (o := .cells #[.slice none 0 0] 26 (0, 0)) (by (with_reducible repeat (first | refine blk_drewN ?_ _ | refine blk_drew ?_ | refine blk_alloc ?_ _)); refine blk_far ?_ NB424_437.out _; exact bl BK424.out) hb); have n2_ := Aside0.mk (IsS119.below (show IsS119 w (w36.setCell ⟨gb437, 0, none⟩ (.slice Ao37 t432.length co37)) g428 t425 t435 t436 from i9 HI428.out) hb); have n3_ := Aside0.mk (blk_below (g := gb437) (o := .cells #[.slice Ao37 t432.length co37] 26 (0, 0)) (by (with_reducible repeat (first | refine blk_drewN ?_ _ | refine blk_drew ?_ | refine blk_alloc ?_ _)); refine blk_put (cs := #[.slice none 0 0]) ?_ 0 _ rfl; exact bl BK437.out) hb); have n4_ := Aside0.mk (below_step (b9 HB.out) hb); clear HO434 BK424 HI428 BK437 HB; have HO434 := n0_; have BK424 := n1_; have HI428 := n2_; have BK437 := n3_; have HB := n4_; clear n0_ n1_ n2_ n3_ n4_; (try clear hb); (try clear hb2); (try clear hk); (try clear hi)) | ((with_reducible refine gate_callee (f := 76) rfl ?_); refine goesL_ (some 26) rfl rfl Try.func76 (by kernel_rfl) rfl #[.pointer (some ⟨g428, 0, none⟩)] rfl ar ?_; (with_reducible refine (spec_l03Any.calls g428 t425 t435 t436 t440 t443 t444 w _ ?side1 ?side2 A6.out).mono ?_); (case side1 => exact i9 HI428.out); (case side2 => exact b9 HB.out); rintro e w42 ⟨v441, rfl, ho0, hi, hb, hk⟩; refine ⟨_, rfl, ?_⟩; have n0_ := Aside0.mk (KeepBut.blk hk (g' := gb424) (o := .cells #[.slice none 0 0] 26 (0, 0)) (bl BK424.out) NB424_428.out (by simp)); have n1_ := Aside0.mk (Kd.R_mono (Kd.R_told (Kd.R_oldK (IsS119.apart (show IsS119 w _ g428 t425 t435 t436 from i9 HI428.out) (rl HO434.out) (by decide)) hk) (Kd.R_base ho0)) (fun _ h_ => h_.1)); have n2_ := Aside0.mk (KeepBut.blk hk (g' := gb437) (o := .cells #[.slice Ao37 t432.length co37] 26 (0, 0)) (bl BK437.out) NB437_428.out (by simp)); have n3_ := Aside0.mk (Kd.R_lower (Kd.R_new' ho0 (Kd.R_lt (rl HO434.out))) (below_size (b9 HB.out))); have n4_ := Aside0.mk (hb); have n5_ := Aside0.mk (hi); clear BK424 HO434 BK437 HB HI428; have BK424 := n0_; have HO434 := n1_; have BK437 := n2_; have HO442 := n3_; have HB := n4_; have HI428 := n5_; clear n0_ n1_ n2_ n3_ n4_ n5_; (try clear hb); (try clear hb2); (try clear hk); (try clear hi); (try clear ho0)) | ((with_reducible refine gate_dst (N := 9) rfl ?_); refine box_event ?hg (N := 9) ?hd (cs := #[.slice none 0 0]) (t := 26) ?hr ?_; (case hd => rfl); (case hg => rfl); (case hr => first | (go_simp; done) | (go_simp; rfl)); intro gb445 hg w43 hbox hb; have n0_ := Aside0.mk (Kd.R_below (rl HO434.out) hb); have n1_ := Aside0.mk (Kd.R_below (rl HO442.out) hb); have n2_ := Aside0.mk (blk_below (g := gb424) (o := .cells #[.slice none 0 0] 26 (0, 0)) (bl BK424.out) hb); have n3_ := Aside0.mk (IsS119.below (i9 HI428.out) hb); have n4_ := Aside0.mk (blk_below (g := gb437) (o := .cells #[.slice Ao37 t432.length co37] 26 (0, 0)) (bl BK437.out) hb); have n5_ := Aside0.mk (below_step (b9 HB.out) hb); have n6_ := Aside0.mk (hbox); have n7_ := Aside0.mk ((by rw [hg]; exact (below_size (b9 HB.out)) : w.heap.size ≤ gb445)); have n8_ := Aside0.mk ((by rw [hg]; exact (below_size (b9 HB.out)) : w.heap.size ≤ gb445)); have n9_ := Aside0.mk ((by rw [hg]; exact Nat.ne_of_lt (blk_lt (g := gb424) (o := .cells #[.slice none 0 0] 26 (0, 0)) (bl BK424.out)) : gb424 ≠ gb445)); have n10_ := Aside0.mk ((by rw [hg]; exact Nat.ne_of_gt (blk_lt (g := gb424) (o := .cells #[.slice none 0 0] 26 (0, 0)) (bl BK424.out)) : gb445 ≠ gb424)); have n11_ := Aside0.mk ((by rw [hg]; exact Nat.ne_of_lt (blk_lt (g := gb437) (o := .cells #[.slice Ao37 t432.length co37] 26 (0, 0)) (bl BK437.out)) : gb437 ≠ gb445)); have n12_ := Aside0.mk ((by rw [hg]; exact Nat.ne_of_gt (blk_lt (g := gb437) (o := .cells #[.slice Ao37 t432.length co37] 26 (0, 0)) (bl BK437.out)) : gb445 ≠ gb437)); have n13_ := Aside0.mk ((by rw [hg]; exact Nat.ne_of_lt (IsS119.lt (show IsS119 w _ g428 t425 t443 t444 from i9 HI428.out)) : g428 ≠ gb445)); have n14_ := Aside0.mk ((by rw [hg]; exact Nat.ne_of_gt (IsS119.lt (show IsS119 w _ g428 t425 t443 t444 from i9 HI428.out)) : gb445 ≠ g428)); clear HO434 HO442 BK424 HI428 BK437 HB; have HO434 := n0_; have HO442 := n1_; have BK424 := n2_; have HI428 := n3_; have BK437 := n4_; have HB := n5_; have BK445 := n6_; have GW445 := n7_; have GE445 := n8_; have NB424_445 := n9_; have NB445_424 := n10_; have NB437_445 := n11_; have NB445_437 := n12_; have NB428_445 := n13_; have NB445_428 := n14_; clear n0_ n1_ n2_ n3_ n4_ n5_ n6_ n7_ n8_ n9_ n10_ n11_ n12_ n13_ n14_ hb hbox hg; obtain ⟨Ao44, co44, eo44⟩ := Kd.R_slice HO442.out; subst eo44; have hnb45 := NB445_424.out; have hnc45 := NB424_445.out; have hnb46 := NB445_437.out; have hnc46 := NB437_445.out; have hnb47 := NB445_428.out; have hnc47 := NB428_445.out; have hcz48_0 : w43.cell? ⟨gb445, 0, none⟩ = some (.slice none 0 0) := (blk_cell BK445.out 0).trans rfl; have hfz48_0 := blk_frozen BK445.out 0; have hnb49 := NB424_428.out; have hnc49 := NB428_424.out; have hcz50_0 : w43.cell? ⟨gb424, 0, none⟩ = some (.slice none 0 0) := (blk_cell BK424.out 0).trans rfl; have hfz50_0 := blk_frozen BK424.out 0))
    refine bodyPost_ret (results_ct rfl _ _ gb424 26 #[.slice Ao44 t440.length co44] (0, 0) _ rfl (by (with_reducible repeat (first | refine blk_drewN ?_ _ | refine blk_drew ?_ | refine blk_alloc ?_ _)); refine blk_put (cs := #[.slice none 0 0]) ?_ 0 _ rfl; (with_reducible repeat (first | refine blk_drewN ?_ _ | refine blk_drew ?_ | refine blk_alloc ?_ _)); refine blk_far ?_ NB424_445.out _; exact bl BK424.out) Try.underlying26 rfl (by kernel_rfl)) rfl ?_
    exact ⟨_, by first | rfl | (simp [errW_none, errW_some] <;> rfl) | (simp [*, errW_none, errW_some] <;> rfl), by (with_reducible repeat (first | apply Kd.R_alloc | apply Kd.R_drewN | apply Kd.R_drew)); exact Kd.R_mono (Kd.R_far (p := ⟨gb424, 0, none⟩) (Kd.R_far (p := ⟨gb445, 0, none⟩) (Kd.R_types (Kd.R_types HO442.out BK445.out (by decide)) BK424.out (by decide)) (fun _ hk => hk.1.2) (.slice Ao44 t440.length co44)) (fun _ hk => hk.2) (.slice Ao44 t440.length co44)) (fun _ hk => trivial), b9 HB.out⟩
   ·rw [if_neg c31] at H
    exact absurd H (by simp)
  ·rw [if_neg c30] at H
   have c30b0 : (t429 == 1) = false := beq_eq_false_iff_ne.mpr c30
   have c30b1 : (t429 != 1) = true := bne_iff_ne.mpr c30
   by_cases c51 : t429 = 2
   ·rw [if_pos c51] at H
    have c51b0 : (t429 == 2) = true := beq_iff_eq.mpr c51
    have c51b1 : (t429 != 2) = false := bne_eq_false_iff_eq.mpr c51
    clear c51
    simp only [Option.some.injEq, Prod.mk.injEq] at H
    obtain ⟨rfl, rfl⟩ := H
    go_enter Try.func67, Try.ntmps67
    go_wp2_with (first | ((with_reducible refine gate_dst (N := 2) rfl ?_); refine box_event ?hg (N := 2) ?hd (cs := #[.slice none 0 0]) (t := 26) ?hr ?_; (case hd => rfl); (case hg => rfl); (case hr => first | (go_simp; done) | (go_simp; rfl)); intro gb424 hg w52 hbox hb; have n0_ := Aside0.mk (below_step (bw HB.out) hb); have n1_ := Aside0.mk (hbox); have n2_ := Aside0.mk ((by rw [hg]; exact (below_size (bw HB.out)) : w.heap.size ≤ gb424)); have n3_ := Aside0.mk ((by rw [hg]; exact (below_size (bw HB.out)) : w.heap.size ≤ gb424)); clear HB; have HB := n0_; have BK424 := n1_; have GW424 := n2_; have GE424 := n3_; clear n0_ n1_ n2_ n3_ hb hbox hg) | ((with_reducible refine gate_callee (f := 68) rfl ?_); refine goesL_ (some 11) rfl rfl Try.func68 (by kernel_rfl) rfl #[.slice A0 l0.length c0] rfl ar ?_; (with_reducible refine (spec_l01New.calls k _ _ l0 t425 t426 t427 w _ ?side1 ?side2 ?side3 A2.out).mono ?_); (case side1 => exact bw HB.out); (case side2 => exact HR0.out); (case side3 => exact HC0.out); rintro e w53 ⟨g428, rfl, hi, hb, hb2⟩; refine ⟨_, rfl, ?_⟩; have n0_ := Aside0.mk (blk_below (g := gb424) (o := .cells #[.slice none 0 0] 26 (0, 0)) (bl BK424.out) hb2); have n1_ := Aside0.mk (hb); have n2_ := Aside0.mk (hi); have n3_ := Aside0.mk (IsS119.ne_blk hi (blk_below (g := gb424) (o := .cells #[.slice none 0 0] 26 (0, 0)) (bl BK424.out) hb2) (by decide)); have n4_ := Aside0.mk (Ne.symm (IsS119.ne_blk hi (blk_below (g := gb424) (o := .cells #[.slice none 0 0] 26 (0, 0)) (bl BK424.out) hb2) (by decide))); clear BK424 HB; have BK424 := n0_; have HB := n1_; have HI428 := n2_; have NB428_424 := n3_; have NB424_428 := n4_; clear n0_ n1_ n2_ n3_ n4_; (try clear hb); (try clear hb2); (try clear hk); (try clear hi)) | ((with_reducible refine gate_callee (f := 70) rfl ?_); refine goesL_ (some 13) rfl rfl Try.func70 (by kernel_rfl) rfl #[.pointer (some ⟨g428, 0, none⟩), .int .i64 5] rfl ar ?_; (with_reducible refine (spec_l01Below.calls g428 t425 t426 t427 5 t429 t430 t431 w _ ?side1 ?side2 A3.out).mono ?_); (case side1 => exact i9 HI428.out); (case side2 => exact b9 HB.out); rintro e w54 ⟨rfl, hi, hb, hk⟩; refine ⟨_, rfl, ?_⟩; have n0_ := Aside0.mk (KeepBut.blk hk (g' := gb424) (o := .cells #[.slice none 0 0] 26 (0, 0)) (bl BK424.out) NB424_428.out (by simp)); have n1_ := Aside0.mk (hb); have n2_ := Aside0.mk (hi); clear BK424 HB HI428; have BK424 := n0_; have HB := n1_; have HI428 := n2_; clear n0_ n1_ n2_; (try clear hb); (try clear hb2); (try clear hk); (try clear hi)) | ((with_reducible refine gate_callee (f := 69) rfl ?_); refine goesL_ (some 15) rfl rfl Try.func69 (by kernel_rfl) rfl #[.pointer (some ⟨g428, 0, none⟩)] rfl ar ?_; (with_reducible refine (spec_l03Arena.calls g428 t425 t430 t431 t432 t435 t436 w _ ?side1 ?side2 A4.out).mono ?_); (case side1 => exact i9 HI428.out); (case side2 => exact b9 HB.out); rintro e w55 ⟨v433, rfl, ho0, hi, hb, hk⟩; refine ⟨_, rfl, ?_⟩; have n0_ := Aside0.mk (KeepBut.blk hk (g' := gb424) (o := .cells #[.slice none 0 0] 26 (0, 0)) (bl BK424.out) NB424_428.out (by simp)); have n1_ := Aside0.mk (Kd.R_lower ho0 (below_size (b9 HB.out))); have n2_ := Aside0.mk (hb); have n3_ := Aside0.mk (hi); clear BK424 HB HI428; have BK424 := n0_; have HO434 := n1_; have HB := n2_; have HI428 := n3_; clear n0_ n1_ n2_ n3_; (try clear hb); (try clear hb2); (try clear hk); (try clear hi); (try clear ho0)) | ((with_reducible refine gate_dst (N := 6) rfl ?_); refine box_event ?hg (N := 6) ?hd (cs := #[.slice none 0 0]) (t := 26) ?hr ?_; (case hd => rfl); (case hg => rfl); (case hr => first | (go_simp; done) | (go_simp; rfl)); intro gb437 hg w56 hbox hb; have n0_ := Aside0.mk (Kd.R_below (rl HO434.out) hb); have n1_ := Aside0.mk (blk_below (g := gb424) (o := .cells #[.slice none 0 0] 26 (0, 0)) (bl BK424.out) hb); have n2_ := Aside0.mk (IsS119.below (i9 HI428.out) hb); have n3_ := Aside0.mk (below_step (b9 HB.out) hb); have n4_ := Aside0.mk (hbox); have n5_ := Aside0.mk ((by rw [hg]; exact (below_size (b9 HB.out)) : w.heap.size ≤ gb437)); have n6_ := Aside0.mk ((by rw [hg]; exact (below_size (b9 HB.out)) : w.heap.size ≤ gb437)); have n7_ := Aside0.mk ((by rw [hg]; exact Nat.ne_of_lt (blk_lt (g := gb424) (o := .cells #[.slice none 0 0] 26 (0, 0)) (bl BK424.out)) : gb424 ≠ gb437)); have n8_ := Aside0.mk ((by rw [hg]; exact Nat.ne_of_gt (blk_lt (g := gb424) (o := .cells #[.slice none 0 0] 26 (0, 0)) (bl BK424.out)) : gb437 ≠ gb424)); have n9_ := Aside0.mk ((by rw [hg]; exact Nat.ne_of_lt (IsS119.lt (show IsS119 w _ g428 t425 t435 t436 from i9 HI428.out)) : g428 ≠ gb437)); have n10_ := Aside0.mk ((by rw [hg]; exact Nat.ne_of_gt (IsS119.lt (show IsS119 w _ g428 t425 t435 t436 from i9 HI428.out)) : gb437 ≠ g428)); clear HO434 BK424 HI428 HB; have HO434 := n0_; have BK424 := n1_; have HI428 := n2_; have HB := n3_; have BK437 := n4_; have GW437 := n5_; have GE437 := n6_; have NB424_437 := n7_; have NB437_424 := n8_; have NB428_437 := n9_; have NB437_428 := n10_; clear n0_ n1_ n2_ n3_ n4_ n5_ n6_ n7_ n8_ n9_ n10_ hb hbox hg; obtain ⟨Ao57, co57, eo57⟩ := Kd.R_slice HO434.out; subst eo57; have hnb58 := NB437_424.out; have hnc58 := NB424_437.out; have hnb59 := NB437_428.out; have hnc59 := NB428_437.out; have hcz60_0 : w56.cell? ⟨gb437, 0, none⟩ = some (.slice none 0 0) := (blk_cell BK437.out 0).trans rfl; have hfz60_0 := blk_frozen BK437.out 0) | ((with_reducible refine gate_callee (f := 31) rfl ?_); refine goesL_ (some 22) rfl rfl Try.func31 (by kernel_rfl) rfl #[.agg #[.slice Ao57 t432.length co57], .int .i64 (wrap64 ((t432.length : Int) - 1))] rfl ar ?_; (with_reducible refine (spec_TermText.calls k _ _ t432 (wrap64 ((t432.length : Int) - 1)) t438 t439 _ ?side1 ?side2 A5.out).mono ?_); (case side1 => refine (Kd.R_reads' (e := 34) (base := w.heap.size) (ok := fun k_ => True) (n := t432.length) (c := co57) ?_).2.2; exact (by (with_reducible repeat (first | apply Kd.R_alloc | apply Kd.R_drewN | apply Kd.R_drew)); exact (Kd.R_mono (Kd.R_far (p := ⟨gb437, 0, none⟩) (Kd.R_types HO434.out BK437.out (by decide)) (fun _ hk => hk.2) (.slice Ao57 t432.length co57)) (fun _ h_ => h_.1)))); (case side2 => exact (Kd.R_reads' HO434.out).2.1); rintro e w61 ⟨rfl, hb⟩; refine ⟨_, rfl, ?_⟩; have n0_ := Aside0.mk (Kd.R_below (by (with_reducible repeat (first | apply Kd.R_alloc | apply Kd.R_drewN | apply Kd.R_drew)); exact (Kd.R_mono (Kd.R_far (p := ⟨gb437, 0, none⟩) (Kd.R_types HO434.out BK437.out (by decide)) (fun _ hk => hk.2) (.slice Ao57 t432.length co57)) (fun _ h_ => h_.1))) hb); have n1_ := Aside0.mk (blk_below (g := gb424) (o := .cells #[.slice none 0 0] 26 (0, 0)) (by (with_reducible repeat (first | refine blk_drewN ?_ _ | refine blk_drew ?_ | refine blk_alloc ?_ _)); refine blk_far ?_ NB424_437.out _; exact bl BK424.out) hb); have n2_ := Aside0.mk (IsS119.below (show IsS119 w (w56.setCell ⟨gb437, 0, none⟩ (.slice Ao57 t432.length co57)) g428 t425 t435 t436 from i9 HI428.out) hb); have n3_ := Aside0.mk (blk_below (g := gb437) (o := .cells #[.slice Ao57 t432.length co57] 26 (0, 0)) (by (with_reducible repeat (first | refine blk_drewN ?_ _ | refine blk_drew ?_ | refine blk_alloc ?_ _)); refine blk_put (cs := #[.slice none 0 0]) ?_ 0 _ rfl; exact bl BK437.out) hb); have n4_ := Aside0.mk (below_step (b9 HB.out) hb); clear HO434 BK424 HI428 BK437 HB; have HO434 := n0_; have BK424 := n1_; have HI428 := n2_; have BK437 := n3_; have HB := n4_; clear n0_ n1_ n2_ n3_ n4_; (try clear hb); (try clear hb2); (try clear hk); (try clear hi)) | ((with_reducible refine gate_callee (f := 76) rfl ?_); refine goesL_ (some 26) rfl rfl Try.func76 (by kernel_rfl) rfl #[.pointer (some ⟨g428, 0, none⟩)] rfl ar ?_; (with_reducible refine (spec_l03Any.calls g428 t425 t435 t436 t440 t443 t444 w _ ?side1 ?side2 A6.out).mono ?_); (case side1 => exact i9 HI428.out); (case side2 => exact b9 HB.out); rintro e w62 ⟨v441, rfl, ho0, hi, hb, hk⟩; refine ⟨_, rfl, ?_⟩; have n0_ := Aside0.mk (KeepBut.blk hk (g' := gb424) (o := .cells #[.slice none 0 0] 26 (0, 0)) (bl BK424.out) NB424_428.out (by simp)); have n1_ := Aside0.mk (Kd.R_mono (Kd.R_told (Kd.R_oldK (IsS119.apart (show IsS119 w _ g428 t425 t435 t436 from i9 HI428.out) (rl HO434.out) (by decide)) hk) (Kd.R_base ho0)) (fun _ h_ => h_.1)); have n2_ := Aside0.mk (KeepBut.blk hk (g' := gb437) (o := .cells #[.slice Ao57 t432.length co57] 26 (0, 0)) (bl BK437.out) NB437_428.out (by simp)); have n3_ := Aside0.mk (Kd.R_lower (Kd.R_new' ho0 (Kd.R_lt (rl HO434.out))) (below_size (b9 HB.out))); have n4_ := Aside0.mk (hb); have n5_ := Aside0.mk (hi); clear BK424 HO434 BK437 HB HI428; have BK424 := n0_; have HO434 := n1_; have BK437 := n2_; have HO442 := n3_; have HB := n4_; have HI428 := n5_; clear n0_ n1_ n2_ n3_ n4_ n5_; (try clear hb); (try clear hb2); (try clear hk); (try clear hi); (try clear ho0)) | ((with_reducible refine gate_dst (N := 9) rfl ?_); refine box_event ?hg (N := 9) ?hd (cs := #[.slice none 0 0]) (t := 26) ?hr ?_; (case hd => rfl); (case hg => rfl); (case hr => first | (go_simp; done) | (go_simp; rfl)); intro gb445 hg w63 hbox hb; have n0_ := Aside0.mk (Kd.R_below (rl HO434.out) hb); have n1_ := Aside0.mk (Kd.R_below (rl HO442.out) hb); have n2_ := Aside0.mk (blk_below (g := gb424) (o := .cells #[.slice none 0 0] 26 (0, 0)) (bl BK424.out) hb); have n3_ := Aside0.mk (IsS119.below (i9 HI428.out) hb); have n4_ := Aside0.mk (blk_below (g := gb437) (o := .cells #[.slice Ao57 t432.length co57] 26 (0, 0)) (bl BK437.out) hb); have n5_ := Aside0.mk (below_step (b9 HB.out) hb); have n6_ := Aside0.mk (hbox); have n7_ := Aside0.mk ((by rw [hg]; exact (below_size (b9 HB.out)) : w.heap.size ≤ gb445)); have n8_ := Aside0.mk ((by rw [hg]; exact (below_size (b9 HB.out)) : w.heap.size ≤ gb445)); have n9_ := Aside0.mk ((by rw [hg]; exact Nat.ne_of_lt (blk_lt (g := gb424) (o := .cells #[.slice none 0 0] 26 (0, 0)) (bl BK424.out)) : gb424 ≠ gb445)); have n10_ := Aside0.mk ((by rw [hg]; exact Nat.ne_of_gt (blk_lt (g := gb424) (o := .cells #[.slice none 0 0] 26 (0, 0)) (bl BK424.out)) : gb445 ≠ gb424)); have n11_ := Aside0.mk ((by rw [hg]; exact Nat.ne_of_lt (blk_lt (g := gb437) (o := .cells #[.slice Ao57 t432.length co57] 26 (0, 0)) (bl BK437.out)) : gb437 ≠ gb445)); have n12_ := Aside0.mk ((by rw [hg]; exact Nat.ne_of_gt (blk_lt (g := gb437) (o := .cells #[.slice Ao57 t432.length co57] 26 (0, 0)) (bl BK437.out)) : gb445 ≠ gb437)); have n13_ := Aside0.mk ((by rw [hg]; exact Nat.ne_of_lt (IsS119.lt (show IsS119 w _ g428 t425 t443 t444 from i9 HI428.out)) : g428 ≠ gb445)); have n14_ := Aside0.mk ((by rw [hg]; exact Nat.ne_of_gt (IsS119.lt (show IsS119 w _ g428 t425 t443 t444 from i9 HI428.out)) : gb445 ≠ g428)); clear HO434 HO442 BK424 HI428 BK437 HB; have HO434 := n0_; have HO442 := n1_; have BK424 := n2_; have HI428 := n3_; have BK437 := n4_; have HB := n5_; have BK445 := n6_; have GW445 := n7_; have GE445 := n8_; have NB424_445 := n9_; have NB445_424 := n10_; have NB437_445 := n11_; have NB445_437 := n12_; have NB428_445 := n13_; have NB445_428 := n14_; clear n0_ n1_ n2_ n3_ n4_ n5_ n6_ n7_ n8_ n9_ n10_ n11_ n12_ n13_ n14_ hb hbox hg; obtain ⟨Ao64, co64, eo64⟩ := Kd.R_slice HO442.out; subst eo64; have hnb65 := NB445_424.out; have hnc65 := NB424_445.out; have hnb66 := NB445_437.out; have hnc66 := NB437_445.out; have hnb67 := NB445_428.out; have hnc67 := NB428_445.out; have hcz68_0 : w63.cell? ⟨gb445, 0, none⟩ = some (.slice none 0 0) := (blk_cell BK445.out 0).trans rfl; have hfz68_0 := blk_frozen BK445.out 0; have hcz69_0 : w63.cell? ⟨gb437, 0, none⟩ = some (.slice Ao57 t432.length co57) := (blk_cell BK437.out 0).trans rfl; have hfz69_0 := blk_frozen BK437.out 0; have hnb70 := NB424_428.out; have hnc70 := NB428_424.out; have hcz71_0 : w63.cell? ⟨gb424, 0, none⟩ = some (.slice none 0 0) := (blk_cell BK424.out 0).trans rfl; have hfz71_0 := blk_frozen BK424.out 0))
    refine bodyPost_ret (results_ct rfl _ _ gb424 26 #[.slice Ao57 t432.length co57] (0, 0) _ rfl (by (with_reducible repeat (first | refine blk_drewN ?_ _ | refine blk_drew ?_ | refine blk_alloc ?_ _)); refine blk_put (cs := #[.slice none 0 0]) ?_ 0 _ rfl; (with_reducible repeat (first | refine blk_drewN ?_ _ | refine blk_drew ?_ | refine blk_alloc ?_ _)); refine blk_far ?_ NB424_445.out _; exact bl BK424.out) Try.underlying26 rfl (by kernel_rfl)) rfl ?_
    exact ⟨_, by first | rfl | (simp [errW_none, errW_some] <;> rfl) | (simp [*, errW_none, errW_some] <;> rfl), by (with_reducible repeat (first | apply Kd.R_alloc | apply Kd.R_drewN | apply Kd.R_drew)); exact Kd.R_mono (Kd.R_far (p := ⟨gb424, 0, none⟩) (Kd.R_far (p := ⟨gb445, 0, none⟩) (Kd.R_types (Kd.R_types HO434.out BK445.out (by decide)) BK424.out (by decide)) (fun _ hk => hk.1.2) (.slice Ao64 t440.length co64)) (fun _ hk => hk.2) (.slice Ao57 t432.length co57)) (fun _ hk => trivial), b9 HB.out⟩
   ·rw [if_neg c51] at H
    have c51b0 : (t429 == 2) = false := beq_eq_false_iff_ne.mpr c51
    have c51b1 : (t429 != 2) = true := bne_iff_ne.mpr c51
    simp only [Option.some.injEq, Prod.mk.injEq] at H
    obtain ⟨rfl, rfl⟩ := H
    go_enter Try.func67, Try.ntmps67
    go_wp2_with (first | ((with_reducible refine gate_dst (N := 2) rfl ?_); refine box_event ?hg (N := 2) ?hd (cs := #[.slice none 0 0]) (t := 26) ?hr ?_; (case hd => rfl); (case hg => rfl); (case hr => first | (go_simp; done) | (go_simp; rfl)); intro gb424 hg w72 hbox hb; have n0_ := Aside0.mk (below_step (bw HB.out) hb); have n1_ := Aside0.mk (hbox); have n2_ := Aside0.mk ((by rw [hg]; exact (below_size (bw HB.out)) : w.heap.size ≤ gb424)); have n3_ := Aside0.mk ((by rw [hg]; exact (below_size (bw HB.out)) : w.heap.size ≤ gb424)); clear HB; have HB := n0_; have BK424 := n1_; have GW424 := n2_; have GE424 := n3_; clear n0_ n1_ n2_ n3_ hb hbox hg) | ((with_reducible refine gate_callee (f := 68) rfl ?_); refine goesL_ (some 11) rfl rfl Try.func68 (by kernel_rfl) rfl #[.slice A0 l0.length c0] rfl ar ?_; (with_reducible refine (spec_l01New.calls k _ _ l0 t425 t426 t427 w _ ?side1 ?side2 ?side3 A2.out).mono ?_); (case side1 => exact bw HB.out); (case side2 => exact HR0.out); (case side3 => exact HC0.out); rintro e w73 ⟨g428, rfl, hi, hb, hb2⟩; refine ⟨_, rfl, ?_⟩; have n0_ := Aside0.mk (blk_below (g := gb424) (o := .cells #[.slice none 0 0] 26 (0, 0)) (bl BK424.out) hb2); have n1_ := Aside0.mk (hb); have n2_ := Aside0.mk (hi); have n3_ := Aside0.mk (IsS119.ne_blk hi (blk_below (g := gb424) (o := .cells #[.slice none 0 0] 26 (0, 0)) (bl BK424.out) hb2) (by decide)); have n4_ := Aside0.mk (Ne.symm (IsS119.ne_blk hi (blk_below (g := gb424) (o := .cells #[.slice none 0 0] 26 (0, 0)) (bl BK424.out) hb2) (by decide))); clear BK424 HB; have BK424 := n0_; have HB := n1_; have HI428 := n2_; have NB428_424 := n3_; have NB424_428 := n4_; clear n0_ n1_ n2_ n3_ n4_; (try clear hb); (try clear hb2); (try clear hk); (try clear hi)) | ((with_reducible refine gate_callee (f := 70) rfl ?_); refine goesL_ (some 13) rfl rfl Try.func70 (by kernel_rfl) rfl #[.pointer (some ⟨g428, 0, none⟩), .int .i64 5] rfl ar ?_; (with_reducible refine (spec_l01Below.calls g428 t425 t426 t427 5 t429 t430 t431 w _ ?side1 ?side2 A3.out).mono ?_); (case side1 => exact i9 HI428.out); (case side2 => exact b9 HB.out); rintro e w74 ⟨rfl, hi, hb, hk⟩; refine ⟨_, rfl, ?_⟩; have n0_ := Aside0.mk (KeepBut.blk hk (g' := gb424) (o := .cells #[.slice none 0 0] 26 (0, 0)) (bl BK424.out) NB424_428.out (by simp)); have n1_ := Aside0.mk (hb); have n2_ := Aside0.mk (hi); clear BK424 HB HI428; have BK424 := n0_; have HB := n1_; have HI428 := n2_; clear n0_ n1_ n2_; (try clear hb); (try clear hb2); (try clear hk); (try clear hi)) | ((with_reducible refine gate_callee (f := 69) rfl ?_); refine goesL_ (some 15) rfl rfl Try.func69 (by kernel_rfl) rfl #[.pointer (some ⟨g428, 0, none⟩)] rfl ar ?_; (with_reducible refine (spec_l03Arena.calls g428 t425 t430 t431 t432 t435 t436 w _ ?side1 ?side2 A4.out).mono ?_); (case side1 => exact i9 HI428.out); (case side2 => exact b9 HB.out); rintro e w75 ⟨v433, rfl, ho0, hi, hb, hk⟩; refine ⟨_, rfl, ?_⟩; have n0_ := Aside0.mk (KeepBut.blk hk (g' := gb424) (o := .cells #[.slice none 0 0] 26 (0, 0)) (bl BK424.out) NB424_428.out (by simp)); have n1_ := Aside0.mk (Kd.R_lower ho0 (below_size (b9 HB.out))); have n2_ := Aside0.mk (hb); have n3_ := Aside0.mk (hi); clear BK424 HB HI428; have BK424 := n0_; have HO434 := n1_; have HB := n2_; have HI428 := n3_; clear n0_ n1_ n2_ n3_; (try clear hb); (try clear hb2); (try clear hk); (try clear hi); (try clear ho0)) | ((with_reducible refine gate_dst (N := 6) rfl ?_); refine box_event ?hg (N := 6) ?hd (cs := #[.slice none 0 0]) (t := 26) ?hr ?_; (case hd => rfl); (case hg => rfl); (case hr => first | (go_simp; done) | (go_simp; rfl)); intro gb437 hg w76 hbox hb; have n0_ := Aside0.mk (Kd.R_below (rl HO434.out) hb); have n1_ := Aside0.mk (blk_below (g := gb424) (o := .cells #[.slice none 0 0] 26 (0, 0)) (bl BK424.out) hb); have n2_ := Aside0.mk (IsS119.below (i9 HI428.out) hb); have n3_ := Aside0.mk (below_step (b9 HB.out) hb); have n4_ := Aside0.mk (hbox); have n5_ := Aside0.mk ((by rw [hg]; exact (below_size (b9 HB.out)) : w.heap.size ≤ gb437)); have n6_ := Aside0.mk ((by rw [hg]; exact (below_size (b9 HB.out)) : w.heap.size ≤ gb437)); have n7_ := Aside0.mk ((by rw [hg]; exact Nat.ne_of_lt (blk_lt (g := gb424) (o := .cells #[.slice none 0 0] 26 (0, 0)) (bl BK424.out)) : gb424 ≠ gb437)); have n8_ := Aside0.mk ((by rw [hg]; exact Nat.ne_of_gt (blk_lt (g := gb424) (o := .cells #[.slice none 0 0] 26 (0, 0)) (bl BK424.out)) : gb437 ≠ gb424)); have n9_ := Aside0.mk ((by rw [hg]; exact Nat.ne_of_lt (IsS119.lt (show IsS119 w _ g428 t425 t435 t436 from i9 HI428.out)) : g428 ≠ gb437)); have n10_ := Aside0.mk ((by rw [hg]; exact Nat.ne_of_gt (IsS119.lt (show IsS119 w _ g428 t425 t435 t436 from i9 HI428.out)) : gb437 ≠ g428)); clear HO434 BK424 HI428 HB; have HO434 := n0_; have BK424 := n1_; have HI428 := n2_; have HB := n3_; have BK437 := n4_; have GW437 := n5_; have GE437 := n6_; have NB424_437 := n7_; have NB437_424 := n8_; have NB428_437 := n9_; have NB437_428 := n10_; clear n0_ n1_ n2_ n3_ n4_ n5_ n6_ n7_ n8_ n9_ n10_ hb hbox hg; obtain ⟨Ao77, co77, eo77⟩ := Kd.R_slice HO434.out; subst eo77; have hnb78 := NB437_424.out; have hnc78 := NB424_437.out; have hnb79 := NB437_428.out; have hnc79 := NB428_437.out; have hcz80_0 : w76.cell? ⟨gb437, 0, none⟩ = some (.slice none 0 0) := (blk_cell BK437.out 0).trans rfl; have hfz80_0 := blk_frozen BK437.out 0) | ((with_reducible refine gate_callee (f := 31) rfl ?_); refine goesL_ (some 22) rfl rfl Try.func31 (by kernel_rfl) rfl #[.agg #[.slice Ao77 t432.length co77], .int .i64 (wrap64 ((t432.length : Int) - 1))] rfl ar ?_; (with_reducible refine (spec_TermText.calls k _ _ t432 (wrap64 ((t432.length : Int) - 1)) t438 t439 _ ?side1 ?side2 A5.out).mono ?_); (case side1 => refine (Kd.R_reads' (e := 34) (base := w.heap.size) (ok := fun k_ => True) (n := t432.length) (c := co77) ?_).2.2; exact (by (with_reducible repeat (first | apply Kd.R_alloc | apply Kd.R_drewN | apply Kd.R_drew)); exact (Kd.R_mono (Kd.R_far (p := ⟨gb437, 0, none⟩) (Kd.R_types HO434.out BK437.out (by decide)) (fun _ hk => hk.2) (.slice Ao77 t432.length co77)) (fun _ h_ => h_.1)))); (case side2 => exact (Kd.R_reads' HO434.out).2.1); rintro e w81 ⟨rfl, hb⟩; refine ⟨_, rfl, ?_⟩; have n0_ := Aside0.mk (Kd.R_below (by (with_reducible repeat (first | apply Kd.R_alloc | apply Kd.R_drewN | apply Kd.R_drew)); exact (Kd.R_mono (Kd.R_far (p := ⟨gb437, 0, none⟩) (Kd.R_types HO434.out BK437.out (by decide)) (fun _ hk => hk.2) (.slice Ao77 t432.length co77)) (fun _ h_ => h_.1))) hb); have n1_ := Aside0.mk (blk_below (g := gb424) (o := .cells #[.slice none 0 0] 26 (0, 0)) (by (with_reducible repeat (first | refine blk_drewN ?_ _ | refine blk_drew ?_ | refine blk_alloc ?_ _)); refine blk_far ?_ NB424_437.out _; exact bl BK424.out) hb); have n2_ := Aside0.mk (IsS119.below (show IsS119 w (w76.setCell ⟨gb437, 0, none⟩ (.slice Ao77 t432.length co77)) g428 t425 t435 t436 from i9 HI428.out) hb); have n3_ := Aside0.mk (blk_below (g := gb437) (o := .cells #[.slice Ao77 t432.length co77] 26 (0, 0)) (by (with_reducible repeat (first | refine blk_drewN ?_ _ | refine blk_drew ?_ | refine blk_alloc ?_ _)); refine blk_put (cs := #[.slice none 0 0]) ?_ 0 _ rfl; exact bl BK437.out) hb); have n4_ := Aside0.mk (below_step (b9 HB.out) hb); clear HO434 BK424 HI428 BK437 HB; have HO434 := n0_; have BK424 := n1_; have HI428 := n2_; have BK437 := n3_; have HB := n4_; clear n0_ n1_ n2_ n3_ n4_; (try clear hb); (try clear hb2); (try clear hk); (try clear hi)) | ((with_reducible refine gate_callee (f := 76) rfl ?_); refine goesL_ (some 26) rfl rfl Try.func76 (by kernel_rfl) rfl #[.pointer (some ⟨g428, 0, none⟩)] rfl ar ?_; (with_reducible refine (spec_l03Any.calls g428 t425 t435 t436 t440 t443 t444 w _ ?side1 ?side2 A6.out).mono ?_); (case side1 => exact i9 HI428.out); (case side2 => exact b9 HB.out); rintro e w82 ⟨v441, rfl, ho0, hi, hb, hk⟩; refine ⟨_, rfl, ?_⟩; have n0_ := Aside0.mk (KeepBut.blk hk (g' := gb424) (o := .cells #[.slice none 0 0] 26 (0, 0)) (bl BK424.out) NB424_428.out (by simp)); have n1_ := Aside0.mk (Kd.R_mono (Kd.R_told (Kd.R_oldK (IsS119.apart (show IsS119 w _ g428 t425 t435 t436 from i9 HI428.out) (rl HO434.out) (by decide)) hk) (Kd.R_base ho0)) (fun _ h_ => h_.1)); have n2_ := Aside0.mk (KeepBut.blk hk (g' := gb437) (o := .cells #[.slice Ao77 t432.length co77] 26 (0, 0)) (bl BK437.out) NB437_428.out (by simp)); have n3_ := Aside0.mk (Kd.R_lower (Kd.R_new' ho0 (Kd.R_lt (rl HO434.out))) (below_size (b9 HB.out))); have n4_ := Aside0.mk (hb); have n5_ := Aside0.mk (hi); clear BK424 HO434 BK437 HB HI428; have BK424 := n0_; have HO434 := n1_; have BK437 := n2_; have HO442 := n3_; have HB := n4_; have HI428 := n5_; clear n0_ n1_ n2_ n3_ n4_ n5_; (try clear hb); (try clear hb2); (try clear hk); (try clear hi); (try clear ho0)) | ((with_reducible refine gate_dst (N := 9) rfl ?_); refine box_event ?hg (N := 9) ?hd (cs := #[.slice none 0 0]) (t := 26) ?hr ?_; (case hd => rfl); (case hg => rfl); (case hr => first | (go_simp; done) | (go_simp; rfl)); intro gb445 hg w83 hbox hb; have n0_ := Aside0.mk (Kd.R_below (rl HO434.out) hb); have n1_ := Aside0.mk (Kd.R_below (rl HO442.out) hb); have n2_ := Aside0.mk (blk_below (g := gb424) (o := .cells #[.slice none 0 0] 26 (0, 0)) (bl BK424.out) hb); have n3_ := Aside0.mk (IsS119.below (i9 HI428.out) hb); have n4_ := Aside0.mk (blk_below (g := gb437) (o := .cells #[.slice Ao77 t432.length co77] 26 (0, 0)) (bl BK437.out) hb); have n5_ := Aside0.mk (below_step (b9 HB.out) hb); have n6_ := Aside0.mk (hbox); have n7_ := Aside0.mk ((by rw [hg]; exact (below_size (b9 HB.out)) : w.heap.size ≤ gb445)); have n8_ := Aside0.mk ((by rw [hg]; exact (below_size (b9 HB.out)) : w.heap.size ≤ gb445)); have n9_ := Aside0.mk ((by rw [hg]; exact Nat.ne_of_lt (blk_lt (g := gb424) (o := .cells #[.slice none 0 0] 26 (0, 0)) (bl BK424.out)) : gb424 ≠ gb445)); have n10_ := Aside0.mk ((by rw [hg]; exact Nat.ne_of_gt (blk_lt (g := gb424) (o := .cells #[.slice none 0 0] 26 (0, 0)) (bl BK424.out)) : gb445 ≠ gb424)); have n11_ := Aside0.mk ((by rw [hg]; exact Nat.ne_of_lt (blk_lt (g := gb437) (o := .cells #[.slice Ao77 t432.length co77] 26 (0, 0)) (bl BK437.out)) : gb437 ≠ gb445)); have n12_ := Aside0.mk ((by rw [hg]; exact Nat.ne_of_gt (blk_lt (g := gb437) (o := .cells #[.slice Ao77 t432.length co77] 26 (0, 0)) (bl BK437.out)) : gb445 ≠ gb437)); have n13_ := Aside0.mk ((by rw [hg]; exact Nat.ne_of_lt (IsS119.lt (show IsS119 w _ g428 t425 t443 t444 from i9 HI428.out)) : g428 ≠ gb445)); have n14_ := Aside0.mk ((by rw [hg]; exact Nat.ne_of_gt (IsS119.lt (show IsS119 w _ g428 t425 t443 t444 from i9 HI428.out)) : gb445 ≠ g428)); clear HO434 HO442 BK424 HI428 BK437 HB; have HO434 := n0_; have HO442 := n1_; have BK424 := n2_; have HI428 := n3_; have BK437 := n4_; have HB := n5_; have BK445 := n6_; have GW445 := n7_; have GE445 := n8_; have NB424_445 := n9_; have NB445_424 := n10_; have NB437_445 := n11_; have NB445_437 := n12_; have NB428_445 := n13_; have NB445_428 := n14_; clear n0_ n1_ n2_ n3_ n4_ n5_ n6_ n7_ n8_ n9_ n10_ n11_ n12_ n13_ n14_ hb hbox hg; obtain ⟨Ao84, co84, eo84⟩ := Kd.R_slice HO442.out; subst eo84; have hnb85 := NB445_424.out; have hnc85 := NB424_445.out; have hnb86 := NB445_437.out; have hnc86 := NB437_445.out; have hnb87 := NB445_428.out; have hnc87 := NB428_445.out; have hcz88_0 : w83.cell? ⟨gb445, 0, none⟩ = some (.slice none 0 0) := (blk_cell BK445.out 0).trans rfl; have hfz88_0 := blk_frozen BK445.out 0; have hnb89 := NB424_428.out; have hnc89 := NB428_424.out; have hcz90_0 : w83.cell? ⟨gb424, 0, none⟩ = some (.slice none 0 0) := (blk_cell BK424.out 0).trans rfl; have hfz90_0 := blk_frozen BK424.out 0))
    refine bodyPost_ret (results_ct rfl _ _ gb424 26 #[.slice Ao84 t440.length co84] (0, 0) _ rfl (by (with_reducible repeat (first | refine blk_drewN ?_ _ | refine blk_drew ?_ | refine blk_alloc ?_ _)); refine blk_put (cs := #[.slice none 0 0]) ?_ 0 _ rfl; (with_reducible repeat (first | refine blk_drewN ?_ _ | refine blk_drew ?_ | refine blk_alloc ?_ _)); refine blk_far ?_ NB424_445.out _; exact bl BK424.out) Try.underlying26 rfl (by kernel_rfl)) rfl ?_
    exact ⟨_, by first | rfl | (simp [errW_none, errW_some] <;> rfl) | (simp [*, errW_none, errW_some] <;> rfl), by (with_reducible repeat (first | apply Kd.R_alloc | apply Kd.R_drewN | apply Kd.R_drew)); exact Kd.R_mono (Kd.R_far (p := ⟨gb424, 0, none⟩) (Kd.R_far (p := ⟨gb445, 0, none⟩) (Kd.R_types (Kd.R_types HO442.out BK445.out (by decide)) BK424.out (by decide)) (fun _ hk => hk.1.2) (.slice Ao84 t440.length co84)) (fun _ hk => hk.2) (.slice Ao84 t440.length co84)) (fun _ hk => trivial), b9 HB.out⟩

-- NOT PRINTED: function 13 (laws_FnTerms)

end Go.Proofs.Ytkckdibalopagaa.SFnTerms
