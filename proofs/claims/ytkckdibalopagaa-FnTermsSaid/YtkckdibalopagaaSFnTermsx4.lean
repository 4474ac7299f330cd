-- Began as a print of the kit over stubs (wip/stub.py); the sections that are named OWN are this session's.
import Derived.Test.YtkckdibalopagaaSFnTermsx0
import Derived.Test.YtkckdibalopagaaSFnTermsx1
import Derived.Test.YtkckdibalopagaaSFnTermsx2
import Derived.Test.YtkckdibalopagaaSFnTermsx3
import Derived.Test.YtkckdibalopagaaUAppendAt
import Derived.Test.YtkckdibalopagaaUBase
import Derived.Test.YtkckdibalopagaaUMapOnce
import Derived.RegionTactic
import Derived.BigRegion
import Derived.Carry
import Derived.DeepKeys4
import Derived.Test.YtkckdibalopagaaUShort
namespace Go.Proofs.Ytkckdibalopagaa.SFnTerms
open Go.RowKit Go.Proofs.YtkckdibalopagaaW.PrintWords Go.Proofs.YtkckdibalopagaaW.PrintLast Go.Proofs.YtkckdibalopagaaW.PrintMore Go.Proofs.Ytkckdibalopagaa.Short
attribute [local go_sem] max2_int min2_int max_two min_two max_three min_three max_four min_four   -- for this text's walks alone
set_option linter.unusedVariables false
set_option linter.unusedSimpArgs false

attribute [local go_sem high] eqA34
/-! ### impl_TermText: function 32 -/
def impl_TermText.f (k : Nat) (l0_0 : List (S34)) (a1 : Int) : Option (ByteArray × Bool) := (impl_SizeOf.f k l0_0 a1).bind fun t206 => ((impl_within.f t206 1 2000).bind fun t207 => (if t207 = true then ((impl_termBytes.f k ([] : List Int) l0_0 a1).bind fun t208 => (some (strOfNums t208, true))) else (some ((⟨#[]⟩ : ByteArray), false))))
set_option maxHeartbeats 8000000 in
set_option maxRecDepth 100000 in
theorem impl_TermText.calls (k : Nat) (A0_0 : Option Addr) (c0_0 : Nat) (l0_0 : List (S34)) (a1 : Int) (r1 : ByteArray) (r2 : Bool) (w : World) (hr0_0 : Kd.C k34 w A0_0 l0_0.length l0_0) (hc0_0 : l0_0.length ≤ c0_0) (h : impl_TermText.f k l0_0 a1 = some (r1, r2)) :
  Calls Try.prog 32 #[.agg #[.slice A0_0 l0_0.length c0_0], .int .i64 a1] w fun e w' => e = .returned (.tuple #[.string r1, .bool r2]) ∧ Below w.heap.size w w' := by
 have hu26 := Try.underlying26
 have HR0_0 := Aside0.mk hr0_0
 have HC0_0 := Aside0.mk hc0_0
 clear hr0_0 hc0_0
 have HB := Aside0.mk (Below.refl w.heap.size w)
 have H : ((impl_SizeOf.f k l0_0 a1).bind fun t206 => ((impl_within.f t206 1 2000).bind fun t207 => (if t207 = true then ((impl_termBytes.f k ([] : List Int) l0_0 a1).bind fun t208 => (some (strOfNums t208, true))) else (some ((⟨#[]⟩ : ByteArray), false))))) = some (r1, r2) := h
 clear h
 replace H := Option.bind_eq_some_iff.mp H
 obtain ⟨t206, A30, H⟩ := H
 replace H : ((impl_within.f t206 1 2000).bind fun t207 => (if t207 = true then ((impl_termBytes.f k ([] : List Int) l0_0 a1).bind fun t208 => (some (strOfNums t208, true))) else (some ((⟨#[]⟩ : ByteArray), false)))) = some (r1, r2) := H
 have A3 := Aside0.mk A30
 clear A30
 replace H := Option.bind_eq_some_iff.mp H
 obtain ⟨t207, A40, H⟩ := H
 replace H : (if t207 = true then ((impl_termBytes.f k ([] : List Int) l0_0 a1).bind fun t208 => (some (strOfNums t208, true))) else (some ((⟨#[]⟩ : ByteArray), false))) = some (r1, r2) := H
 have A4 := Aside0.mk A40
 clear A40
 by_cases c5 : t207 = true
 ·subst c5
  have H1 : ((impl_termBytes.f k ([] : List Int) l0_0 a1).bind fun t208 => (some (strOfNums t208, true))) = some (r1, r2) := by rw [if_pos rfl] at H; exact H
  clear H
  have H := H1
  clear H1
  replace H := Option.bind_eq_some_iff.mp H
  obtain ⟨t208, A60, H⟩ := H
  replace H : (some (strOfNums t208, true)) = some (r1, r2) := H
  have A6 := Aside0.mk A60
  clear A60
  simp only [Option.some.injEq, Prod.mk.injEq] at H
  obtain ⟨rfl, rfl⟩ := H
  go_enter Try.func32, Try.ntmps32
  go_wp2_with (first | ((with_reducible refine gate_dst (N := 2) rfl ?_); refine box_event ?hg (N := 2) ?hd (cs := #[.slice A0_0 l0_0.length c0_0]) (t := 26) ?hr ?_; (case hd => rfl); (case hg => rfl); (case hr => first | (go_simp; done) | (go_simp; rfl)); intro gb205 hg w7 hbox hb; have n0_ := Aside0.mk (below_step (bw HB.out) hb); have n1_ := Aside0.mk (hbox); have n2_ := Aside0.mk ((by rw [hg]; exact (below_size (bw HB.out)) : w.heap.size ≤ gb205)); have n3_ := Aside0.mk ((by rw [hg]; exact (below_size (bw HB.out)) : w.heap.size ≤ gb205)); clear HB; have HB := n0_; have BK205 := n1_; have GW205 := n2_; have GE205 := n3_; clear n0_ n1_ n2_ n3_ hb hbox hg; have hcz8_0 : w7.cell? ⟨gb205, 0, none⟩ = some (.slice A0_0 l0_0.length c0_0) := (blk_cell BK205.out 0).trans rfl; have hfz8_0 := blk_frozen BK205.out 0) | ((with_reducible refine gate_callee (f := 30) rfl ?_); refine goesL_ (some 8) rfl rfl Try.func30 (by kernel_rfl) rfl #[.agg #[.slice A0_0 l0_0.length c0_0], .int .i64 a1] rfl ar ?_; (with_reducible refine (impl_SizeOf.calls k _ _ l0_0 a1 t206 _ ?side1 ?side2 A3.out).mono ?_); (case side1 => exact cl (Kd.C_below HR0_0.out HB.out)); (case side2 => exact HC0_0.out); rintro e w9 ⟨rfl, hb⟩; refine ⟨_, rfl, ?_⟩; have n0_ := Aside0.mk (blk_below (g := gb205) (o := .cells #[.slice A0_0 l0_0.length c0_0] 26 (0, 0)) (bl BK205.out) hb); have n1_ := Aside0.mk (below_step (bw HB.out) hb); clear BK205 HB; have BK205 := n0_; have HB := n1_; clear n0_ n1_; (try clear hb); (try clear hb2); (try clear hk); (try clear hi)) | ((with_reducible refine gate_callee (f := 75) rfl ?_); refine goesL_ (some 9) rfl rfl Try.func75 (by kernel_rfl) rfl #[.int .i64 t206, .int .i64 1, .int .i64 2000] rfl ar ?_; (with_reducible refine (impl_within.calls t206 1 2000 true _ A4.out).mono ?_); rintro e w' ⟨rfl, ⟨nd, rfl⟩⟩; refine ⟨_, rfl, ?_⟩; have hcz10_0 : w9.cell? ⟨gb205, 0, none⟩ = some (.slice A0_0 l0_0.length c0_0) := (blk_cell BK205.out 0).trans rfl; have hfz10_0 := blk_frozen BK205.out 0) | ((with_reducible refine gate_callee (f := 89) rfl ?_); refine goesL_ (some 13) rfl rfl Try.func89 (by kernel_rfl) rfl #[.slice none 0 0, .agg #[.slice A0_0 l0_0.length c0_0], .int .i64 a1] rfl ar ?_; (refine (impl_termBytes.calls k (fun k_ => some k_ = (.slice none 0 0 : Value).ownBlock) (.slice none 0 0) ([] : List Int) _ _ l0_0 a1 t208 w _ ?side1 ?side2 ?side3 ?side4 A6.out).mono ?_); (case side1 => exact bw HB.out); (case side2 => exact Kd.R_nil _ _ _ _ _); (case side3 => exact Kd.C_kept_came k34_heap HR0_0.out (bw HB.out) (fun k_ hs_ => (fun e_ => by simp [Value.ownBlock] at e_) hs_)); (case side4 => exact HC0_0.out); rintro e w11 ⟨v209, rfl, ho0, hb, hkp⟩; refine ⟨_, rfl, ?_⟩; have n0_ := Aside0.mk (blk_kept (bl BK205.out) hkp (fun hs_ => (fun e_ => by simp [Value.ownBlock] at e_) hs_)); have n1_ := Aside0.mk (Kd.R_mono (ok' := fun k_ => True) ho0 (fun k_ hk_ => trivial)); have n2_ := Aside0.mk (hb); clear BK205 HB; have BK205 := n0_; have HO210 := n1_; have HB := n2_; clear n0_ n1_ n2_; (try clear hb); (try clear hkp); (try clear ho0); have hcv12 := own_string (P := Try.prog) Try.underlying22 Try.underlying5 Try.underlying9 (Kd.own_of_R HO210.out)))
  go_ret2
  exact ⟨by first | rfl | (simp [errW_none, errW_some] <;> rfl) | (simp [*, errW_none, errW_some] <;> rfl), bw HB.out⟩
 ·replace c5 := Bool.eq_false_iff.mpr c5
  subst c5
  have H1 : (some ((⟨#[]⟩ : ByteArray), false)) = some (r1, r2) := by rw [if_neg (show ¬ (false = true) by decide)] at H; exact H
  clear H
  have H := H1
  clear H1
  simp only [Option.some.injEq, Prod.mk.injEq] at H
  obtain ⟨rfl, rfl⟩ := H
  go_enter Try.func32, Try.ntmps32
  go_wp2_with (first | ((with_reducible refine gate_dst (N := 2) rfl ?_); refine box_event ?hg (N := 2) ?hd (cs := #[.slice A0_0 l0_0.length c0_0]) (t := 26) ?hr ?_; (case hd => rfl); (case hg => rfl); (case hr => first | (go_simp; done) | (go_simp; rfl)); intro gb205 hg w13 hbox hb; have n0_ := Aside0.mk (below_step (bw HB.out) hb); have n1_ := Aside0.mk (hbox); have n2_ := Aside0.mk ((by rw [hg]; exact (below_size (bw HB.out)) : w.heap.size ≤ gb205)); have n3_ := Aside0.mk ((by rw [hg]; exact (below_size (bw HB.out)) : w.heap.size ≤ gb205)); clear HB; have HB := n0_; have BK205 := n1_; have GW205 := n2_; have GE205 := n3_; clear n0_ n1_ n2_ n3_ hb hbox hg; have hcz14_0 : w13.cell? ⟨gb205, 0, none⟩ = some (.slice A0_0 l0_0.length c0_0) := (blk_cell BK205.out 0).trans rfl; have hfz14_0 := blk_frozen BK205.out 0) | ((with_reducible refine gate_callee (f := 30) rfl ?_); refine goesL_ (some 8) rfl rfl Try.func30 (by kernel_rfl) rfl #[.agg #[.slice A0_0 l0_0.length c0_0], .int .i64 a1] rfl ar ?_; (with_reducible refine (impl_SizeOf.calls k _ _ l0_0 a1 t206 _ ?side1 ?side2 A3.out).mono ?_); (case side1 => exact cl (Kd.C_below HR0_0.out HB.out)); (case side2 => exact HC0_0.out); rintro e w15 ⟨rfl, hb⟩; refine ⟨_, rfl, ?_⟩; have n0_ := Aside0.mk (blk_below (g := gb205) (o := .cells #[.slice A0_0 l0_0.length c0_0] 26 (0, 0)) (bl BK205.out) hb); have n1_ := Aside0.mk (below_step (bw HB.out) hb); clear BK205 HB; have BK205 := n0_; have HB := n1_; clear n0_ n1_; (try clear hb); (try clear hb2); (try clear hk); (try clear hi)) | ((with_reducible refine gate_callee (f := 75) rfl ?_); refine goesL_ (some 9) rfl rfl Try.func75 (by kernel_rfl) rfl #[.int .i64 t206, .int .i64 1, .int .i64 2000] rfl ar ?_; (with_reducible refine (impl_within.calls t206 1 2000 false _ A4.out).mono ?_); rintro e w' ⟨rfl, ⟨nd, rfl⟩⟩; refine ⟨_, rfl, ?_⟩))
  go_ret2
  exact ⟨by first | rfl | (simp [errW_none, errW_some] <;> rfl) | (simp [*, errW_none, errW_some] <;> rfl), bw HB.out⟩

/-! ### spec_l01PickInt: function 110 -/
def spec_l01PickInt.f (s0_0 : List Int) (s0_1 : Int) (s0_2 : Int) (l1 : List Int) : Option (Int × Int × Int) := (spec_l01Below.f s0_0 s0_1 s0_2 (l1.length : Int)).bind fun bt211 => (if 0 ≤ bt211.1 then (if bt211.1 < (l1.length : Int) then (some (rd l1 bt211.1, bt211.2.1, bt211.2.2)) else (none)) else (none))
set_option maxHeartbeats 8000000 in
set_option maxRecDepth 100000 in
theorem spec_l01PickInt.calls (g : Nat) (s0_0 : List Int) (s0_1 : Int) (s0_2 : Int) (A1 : Option Addr) (c1 : Nat) (l1 : List Int) (r1 : Int) (r2 : Int) (r3 : Int) (w0 w : World) (hI : IsS119 w0 w g s0_0 s0_1 s0_2) (hB : Below w0.heap.size w0 w) (hr1 : Kd.C (Kd.int .i64) w A1 l1.length l1) (hc1 : l1.length ≤ c1) (hf1 : ∀ ad, A1 = some ad → 0 < l1.length → ad.block ≠ g) (h : spec_l01PickInt.f s0_0 s0_1 s0_2 l1 = some (r1, r2, r3)) :
  Calls Try.prog 110 #[.pointer (some ⟨g, 0, none⟩), .slice A1 l1.length c1] w fun e w' => e = .returned (.int .i64 r1) ∧ IsS119 w0 w' g s0_0 r2 r3 ∧ Below w0.heap.size w0 w' ∧ KeepBut w w' g none := by
 have HR1 := Aside0.mk hr1
 have HC1 := Aside0.mk hc1
 clear hr1 hc1
 have HI0 := Aside0.mk hI
 have HK := Aside0.mk (KeepBut.refl w g none)
 have HL := Aside0.mk hB.size
 clear hI
 have HW0 := Aside0.mk hB.size
 have HB := Aside0.mk hB
 clear hB
 have H : ((spec_l01Below.f s0_0 s0_1 s0_2 (l1.length : Int)).bind fun bt211 => (if 0 ≤ bt211.1 then (if bt211.1 < (l1.length : Int) then (some (rd l1 bt211.1, bt211.2.1, bt211.2.2)) else (none)) else (none))) = some (r1, r2, r3) := h
 clear h
 replace H := Option.bind_eq_some_iff.mp H
 obtain ⟨⟨t211, t212, t213⟩, A30, H⟩ := H
 replace H : (if 0 ≤ t211 then (if t211 < (l1.length : Int) then (some (rd l1 t211, t212, t213)) else (none)) else (none)) = some (r1, r2, r3) := H
 have A3 := Aside0.mk A30
 clear A30
 by_cases c4 : 0 ≤ t211
 ·rw [if_pos c4] at H
  have c4b0 : decide (0 ≤ t211) = true := decide_eq_true c4
  clear c4
  by_cases c5 : t211 < (l1.length : Int)
  ·rw [if_pos c5] at H
   have c5b0 : decide (t211 < (l1.length : Int)) = true := decide_eq_true c5
   clear c5
   simp only [Option.some.injEq, Prod.mk.injEq] at H
   obtain ⟨rfl, rfl, rfl⟩ := H
   go_enter Try.func110, Try.ntmps110
   go_wp2_with (first | ((with_reducible refine gate_callee (f := 70) rfl ?_); refine goesL_ (some 9) rfl rfl Try.func70 (by kernel_rfl) rfl #[.pointer (some ⟨g, 0, none⟩), .int .i64 (l1.length : Int)] rfl ar ?_; (with_reducible refine (spec_l01Below.calls g s0_0 s0_1 s0_2 (l1.length : Int) t211 t212 t213 w0 _ ?side1 ?side2 A3.out).mono ?_); (case side1 => exact i9 HI0.out); (case side2 => exact b9 HB.out); rintro e w6 ⟨rfl, hi, hb, hk⟩; refine ⟨_, rfl, ?_⟩; have n0_ := Aside0.mk (KeepBut.trans (kp HK.out) hk (.inl rfl)); have n1_ := Aside0.mk (hb); have n2_ := Aside0.mk (hi); clear HK HB HI0; have HK := n0_; have HB := n1_; have HI0 := n2_; clear n0_ n1_ n2_; (try clear hb); (try clear hb2); (try clear hk); (try clear hi); have p214 : 0 ≤ (t211 : Int) := oda; have q214 : t211 < (l1.length : Int) := oda; obtain ⟨ad214, e214, hx214_0⟩ := Kd.at_int HR1.out t211 p214 q214; cases e214; replace hx214_0 := keep_cell HK.out hx214_0 (by first | (rw [add_block]; exact hf1 _ rfl (by omega)) | exact hf1 _ rfl (by omega) | exact hf1 ad214 rfl (by omega)); replace p214 := eq_true p214; replace q214 := eq_true q214))
   go_ret
   exact ⟨by first | rfl | (simp [errW_none, errW_some] <;> rfl) | (simp [*, errW_none, errW_some] <;> rfl), i9 HI0.out, b9 HB.out, kp HK.out⟩
  ·rw [if_neg c5] at H
   exact absurd H (by simp)
 ·rw [if_neg c4] at H
  exact absurd H (by simp)

/-! ### spec_l03One: function 111 -/
def spec_l03One.f (a0 : Int) : Option (Bool) := if a0 = 3 then (some true) else (some (a0 == 6))
set_option maxHeartbeats 8000000 in
set_option maxRecDepth 100000 in
theorem spec_l03One.calls (a0 : Int) (r : Bool) (w : World) (h : spec_l03One.f a0 = some r) :
  Calls Try.prog 111 #[.int .i64 a0] w fun e w' => e = .returned (.bool r) ∧ Drawn0 w w' := by
 have H : (if a0 = 3 then (some true) else (some (a0 == 6))) = some r := h
 clear h
 by_cases c2 : a0 = 3
 ·rw [if_pos c2] at H
  have c2b0 : (a0 == 3) = true := beq_iff_eq.mpr c2
  have c2b1 : (a0 != 3) = false := bne_eq_false_iff_eq.mpr c2
  clear c2
  obtain rfl := Option.some.inj H
  go_enter Try.func111, Try.ntmps111
  go_wp2
  go_ret
  exact ⟨by first | rfl | (simp; done) | (simp [*]; done), by repeat (first | exact Drawn0.refl _ | apply Drawn0.step)⟩
 ·rw [if_neg c2] at H
  have c2b0 : (a0 == 3) = false := beq_eq_false_iff_ne.mpr c2
  have c2b1 : (a0 != 3) = true := bne_iff_ne.mpr c2
  obtain rfl := Option.some.inj H
  go_enter Try.func111, Try.ntmps111
  go_wp2
  go_ret
  exact ⟨by first | rfl | (simp; done) | (simp [*]; done), by repeat (first | exact Drawn0.refl _ | apply Drawn0.step)⟩

/-! ### spec_l01In: function 79 -/
def spec_l01In.f (a0 : Int) (a1 : Int) (a2 : Int) : Option (Bool) := if a0 ≥ a1 then (some (decide (a0 ≤ a2))) else (some false)
set_option maxHeartbeats 8000000 in
set_option maxRecDepth 100000 in
theorem spec_l01In.calls (a0 : Int) (a1 : Int) (a2 : Int) (r : Bool) (w : World) (h : spec_l01In.f a0 a1 a2 = some r) :
  Calls Try.prog 79 #[.int .i64 a0, .int .i64 a1, .int .i64 a2] w fun e w' => e = .returned (.bool r) ∧ Drawn0 w w' := by
 have H : (if a0 ≥ a1 then (some (decide (a0 ≤ a2))) else (some false)) = some r := h
 clear h
 by_cases c4 : a0 ≥ a1
 ·rw [if_pos c4] at H
  have c4b0 : decide (a1 ≤ a0) = true := decide_eq_true c4
  clear c4
  obtain rfl := Option.some.inj H
  go_enter Try.func79, Try.ntmps79
  go_wp2
  go_ret
  exact ⟨by first | rfl | (simp; done) | (simp [*]; done), by repeat (first | exact Drawn0.refl _ | apply Drawn0.step)⟩
 ·rw [if_neg c4] at H
  have c4b0 : decide (a1 ≤ a0) = false := decide_eq_false c4
  clear c4
  obtain rfl := Option.some.inj H
  go_enter Try.func79, Try.ntmps79
  go_wp2
  go_ret
  exact ⟨by first | rfl | (simp; done) | (simp [*]; done), by repeat (first | exact Drawn0.refl _ | apply Drawn0.step)⟩

/-! ### spec_l03Node: function 81 -/
def spec_l03Node.j0 : Nat → Int → Bool → Int → Int → Int → Int → Option (Bool)
  | 0, _, _, _, _, _, _ => none
  | k + 1, x1, x35, x216000, x216001, x216002, x216003 => if x35 = true then (some false) else ((spec_l03One.f x216000).bind fun t219 => (if t219 = true then (some (x216003 == 0)) else ((spec_l01In.f x216003 0 (wrap64 (x1 - 1))).bind fun t220 => (some t220))))
def spec_l03Node.f (k : Nat) (a0_0 : Int) (a0_1 : Int) (a0_2 : Int) (a0_3 : Int) (a1 : Int) : Option (Bool) := (spec_l01In.f a0_0 1 9).bind fun t216 => (if t216 = true then (if a0_0 = 1 then ((spec_l01In.f a0_1 0 999999).bind fun t217 => (if t217 = true then (if a0_2 = 0 then (some (a0_3 == 0)) else (some false)) else (some false))) else (if a0_1 = 0 then ((spec_l01In.f a0_2 0 (wrap64 (a1 - 1))).bind fun t218 => (spec_l03Node.j0 k a1 (!t218) a0_0 a0_1 a0_2 a0_3)) else (spec_l03Node.j0 k a1 true a0_0 a0_1 a0_2 a0_3))) else (some false))
set_option maxHeartbeats 8000000 in
set_option maxRecDepth 100000 in
theorem spec_l03Node.calls (k : Nat) (a0_0 : Int) (a0_1 : Int) (a0_2 : Int) (a0_3 : Int) (a1 : Int) (r : Bool) (w : World) (h : spec_l03Node.f k a0_0 a0_1 a0_2 a0_3 a1 = some r) :
  Calls Try.prog 81 #[.agg #[.int .i64 a0_0, .int .i64 a0_1, .int .i64 a0_2, .int .i64 a0_3], .int .i64 a1] w fun e w' => e = .returned (.bool r) ∧ Below w.heap.size w w' := by
 have hu34 := Try.underlying34
 have HB := Aside0.mk (Below.refl w.heap.size w)
 have H : ((spec_l01In.f a0_0 1 9).bind fun t216 => (if t216 = true then (if a0_0 = 1 then ((spec_l01In.f a0_1 0 999999).bind fun t217 => (if t217 = true then (if a0_2 = 0 then (some (a0_3 == 0)) else (some false)) else (some false))) else (if a0_1 = 0 then ((spec_l01In.f a0_2 0 (wrap64 (a1 - 1))).bind fun t218 => (spec_l03Node.j0 k a1 (!t218) a0_0 a0_1 a0_2 a0_3)) else (spec_l03Node.j0 k a1 true a0_0 a0_1 a0_2 a0_3))) else (some false))) = some r := h
 clear h
 replace H := Option.bind_eq_some_iff.mp H
 obtain ⟨t216, A30, H⟩ := H
 replace H : (if t216 = true then (if a0_0 = 1 then ((spec_l01In.f a0_1 0 999999).bind fun t217 => (if t217 = true then (if a0_2 = 0 then (some (a0_3 == 0)) else (some false)) else (some false))) else (if a0_1 = 0 then ((spec_l01In.f a0_2 0 (wrap64 (a1 - 1))).bind fun t218 => (spec_l03Node.j0 k a1 (!t218) a0_0 a0_1 a0_2 a0_3)) else (spec_l03Node.j0 k a1 true a0_0 a0_1 a0_2 a0_3))) else (some false)) = some r := H
 have A3 := Aside0.mk A30
 clear A30
 by_cases c4 : t216 = true
 ·subst c4
  have H1 : (if a0_0 = 1 then ((spec_l01In.f a0_1 0 999999).bind fun t217 => (if t217 = true then (if a0_2 = 0 then (some (a0_3 == 0)) else (some false)) else (some false))) else (if a0_1 = 0 then ((spec_l01In.f a0_2 0 (wrap64 (a1 - 1))).bind fun t218 => (spec_l03Node.j0 k a1 (!t218) a0_0 a0_1 a0_2 a0_3)) else (spec_l03Node.j0 k a1 true a0_0 a0_1 a0_2 a0_3))) = some r := by rw [if_pos rfl] at H; exact H
  clear H
  have H := H1
  clear H1
  by_cases c5 : a0_0 = 1
  ·rw [if_pos c5] at H
   have c5b0 : (a0_0 == 1) = true := beq_iff_eq.mpr c5
   have c5b1 : (a0_0 != 1) = false := bne_eq_false_iff_eq.mpr c5
   clear c5
   replace H := Option.bind_eq_some_iff.mp H
   obtain ⟨t217, A60, H⟩ := H
   replace H : (if t217 = true then (if a0_2 = 0 then (some (a0_3 == 0)) else (some false)) else (some false)) = some r := H
   have A6 := Aside0.mk A60
   clear A60
   by_cases c7 : t217 = true
   ·subst c7
    have H1 : (if a0_2 = 0 then (some (a0_3 == 0)) else (some false)) = some r := by rw [if_pos rfl] at H; exact H
    clear H
    have H := H1
    clear H1
    by_cases c8 : a0_2 = 0
    ·rw [if_pos c8] at H
     have c8b0 : (a0_2 == 0) = true := beq_iff_eq.mpr c8
     have c8b1 : (a0_2 != 0) = false := bne_eq_false_iff_eq.mpr c8
     clear c8
     obtain rfl := Option.some.inj H
     go_enter Try.func81, Try.ntmps81
     go_wp2_with (first | ((with_reducible refine gate_dst (N := 2) rfl ?_); refine box_event ?hg (N := 2) ?hd (cs := #[.int .i64 a0_0, .int .i64 a0_1, .int .i64 a0_2, .int .i64 a0_3]) (t := 34) ?hr ?_; (case hd => rfl); (case hg => rfl); (case hr => first | (go_simp; done) | (go_simp; rfl)); intro gb215 hg w9 hbox hb; have n0_ := Aside0.mk (below_step (bw HB.out) hb); have n1_ := Aside0.mk (hbox); have n2_ := Aside0.mk ((by rw [hg]; exact (below_size (bw HB.out)) : w.heap.size ≤ gb215)); have n3_ := Aside0.mk ((by rw [hg]; exact (below_size (bw HB.out)) : w.heap.size ≤ gb215)); clear HB; have HB := n0_; have BK215 := n1_; have GW215 := n2_; have GE215 := n3_; clear n0_ n1_ n2_ n3_ hb hbox hg; have hcz10_0 : w9.cell? ⟨gb215, 0, none⟩ = some (.int .i64 a0_0) := (blk_cell BK215.out 0).trans rfl; have hcz10_1 : w9.cell? ⟨gb215, 1, none⟩ = some (.int .i64 a0_1) := (blk_cell BK215.out 1).trans rfl; have hcz10_2 : w9.cell? ⟨gb215, 2, none⟩ = some (.int .i64 a0_2) := (blk_cell BK215.out 2).trans rfl; have hcz10_3 : w9.cell? ⟨gb215, 3, none⟩ = some (.int .i64 a0_3) := (blk_cell BK215.out 3).trans rfl; have hfz10_0 := blk_frozen BK215.out 0; have hfz10_1 := blk_frozen BK215.out 1; have hfz10_2 := blk_frozen BK215.out 2; have hfz10_3 := blk_frozen BK215.out 3) | ((with_reducible refine gate_callee (f := 79) rfl ?_); refine goesL_ (some 7) rfl rfl Try.func79 (by kernel_rfl) rfl #[.int .i64 a0_0, .int .i64 1, .int .i64 9] rfl ar ?_; (with_reducible refine (spec_l01In.calls a0_0 1 9 true _ A3.out).mono ?_); rintro e w' ⟨rfl, ⟨nd, rfl⟩⟩; refine ⟨_, rfl, ?_⟩) | ((with_reducible refine gate_callee (f := 79) rfl ?_); refine goesL_ (some 14) rfl rfl Try.func79 (by kernel_rfl) rfl #[.int .i64 a0_1, .int .i64 0, .int .i64 999999] rfl ar ?_; (with_reducible refine (spec_l01In.calls a0_1 0 999999 true _ A6.out).mono ?_); rintro e w' ⟨rfl, ⟨nd, rfl⟩⟩; refine ⟨_, rfl, ?_⟩))
     go_ret
     exact ⟨by first | rfl | (simp [errW_none, errW_some] <;> rfl) | (simp [*, errW_none, errW_some] <;> rfl), bw HB.out⟩
    ·rw [if_neg c8] at H
     have c8b0 : (a0_2 == 0) = false := beq_eq_false_iff_ne.mpr c8
     have c8b1 : (a0_2 != 0) = true := bne_iff_ne.mpr c8
     obtain rfl := Option.some.inj H
     go_enter Try.func81, Try.ntmps81
     go_wp2_with (first | ((with_reducible refine gate_dst (N := 2) rfl ?_); refine box_event ?hg (N := 2) ?hd (cs := #[.int .i64 a0_0, .int .i64 a0_1, .int .i64 a0_2, .int .i64 a0_3]) (t := 34) ?hr ?_; (case hd => rfl); (case hg => rfl); (case hr => first | (go_simp; done) | (go_simp; rfl)); intro gb215 hg w11 hbox hb; have n0_ := Aside0.mk (below_step (bw HB.out) hb); have n1_ := Aside0.mk (hbox); have n2_ := Aside0.mk ((by rw [hg]; exact (below_size (bw HB.out)) : w.heap.size ≤ gb215)); have n3_ := Aside0.mk ((by rw [hg]; exact (below_size (bw HB.out)) : w.heap.size ≤ gb215)); clear HB; have HB := n0_; have BK215 := n1_; have GW215 := n2_; have GE215 := n3_; clear n0_ n1_ n2_ n3_ hb hbox hg; have hcz12_0 : w11.cell? ⟨gb215, 0, none⟩ = some (.int .i64 a0_0) := (blk_cell BK215.out 0).trans rfl; have hcz12_1 : w11.cell? ⟨gb215, 1, none⟩ = some (.int .i64 a0_1) := (blk_cell BK215.out 1).trans rfl; have hcz12_2 : w11.cell? ⟨gb215, 2, none⟩ = some (.int .i64 a0_2) := (blk_cell BK215.out 2).trans rfl; have hcz12_3 : w11.cell? ⟨gb215, 3, none⟩ = some (.int .i64 a0_3) := (blk_cell BK215.out 3).trans rfl; have hfz12_0 := blk_frozen BK215.out 0; have hfz12_1 := blk_frozen BK215.out 1; have hfz12_2 := blk_frozen BK215.out 2; have hfz12_3 := blk_frozen BK215.out 3) | ((with_reducible refine gate_callee (f := 79) rfl ?_); refine goesL_ (some 7) rfl rfl Try.func79 (by kernel_rfl) rfl #[.int .i64 a0_0, .int .i64 1, .int .i64 9] rfl ar ?_; (with_reducible refine (spec_l01In.calls a0_0 1 9 true _ A3.out).mono ?_); rintro e w' ⟨rfl, ⟨nd, rfl⟩⟩; refine ⟨_, rfl, ?_⟩) | ((with_reducible refine gate_callee (f := 79) rfl ?_); refine goesL_ (some 14) rfl rfl Try.func79 (by kernel_rfl) rfl #[.int .i64 a0_1, .int .i64 0, .int .i64 999999] rfl ar ?_; (with_reducible refine (spec_l01In.calls a0_1 0 999999 true _ A6.out).mono ?_); rintro e w' ⟨rfl, ⟨nd, rfl⟩⟩; refine ⟨_, rfl, ?_⟩))
     go_ret
     exact ⟨by first | rfl | (simp [errW_none, errW_some] <;> rfl) | (simp [*, errW_none, errW_some] <;> rfl), bw HB.out⟩
   ·replace c7 := Bool.eq_false_iff.mpr c7
    subst c7
    have H1 : (some false) = some r := by rw [if_neg (show ¬ (false = true) by decide)] at H; exact H
    clear H
    have H := H1
    clear H1
    obtain rfl := Option.some.inj H
    go_enter Try.func81, Try.ntmps81
    go_wp2_with (first | ((with_reducible refine gate_dst (N := 2) rfl ?_); refine box_event ?hg (N := 2) ?hd (cs := #[.int .i64 a0_0, .int .i64 a0_1, .int .i64 a0_2, .int .i64 a0_3]) (t := 34) ?hr ?_; (case hd => rfl); (case hg => rfl); (case hr => first | (go_simp; done) | (go_simp; rfl)); intro gb215 hg w13 hbox hb; have n0_ := Aside0.mk (below_step (bw HB.out) hb); have n1_ := Aside0.mk (hbox); have n2_ := Aside0.mk ((by rw [hg]; exact (below_size (bw HB.out)) : w.heap.size ≤ gb215)); have n3_ := Aside0.mk ((by rw [hg]; exact (below_size (bw HB.out)) : w.heap.size ≤ gb215)); clear HB; have HB := n0_; have BK215 := n1_; have GW215 := n2_; have GE215 := n3_; clear n0_ n1_ n2_ n3_ hb hbox hg; have hcz14_0 : w13.cell? ⟨gb215, 0, none⟩ = some (.int .i64 a0_0) := (blk_cell BK215.out 0).trans rfl; have hcz14_1 : w13.cell? ⟨gb215, 1, none⟩ = some (.int .i64 a0_1) := (blk_cell BK215.out 1).trans rfl; have hcz14_2 : w13.cell? ⟨gb215, 2, none⟩ = some (.int .i64 a0_2) := (blk_cell BK215.out 2).trans rfl; have hcz14_3 : w13.cell? ⟨gb215, 3, none⟩ = some (.int .i64 a0_3) := (blk_cell BK215.out 3).trans rfl; have hfz14_0 := blk_frozen BK215.out 0; have hfz14_1 := blk_frozen BK215.out 1; have hfz14_2 := blk_frozen BK215.out 2; have hfz14_3 := blk_frozen BK215.out 3) | ((with_reducible refine gate_callee (f := 79) rfl ?_); refine goesL_ (some 7) rfl rfl Try.func79 (by kernel_rfl) rfl #[.int .i64 a0_0, .int .i64 1, .int .i64 9] rfl ar ?_; (with_reducible refine (spec_l01In.calls a0_0 1 9 true _ A3.out).mono ?_); rintro e w' ⟨rfl, ⟨nd, rfl⟩⟩; refine ⟨_, rfl, ?_⟩) | ((with_reducible refine gate_callee (f := 79) rfl ?_); refine goesL_ (some 14) rfl rfl Try.func79 (by kernel_rfl) rfl #[.int .i64 a0_1, .int .i64 0, .int .i64 999999] rfl ar ?_; (with_reducible refine (spec_l01In.calls a0_1 0 999999 false _ A6.out).mono ?_); rintro e w' ⟨rfl, ⟨nd, rfl⟩⟩; refine ⟨_, rfl, ?_⟩))
    go_ret
    exact ⟨by first | rfl | (simp [errW_none, errW_some] <;> rfl) | (simp [*, errW_none, errW_some] <;> rfl), bw HB.out⟩
  ·rw [if_neg c5] at H
   have c5b0 : (a0_0 == 1) = false := beq_eq_false_iff_ne.mpr c5
   have c5b1 : (a0_0 != 1) = true := bne_iff_ne.mpr c5
   have HC15 := Aside0.mk H
   clear H
   go_enter Try.func81, Try.ntmps81
   go_upto_region 5 with (first | ((with_reducible refine gate_dst (N := 2) rfl ?_); refine box_event ?hg (N := 2) ?hd (cs := #[.int .i64 a0_0, .int .i64 a0_1, .int .i64 a0_2, .int .i64 a0_3]) (t := 34) ?hr ?_; (case hd => rfl); (case hg => rfl); (case hr => first | (go_simp; done) | (go_simp; rfl)); intro gb215 hg w16 hbox hb; have n0_ := Aside0.mk (below_step (bw HB.out) hb); have n1_ := Aside0.mk (hbox); have n2_ := Aside0.mk ((by rw [hg]; exact (below_size (bw HB.out)) : w.heap.size ≤ gb215)); have n3_ := Aside0.mk ((by rw [hg]; exact (below_size (bw HB.out)) : w.heap.size ≤ gb215)); clear HB; have HB := n0_; have BK215 := n1_; have GW215 := n2_; have GE215 := n3_; clear n0_ n1_ n2_ n3_ hb hbox hg; have hcz17_0 : w16.cell? ⟨gb215, 0, none⟩ = some (.int .i64 a0_0) := (blk_cell BK215.out 0).trans rfl; have hcz17_1 : w16.cell? ⟨gb215, 1, none⟩ = some (.int .i64 a0_1) := (blk_cell BK215.out 1).trans rfl; have hcz17_2 : w16.cell? ⟨gb215, 2, none⟩ = some (.int .i64 a0_2) := (blk_cell BK215.out 2).trans rfl; have hcz17_3 : w16.cell? ⟨gb215, 3, none⟩ = some (.int .i64 a0_3) := (blk_cell BK215.out 3).trans rfl; have hfz17_0 := blk_frozen BK215.out 0; have hfz17_1 := blk_frozen BK215.out 1; have hfz17_2 := blk_frozen BK215.out 2; have hfz17_3 := blk_frozen BK215.out 3) | ((with_reducible refine gate_callee (f := 79) rfl ?_); refine goesL_ (some 7) rfl rfl Try.func79 (by kernel_rfl) rfl #[.int .i64 a0_0, .int .i64 1, .int .i64 9] rfl ar ?_; (with_reducible refine (spec_l01In.calls a0_0 1 9 true _ A3.out).mono ?_); rintro e w' ⟨rfl, ⟨nd, rfl⟩⟩; refine ⟨_, rfl, ?_⟩))
   (try simp only [Act.put, List.setIfInBounds_toArray, List.set_cons_zero, List.set_cons_succ])
   go_cut [35] (fun v35 wc => ∃ (kq : Nat) (x35_14 : Bool), v35 = .bool x35_14 ∧ Aside0 (spec_l03Node.j0 kq a1 x35_14 a0_0 a0_1 a0_2 a0_3 = some r) ∧ Aside0 (kq ≤ k) ∧ Aside0 (wc.heap[gb215]? = some (.cells #[.int .i64 a0_0, .int .i64 a0_1, .int .i64 a0_2, .int .i64 a0_3] 34 (0, 0))) ∧ Aside0 (Below w.heap.size w wc))
   case first =>
    have H := HC15.out
    clear HC15
    by_cases c18 : a0_1 = 0
    ·rw [if_pos c18] at H
     have c18b0 : (a0_1 == 0) = true := beq_iff_eq.mpr c18
     have c18b1 : (a0_1 != 0) = false := bne_eq_false_iff_eq.mpr c18
     clear c18
     (first | rw [c18b0] | (simp only [i64_w, i32_w]; rw [c18b0]) | skip)
     replace H := Option.bind_eq_some_iff.mp H
     obtain ⟨t218, A190, H⟩ := H
     replace H : (spec_l03Node.j0 k a1 (!t218) a0_0 a0_1 a0_2 a0_3) = some r := H
     have A19 := Aside0.mk A190
     clear A190
     have H' := Aside0.mk H
     clear H
     have hcz20_0 : w16.cell? ⟨gb215, 0, none⟩ = some (.int .i64 a0_0) := (blk_cell BK215.out 0).trans rfl
     have hcz20_1 : w16.cell? ⟨gb215, 1, none⟩ = some (.int .i64 a0_1) := (blk_cell BK215.out 1).trans rfl
     have hcz20_2 : w16.cell? ⟨gb215, 2, none⟩ = some (.int .i64 a0_2) := (blk_cell BK215.out 2).trans rfl
     have hcz20_3 : w16.cell? ⟨gb215, 3, none⟩ = some (.int .i64 a0_3) := (blk_cell BK215.out 3).trans rfl
     have hfz20_0 := blk_frozen BK215.out 0
     have hfz20_1 := blk_frozen BK215.out 1
     have hfz20_2 := blk_frozen BK215.out 2
     have hfz20_3 := blk_frozen BK215.out 3
     go_wp2_with (first | (go_at_call 79; (with_reducible refine (spec_l01In.calls a0_2 0 (wrap64 (a1 - 1)) t218 _ A19.out).mono ?_); rintro e w' ⟨rfl, ⟨nd, rfl⟩⟩))
     go_meet
     case rel => exact ⟨_, (!t218), (by first | rfl | (simp; done) | (simp [*]; done)), H', ⟨by first | omega | exact Nat.le_refl _⟩, ⟨bl BK215.out⟩, ⟨bw HB.out⟩⟩
    ·rw [if_neg c18] at H
     have c18b0 : (a0_1 == 0) = false := beq_eq_false_iff_ne.mpr c18
     have c18b1 : (a0_1 != 0) = true := bne_iff_ne.mpr c18
     (first | rw [c18b0] | (simp only [i64_w, i32_w]; rw [c18b0]) | skip)
     have H' := Aside0.mk H
     clear H
     have hcz21_0 : w16.cell? ⟨gb215, 0, none⟩ = some (.int .i64 a0_0) := (blk_cell BK215.out 0).trans rfl
     have hcz21_1 : w16.cell? ⟨gb215, 1, none⟩ = some (.int .i64 a0_1) := (blk_cell BK215.out 1).trans rfl
     have hcz21_2 : w16.cell? ⟨gb215, 2, none⟩ = some (.int .i64 a0_2) := (blk_cell BK215.out 2).trans rfl
     have hcz21_3 : w16.cell? ⟨gb215, 3, none⟩ = some (.int .i64 a0_3) := (blk_cell BK215.out 3).trans rfl
     have hfz21_0 := blk_frozen BK215.out 0
     have hfz21_1 := blk_frozen BK215.out 1
     have hfz21_2 := blk_frozen BK215.out 2
     have hfz21_3 := blk_frozen BK215.out 3
     go_wp2
     go_meet
     case rel => exact ⟨_, (true), (by first | rfl | (simp; done) | (simp [*]; done)), H', ⟨by first | omega | exact Nat.le_refl _⟩, ⟨bl BK215.out⟩, ⟨bw HB.out⟩⟩
   case rest =>
    clear HC15
    try clear c1
    try clear p2
    try clear c4
    try clear c5
    try clear c5b0
    try clear c5b1
    try clear p6
    try clear c7
    try clear c8
    try clear c8b0
    try clear c8b1
    try clear c18
    try clear c18b0
    try clear c18b1
    try clear hcz10_0
    try clear hcz10_1
    try clear hcz10_2
    try clear hcz10_3
    try clear hcz12_0
    try clear hcz12_1
    try clear hcz12_2
    try clear hcz12_3
    try clear hcz14_0
    try clear hcz14_1
    try clear hcz14_2
    try clear hcz14_3
    try clear hcz17_0
    try clear hcz17_1
    try clear hcz17_2
    try clear hcz17_3
    try clear hcz20_0
    try clear hcz20_1
    try clear hcz20_2
    try clear hcz20_3
    try clear hcz21_0
    try clear hcz21_1
    try clear hcz21_2
    try clear hcz21_3
    try clear hfz10_0
    try clear hfz10_1
    try clear hfz10_2
    try clear hfz10_3
    try clear hfz12_0
    try clear hfz12_1
    try clear hfz12_2
    try clear hfz12_3
    try clear hfz14_0
    try clear hfz14_1
    try clear hfz14_2
    try clear hfz14_3
    try clear hfz17_0
    try clear hfz17_1
    try clear hfz17_2
    try clear hfz17_3
    try clear hfz20_0
    try clear hfz20_1
    try clear hfz20_2
    try clear hfz20_3
    try clear hfz21_0
    try clear hfz21_1
    try clear hfz21_2
    try clear hfz21_3
    obtain ⟨kq, x35_14, rfl, HA, HJ14, BK215, HB⟩ := hcut
    cases kq with
    | zero => exact absurd HA.out (by simp [spec_l03Node.j0])
    | succ kj14 =>
     have H := HA.out
     clear HA
     simp only [spec_l03Node.j0] at H
     by_cases c22 : x35_14 = true
     ·subst c22
      have H1 : (some false) = some r := by rw [if_pos rfl] at H; exact H
      clear H
      have H := H1
      clear H1
      obtain rfl := Option.some.inj H
      go_wp2
      go_ret
      exact ⟨by first | rfl | (simp [errW_none, errW_some] <;> rfl) | (simp [*, errW_none, errW_some] <;> rfl), bw HB.out⟩
     ·replace c22 := Bool.eq_false_iff.mpr c22
      subst c22
      have H1 : ((spec_l03One.f a0_0).bind fun t219 => (if t219 = true then (some (a0_3 == 0)) else ((spec_l01In.f a0_3 0 (wrap64 (a1 - 1))).bind fun t220 => (some t220)))) = some r := by rw [if_neg (show ¬ (false = true) by decide)] at H; exact H
      clear H
      have H := H1
      clear H1
      replace H := Option.bind_eq_some_iff.mp H
      obtain ⟨t219, A230, H⟩ := H
      replace H : (if t219 = true then (some (a0_3 == 0)) else ((spec_l01In.f a0_3 0 (wrap64 (a1 - 1))).bind fun t220 => (some t220))) = some r := H
      have A23 := Aside0.mk A230
      clear A230
      by_cases c24 : t219 = true
      ·subst c24
       have H1 : (some (a0_3 == 0)) = some r := by rw [if_pos rfl] at H; exact H
       clear H
       have H := H1
       clear H1
       obtain rfl := Option.some.inj H
       have hcz25_0 : wc.cell? ⟨gb215, 0, none⟩ = some (.int .i64 a0_0) := (blk_cell BK215.out 0).trans rfl
       have hcz25_1 : wc.cell? ⟨gb215, 1, none⟩ = some (.int .i64 a0_1) := (blk_cell BK215.out 1).trans rfl
       have hcz25_2 : wc.cell? ⟨gb215, 2, none⟩ = some (.int .i64 a0_2) := (blk_cell BK215.out 2).trans rfl
       have hcz25_3 : wc.cell? ⟨gb215, 3, none⟩ = some (.int .i64 a0_3) := (blk_cell BK215.out 3).trans rfl
       have hfz25_0 := blk_frozen BK215.out 0
       have hfz25_1 := blk_frozen BK215.out 1
       have hfz25_2 := blk_frozen BK215.out 2
       have hfz25_3 := blk_frozen BK215.out 3
       go_wp2_with (first | ((with_reducible refine gate_callee (f := 111) rfl ?_); refine goesL_ (some 38) rfl rfl Try.func111 (by kernel_rfl) rfl #[.int .i64 a0_0] rfl ar ?_; (with_reducible refine (spec_l03One.calls a0_0 true _ A23.out).mono ?_); rintro e w' ⟨rfl, ⟨nd, rfl⟩⟩; refine ⟨_, rfl, ?_⟩))
       go_ret
       exact ⟨by first | rfl | (simp [errW_none, errW_some] <;> rfl) | (simp [*, errW_none, errW_some] <;> rfl), bw HB.out⟩
      ·replace c24 := Bool.eq_false_iff.mpr c24
       subst c24
       have H1 : ((spec_l01In.f a0_3 0 (wrap64 (a1 - 1))).bind fun t220 => (some t220)) = some r := by rw [if_neg (show ¬ (false = true) by decide)] at H; exact H
       clear H
       have H := H1
       clear H1
       replace H := Option.bind_eq_some_iff.mp H
       obtain ⟨t220, A260, H⟩ := H
       replace H : (some t220) = some r := H
       have A26 := Aside0.mk A260
       clear A260
       obtain rfl := Option.some.inj H
       have hcz27_0 : wc.cell? ⟨gb215, 0, none⟩ = some (.int .i64 a0_0) := (blk_cell BK215.out 0).trans rfl
       have hcz27_1 : wc.cell? ⟨gb215, 1, none⟩ = some (.int .i64 a0_1) := (blk_cell BK215.out 1).trans rfl
       have hcz27_2 : wc.cell? ⟨gb215, 2, none⟩ = some (.int .i64 a0_2) := (blk_cell BK215.out 2).trans rfl
       have hcz27_3 : wc.cell? ⟨gb215, 3, none⟩ = some (.int .i64 a0_3) := (blk_cell BK215.out 3).trans rfl
       have hfz27_0 := blk_frozen BK215.out 0
       have hfz27_1 := blk_frozen BK215.out 1
       have hfz27_2 := blk_frozen BK215.out 2
       have hfz27_3 := blk_frozen BK215.out 3
       go_wp2_with (first | ((with_reducible refine gate_callee (f := 111) rfl ?_); refine goesL_ (some 38) rfl rfl Try.func111 (by kernel_rfl) rfl #[.int .i64 a0_0] rfl ar ?_; (with_reducible refine (spec_l03One.calls a0_0 false _ A23.out).mono ?_); rintro e w' ⟨rfl, ⟨nd, rfl⟩⟩; refine ⟨_, rfl, ?_⟩) | ((with_reducible refine gate_callee (f := 79) rfl ?_); refine goesL_ (some 46) rfl rfl Try.func79 (by kernel_rfl) rfl #[.int .i64 a0_3, .int .i64 0, .int .i64 (wrap64 (a1 - 1))] rfl ar ?_; (with_reducible refine (spec_l01In.calls a0_3 0 (wrap64 (a1 - 1)) t220 _ A26.out).mono ?_); rintro e w' ⟨rfl, ⟨nd, rfl⟩⟩; refine ⟨_, rfl, ?_⟩))
       go_ret
       exact ⟨by first | rfl | (simp [errW_none, errW_some] <;> rfl) | (simp [*, errW_none, errW_some] <;> rfl), bw HB.out⟩
 ·replace c4 := Bool.eq_false_iff.mpr c4
  subst c4
  have H1 : (some false) = some r := by rw [if_neg (show ¬ (false = true) by decide)] at H; exact H
  clear H
  have H := H1
  clear H1
  obtain rfl := Option.some.inj H
  go_enter Try.func81, Try.ntmps81
  go_wp2_with (first | ((with_reducible refine gate_dst (N := 2) rfl ?_); refine box_event ?hg (N := 2) ?hd (cs := #[.int .i64 a0_0, .int .i64 a0_1, .int .i64 a0_2, .int .i64 a0_3]) (t := 34) ?hr ?_; (case hd => rfl); (case hg => rfl); (case hr => first | (go_simp; done) | (go_simp; rfl)); intro gb215 hg w28 hbox hb; have n0_ := Aside0.mk (below_step (bw HB.out) hb); have n1_ := Aside0.mk (hbox); have n2_ := Aside0.mk ((by rw [hg]; exact (below_size (bw HB.out)) : w.heap.size ≤ gb215)); have n3_ := Aside0.mk ((by rw [hg]; exact (below_size (bw HB.out)) : w.heap.size ≤ gb215)); clear HB; have HB := n0_; have BK215 := n1_; have GW215 := n2_; have GE215 := n3_; clear n0_ n1_ n2_ n3_ hb hbox hg; have hcz29_0 : w28.cell? ⟨gb215, 0, none⟩ = some (.int .i64 a0_0) := (blk_cell BK215.out 0).trans rfl; have hcz29_1 : w28.cell? ⟨gb215, 1, none⟩ = some (.int .i64 a0_1) := (blk_cell BK215.out 1).trans rfl; have hcz29_2 : w28.cell? ⟨gb215, 2, none⟩ = some (.int .i64 a0_2) := (blk_cell BK215.out 2).trans rfl; have hcz29_3 : w28.cell? ⟨gb215, 3, none⟩ = some (.int .i64 a0_3) := (blk_cell BK215.out 3).trans rfl; have hfz29_0 := blk_frozen BK215.out 0; have hfz29_1 := blk_frozen BK215.out 1; have hfz29_2 := blk_frozen BK215.out 2; have hfz29_3 := blk_frozen BK215.out 3) | ((with_reducible refine gate_callee (f := 79) rfl ?_); refine goesL_ (some 7) rfl rfl Try.func79 (by kernel_rfl) rfl #[.int .i64 a0_0, .int .i64 1, .int .i64 9] rfl ar ?_; (with_reducible refine (spec_l01In.calls a0_0 1 9 false _ A3.out).mono ?_); rintro e w' ⟨rfl, ⟨nd, rfl⟩⟩; refine ⟨_, rfl, ?_⟩))
  go_ret
  exact ⟨by first | rfl | (simp [errW_none, errW_some] <;> rfl) | (simp [*, errW_none, errW_some] <;> rfl), bw HB.out⟩

/-! ### spec_l03At: function 82 -/
def spec_l03At.l0 : Nat → List (S34) → Int → Int → Int → Int → Int → Option (Int)
  | 0, _, _, _, _, _, _ => none
  | k + 1, x0, x5, x222000, x222001, x222002, x222003 => if x5 < (x0.length : Int) then (if 0 ≤ x5 then (if (((rd_T34 x0 x5).f0) == x222000 && (((rd_T34 x0 x5).f1) == x222001 && (((rd_T34 x0 x5).f2) == x222002 && (((rd_T34 x0 x5).f3) == x222003)))) = true then (some x5) else (spec_l03At.l0 k x0 (wrap64 (x5 + 1)) x222000 x222001 x222002 x222003)) else (none)) else (some (-1))
def spec_l03At.f (k : Nat) (l0 : List (S34)) (a1_0 : Int) (a1_1 : Int) (a1_2 : Int) (a1_3 : Int) : Option (Int) := spec_l03At.l0 k l0 0 a1_0 a1_1 a1_2 a1_3
set_option maxHeartbeats 8000000 in
set_option maxRecDepth 100000 in
theorem spec_l03At.calls (k : Nat) (A0 : Option Addr) (c0 : Nat) (l0 : List (S34)) (a1_0 : Int) (a1_1 : Int) (a1_2 : Int) (a1_3 : Int) (r : Int) (w : World) (hr0 : Kd.C k34 w A0 l0.length l0) (hc0 : l0.length ≤ c0) (h : spec_l03At.f k l0 a1_0 a1_1 a1_2 a1_3 = some r) :
  Calls Try.prog 82 #[.slice A0 l0.length c0, .agg #[.int .i64 a1_0, .int .i64 a1_1, .int .i64 a1_2, .int .i64 a1_3]] w fun e w' => e = .returned (.int .i64 r) ∧ Below w.heap.size w w' := by
 have hu34 := Try.underlying34
 have HR0 := Aside0.mk hr0
 have HC0 := Aside0.mk hc0
 clear hr0 hc0
 have HB := Aside0.mk (Below.refl w.heap.size w)
 have H : (spec_l03At.l0 k l0 0 a1_0 a1_1 a1_2 a1_3) = some r := h
 clear h
 have H' := Aside0.mk H
 clear H
 go_enter Try.func82, Try.ntmps82
 go_wp2_with (first | ((with_reducible refine gate_dst (N := 3) rfl ?_); refine box_event ?hg (N := 3) ?hd (cs := #[.int .i64 a1_0, .int .i64 a1_1, .int .i64 a1_2, .int .i64 a1_3]) (t := 34) ?hr ?_; (case hd => rfl); (case hg => rfl); (case hr => first | (go_simp; done) | (go_simp; rfl)); intro gb221 hg w3 hbox hb; have n0_ := Aside0.mk (below_step (bw HB.out) hb); have n1_ := Aside0.mk (hbox); have n2_ := Aside0.mk ((by rw [hg]; exact (below_size (bw HB.out)) : w.heap.size ≤ gb221)); have n3_ := Aside0.mk ((by rw [hg]; exact (below_size (bw HB.out)) : w.heap.size ≤ gb221)); clear HB; have HB := n0_; have BK221 := n1_; have GW221 := n2_; have GE221 := n3_; clear n0_ n1_ n2_ n3_ hb hbox hg))
 repeat (go_quiet (first | ((with_reducible refine gate_dst (N := 3) rfl ?_); refine box_event ?hg (N := 3) ?hd (cs := #[.int .i64 a1_0, .int .i64 a1_1, .int .i64 a1_2, .int .i64 a1_3]) (t := 34) ?hr ?_; (case hd => rfl); (case hg => rfl); (case hr => first | (go_simp; done) | (go_simp; rfl)); intro gb221 hg w3 hbox hb; have n0_ := Aside0.mk (below_step (bw HB.out) hb); have n1_ := Aside0.mk (hbox); have n2_ := Aside0.mk ((by rw [hg]; exact (below_size (bw HB.out)) : w.heap.size ≤ gb221)); have n3_ := Aside0.mk ((by rw [hg]; exact (below_size (bw HB.out)) : w.heap.size ≤ gb221)); clear HB; have HB := n0_; have BK221 := n1_; have GW221 := n2_; have GE221 := n3_; clear n0_ n1_ n2_ n3_ hb hbox hg)); try go_wp2)
 go_loopg [5] k (fun kq v5 w' => ∃ (x5_1 : Int), v5 = .int .i64 x5_1 ∧ Aside0 (spec_l03At.l0 kq l0 x5_1 a1_0 a1_1 a1_2 a1_3 = some r) ∧ Aside0 (kq ≤ k) ∧ Aside0 (w'.heap[gb221]? = some (.cells #[.int .i64 a1_0, .int .i64 a1_1, .int .i64 a1_2, .int .i64 a1_3] 34 (0, 0))) ∧ Aside0 (Below w.heap.size w w'))
 case atStart => exact ⟨(0), (by first | rfl | (simp; done) | (simp [*]; done)), H', ⟨Nat.le_refl _⟩, ⟨bl BK221.out⟩, ⟨bw HB.out⟩⟩
 case round =>
  clear H'
  try clear p2
  obtain ⟨x5_1, rfl, HA, HK1, BK221, HB⟩ := hrel
  cases gk with
  | zero => exact absurd HA.out (by simp [spec_l03At.l0])
  | succ k1 =>
   have H := HA.out
   clear HA
   simp only [spec_l03At.l0] at H
   by_cases c4 : x5_1 < (l0.length : Int)
   ·rw [if_pos c4] at H
    have c4b0 : decide (x5_1 < (l0.length : Int)) = true := decide_eq_true c4
    clear c4
    by_cases c5 : 0 ≤ x5_1
    ·rw [if_pos c5] at H
     have c5b0 : decide (0 ≤ x5_1) = true := decide_eq_true c5
     clear c5
     by_cases c6 : (((rd_T34 l0 x5_1).f0) == a1_0 && (((rd_T34 l0 x5_1).f1) == a1_1 && (((rd_T34 l0 x5_1).f2) == a1_2 && (((rd_T34 l0 x5_1).f3) == a1_3)))) = true
     ·rw [if_pos c6] at H
      have c6b0 : (((rd_T34 l0 x5_1).f0) == a1_0 && (((rd_T34 l0 x5_1).f1) == a1_1 && (((rd_T34 l0 x5_1).f2) == a1_2 && (((rd_T34 l0 x5_1).f3) == a1_3)))) = true := c6
      (try (have c6b1 : decide (((rd_T34 l0 x5_1).f0) = a1_0 && (((rd_T34 l0 x5_1).f1) == a1_1 && (((rd_T34 l0 x5_1).f2) == a1_2 && (((rd_T34 l0 x5_1).f3) == a1_3)))) = true := by simpa using c6))
      (try (have c6b2 : (((rd_T34 l0 x5_1).f0) == a1_0 && (((rd_T34 l0 x5_1).f1) == a1_1 && (((rd_T34 l0 x5_1).f2) == a1_2 && (((rd_T34 l0 x5_1).f3) == a1_3)))) = true := by simpa using c6))
      clear c6
      obtain rfl := Option.some.inj H
      have p222 : 0 ≤ (x5_1 : Int) := oda
      have q222 : x5_1 < (l0.length : Int) := oda
      obtain ⟨ad222, e222, hx222_0, hx222_1, hx222_2, hx222_3⟩ := at_T34 HR0.out x5_1 p222 q222
      cases e222
      replace hx222_0 := (HB.out.cell (World.block_lt_of_cell? w _ hx222_0)).trans hx222_0
      replace hx222_1 := (HB.out.cell (World.block_lt_of_cell? w _ hx222_1)).trans hx222_1
      replace hx222_2 := (HB.out.cell (World.block_lt_of_cell? w _ hx222_2)).trans hx222_2
      replace hx222_3 := (HB.out.cell (World.block_lt_of_cell? w _ hx222_3)).trans hx222_3
      replace p222 := eq_true p222
      replace q222 := eq_true q222
      have hcz7_0 : wr.cell? ⟨gb221, 0, none⟩ = some (.int .i64 a1_0) := (blk_cell BK221.out 0).trans rfl
      have hcz7_1 : wr.cell? ⟨gb221, 1, none⟩ = some (.int .i64 a1_1) := (blk_cell BK221.out 1).trans rfl
      have hcz7_2 : wr.cell? ⟨gb221, 2, none⟩ = some (.int .i64 a1_2) := (blk_cell BK221.out 2).trans rfl
      have hcz7_3 : wr.cell? ⟨gb221, 3, none⟩ = some (.int .i64 a1_3) := (blk_cell BK221.out 3).trans rfl
      have hfz7_0 := blk_frozen BK221.out 0
      have hfz7_1 := blk_frozen BK221.out 1
      have hfz7_2 := blk_frozen BK221.out 2
      have hfz7_3 := blk_frozen BK221.out 3
      go_wp2
      repeat (go_quiet (fail); try go_wp2)
      go_ret
      exact ⟨by first | rfl | (simp [errW_none, errW_some] <;> rfl) | (simp [*, errW_none, errW_some] <;> rfl), bw HB.out⟩
     ·rw [if_neg c6] at H
      have c6b0 : (((rd_T34 l0 x5_1).f0) == a1_0 && (((rd_T34 l0 x5_1).f1) == a1_1 && (((rd_T34 l0 x5_1).f2) == a1_2 && (((rd_T34 l0 x5_1).f3) == a1_3)))) = false := by simpa using c6
      (try (have c6b1 : decide (((rd_T34 l0 x5_1).f0) = a1_0 && (((rd_T34 l0 x5_1).f1) == a1_1 && (((rd_T34 l0 x5_1).f2) == a1_2 && (((rd_T34 l0 x5_1).f3) == a1_3)))) = false := by simpa using c6))
      (try (have c6b2 : (((rd_T34 l0 x5_1).f0) == a1_0 && (((rd_T34 l0 x5_1).f1) == a1_1 && (((rd_T34 l0 x5_1).f2) == a1_2 && (((rd_T34 l0 x5_1).f3) == a1_3)))) = false := by simpa using c6))
      (try (have c6b3 : ¬ (((rd_T34 l0 x5_1).f0) = a1_0 && (((rd_T34 l0 x5_1).f1) == a1_1 && (((rd_T34 l0 x5_1).f2) == a1_2 && (((rd_T34 l0 x5_1).f3) == a1_3)))) := by simpa using c6))
      clear c6
      have H' := Aside0.mk H
      clear H
      have p222 : 0 ≤ (x5_1 : Int) := oda
      have q222 : x5_1 < (l0.length : Int) := oda
      obtain ⟨ad222, e222, hx222_0, hx222_1, hx222_2, hx222_3⟩ := at_T34 HR0.out x5_1 p222 q222
      cases e222
      replace hx222_0 := (HB.out.cell (World.block_lt_of_cell? w _ hx222_0)).trans hx222_0
      replace hx222_1 := (HB.out.cell (World.block_lt_of_cell? w _ hx222_1)).trans hx222_1
      replace hx222_2 := (HB.out.cell (World.block_lt_of_cell? w _ hx222_2)).trans hx222_2
      replace hx222_3 := (HB.out.cell (World.block_lt_of_cell? w _ hx222_3)).trans hx222_3
      replace p222 := eq_true p222
      replace q222 := eq_true q222
      have hcz8_0 : wr.cell? ⟨gb221, 0, none⟩ = some (.int .i64 a1_0) := (blk_cell BK221.out 0).trans rfl
      have hcz8_1 : wr.cell? ⟨gb221, 1, none⟩ = some (.int .i64 a1_1) := (blk_cell BK221.out 1).trans rfl
      have hcz8_2 : wr.cell? ⟨gb221, 2, none⟩ = some (.int .i64 a1_2) := (blk_cell BK221.out 2).trans rfl
      have hcz8_3 : wr.cell? ⟨gb221, 3, none⟩ = some (.int .i64 a1_3) := (blk_cell BK221.out 3).trans rfl
      have hfz8_0 := blk_frozen BK221.out 0
      have hfz8_1 := blk_frozen BK221.out 1
      have hfz8_2 := blk_frozen BK221.out 2
      have hfz8_3 := blk_frozen BK221.out 3
      go_wp2
      repeat (go_quiet (fail); try go_wp2)
      go_roundg k1
      case measure => have := HK1.out; omega
      case rel => exact ⟨(wrap64 (x5_1 + 1)), (by first | rfl | (simp; done) | (simp [*]; done)), H', ⟨by have := HK1.out; omega⟩, ⟨bl BK221.out⟩, ⟨bw HB.out⟩⟩
    ·rw [if_neg c5] at H
     exact absurd H (by simp)
   ·rw [if_neg c4] at H
    have c4b0 : decide (x5_1 < (l0.length : Int)) = false := decide_eq_false c4
    clear c4
    obtain rfl := Option.some.inj H
    go_wp2
    repeat (go_quiet (fail); try go_wp2)
    go_ret
    exact ⟨by first | rfl | (simp [errW_none, errW_some] <;> rfl) | (simp [*, errW_none, errW_some] <;> rfl), bw HB.out⟩

-- NOT PRINTED: function 113 (spec_l03Put)

/-! ### spec_l01Once: function 117 -/
def spec_l01Once.f (s0_0 : List Int) (s0_1 : Int) (s0_2 : Int) (a1 : Int) : Option (Bool × Int × Int) := (spec_l01Below.f s0_0 s0_1 s0_2 a1).bind fun bt226 => (some ((bt226.1 == 0), bt226.2.1, bt226.2.2))
set_option maxHeartbeats 8000000 in
set_option maxRecDepth 100000 in
theorem spec_l01Once.calls (g : Nat) (s0_0 : List Int) (s0_1 : Int) (s0_2 : Int) (a1 : Int) (r1 : Bool) (r2 : Int) (r3 : Int) (w0 w : World) (hI : IsS119 w0 w g s0_0 s0_1 s0_2) (hB : Below w0.heap.size w0 w) (h : spec_l01Once.f s0_0 s0_1 s0_2 a1 = some (r1, r2, r3)) :
  Calls Try.prog 117 #[.pointer (some ⟨g, 0, none⟩), .int .i64 a1] w fun e w' => e = .returned (.bool r1) ∧ IsS119 w0 w' g s0_0 r2 r3 ∧ Below w0.heap.size w0 w' ∧ KeepBut w w' g none := by
 have HI0 := Aside0.mk hI
 have HK := Aside0.mk (KeepBut.refl w g none)
 have HL := Aside0.mk hB.size
 clear hI
 have HW0 := Aside0.mk hB.size
 have HB := Aside0.mk hB
 clear hB
 have H : ((spec_l01Below.f s0_0 s0_1 s0_2 a1).bind fun bt226 => (some ((bt226.1 == 0), bt226.2.1, bt226.2.2))) = some (r1, r2, r3) := h
 clear h
 replace H := Option.bind_eq_some_iff.mp H
 obtain ⟨⟨t226, t227, t228⟩, A30, H⟩ := H
 replace H : (some ((t226 == 0), t227, t228)) = some (r1, r2, r3) := H
 have A3 := Aside0.mk A30
 clear A30
 simp only [Option.some.injEq, Prod.mk.injEq] at H
 obtain ⟨rfl, rfl, rfl⟩ := H
 go_enter Try.func117, Try.ntmps117
 go_wp2_with (first | ((with_reducible refine gate_callee (f := 70) rfl ?_); refine goesL_ (some 7) rfl rfl Try.func70 (by kernel_rfl) rfl #[.pointer (some ⟨g, 0, none⟩), .int .i64 a1] rfl ar ?_; (with_reducible refine (spec_l01Below.calls g s0_0 s0_1 s0_2 a1 t226 t227 t228 w0 _ ?side1 ?side2 A3.out).mono ?_); (case side1 => exact i9 HI0.out); (case side2 => exact b9 HB.out); rintro e w4 ⟨rfl, hi, hb, hk⟩; refine ⟨_, rfl, ?_⟩; have n0_ := Aside0.mk (KeepBut.trans (kp HK.out) hk (.inl rfl)); have n1_ := Aside0.mk (hb); have n2_ := Aside0.mk (hi); clear HK HB HI0; have HK := n0_; have HB := n1_; have HI0 := n2_; clear n0_ n1_ n2_; (try clear hb); (try clear hb2); (try clear hk); (try clear hi)))
 go_ret
 exact ⟨by first | rfl | (simp [errW_none, errW_some] <;> rfl) | (simp [*, errW_none, errW_some] <;> rfl), i9 HI0.out, b9 HB.out, kp HK.out⟩

/-! ### spec_l03Arena: OWN: function 69 -/
namespace Hand
open Go.Proofs.Ytkckdibalopagaa.Base
theorem spec_In_in {a b c : Int} (h : b ≤ a) (h' : a ≤ c) : spec_l01In.f a b c = some true := by
 unfold spec_l01In.f
 rw [if_pos h]
 simp [h']
theorem spec_In_out {a b c : Int} (h : a < b ∨ c < a) : spec_l01In.f a b c = some false := by
 unfold spec_l01In.f
 by_cases h0 : a ≥ b
 ·rw [if_pos h0]
  have : ¬ a ≤ c := by omega
  simp [this]
 ·rw [if_neg h0]

theorem spec_In_b (a b c : Int) : spec_l01In.f a b c = some (decide (b ≤ a) && decide (a ≤ c)) := by
 unfold spec_l01In.f
 by_cases h : a ≥ b
 ·rw [if_pos h]; simp [h]
 ·rw [if_neg h]
  have : ¬ b ≤ a := h
  simp [this]
theorem spec_One_f (k : Int) : spec_l03One.f k = some (decide (k = 3 ∨ k = 6)) := by
 unfold spec_l03One.f
 by_cases h : k = 3
 ·rw [if_pos h]; simp [h]
 ·rw [if_neg h]
  by_cases h6 : k = 6 <;> simp [h, h6]
theorem spec_l03Node_j0 (f0 f1 f2 f3 k : Int) (hk : 0 ≤ k ∧ k ≤ 9223372036854775807) (c : Bool) : Ev (fun n => spec_l03Node.j0 n k c f0 f1 f2 f3)
  (!c && (if f0 = 3 ∨ f0 = 6 then decide (f3 = 0) else (decide (0 ≤ f3) && decide (f3 ≤ k - 1)))) := by
 have e : wrap64 (k - 1) = k - 1 := w64 (by omega) (by omega)
 refine ev_end (fun n => ?_)
 rw [spec_l03Node.j0, e]
 simp only [spec_In_b, spec_One_f, Option.bind_some, beq_dec]
 cases c with
 | true => rw [if_pos rfl]; rfl
 | false =>
  rw [if_neg (by simp)]
  by_cases h : f0 = 3 ∨ f0 = 6
  ·rw [if_pos (by simpa using h), if_pos h]; simp
  ·rw [if_neg (by simpa using h), if_neg h]; simp
theorem spec_l03Node_f (f0 f1 f2 f3 k : Int) (hk : 0 ≤ k ∧ k ≤ 9223372036854775807) : Ev (fun n => spec_l03Node.f n f0 f1 f2 f3 k) (nodeB f0 f1 f2 f3 k) := by
 have e : wrap64 (k - 1) = k - 1 := w64 (by omega) (by omega)
 unfold spec_l03Node.f
 rw [e]
 simp only [spec_In_b, Option.bind_some, beq_dec]
 unfold nodeB
 by_cases h9 : (decide (1 ≤ f0) && decide (f0 ≤ 9)) = true
 ·refine evT h9 ?_
  simp only [Bool.and_eq_true, decide_eq_true_eq] at h9
  by_cases h1 : f0 = 1
  ·refine ev_cast (evT h1 (ev_some ?_)) (if_pos h1).symm
   by_cases h2 : (decide (0 ≤ f1) && decide (f1 ≤ 999999)) = true
   ·rw [if_pos h2, h2]
    by_cases h3 : f2 = 0
    ·rw [if_pos h3]; simp [h3]
    ·rw [if_neg h3]; simp [h3]
   ·rw [if_neg h2]; simp only [Bool.not_eq_true] at h2; rw [h2]; simp
  ·refine ev_cast (evF h1 ?_) (if_neg h1).symm
   by_cases hn : f1 = 0
   ·refine evT hn (ev_cast (spec_l03Node_j0 f0 f1 f2 f3 k hk _) ?_)
    rw [Bool.not_not]
    by_cases h : f0 = 3 ∨ f0 = 6
    ·rw [if_pos h, if_pos h]; simp [hn]
    ·rw [if_neg h, if_neg h]
     have h2 : 2 ≤ f0 := by omega
     simp [hn, h2, h9.2]
   ·refine evF hn (ev_cast (spec_l03Node_j0 f0 f1 f2 f3 k hk _) ?_)
    by_cases h : f0 = 3 ∨ f0 = 6
    ·rw [if_pos h, if_pos h]; simp [hn]
    ·rw [if_neg h, if_neg h]; simp [hn]
 ·refine ev_cast (evF h9 (Ev.now _)) ?_
  simp only [Bool.and_eq_true, decide_eq_true_eq] at h9
  rw [if_neg (by omega), if_neg (by omega)]
  by_cases h2 : 2 ≤ f0
  ·have : ¬ f0 ≤ 9 := by omega
   simp [this]
  ·simp [h2]

/-! the place of the first node that is one -/
def atV (l : List S34) (x : S34) : Int := match l.findIdx? (fun y => sameN y x) with
  | some i => (i : Int)
  | none => -1
theorem sameN_def (y x : S34) : (y.f0 == x.f0 && (y.f1 == x.f1 && (y.f2 == x.f2 && (y.f3 == x.f3)))) = sameN y x := by
 unfold sameN
 simp only [Bool.and_assoc]
theorem atV_hit {l : List S34} {x : S34} {i : Nat} (h : i < l.length) (hi : sameN l[i] x = true) (hno : ∀ j (hj : j < i), sameN (l[j]'(by omega)) x = false) : atV l x = (i : Int) := by
 have : l.findIdx? (fun y => sameN y x) = some i := by
  rw [List.findIdx?_eq_some_iff_getElem]
  exact ⟨h, hi, fun j hj => by simpa using hno j hj⟩
 unfold atV
 rw [this]
theorem atV_miss {l : List S34} {x : S34} (hno : ∀ j (hj : j < l.length), sameN l[j] x = false) : atV l x = -1 := by
 have : l.findIdx? (fun y => sameN y x) = none := by
  rw [List.findIdx?_eq_none_iff]
  intro y hy
  obtain ⟨j, hj, rfl⟩ := List.getElem_of_mem hy
  exact hno j hj
 unfold atV
 rw [this]
theorem spec_At_ev (l : List S34) (hl : l.length ≤ 1048576) (x : S34) : ∀ (d i : Nat), l.length - i = d → i ≤ l.length → (∀ j (hj : j < l.length), j < i → sameN l[j] x = false) → Ev (fun k => spec_l03At.l0 k l (i : Int) x.f0 x.f1 x.f2 x.f3) (atV l x) := by
 intro d
 induction d with
 | zero =>
  intro i hd hi hno
  rw [atV_miss (fun j hj => hno j hj (by omega))]
  exact ev_end (fun k => by rw [spec_l03At.l0, if_neg (by omega)])
 | succ d ih =>
  intro i hd hi hno
  have hlt : i < l.length := by omega
  refine Ev.step (fun k => by rw [spec_l03At.l0, if_pos (by omega), if_pos (by omega), rdI hlt, sameN_def, w64 (x := (i : Int) + 1) (by omega) (by omega)]) ?_
  by_cases hs : sameN l[i] x = true
  ·refine ev_cast (evT hs (Ev.now _)) ?_
   rw [atV_hit hlt hs (fun j hj => hno j (by omega) hj)]
  ·refine evF hs ?_
   refine ih (i + 1) (by omega) (by omega) (fun j hj hji => ?_)
   by_cases e : j = i
   ·subst e
    simpa using hs
   ·exact hno j hj (by omega)
theorem spec_At_f (l : List S34) (hl : l.length ≤ 1048576) (x : S34) : Ev (fun k => spec_l03At.f k l x.f0 x.f1 x.f2 x.f3) (atV l x) :=
  spec_At_ev l hl x l.length 0 (by omega) (by omega) (fun j _ h => by omega)
theorem sameN_refl (x : S34) : sameN x x = true := by simp [sameN]
theorem sameN_eq {x y : S34} (h : sameN x y = true) : x = y := by
 cases x
 cases y
 simp [sameN] at h
 simp [h]
theorem nodeOf_get {l : List S34} {j : Nat} (h : j < l.length) : nodeOf l j = l[j] := rdI h
/-- a node is the first of its kind just where it is no repeat -/
theorem atV_self {l : List S34} {j : Nat} (h : j < l.length) : atV l (nodeOf l j) = (j : Int) ↔ dupAt l j = false := by
 rw [nodeOf_get h]
 unfold dupAt
 rw [nodeOf_get h, List.any_eq_false]
 constructor
 ·intro he y hy hs
  obtain ⟨i, hi, rfl⟩ := List.getElem_of_mem hy
  have hi2 : i < j := by have h3 := hi; rw [List.length_take] at h3; omega
  rw [List.getElem_take] at hs
  unfold atV at he
  cases hf : l.findIdx? (fun y => sameN y l[j]) with
  | none => rw [hf] at he; have he2 : (-1 : Int) = (j : Int) := he; omega
  | some m =>
   rw [hf] at he
   have he2 : (m : Int) = (j : Int) := he
   rw [List.findIdx?_eq_some_iff_getElem] at hf
   obtain ⟨hm, _, hno⟩ := hf
   have := hno i (by omega)
   simp only [Bool.not_eq_true, Bool.not_eq_false'] at this
   simp [hs] at this
 ·intro hall
  refine atV_hit h (sameN_refl _) (fun i hi => ?_)
  have := hall (l[i]'(by omega)) (by
   rw [List.mem_iff_getElem]
   exact ⟨i, by rw [List.length_take]; omega, by rw [List.getElem_take]⟩)
  simpa using this

/-! Put: a node found, or put behind; -1: it can't be -/
def putN (l : List S34) (x : S34) : List S34 × Int :=
  if nodeB x.f0 x.f1 x.f2 x.f3 (l.length : Int) = true then
    (if 0 ≤ atV l x then (l, atV l x) else if 3000 ≤ l.length then (l, -1) else (l ++ [x], (l.length : Int)))
  else (l, -1)
/-- the same on a bench, which may be bad -/
def putB (l : List S34) (bad : Bool) (x : S34) : List S34 × Bool × Int :=
  if bad = true then (l, true, -1)
  else if (putN l x).2 < 0 then (l, true, -1) else ((putN l x).1, false, (putN l x).2)
theorem atV_cases (l : List S34) (x : S34) : atV l x = -1 ∨ (0 ≤ atV l x ∧ atV l x < (l.length : Int) ∧ nodeOf l (atV l x).toNat = x) := by
 unfold atV
 cases hf : l.findIdx? (fun y => sameN y x) with
 | none => exact .inl rfl
 | some m =>
  right
  rw [List.findIdx?_eq_some_iff_getElem] at hf
  obtain ⟨hm, hs, _⟩ := hf
  refine ⟨by simp only; omega, by simp only; omega, ?_⟩
  simp only [Int.toNat_natCast]
  rw [nodeOf_get hm]
  exact sameN_eq (by simpa using hs)
theorem putN_cases (l : List S34) (x : S34) : ((putN l x).1 = l ∧ (putN l x).2 = -1) ∨
  (nodeB x.f0 x.f1 x.f2 x.f3 (l.length : Int) = true ∧ 0 ≤ (putN l x).2 ∧ (((putN l x).1 = l ∧ (putN l x).2 < (l.length : Int) ∧ (putN l x).2 = atV l x) ∨ (atV l x = -1 ∧ l.length < 3000 ∧ (putN l x).1 = l ++ [x] ∧ (putN l x).2 = (l.length : Int)))) := by
 unfold putN
 by_cases h : nodeB x.f0 x.f1 x.f2 x.f3 (l.length : Int) = true
 ·rw [if_pos h]
  rcases atV_cases l x with ha | ⟨h0, h1, _⟩
  ·rw [if_neg (by omega)]
   by_cases h3 : 3000 ≤ l.length
   ·rw [if_pos h3]; exact .inl ⟨rfl, rfl⟩
   ·rw [if_neg h3]; exact .inr ⟨h, by simp only; omega, .inr ⟨ha, by omega, rfl, rfl⟩⟩
  ·rw [if_pos h0]
   exact .inr ⟨h, h0, .inl ⟨rfl, h1, rfl⟩⟩
 ·rw [if_neg h]; exact .inl ⟨rfl, rfl⟩

/-! an arena behind a pointer, and its row in the call's own memory -/
def ArAt (w : World) (base g : Nat) (ok : Nat → Prop) (l : List S34) : Prop :=
  ∃ v, w.heap[g]? = some (.cells #[v] 26 (0, 0)) ∧ base ≤ g ∧ ¬ ok g ∧ Kd.R k34 34 w base ok v l
def Mine (g : Nat) (ok : Nat → Prop) (k : Nat) : Prop := k = g ∨ ok k
theorem ArAt.len {w : World} {base g : Nat} {ok : Nat → Prop} {l : List S34} (h : ArAt w base g ok l) : l.length ≤ 9223372036854775807 := by
 obtain ⟨v, _, _, _, hR⟩ := h
 obtain ⟨A, c, _, _, hC⟩ := Kd.R_reads hR
 exact hC.2.1
/-- what came in and stays -/
theorem ArAt.keep {w w1 : World} {base g : Nat} {ok : Nat → Prop} {l : List S34} (h : ArAt w base g ok l) (hb : Below w.heap.size w w1) : ArAt w1 base g ok l := by
 obtain ⟨v, h1, h2, h3, hR⟩ := h
 exact ⟨v, (hb.block g (blk_lt h1)).trans h1, h2, h3, Kd.R_below hR hb⟩
/-! a bench behind a pointer -/
def BnAt (w : World) (base g : Nat) (ok : Nat → Prop) (l : List S34) (bad : Bool) : Prop :=
  ∃ v, w.heap[g]? = some (.cells #[v, .bool bad] 132 (0, 0)) ∧ base ≤ g ∧ ¬ ok g ∧ Kd.R k34 34 w base ok v l
theorem BnAt.keep {w w1 : World} {base g : Nat} {ok : Nat → Prop} {l : List S34} {bad : Bool} (h : BnAt w base g ok l bad) (hb : Below w.heap.size w w1) : BnAt w1 base g ok l bad := by
 obtain ⟨v, h1, h2, h3, hR⟩ := h
 exact ⟨v, (hb.block g (blk_lt h1)).trans h1, h2, h3, Kd.R_below hR hb⟩

/-! List: a chain of pairs -/
/-- a bench's state and a place -/
def endN (l0 : List S34) (s : List S34 × Bool × Int) : List S34 × Int := if s.2.1 = true ∨ s.2.2 < 0 then (l0, -1) else (s.1, s.2.2)

def PutPost (w : World) (base g : Nat) (ok : Nat → Prop) (l : List S34) (n : Int) (e : Ending) (w' : World) : Prop := e = .returned (.int .i64 n) ∧ ArAt w' base g ok l ∧ Below base w w' ∧ Kept w w' (Mine g ok)
set_option maxHeartbeats 8000000 in
set_option maxRecDepth 100000 in
theorem spec_l03Put_at (l : List S34) (x : S34) (w : World) (base g : Nat) (ok : Nat → Prop) (hA : ArAt w base g ok l) (hbase : base ≤ w.heap.size) (hfresh : ∀ k, w.heap.size ≤ k → ok k) (hl : l.length ≤ 1048576) :
  Calls Try.prog 113 #[.pointer (some ⟨g, 0, none⟩), .agg #[.int .i64 x.f0, .int .i64 x.f1, .int .i64 x.f2, .int .i64 x.f3]] w (PutPost w base g ok (putN l x).1 (putN l x).2) := by
 have hu26 := Try.underlying26
 have hu34 := Try.underlying34
 obtain ⟨v, hblk, hbg, hno, hR⟩ := hA
 obtain ⟨A, c, rfl, hlc, hC⟩ := Kd.R_reads hR
 obtain ⟨kn, hK⟩ := spec_l03Node_f x.f0 x.f1 x.f2 x.f3 (l.length : Int) (by omega)
 have HK := Aside0.mk (hK kn (Nat.le_refl _))
 obtain ⟨ka, hK2⟩ := spec_At_f l hl x
 have HK2 := Aside0.mk (hK2 ka (Nat.le_refl _))
 have HG0 := Aside0.mk hblk
 have HR := Aside0.mk hR
 have HC := Aside0.mk hC
 have HL := Aside0.mk hl
 have HBG := Aside0.mk hbg
 have HNO := Aside0.mk hno
 have HBS := Aside0.mk hbase
 have HF := Aside0.mk hfresh
 have HLC := Aside0.mk hlc
 clear hK hK2 hblk hR hC hl hbg hno hbase hfresh hlc
 have hbl : base ≤ w.heap.size := HBS.out
 by_cases hb : nodeB x.f0 x.f1 x.f2 x.f3 (l.length : Int) = true
 ·rw [hb] at HK
  clear hbl
  rcases atV_cases l x with ha | ⟨ha, ha1, _⟩
  ·have ha0 : ¬ 0 ≤ atV l x := by omega
   rw [ha] at HK2
   by_cases h3 : 3000 ≤ l.length
   ·have he : putN l x = (l, -1) := by unfold putN; rw [if_pos hb, if_neg ha0, if_pos h3]
    have HE := Aside0.mk he
    have h30 : decide (3000 ≤ (l.length : Int)) = true := decide_eq_true (by omega)
    have h31 : decide (3000 ≤ l.length) = true := decide_eq_true h3
    clear he hb ha ha0 h3
    go_enter Try.func113, Try.ntmps113
    go_wp2_with (first | ((with_reducible refine gate_dst (N := 3) rfl ?_); refine box_event ?hg (N := 3) ?hd (cs := #[.int .i64 x.f0, .int .i64 x.f1, .int .i64 x.f2, .int .i64 x.f3]) (t := 34) ?hr ?_; (case hd => rfl); (case hg => rfl); (case hr => first | (go_simp; done) | (go_simp; rfl)); intro gb hg1 w3 hbox hb; have BK3 := Aside0.mk hbox; have HB3 := Aside0.mk hb; have GB3 := Aside0.mk hg1; clear hg1 hbox hb))
    have HG3 := Aside0.mk (blk_below HG0.out HB3.out)
    refine start_ (n := 8) (S := fun w' => w'.cell? ⟨g, 0, none⟩ = some (.slice A l.length c) ∧ w'.cell? ⟨gb, 0, none⟩ = some (.int .i64 x.f0) ∧ w'.cell? ⟨gb, 1, none⟩ = some (.int .i64 x.f1) ∧ w'.cell? ⟨gb, 2, none⟩ = some (.int .i64 x.f2) ∧ w'.cell? ⟨gb, 3, none⟩ = some (.int .i64 x.f3)) (ds := []) #[false, false, false, false, false, false, false, false] (by kernel_rfl) rfl rfl ⟨(blk_cell (blk_drew HG3.out) 0).trans rfl, (blk_cell (blk_drew BK3.out) 0).trans rfl, (blk_cell (blk_drew BK3.out) 1).trans rfl, (blk_cell (blk_drew BK3.out) 2).trans rfl, (blk_cell (blk_drew BK3.out) 3).trans rfl⟩ (fun hHeld => ?_)
    refine pure_ (i := 1) (N := some 7) (v := ?_) (a' := ?_) #[false, true, false, false, false, false, false, false] rfl rfl (by kernel_rfl) (fun _ _ _ h => h) (Or.inl ⟨by rfl, ?_⟩) ?_ ?_
    rotate_left
    ·intro w'
     go_simp
     with_reducible rfl
    rotate_left
    ·simp only [Act.put, List.setIfInBounds_toArray, List.set_cons_zero, List.set_cons_succ, i64_w, i32_w]
     rfl
    refine pure_ (i := 2) (N := some 8) (v := ?_) (a' := ?_) #[false, true, true, false, false, false, false, false] rfl rfl (by kernel_rfl) (fun _ _ _ h => h) (Or.inl ⟨by rfl, ?_⟩) ?_ ?_
    rotate_left
    ·intro w'
     go_simp
     with_reducible rfl
    rotate_left
    ·simp only [Act.put, List.setIfInBounds_toArray, List.set_cons_zero, List.set_cons_succ, i64_w, i32_w]
     rfl
    refine pure_ (i := 3) (N := some 9) (v := ?_) (a' := ?_) #[false, true, true, true, false, false, false, false] rfl rfl (by kernel_rfl) (fun _ _ _ h => h) (Or.inl ⟨by rfl, ?_⟩) ?_ ?_
    rotate_left
    ·intro w'
     go_simp
     with_reducible rfl
    rotate_left
    ·simp only [Act.put, List.setIfInBounds_toArray, List.set_cons_zero, List.set_cons_succ, i64_w, i32_w]
     rfl
    refine take_ (i := 0) (N := some 6) (v := ?_) (a' := ?_) #[true, true, true, true, false, false, false, false] rfl rfl (by kernel_rfl) (fun _ _ _ h => h) (Or.inl ⟨by rfl, ?_⟩) hHeld ?_ ?_
    rotate_left
    ·rintro w' ⟨s0, s1, s2, s3, s4⟩
     go_simp
     with_reducible rfl
    rotate_left
    ·simp only [Act.put, List.setIfInBounds_toArray, List.set_cons_zero, List.set_cons_succ, i64_w, i32_w]
     rfl
    refine take_ (i := 4) (N := some 10) (v := ?_) (a' := ?_) #[true, true, true, true, true, false, false, false] rfl rfl (by kernel_rfl) (fun _ _ _ h => h) (Or.inl ⟨by rfl, ?_⟩) hHeld ?_ ?_
    rotate_left
    ·rintro w' ⟨s0, s1, s2, s3, s4⟩
     go_simp
     with_reducible rfl
    rotate_left
    ·simp only [Act.put, List.setIfInBounds_toArray, List.set_cons_zero, List.set_cons_succ, i64_w, i32_w]
     rfl
    refine pure_ (i := 5) (N := some 11) (v := ?_) (a' := ?_) #[true, true, true, true, true, true, false, false] rfl rfl (by kernel_rfl) (fun _ _ _ h => h) (Or.inl ⟨by rfl, ?_⟩) ?_ ?_
    rotate_left
    ·intro w'
     go_simp
     with_reducible rfl
    rotate_left
    ·simp only [Act.put, List.setIfInBounds_toArray, List.set_cons_zero, List.set_cons_succ, i64_w, i32_w]
     rfl
    refine one_ (i := 6) (N := some 12) #[true, true, true, true, true, true, true, false] rfl rfl (by kernel_rfl) (by decide) (fun K hK => ?_)
    refine goes_ Try.func81 (by kernel_rfl) rfl #[.agg #[.int .i64 x.f0, .int .i64 x.f1, .int .i64 x.f2, .int .i64 x.f3], .int .i64 (l.length : Int)] (by rfl) rfl rfl (by simp only [List.map_toArray, List.map_cons, List.map_nil]; rfl) ?_
    with_reducible refine (spec_l03Node.calls kn x.f0 x.f1 x.f2 x.f3 (l.length : Int) true _ HK.out).mono ?_
    rintro e w4 ⟨rfl, hb4⟩
    refine ⟨_, rfl, ?_⟩
    have HG4 := Aside0.mk (blk_below (blk_drew HG3.out) hb4)
    have BK4 := Aside0.mk (blk_below (blk_drew BK3.out) hb4)
    have HB4 := Aside0.mk (below_step (below_drew1 HB3.out) hb4)
    clear hb4
    refine hK.out _ _ ⟨(blk_cell (HG4.out) 0).trans rfl, (blk_cell (BK4.out) 0).trans rfl, (blk_cell (BK4.out) 1).trans rfl, (blk_cell (BK4.out) 2).trans rfl, (blk_cell (BK4.out) 3).trans rfl⟩ (fun hHeld => ?_)
    clear hK K
    refine norm_ (a' := ?_) ?_ ?_
    rotate_left
    ·show Act.put _ (some 12) _ = _
     simp only [Act.put, List.setIfInBounds_toArray, List.set_cons_zero, List.set_cons_succ, i64_w, i32_w]
     rfl
    refine pure_ (i := 7) (N := some 13) (v := ?_) (a' := ?_) #[true, true, true, true, true, true, true, true] rfl rfl (by kernel_rfl) (fun _ _ _ h => h) (Or.inl ⟨by rfl, ?_⟩) ?_ ?_
    rotate_left
    ·intro w'
     go_simp
     with_reducible rfl
    rotate_left
    ·simp only [Act.put, List.setIfInBounds_toArray, List.set_cons_zero, List.set_cons_succ, i64_w, i32_w]
     rfl
    refine done_ (by kernel_rfl) ?_
    have hn0 : w4.cell? ⟨gb, 0, none⟩ = some (.int .i64 x.f0) := (blk_cell BK4.out 0).trans rfl
    have hn1 : w4.cell? ⟨gb, 1, none⟩ = some (.int .i64 x.f1) := (blk_cell BK4.out 1).trans rfl
    have hn2 : w4.cell? ⟨gb, 2, none⟩ = some (.int .i64 x.f2) := (blk_cell BK4.out 2).trans rfl
    have hn3 : w4.cell? ⟨gb, 3, none⟩ = some (.int .i64 x.f3) := (blk_cell BK4.out 3).trans rfl
    have hf0 := blk_frozen BK4.out 0
    have hf1 := blk_frozen BK4.out 1
    have hf2 := blk_frozen BK4.out 2
    have hf3 := blk_frozen BK4.out 3
    have hg0 : w4.cell? ⟨g, 0, none⟩ = some (.slice A l.length c) := (blk_cell HG4.out 0).trans rfl
    have hgf := blk_frozen HG4.out 0
    go_wp2
    refine start_ (n := 7) (S := fun w' => w'.cell? ⟨g, 0, none⟩ = some (.slice A l.length c) ∧ w'.cell? ⟨gb, 0, none⟩ = some (.int .i64 x.f0) ∧ w'.cell? ⟨gb, 1, none⟩ = some (.int .i64 x.f1) ∧ w'.cell? ⟨gb, 2, none⟩ = some (.int .i64 x.f2) ∧ w'.cell? ⟨gb, 3, none⟩ = some (.int .i64 x.f3)) (ds := []) #[false, false, false, false, false, false, false] (by kernel_rfl) rfl rfl ⟨(blk_cell (blk_drew HG4.out) 0).trans rfl, (blk_cell (blk_drew BK4.out) 0).trans rfl, (blk_cell (blk_drew BK4.out) 1).trans rfl, (blk_cell (blk_drew BK4.out) 2).trans rfl, (blk_cell (blk_drew BK4.out) 3).trans rfl⟩ (fun hHeld => ?_)
    refine pure_ (i := 0) (N := some 14) (v := ?_) (a' := ?_) #[true, false, false, false, false, false, false] rfl rfl (by kernel_rfl) (fun _ _ _ h => h) (Or.inl ⟨by rfl, ?_⟩) ?_ ?_
    rotate_left
    ·intro w'
     go_simp
     with_reducible rfl
    rotate_left
    ·simp only [Act.put, List.setIfInBounds_toArray, List.set_cons_zero, List.set_cons_succ, i64_w, i32_w]
     rfl
    refine pure_ (i := 1) (N := some 15) (v := ?_) (a' := ?_) #[true, true, false, false, false, false, false] rfl rfl (by kernel_rfl) (fun _ _ _ h => h) (Or.inl ⟨by rfl, ?_⟩) ?_ ?_
    rotate_left
    ·intro w'
     go_simp
     with_reducible rfl
    rotate_left
    ·simp only [Act.put, List.setIfInBounds_toArray, List.set_cons_zero, List.set_cons_succ, i64_w, i32_w]
     rfl
    refine pure_ (i := 2) (N := some 16) (v := ?_) (a' := ?_) #[true, true, true, false, false, false, false] rfl rfl (by kernel_rfl) (fun _ _ _ h => h) (Or.inl ⟨by rfl, ?_⟩) ?_ ?_
    rotate_left
    ·intro w'
     go_simp
     with_reducible rfl
    rotate_left
    ·simp only [Act.put, List.setIfInBounds_toArray, List.set_cons_zero, List.set_cons_succ, i64_w, i32_w]
     rfl
    refine take_ (i := 3) (N := some 17) (v := ?_) (a' := ?_) #[true, true, true, true, false, false, false] rfl rfl (by kernel_rfl) (fun _ _ _ h => h) (Or.inl ⟨by rfl, ?_⟩) hHeld ?_ ?_
    rotate_left
    ·rintro w' ⟨s0, s1, s2, s3, s4⟩
     go_simp
     with_reducible rfl
    rotate_left
    ·simp only [Act.put, List.setIfInBounds_toArray, List.set_cons_zero, List.set_cons_succ, i64_w, i32_w]
     rfl
    refine take_ (i := 4) (N := some 18) (v := ?_) (a' := ?_) #[true, true, true, true, true, false, false] rfl rfl (by kernel_rfl) (fun _ _ _ h => h) (Or.inl ⟨by rfl, ?_⟩) hHeld ?_ ?_
    rotate_left
    ·rintro w' ⟨s0, s1, s2, s3, s4⟩
     go_simp
     with_reducible rfl
    rotate_left
    ·simp only [Act.put, List.setIfInBounds_toArray, List.set_cons_zero, List.set_cons_succ, i64_w, i32_w]
     rfl
    refine one_ (i := 5) (N := some 19) #[true, true, true, true, true, true, false] rfl rfl (by kernel_rfl) (by decide) (fun K hK => ?_)
    refine goes_ Try.func82 (by kernel_rfl) rfl #[.slice A l.length c, .agg #[.int .i64 x.f0, .int .i64 x.f1, .int .i64 x.f2, .int .i64 x.f3]] (by rfl) rfl rfl (by simp only [List.map_toArray, List.map_cons, List.map_nil]; rfl) ?_
    with_reducible refine (spec_l03At.calls ka A c l x.f0 x.f1 x.f2 x.f3 (-1) _ (Kd.C_below HC.out (below_drew1 HB4.out)) HLC.out HK2.out).mono ?_
    rintro e w5 ⟨rfl, hb5⟩
    refine ⟨_, rfl, ?_⟩
    have HG5 := Aside0.mk (blk_below (blk_drew HG4.out) hb5)
    have BK5 := Aside0.mk (blk_below (blk_drew BK4.out) hb5)
    have HB5 := Aside0.mk (below_step (below_drew1 HB4.out) hb5)
    clear hb5
    refine hK.out _ _ ⟨(blk_cell (HG5.out) 0).trans rfl, (blk_cell (BK5.out) 0).trans rfl, (blk_cell (BK5.out) 1).trans rfl, (blk_cell (BK5.out) 2).trans rfl, (blk_cell (BK5.out) 3).trans rfl⟩ (fun hHeld => ?_)
    clear hK K
    refine norm_ (a' := ?_) ?_ ?_
    rotate_left
    ·show Act.put _ (some 19) _ = _
     simp only [Act.put, List.setIfInBounds_toArray, List.set_cons_zero, List.set_cons_succ, i64_w, i32_w]
     rfl
    refine pure_ (i := 6) (N := some 5) (v := ?_) (a' := ?_) #[true, true, true, true, true, true, true] rfl rfl (by kernel_rfl) (fun _ _ _ h => h) (Or.inl ⟨by rfl, ?_⟩) ?_ ?_
    rotate_left
    ·intro w'
     go_simp
     with_reducible rfl
    rotate_left
    ·simp only [Act.put, List.setIfInBounds_toArray, List.set_cons_zero, List.set_cons_succ, i64_w, i32_w]
     rfl
    refine done_ (by kernel_rfl) ?_
    have hn0 : w5.cell? ⟨gb, 0, none⟩ = some (.int .i64 x.f0) := (blk_cell BK5.out 0).trans rfl
    have hn1 : w5.cell? ⟨gb, 1, none⟩ = some (.int .i64 x.f1) := (blk_cell BK5.out 1).trans rfl
    have hn2 : w5.cell? ⟨gb, 2, none⟩ = some (.int .i64 x.f2) := (blk_cell BK5.out 2).trans rfl
    have hn3 : w5.cell? ⟨gb, 3, none⟩ = some (.int .i64 x.f3) := (blk_cell BK5.out 3).trans rfl
    have hf0 := blk_frozen BK5.out 0
    have hf1 := blk_frozen BK5.out 1
    have hf2 := blk_frozen BK5.out 2
    have hf3 := blk_frozen BK5.out 3
    have hg0 : w5.cell? ⟨g, 0, none⟩ = some (.slice A l.length c) := (blk_cell HG5.out 0).trans rfl
    have hgf := blk_frozen HG5.out 0
    go_wp2
    go_ret
    rw [HE.out]
    exact ⟨rfl, ⟨_, HG5.out, HBG.out, HNO.out, Kd.R_below HR.out HB5.out⟩, HB5.out.mono HBS.out, Kept.of_below HB5.out _⟩
   ·have he : putN l x = (l ++ [x], (l.length : Int)) := by unfold putN; rw [if_pos hb, if_neg ha0, if_neg h3]
    have HE := Aside0.mk he
    have h30 : decide (3000 ≤ (l.length : Int)) = false := decide_eq_false (by omega)
    have h31 : decide (3000 ≤ l.length) = false := decide_eq_false h3
    have H3 := Aside0.mk h3
    clear he hb ha ha0 h3
    go_enter Try.func113, Try.ntmps113
    go_wp2_with (first | ((with_reducible refine gate_dst (N := 3) rfl ?_); refine box_event ?hg (N := 3) ?hd (cs := #[.int .i64 x.f0, .int .i64 x.f1, .int .i64 x.f2, .int .i64 x.f3]) (t := 34) ?hr ?_; (case hd => rfl); (case hg => rfl); (case hr => first | (go_simp; done) | (go_simp; rfl)); intro gb hg1 w3 hbox hb; have BK3 := Aside0.mk hbox; have HB3 := Aside0.mk hb; have GB3 := Aside0.mk hg1; clear hg1 hbox hb))
    have HG3 := Aside0.mk (blk_below HG0.out HB3.out)
    refine start_ (n := 8) (S := fun w' => w'.cell? ⟨g, 0, none⟩ = some (.slice A l.length c) ∧ w'.cell? ⟨gb, 0, none⟩ = some (.int .i64 x.f0) ∧ w'.cell? ⟨gb, 1, none⟩ = some (.int .i64 x.f1) ∧ w'.cell? ⟨gb, 2, none⟩ = some (.int .i64 x.f2) ∧ w'.cell? ⟨gb, 3, none⟩ = some (.int .i64 x.f3)) (ds := []) #[false, false, false, false, false, false, false, false] (by kernel_rfl) rfl rfl ⟨(blk_cell (blk_drew HG3.out) 0).trans rfl, (blk_cell (blk_drew BK3.out) 0).trans rfl, (blk_cell (blk_drew BK3.out) 1).trans rfl, (blk_cell (blk_drew BK3.out) 2).trans rfl, (blk_cell (blk_drew BK3.out) 3).trans rfl⟩ (fun hHeld => ?_)
    refine pure_ (i := 1) (N := some 7) (v := ?_) (a' := ?_) #[false, true, false, false, false, false, false, false] rfl rfl (by kernel_rfl) (fun _ _ _ h => h) (Or.inl ⟨by rfl, ?_⟩) ?_ ?_
    rotate_left
    ·intro w'
     go_simp
     with_reducible rfl
    rotate_left
    ·simp only [Act.put, List.setIfInBounds_toArray, List.set_cons_zero, List.set_cons_succ, i64_w, i32_w]
     rfl
    refine pure_ (i := 2) (N := some 8) (v := ?_) (a' := ?_) #[false, true, true, false, false, false, false, false] rfl rfl (by kernel_rfl) (fun _ _ _ h => h) (Or.inl ⟨by rfl, ?_⟩) ?_ ?_
    rotate_left
    ·intro w'
     go_simp
     with_reducible rfl
    rotate_left
    ·simp only [Act.put, List.setIfInBounds_toArray, List.set_cons_zero, List.set_cons_succ, i64_w, i32_w]
     rfl
    refine pure_ (i := 3) (N := some 9) (v := ?_) (a' := ?_) #[false, true, true, true, false, false, false, false] rfl rfl (by kernel_rfl) (fun _ _ _ h => h) (Or.inl ⟨by rfl, ?_⟩) ?_ ?_
    rotate_left
    ·intro w'
     go_simp
     with_reducible rfl
    rotate_left
    ·simp only [Act.put, List.setIfInBounds_toArray, List.set_cons_zero, List.set_cons_succ, i64_w, i32_w]
     rfl
    refine take_ (i := 0) (N := some 6) (v := ?_) (a' := ?_) #[true, true, true, true, false, false, false, false] rfl rfl (by kernel_rfl) (fun _ _ _ h => h) (Or.inl ⟨by rfl, ?_⟩) hHeld ?_ ?_
    rotate_left
    ·rintro w' ⟨s0, s1, s2, s3, s4⟩
     go_simp
     with_reducible rfl
    rotate_left
    ·simp only [Act.put, List.setIfInBounds_toArray, List.set_cons_zero, List.set_cons_succ, i64_w, i32_w]
     rfl
    refine take_ (i := 4) (N := some 10) (v := ?_) (a' := ?_) #[true, true, true, true, true, false, false, false] rfl rfl (by kernel_rfl) (fun _ _ _ h => h) (Or.inl ⟨by rfl, ?_⟩) hHeld ?_ ?_
    rotate_left
    ·rintro w' ⟨s0, s1, s2, s3, s4⟩
     go_simp
     with_reducible rfl
    rotate_left
    ·simp only [Act.put, List.setIfInBounds_toArray, List.set_cons_zero, List.set_cons_succ, i64_w, i32_w]
     rfl
    refine pure_ (i := 5) (N := some 11) (v := ?_) (a' := ?_) #[true, true, true, true, true, true, false, false] rfl rfl (by kernel_rfl) (fun _ _ _ h => h) (Or.inl ⟨by rfl, ?_⟩) ?_ ?_
    rotate_left
    ·intro w'
     go_simp
     with_reducible rfl
    rotate_left
    ·simp only [Act.put, List.setIfInBounds_toArray, List.set_cons_zero, List.set_cons_succ, i64_w, i32_w]
     rfl
    refine one_ (i := 6) (N := some 12) #[true, true, true, true, true, true, true, false] rfl rfl (by kernel_rfl) (by decide) (fun K hK => ?_)
    refine goes_ Try.func81 (by kernel_rfl) rfl #[.agg #[.int .i64 x.f0, .int .i64 x.f1, .int .i64 x.f2, .int .i64 x.f3], .int .i64 (l.length : Int)] (by rfl) rfl rfl (by simp only [List.map_toArray, List.map_cons, List.map_nil]; rfl) ?_
    with_reducible refine (spec_l03Node.calls kn x.f0 x.f1 x.f2 x.f3 (l.length : Int) true _ HK.out).mono ?_
    rintro e w4 ⟨rfl, hb4⟩
    refine ⟨_, rfl, ?_⟩
    have HG4 := Aside0.mk (blk_below (blk_drew HG3.out) hb4)
    have BK4 := Aside0.mk (blk_below (blk_drew BK3.out) hb4)
    have HB4 := Aside0.mk (below_step (below_drew1 HB3.out) hb4)
    clear hb4
    refine hK.out _ _ ⟨(blk_cell (HG4.out) 0).trans rfl, (blk_cell (BK4.out) 0).trans rfl, (blk_cell (BK4.out) 1).trans rfl, (blk_cell (BK4.out) 2).trans rfl, (blk_cell (BK4.out) 3).trans rfl⟩ (fun hHeld => ?_)
    clear hK K
    refine norm_ (a' := ?_) ?_ ?_
    rotate_left
    ·show Act.put _ (some 12) _ = _
     simp only [Act.put, List.setIfInBounds_toArray, List.set_cons_zero, List.set_cons_succ, i64_w, i32_w]
     rfl
    refine pure_ (i := 7) (N := some 13) (v := ?_) (a' := ?_) #[true, true, true, true, true, true, true, true] rfl rfl (by kernel_rfl) (fun _ _ _ h => h) (Or.inl ⟨by rfl, ?_⟩) ?_ ?_
    rotate_left
    ·intro w'
     go_simp
     with_reducible rfl
    rotate_left
    ·simp only [Act.put, List.setIfInBounds_toArray, List.set_cons_zero, List.set_cons_succ, i64_w, i32_w]
     rfl
    refine done_ (by kernel_rfl) ?_
    have hn0 : w4.cell? ⟨gb, 0, none⟩ = some (.int .i64 x.f0) := (blk_cell BK4.out 0).trans rfl
    have hn1 : w4.cell? ⟨gb, 1, none⟩ = some (.int .i64 x.f1) := (blk_cell BK4.out 1).trans rfl
    have hn2 : w4.cell? ⟨gb, 2, none⟩ = some (.int .i64 x.f2) := (blk_cell BK4.out 2).trans rfl
    have hn3 : w4.cell? ⟨gb, 3, none⟩ = some (.int .i64 x.f3) := (blk_cell BK4.out 3).trans rfl
    have hf0 := blk_frozen BK4.out 0
    have hf1 := blk_frozen BK4.out 1
    have hf2 := blk_frozen BK4.out 2
    have hf3 := blk_frozen BK4.out 3
    have hg0 : w4.cell? ⟨g, 0, none⟩ = some (.slice A l.length c) := (blk_cell HG4.out 0).trans rfl
    have hgf := blk_frozen HG4.out 0
    go_wp2
    refine start_ (n := 7) (S := fun w' => w'.cell? ⟨g, 0, none⟩ = some (.slice A l.length c) ∧ w'.cell? ⟨gb, 0, none⟩ = some (.int .i64 x.f0) ∧ w'.cell? ⟨gb, 1, none⟩ = some (.int .i64 x.f1) ∧ w'.cell? ⟨gb, 2, none⟩ = some (.int .i64 x.f2) ∧ w'.cell? ⟨gb, 3, none⟩ = some (.int .i64 x.f3)) (ds := []) #[false, false, false, false, false, false, false] (by kernel_rfl) rfl rfl ⟨(blk_cell (blk_drew HG4.out) 0).trans rfl, (blk_cell (blk_drew BK4.out) 0).trans rfl, (blk_cell (blk_drew BK4.out) 1).trans rfl, (blk_cell (blk_drew BK4.out) 2).trans rfl, (blk_cell (blk_drew BK4.out) 3).trans rfl⟩ (fun hHeld => ?_)
    refine pure_ (i := 0) (N := some 14) (v := ?_) (a' := ?_) #[true, false, false, false, false, false, false] rfl rfl (by kernel_rfl) (fun _ _ _ h => h) (Or.inl ⟨by rfl, ?_⟩) ?_ ?_
    rotate_left
    ·intro w'
     go_simp
     with_reducible rfl
    rotate_left
    ·simp only [Act.put, List.setIfInBounds_toArray, List.set_cons_zero, List.set_cons_succ, i64_w, i32_w]
     rfl
    refine pure_ (i := 1) (N := some 15) (v := ?_) (a' := ?_) #[true, true, false, false, false, false, false] rfl rfl (by kernel_rfl) (fun _ _ _ h => h) (Or.inl ⟨by rfl, ?_⟩) ?_ ?_
    rotate_left
    ·intro w'
     go_simp
     with_reducible rfl
    rotate_left
    ·simp only [Act.put, List.setIfInBounds_toArray, List.set_cons_zero, List.set_cons_succ, i64_w, i32_w]
     rfl
    refine pure_ (i := 2) (N := some 16) (v := ?_) (a' := ?_) #[true, true, true, false, false, false, false] rfl rfl (by kernel_rfl) (fun _ _ _ h => h) (Or.inl ⟨by rfl, ?_⟩) ?_ ?_
    rotate_left
    ·intro w'
     go_simp
     with_reducible rfl
    rotate_left
    ·simp only [Act.put, List.setIfInBounds_toArray, List.set_cons_zero, List.set_cons_succ, i64_w, i32_w]
     rfl
    refine take_ (i := 3) (N := some 17) (v := ?_) (a' := ?_) #[true, true, true, true, false, false, false] rfl rfl (by kernel_rfl) (fun _ _ _ h => h) (Or.inl ⟨by rfl, ?_⟩) hHeld ?_ ?_
    rotate_left
    ·rintro w' ⟨s0, s1, s2, s3, s4⟩
     go_simp
     with_reducible rfl
    rotate_left
    ·simp only [Act.put, List.setIfInBounds_toArray, List.set_cons_zero, List.set_cons_succ, i64_w, i32_w]
     rfl
    refine take_ (i := 4) (N := some 18) (v := ?_) (a' := ?_) #[true, true, true, true, true, false, false] rfl rfl (by kernel_rfl) (fun _ _ _ h => h) (Or.inl ⟨by rfl, ?_⟩) hHeld ?_ ?_
    rotate_left
    ·rintro w' ⟨s0, s1, s2, s3, s4⟩
     go_simp
     with_reducible rfl
    rotate_left
    ·simp only [Act.put, List.setIfInBounds_toArray, List.set_cons_zero, List.set_cons_succ, i64_w, i32_w]
     rfl
    refine one_ (i := 5) (N := some 19) #[true, true, true, true, true, true, false] rfl rfl (by kernel_rfl) (by decide) (fun K hK => ?_)
    refine goes_ Try.func82 (by kernel_rfl) rfl #[.slice A l.length c, .agg #[.int .i64 x.f0, .int .i64 x.f1, .int .i64 x.f2, .int .i64 x.f3]] (by rfl) rfl rfl (by simp only [List.map_toArray, List.map_cons, List.map_nil]; rfl) ?_
    with_reducible refine (spec_l03At.calls ka A c l x.f0 x.f1 x.f2 x.f3 (-1) _ (Kd.C_below HC.out (below_drew1 HB4.out)) HLC.out HK2.out).mono ?_
    rintro e w5 ⟨rfl, hb5⟩
    refine ⟨_, rfl, ?_⟩
    have HG5 := Aside0.mk (blk_below (blk_drew HG4.out) hb5)
    have BK5 := Aside0.mk (blk_below (blk_drew BK4.out) hb5)
    have HB5 := Aside0.mk (below_step (below_drew1 HB4.out) hb5)
    clear hb5
    refine hK.out _ _ ⟨(blk_cell (HG5.out) 0).trans rfl, (blk_cell (BK5.out) 0).trans rfl, (blk_cell (BK5.out) 1).trans rfl, (blk_cell (BK5.out) 2).trans rfl, (blk_cell (BK5.out) 3).trans rfl⟩ (fun hHeld => ?_)
    clear hK K
    refine norm_ (a' := ?_) ?_ ?_
    rotate_left
    ·show Act.put _ (some 19) _ = _
     simp only [Act.put, List.setIfInBounds_toArray, List.set_cons_zero, List.set_cons_succ, i64_w, i32_w]
     rfl
    refine pure_ (i := 6) (N := some 5) (v := ?_) (a' := ?_) #[true, true, true, true, true, true, true] rfl rfl (by kernel_rfl) (fun _ _ _ h => h) (Or.inl ⟨by rfl, ?_⟩) ?_ ?_
    rotate_left
    ·intro w'
     go_simp
     with_reducible rfl
    rotate_left
    ·simp only [Act.put, List.setIfInBounds_toArray, List.set_cons_zero, List.set_cons_succ, i64_w, i32_w]
     rfl
    refine done_ (by kernel_rfl) ?_
    have hn0 : w5.cell? ⟨gb, 0, none⟩ = some (.int .i64 x.f0) := (blk_cell BK5.out 0).trans rfl
    have hn1 : w5.cell? ⟨gb, 1, none⟩ = some (.int .i64 x.f1) := (blk_cell BK5.out 1).trans rfl
    have hn2 : w5.cell? ⟨gb, 2, none⟩ = some (.int .i64 x.f2) := (blk_cell BK5.out 2).trans rfl
    have hn3 : w5.cell? ⟨gb, 3, none⟩ = some (.int .i64 x.f3) := (blk_cell BK5.out 3).trans rfl
    have hf0 := blk_frozen BK5.out 0
    have hf1 := blk_frozen BK5.out 1
    have hf2 := blk_frozen BK5.out 2
    have hf3 := blk_frozen BK5.out 3
    have hg0 : w5.cell? ⟨g, 0, none⟩ = some (.slice A l.length c) := (blk_cell HG5.out 0).trans rfl
    have hgf := blk_frozen HG5.out 0
    go_wp2
    have HRw := Aside0.mk (Kd.R_below (Kd.R_elderB HR.out gb (by rw [GB3.out]; exact Nat.le_refl _)) HB5.out)
    have HS5 := Aside0.mk (below_size HB5.out)
    have HGB := Aside0.mk (show gb < w5.heap.size from blk_lt BK5.out)
    refine start_ (n := 11) (S := fun w' => w'.cell? ⟨g, 0, none⟩ = some (.slice A l.length c) ∧ w'.cell? ⟨gb, 0, none⟩ = some (.int .i64 x.f0) ∧ w'.cell? ⟨gb, 1, none⟩ = some (.int .i64 x.f1) ∧ w'.cell? ⟨gb, 2, none⟩ = some (.int .i64 x.f2) ∧ w'.cell? ⟨gb, 3, none⟩ = some (.int .i64 x.f3)) (ds := [10]) #[false, false, false, false, false, false, false, false, false, false, false] (by kernel_rfl) rfl rfl ⟨(blk_cell (blk_drew HG5.out) 0).trans rfl, (blk_cell (blk_drew BK5.out) 0).trans rfl, (blk_cell (blk_drew BK5.out) 1).trans rfl, (blk_cell (blk_drew BK5.out) 2).trans rfl, (blk_cell (blk_drew BK5.out) 3).trans rfl⟩ (fun hHeld => ?_)
    refine pure_ (i := 0) (N := some 31) (v := ?_) (a' := ?_) #[true, false, false, false, false, false, false, false, false, false, false] rfl rfl (by kernel_rfl) (fun _ _ _ h => h) (Or.inl ⟨by rfl, ?_⟩) ?_ ?_
    rotate_left
    ·intro w'
     go_simp
     with_reducible rfl
    rotate_left
    ·simp only [Act.put, List.setIfInBounds_toArray, List.set_cons_zero, List.set_cons_succ, i64_w, i32_w]
     rfl
    refine pure_ (i := 1) (N := some 32) (v := ?_) (a' := ?_) #[true, true, false, false, false, false, false, false, false, false, false] rfl rfl (by kernel_rfl) (fun _ _ _ h => h) (Or.inl ⟨by rfl, ?_⟩) ?_ ?_
    rotate_left
    ·intro w'
     go_simp
     with_reducible rfl
    rotate_left
    ·simp only [Act.put, List.setIfInBounds_toArray, List.set_cons_zero, List.set_cons_succ, i64_w, i32_w]
     rfl
    refine pure_ (i := 2) (N := some 33) (v := ?_) (a' := ?_) #[true, true, true, false, false, false, false, false, false, false, false] rfl rfl (by kernel_rfl) (fun _ _ _ h => h) (Or.inl ⟨by rfl, ?_⟩) ?_ ?_
    rotate_left
    ·intro w'
     go_simp
     with_reducible rfl
    rotate_left
    ·simp only [Act.put, List.setIfInBounds_toArray, List.set_cons_zero, List.set_cons_succ, i64_w, i32_w]
     rfl
    refine pure_ (i := 3) (N := some 34) (v := ?_) (a' := ?_) #[true, true, true, true, false, false, false, false, false, false, false] rfl rfl (by kernel_rfl) (fun _ _ _ h => h) (Or.inl ⟨by rfl, ?_⟩) ?_ ?_
    rotate_left
    ·intro w'
     go_simp
     with_reducible rfl
    rotate_left
    ·simp only [Act.put, List.setIfInBounds_toArray, List.set_cons_zero, List.set_cons_succ, i64_w, i32_w]
     rfl
    refine take_ (i := 4) (N := some 35) (v := ?_) (a' := ?_) #[true, true, true, true, true, false, false, false, false, false, false] rfl rfl (by kernel_rfl) (fun _ _ _ h => h) (Or.inl ⟨by rfl, ?_⟩) hHeld ?_ ?_
    rotate_left
    ·rintro w' ⟨s0, s1, s2, s3, s4⟩
     go_simp
     with_reducible rfl
    rotate_left
    ·simp only [Act.put, List.setIfInBounds_toArray, List.set_cons_zero, List.set_cons_succ, i64_w, i32_w]
     rfl
    refine take_ (i := 5) (N := some 36) (v := ?_) (a' := ?_) #[true, true, true, true, true, true, false, false, false, false, false] rfl rfl (by kernel_rfl) (fun _ _ _ h => h) (Or.inl ⟨by rfl, ?_⟩) hHeld ?_ ?_
    rotate_left
    ·rintro w' ⟨s0, s1, s2, s3, s4⟩
     go_simp
     with_reducible rfl
    rotate_left
    ·simp only [Act.put, List.setIfInBounds_toArray, List.set_cons_zero, List.set_cons_succ, i64_w, i32_w]
     rfl
    refine one_ (i := 6) (N := some 37) #[true, true, true, true, true, true, true, false, false, false, false] rfl rfl (by kernel_rfl) (by decide) (fun K hK => ?_)
    refine value_ (w1 := ?_) (v := ?_) (by rfl) rfl ?_ ?_
    rotate_left 2
    ·go_simp
     constructor
     ·rfl
     ·rfl
    refine hK.out _ _ ⟨(blk_cell (blk_alloc (blk_drew HG5.out) _) 0).trans rfl, (blk_cell (blk_alloc (blk_drew BK5.out) _) 0).trans rfl, (blk_cell (blk_alloc (blk_drew BK5.out) _) 1).trans rfl, (blk_cell (blk_alloc (blk_drew BK5.out) _) 2).trans rfl, (blk_cell (blk_alloc (blk_drew BK5.out) _) 3).trans rfl⟩ (fun hHeld => ?_)
    clear hK K
    refine norm_ (a' := ?_) ?_ ?_
    rotate_left
    ·show Act.put _ (some 37) _ = _
     simp only [Act.put, List.setIfInBounds_toArray, List.set_cons_zero, List.set_cons_succ, i64_w, i32_w]
     rfl
    refine one_ (i := 7) (N := some 38) #[true, true, true, true, true, true, true, true, false, false, false] rfl rfl (by kernel_rfl) (by decide) (fun K hK => ?_)
    refine Kd.R_append_step k34 (w0 := w) (W := w5.drew) base (by rfl) (.tmp 35) (.tmp 37) 24 34 (.agg #[.int .i64 0, .int .i64 0, .int .i64 0, .int .i64 0]) 32 rfl Try.underlying24 info34 rfl (by decide) (by decide) (.slice A l.length c) l x [.int .i64 x.f0, .int .i64 x.f1, .int .i64 x.f2, .int .i64 x.f3] (fun k => ok k ∧ k ≠ gb) (fun _ => False) rfl rfl (k34_mkM _ _ _ x) (fun _ h => h.elim) (fun k hk => ⟨HF.out k (Nat.le_trans HS5.out hk), fun e => Nat.lt_irrefl _ (Nat.lt_of_lt_of_le HGB.out (e ▸ hk))⟩) (Kd.R_drew HRw.out) ((below_drew1 HB5.out).mono HBS.out) (Nat.le_trans HBS.out HS5.out) (Nat.le_trans (Nat.mul_le_mul_right 32 (Nat.lt_of_not_le H3.out)) (by decide)) ?_
    intro v1 w7 ho hb hg hat
    have hne : ∀ k, (Value.slice A l.length c).ownBlock = some k → ok k ∧ k ≠ gb := HRw.out.1
    have HG7 := Aside0.mk (blk_grown (blk_drew HG5.out) hg (fun e => HNO.out (hne _ e.symm).1))
    have BK7 := Aside0.mk (blk_grown (blk_drew BK5.out) hg (fun e => (hne _ e.symm).2 rfl))
    have HK7 := Aside0.mk (Kept.of_grown (S := Mine g ok) hg (Kept.drew (Kept.of_below HB5.out _)) (fun k hk => .inl (.inr (hne k hk).1)))
    have HB7 := Aside0.mk hb
    obtain ⟨A1, c1, rfl, hlc1, _⟩ := Kd.R_reads ho
    have HO7 := Aside0.mk ho
    have hg07 : w7.cell? ⟨g, 0, none⟩ = some (.slice A l.length c) := (blk_cell HG7.out 0).trans rfl
    have hgf7 := blk_frozen HG7.out 0
    clear ho hb hg hat hne hlc1
    refine hK.out _ _ ⟨(blk_cell HG7.out 0).trans rfl, (blk_cell BK7.out 0).trans rfl, (blk_cell BK7.out 1).trans rfl, (blk_cell BK7.out 2).trans rfl, (blk_cell BK7.out 3).trans rfl⟩ (fun hHeld => ?_)
    clear hK K
    refine norm_ (a' := ?_) ?_ ?_
    rotate_left
    ·show Act.put _ (some 38) _ = _
     simp only [Act.put, List.setIfInBounds_toArray, List.set_cons_zero, List.set_cons_succ, i64_w, i32_w]
     rfl
    refine pure_ (i := 8) (N := some 39) (v := ?_) (a' := ?_) #[true, true, true, true, true, true, true, true, true, false, false] rfl rfl (by kernel_rfl) (fun _ _ _ h => h) (Or.inl ⟨by rfl, ?_⟩) ?_ ?_
    rotate_left
    ·intro w'
     go_simp
     with_reducible rfl
    rotate_left
    ·simp only [Act.put, List.setIfInBounds_toArray, List.set_cons_zero, List.set_cons_succ, i64_w, i32_w]
     rfl
    refine pure_ (i := 9) (N := some 40) (v := ?_) (a' := ?_) #[true, true, true, true, true, true, true, true, true, true, false] rfl rfl (by kernel_rfl) (fun _ _ _ h => h) (Or.inl ⟨by rfl, ?_⟩) ?_ ?_
    rotate_left
    ·intro w'
     go_simp
     with_reducible rfl
    rotate_left
    ·simp only [Act.put, List.setIfInBounds_toArray, List.set_cons_zero, List.set_cons_succ, i64_w, i32_w]
     rfl
    refine last_ (i := 10) (N := none) #[true, true, true, true, true, true, true, true, true, true, true] rfl rfl (by kernel_rfl) (by decide) (fun K hK => ?_)
    refine skip_ (w1 := ?_) (by rfl) rfl ?_ ?_
    rotate_left
    ·go_simp
     rfl
    refine hK.out _ _ ?_
    clear hK K
    refine done_ (by kernel_rfl) ?_
    obtain ⟨w8, hw8⟩ : ∃ w8, w7.setCell ⟨g, 0, none⟩ (.slice A1 (l.length + 1) c1) = w8 := ⟨_, rfl⟩
    rw [hw8]
    have HG8 := Aside0.mk (show w8.heap[g]? = some (.cells #[.slice A1 (l.length + 1) c1] 26 (0, 0)) by rw [← hw8]; exact blk_put HG7.out 0 _ rfl)
    have HB8 := Aside0.mk (show Below base w w8 by rw [← hw8]; exact HB7.out.setCell HBG.out _)
    have HK8 := Aside0.mk (show Kept w w8 (Mine g ok) by rw [← hw8]; exact Kept.setCell HK7.out (.inl (.inl rfl)) _)
    have HO8 := Aside0.mk (show Kd.R k34 34 w8 base (fun k => ok k ∧ k ≠ gb) (.slice A1 (l ++ [x]).length c1) (l ++ [x]) by rw [← hw8]; exact Kd.R_far HO7.out (fun k hk e => HNO.out (by have h1 := hk.1; rwa [show k = g from e] at h1)) _)
    clear hw8
    have hg08 : w8.cell? ⟨g, 0, none⟩ = some (.slice A1 (l.length + 1) c1) := (blk_cell HG8.out 0).trans rfl
    have hgf8 := blk_frozen HG8.out 0
    have hlt8 : l.length ≤ 1048576 := HL.out
    go_wp2
    go_ret
    rw [HE.out]
    refine ⟨by first | rfl | (congr 2; omega) | (simp; omega), ⟨_, HG8.out, HBG.out, HNO.out, ?_⟩, HB8.out, HK8.out⟩
    have hO := Kd.R_mono HO8.out (fun _ hk => hk.1)
    rw [List.length_append] at hO
    exact hO
  ·have he : putN l x = (l, atV l x) := by unfold putN; rw [if_pos hb, if_pos ha]
   have HE := Aside0.mk he
   clear he hb
   generalize atV l x = q at ha ha1 HE HK2
   have hq0 : decide (0 ≤ q) = true := decide_eq_true ha
   clear ha ha1
   go_enter Try.func113, Try.ntmps113
   go_wp2_with (first | ((with_reducible refine gate_dst (N := 3) rfl ?_); refine box_event ?hg (N := 3) ?hd (cs := #[.int .i64 x.f0, .int .i64 x.f1, .int .i64 x.f2, .int .i64 x.f3]) (t := 34) ?hr ?_; (case hd => rfl); (case hg => rfl); (case hr => first | (go_simp; done) | (go_simp; rfl)); intro gb hg1 w3 hbox hb; have BK3 := Aside0.mk hbox; have HB3 := Aside0.mk hb; have GB3 := Aside0.mk hg1; clear hg1 hbox hb))
   have HG3 := Aside0.mk (blk_below HG0.out HB3.out)
   refine start_ (n := 8) (S := fun w' => w'.cell? ⟨g, 0, none⟩ = some (.slice A l.length c) ∧ w'.cell? ⟨gb, 0, none⟩ = some (.int .i64 x.f0) ∧ w'.cell? ⟨gb, 1, none⟩ = some (.int .i64 x.f1) ∧ w'.cell? ⟨gb, 2, none⟩ = some (.int .i64 x.f2) ∧ w'.cell? ⟨gb, 3, none⟩ = some (.int .i64 x.f3)) (ds := []) #[false, false, false, false, false, false, false, false] (by kernel_rfl) rfl rfl ⟨(blk_cell (blk_drew HG3.out) 0).trans rfl, (blk_cell (blk_drew BK3.out) 0).trans rfl, (blk_cell (blk_drew BK3.out) 1).trans rfl, (blk_cell (blk_drew BK3.out) 2).trans rfl, (blk_cell (blk_drew BK3.out) 3).trans rfl⟩ (fun hHeld => ?_)
   refine pure_ (i := 1) (N := some 7) (v := ?_) (a' := ?_) #[false, true, false, false, false, false, false, false] rfl rfl (by kernel_rfl) (fun _ _ _ h => h) (Or.inl ⟨by rfl, ?_⟩) ?_ ?_
   rotate_left
   ·intro w'
    go_simp
    with_reducible rfl
   rotate_left
   ·simp only [Act.put, List.setIfInBounds_toArray, List.set_cons_zero, List.set_cons_succ, i64_w, i32_w]
    rfl
   refine pure_ (i := 2) (N := some 8) (v := ?_) (a' := ?_) #[false, true, true, false, false, false, false, false] rfl rfl (by kernel_rfl) (fun _ _ _ h => h) (Or.inl ⟨by rfl, ?_⟩) ?_ ?_
   rotate_left
   ·intro w'
    go_simp
    with_reducible rfl
   rotate_left
   ·simp only [Act.put, List.setIfInBounds_toArray, List.set_cons_zero, List.set_cons_succ, i64_w, i32_w]
    rfl
   refine pure_ (i := 3) (N := some 9) (v := ?_) (a' := ?_) #[false, true, true, true, false, false, false, false] rfl rfl (by kernel_rfl) (fun _ _ _ h => h) (Or.inl ⟨by rfl, ?_⟩) ?_ ?_
   rotate_left
   ·intro w'
    go_simp
    with_reducible rfl
   rotate_left
   ·simp only [Act.put, List.setIfInBounds_toArray, List.set_cons_zero, List.set_cons_succ, i64_w, i32_w]
    rfl
   refine take_ (i := 0) (N := some 6) (v := ?_) (a' := ?_) #[true, true, true, true, false, false, false, false] rfl rfl (by kernel_rfl) (fun _ _ _ h => h) (Or.inl ⟨by rfl, ?_⟩) hHeld ?_ ?_
   rotate_left
   ·rintro w' ⟨s0, s1, s2, s3, s4⟩
    go_simp
    with_reducible rfl
   rotate_left
   ·simp only [Act.put, List.setIfInBounds_toArray, List.set_cons_zero, List.set_cons_succ, i64_w, i32_w]
    rfl
   refine take_ (i := 4) (N := some 10) (v := ?_) (a' := ?_) #[true, true, true, true, true, false, false, false] rfl rfl (by kernel_rfl) (fun _ _ _ h => h) (Or.inl ⟨by rfl, ?_⟩) hHeld ?_ ?_
   rotate_left
   ·rintro w' ⟨s0, s1, s2, s3, s4⟩
    go_simp
    with_reducible rfl
   rotate_left
   ·simp only [Act.put, List.setIfInBounds_toArray, List.set_cons_zero, List.set_cons_succ, i64_w, i32_w]
    rfl
   refine pure_ (i := 5) (N := some 11) (v := ?_) (a' := ?_) #[true, true, true, true, true, true, false, false] rfl rfl (by kernel_rfl) (fun _ _ _ h => h) (Or.inl ⟨by rfl, ?_⟩) ?_ ?_
   rotate_left
   ·intro w'
    go_simp
    with_reducible rfl
   rotate_left
   ·simp only [Act.put, List.setIfInBounds_toArray, List.set_cons_zero, List.set_cons_succ, i64_w, i32_w]
    rfl
   refine one_ (i := 6) (N := some 12) #[true, true, true, true, true, true, true, false] rfl rfl (by kernel_rfl) (by decide) (fun K hK => ?_)
   refine goes_ Try.func81 (by kernel_rfl) rfl #[.agg #[.int .i64 x.f0, .int .i64 x.f1, .int .i64 x.f2, .int .i64 x.f3], .int .i64 (l.length : Int)] (by rfl) rfl rfl (by simp only [List.map_toArray, List.map_cons, List.map_nil]; rfl) ?_
   with_reducible refine (spec_l03Node.calls kn x.f0 x.f1 x.f2 x.f3 (l.length : Int) true _ HK.out).mono ?_
   rintro e w4 ⟨rfl, hb4⟩
   refine ⟨_, rfl, ?_⟩
   have HG4 := Aside0.mk (blk_below (blk_drew HG3.out) hb4)
   have BK4 := Aside0.mk (blk_below (blk_drew BK3.out) hb4)
   have HB4 := Aside0.mk (below_step (below_drew1 HB3.out) hb4)
   clear hb4
   refine hK.out _ _ ⟨(blk_cell (HG4.out) 0).trans rfl, (blk_cell (BK4.out) 0).trans rfl, (blk_cell (BK4.out) 1).trans rfl, (blk_cell (BK4.out) 2).trans rfl, (blk_cell (BK4.out) 3).trans rfl⟩ (fun hHeld => ?_)
   clear hK K
   refine norm_ (a' := ?_) ?_ ?_
   rotate_left
   ·show Act.put _ (some 12) _ = _
    simp only [Act.put, List.setIfInBounds_toArray, List.set_cons_zero, List.set_cons_succ, i64_w, i32_w]
    rfl
   refine pure_ (i := 7) (N := some 13) (v := ?_) (a' := ?_) #[true, true, true, true, true, true, true, true] rfl rfl (by kernel_rfl) (fun _ _ _ h => h) (Or.inl ⟨by rfl, ?_⟩) ?_ ?_
   rotate_left
   ·intro w'
    go_simp
    with_reducible rfl
   rotate_left
   ·simp only [Act.put, List.setIfInBounds_toArray, List.set_cons_zero, List.set_cons_succ, i64_w, i32_w]
    rfl
   refine done_ (by kernel_rfl) ?_
   have hn0 : w4.cell? ⟨gb, 0, none⟩ = some (.int .i64 x.f0) := (blk_cell BK4.out 0).trans rfl
   have hn1 : w4.cell? ⟨gb, 1, none⟩ = some (.int .i64 x.f1) := (blk_cell BK4.out 1).trans rfl
   have hn2 : w4.cell? ⟨gb, 2, none⟩ = some (.int .i64 x.f2) := (blk_cell BK4.out 2).trans rfl
   have hn3 : w4.cell? ⟨gb, 3, none⟩ = some (.int .i64 x.f3) := (blk_cell BK4.out 3).trans rfl
   have hf0 := blk_frozen BK4.out 0
   have hf1 := blk_frozen BK4.out 1
   have hf2 := blk_frozen BK4.out 2
   have hf3 := blk_frozen BK4.out 3
   have hg0 : w4.cell? ⟨g, 0, none⟩ = some (.slice A l.length c) := (blk_cell HG4.out 0).trans rfl
   have hgf := blk_frozen HG4.out 0
   go_wp2
   refine start_ (n := 7) (S := fun w' => w'.cell? ⟨g, 0, none⟩ = some (.slice A l.length c) ∧ w'.cell? ⟨gb, 0, none⟩ = some (.int .i64 x.f0) ∧ w'.cell? ⟨gb, 1, none⟩ = some (.int .i64 x.f1) ∧ w'.cell? ⟨gb, 2, none⟩ = some (.int .i64 x.f2) ∧ w'.cell? ⟨gb, 3, none⟩ = some (.int .i64 x.f3)) (ds := []) #[false, false, false, false, false, false, false] (by kernel_rfl) rfl rfl ⟨(blk_cell (blk_drew HG4.out) 0).trans rfl, (blk_cell (blk_drew BK4.out) 0).trans rfl, (blk_cell (blk_drew BK4.out) 1).trans rfl, (blk_cell (blk_drew BK4.out) 2).trans rfl, (blk_cell (blk_drew BK4.out) 3).trans rfl⟩ (fun hHeld => ?_)
   refine pure_ (i := 0) (N := some 14) (v := ?_) (a' := ?_) #[true, false, false, false, false, false, false] rfl rfl (by kernel_rfl) (fun _ _ _ h => h) (Or.inl ⟨by rfl, ?_⟩) ?_ ?_
   rotate_left
   ·intro w'
    go_simp
    with_reducible rfl
   rotate_left
   ·simp only [Act.put, List.setIfInBounds_toArray, List.set_cons_zero, List.set_cons_succ, i64_w, i32_w]
    rfl
   refine pure_ (i := 1) (N := some 15) (v := ?_) (a' := ?_) #[true, true, false, false, false, false, false] rfl rfl (by kernel_rfl) (fun _ _ _ h => h) (Or.inl ⟨by rfl, ?_⟩) ?_ ?_
   rotate_left
   ·intro w'
    go_simp
    with_reducible rfl
   rotate_left
   ·simp only [Act.put, List.setIfInBounds_toArray, List.set_cons_zero, List.set_cons_succ, i64_w, i32_w]
    rfl
   refine pure_ (i := 2) (N := some 16) (v := ?_) (a' := ?_) #[true, true, true, false, false, false, false] rfl rfl (by kernel_rfl) (fun _ _ _ h => h) (Or.inl ⟨by rfl, ?_⟩) ?_ ?_
   rotate_left
   ·intro w'
    go_simp
    with_reducible rfl
   rotate_left
   ·simp only [Act.put, List.setIfInBounds_toArray, List.set_cons_zero, List.set_cons_succ, i64_w, i32_w]
    rfl
   refine take_ (i := 3) (N := some 17) (v := ?_) (a' := ?_) #[true, true, true, true, false, false, false] rfl rfl (by kernel_rfl) (fun _ _ _ h => h) (Or.inl ⟨by rfl, ?_⟩) hHeld ?_ ?_
   rotate_left
   ·rintro w' ⟨s0, s1, s2, s3, s4⟩
    go_simp
    with_reducible rfl
   rotate_left
   ·simp only [Act.put, List.setIfInBounds_toArray, List.set_cons_zero, List.set_cons_succ, i64_w, i32_w]
    rfl
   refine take_ (i := 4) (N := some 18) (v := ?_) (a' := ?_) #[true, true, true, true, true, false, false] rfl rfl (by kernel_rfl) (fun _ _ _ h => h) (Or.inl ⟨by rfl, ?_⟩) hHeld ?_ ?_
   rotate_left
   ·rintro w' ⟨s0, s1, s2, s3, s4⟩
    go_simp
    with_reducible rfl
   rotate_left
   ·simp only [Act.put, List.setIfInBounds_toArray, List.set_cons_zero, List.set_cons_succ, i64_w, i32_w]
    rfl
   refine one_ (i := 5) (N := some 19) #[true, true, true, true, true, true, false] rfl rfl (by kernel_rfl) (by decide) (fun K hK => ?_)
   refine goes_ Try.func82 (by kernel_rfl) rfl #[.slice A l.length c, .agg #[.int .i64 x.f0, .int .i64 x.f1, .int .i64 x.f2, .int .i64 x.f3]] (by rfl) rfl rfl (by simp only [List.map_toArray, List.map_cons, List.map_nil]; rfl) ?_
   with_reducible refine (spec_l03At.calls ka A c l x.f0 x.f1 x.f2 x.f3 q _ (Kd.C_below HC.out (below_drew1 HB4.out)) HLC.out HK2.out).mono ?_
   rintro e w5 ⟨rfl, hb5⟩
   refine ⟨_, rfl, ?_⟩
   have HG5 := Aside0.mk (blk_below (blk_drew HG4.out) hb5)
   have BK5 := Aside0.mk (blk_below (blk_drew BK4.out) hb5)
   have HB5 := Aside0.mk (below_step (below_drew1 HB4.out) hb5)
   clear hb5
   refine hK.out _ _ ⟨(blk_cell (HG5.out) 0).trans rfl, (blk_cell (BK5.out) 0).trans rfl, (blk_cell (BK5.out) 1).trans rfl, (blk_cell (BK5.out) 2).trans rfl, (blk_cell (BK5.out) 3).trans rfl⟩ (fun hHeld => ?_)
   clear hK K
   refine norm_ (a' := ?_) ?_ ?_
   rotate_left
   ·show Act.put _ (some 19) _ = _
    simp only [Act.put, List.setIfInBounds_toArray, List.set_cons_zero, List.set_cons_succ, i64_w, i32_w]
    rfl
   refine pure_ (i := 6) (N := some 5) (v := ?_) (a' := ?_) #[true, true, true, true, true, true, true] rfl rfl (by kernel_rfl) (fun _ _ _ h => h) (Or.inl ⟨by rfl, ?_⟩) ?_ ?_
   rotate_left
   ·intro w'
    go_simp
    with_reducible rfl
   rotate_left
   ·simp only [Act.put, List.setIfInBounds_toArray, List.set_cons_zero, List.set_cons_succ, i64_w, i32_w]
    rfl
   refine done_ (by kernel_rfl) ?_
   have hn0 : w5.cell? ⟨gb, 0, none⟩ = some (.int .i64 x.f0) := (blk_cell BK5.out 0).trans rfl
   have hn1 : w5.cell? ⟨gb, 1, none⟩ = some (.int .i64 x.f1) := (blk_cell BK5.out 1).trans rfl
   have hn2 : w5.cell? ⟨gb, 2, none⟩ = some (.int .i64 x.f2) := (blk_cell BK5.out 2).trans rfl
   have hn3 : w5.cell? ⟨gb, 3, none⟩ = some (.int .i64 x.f3) := (blk_cell BK5.out 3).trans rfl
   have hf0 := blk_frozen BK5.out 0
   have hf1 := blk_frozen BK5.out 1
   have hf2 := blk_frozen BK5.out 2
   have hf3 := blk_frozen BK5.out 3
   have hg0 : w5.cell? ⟨g, 0, none⟩ = some (.slice A l.length c) := (blk_cell HG5.out 0).trans rfl
   have hgf := blk_frozen HG5.out 0
   go_wp2
   go_ret
   rw [HE.out]
   exact ⟨rfl, ⟨_, HG5.out, HBG.out, HNO.out, Kd.R_below HR.out HB5.out⟩, HB5.out.mono HBS.out, Kept.of_below HB5.out _⟩
 ·have hb0 : nodeB x.f0 x.f1 x.f2 x.f3 (l.length : Int) = false := by simpa using hb
  rw [hb0] at HK
  have he : putN l x = (l, -1) := by unfold putN; rw [if_neg hb]
  have HE := Aside0.mk he
  clear he hb hb0 hbl
  go_enter Try.func113, Try.ntmps113
  go_wp2_with (first | ((with_reducible refine gate_dst (N := 3) rfl ?_); refine box_event ?hg (N := 3) ?hd (cs := #[.int .i64 x.f0, .int .i64 x.f1, .int .i64 x.f2, .int .i64 x.f3]) (t := 34) ?hr ?_; (case hd => rfl); (case hg => rfl); (case hr => first | (go_simp; done) | (go_simp; rfl)); intro gb hg1 w3 hbox hb; have BK3 := Aside0.mk hbox; have HB3 := Aside0.mk hb; have GB3 := Aside0.mk hg1; clear hg1 hbox hb))
  have HG3 := Aside0.mk (blk_below HG0.out HB3.out)
  refine start_ (n := 8) (S := fun w' => w'.cell? ⟨g, 0, none⟩ = some (.slice A l.length c) ∧ w'.cell? ⟨gb, 0, none⟩ = some (.int .i64 x.f0) ∧ w'.cell? ⟨gb, 1, none⟩ = some (.int .i64 x.f1) ∧ w'.cell? ⟨gb, 2, none⟩ = some (.int .i64 x.f2) ∧ w'.cell? ⟨gb, 3, none⟩ = some (.int .i64 x.f3)) (ds := []) #[false, false, false, false, false, false, false, false] (by kernel_rfl) rfl rfl ⟨(blk_cell (blk_drew HG3.out) 0).trans rfl, (blk_cell (blk_drew BK3.out) 0).trans rfl, (blk_cell (blk_drew BK3.out) 1).trans rfl, (blk_cell (blk_drew BK3.out) 2).trans rfl, (blk_cell (blk_drew BK3.out) 3).trans rfl⟩ (fun hHeld => ?_)
  refine pure_ (i := 1) (N := some 7) (v := ?_) (a' := ?_) #[false, true, false, false, false, false, false, false] rfl rfl (by kernel_rfl) (fun _ _ _ h => h) (Or.inl ⟨by rfl, ?_⟩) ?_ ?_
  rotate_left
  ·intro w'
   go_simp
   with_reducible rfl
  rotate_left
  ·simp only [Act.put, List.setIfInBounds_toArray, List.set_cons_zero, List.set_cons_succ, i64_w, i32_w]
   rfl
  refine pure_ (i := 2) (N := some 8) (v := ?_) (a' := ?_) #[false, true, true, false, false, false, false, false] rfl rfl (by kernel_rfl) (fun _ _ _ h => h) (Or.inl ⟨by rfl, ?_⟩) ?_ ?_
  rotate_left
  ·intro w'
   go_simp
   with_reducible rfl
  rotate_left
  ·simp only [Act.put, List.setIfInBounds_toArray, List.set_cons_zero, List.set_cons_succ, i64_w, i32_w]
   rfl
  refine pure_ (i := 3) (N := some 9) (v := ?_) (a' := ?_) #[false, true, true, true, false, false, false, false] rfl rfl (by kernel_rfl) (fun _ _ _ h => h) (Or.inl ⟨by rfl, ?_⟩) ?_ ?_
  rotate_left
  ·intro w'
   go_simp
   with_reducible rfl
  rotate_left
  ·simp only [Act.put, List.setIfInBounds_toArray, List.set_cons_zero, List.set_cons_succ, i64_w, i32_w]
   rfl
  refine take_ (i := 0) (N := some 6) (v := ?_) (a' := ?_) #[true, true, true, true, false, false, false, false] rfl rfl (by kernel_rfl) (fun _ _ _ h => h) (Or.inl ⟨by rfl, ?_⟩) hHeld ?_ ?_
  rotate_left
  ·rintro w' ⟨s0, s1, s2, s3, s4⟩
   go_simp
   with_reducible rfl
  rotate_left
  ·simp only [Act.put, List.setIfInBounds_toArray, List.set_cons_zero, List.set_cons_succ, i64_w, i32_w]
   rfl
  refine take_ (i := 4) (N := some 10) (v := ?_) (a' := ?_) #[true, true, true, true, true, false, false, false] rfl rfl (by kernel_rfl) (fun _ _ _ h => h) (Or.inl ⟨by rfl, ?_⟩) hHeld ?_ ?_
  rotate_left
  ·rintro w' ⟨s0, s1, s2, s3, s4⟩
   go_simp
   with_reducible rfl
  rotate_left
  ·simp only [Act.put, List.setIfInBounds_toArray, List.set_cons_zero, List.set_cons_succ, i64_w, i32_w]
   rfl
  refine pure_ (i := 5) (N := some 11) (v := ?_) (a' := ?_) #[true, true, true, true, true, true, false, false] rfl rfl (by kernel_rfl) (fun _ _ _ h => h) (Or.inl ⟨by rfl, ?_⟩) ?_ ?_
  rotate_left
  ·intro w'
   go_simp
   with_reducible rfl
  rotate_left
  ·simp only [Act.put, List.setIfInBounds_toArray, List.set_cons_zero, List.set_cons_succ, i64_w, i32_w]
   rfl
  refine one_ (i := 6) (N := some 12) #[true, true, true, true, true, true, true, false] rfl rfl (by kernel_rfl) (by decide) (fun K hK => ?_)
  refine goes_ Try.func81 (by kernel_rfl) rfl #[.agg #[.int .i64 x.f0, .int .i64 x.f1, .int .i64 x.f2, .int .i64 x.f3], .int .i64 (l.length : Int)] (by rfl) rfl rfl (by simp only [List.map_toArray, List.map_cons, List.map_nil]; rfl) ?_
  with_reducible refine (spec_l03Node.calls kn x.f0 x.f1 x.f2 x.f3 (l.length : Int) false _ HK.out).mono ?_
  rintro e w4 ⟨rfl, hb4⟩
  refine ⟨_, rfl, ?_⟩
  have HG4 := Aside0.mk (blk_below (blk_drew HG3.out) hb4)
  have BK4 := Aside0.mk (blk_below (blk_drew BK3.out) hb4)
  have HB4 := Aside0.mk (below_step (below_drew1 HB3.out) hb4)
  clear hb4
  refine hK.out _ _ ⟨(blk_cell (HG4.out) 0).trans rfl, (blk_cell (BK4.out) 0).trans rfl, (blk_cell (BK4.out) 1).trans rfl, (blk_cell (BK4.out) 2).trans rfl, (blk_cell (BK4.out) 3).trans rfl⟩ (fun hHeld => ?_)
  clear hK K
  refine norm_ (a' := ?_) ?_ ?_
  rotate_left
  ·show Act.put _ (some 12) _ = _
   simp only [Act.put, List.setIfInBounds_toArray, List.set_cons_zero, List.set_cons_succ, i64_w, i32_w]
   rfl
  refine pure_ (i := 7) (N := some 13) (v := ?_) (a' := ?_) #[true, true, true, true, true, true, true, true] rfl rfl (by kernel_rfl) (fun _ _ _ h => h) (Or.inl ⟨by rfl, ?_⟩) ?_ ?_
  rotate_left
  ·intro w'
   go_simp
   with_reducible rfl
  rotate_left
  ·simp only [Act.put, List.setIfInBounds_toArray, List.set_cons_zero, List.set_cons_succ, i64_w, i32_w]
   rfl
  refine done_ (by kernel_rfl) ?_
  have hn0 : w4.cell? ⟨gb, 0, none⟩ = some (.int .i64 x.f0) := (blk_cell BK4.out 0).trans rfl
  have hn1 : w4.cell? ⟨gb, 1, none⟩ = some (.int .i64 x.f1) := (blk_cell BK4.out 1).trans rfl
  have hn2 : w4.cell? ⟨gb, 2, none⟩ = some (.int .i64 x.f2) := (blk_cell BK4.out 2).trans rfl
  have hn3 : w4.cell? ⟨gb, 3, none⟩ = some (.int .i64 x.f3) := (blk_cell BK4.out 3).trans rfl
  have hf0 := blk_frozen BK4.out 0
  have hf1 := blk_frozen BK4.out 1
  have hf2 := blk_frozen BK4.out 2
  have hf3 := blk_frozen BK4.out 3
  have hg0 : w4.cell? ⟨g, 0, none⟩ = some (.slice A l.length c) := (blk_cell HG4.out 0).trans rfl
  have hgf := blk_frozen HG4.out 0
  go_wp2
  go_ret
  rw [HE.out]
  exact ⟨rfl, ⟨_, HG4.out, HBG.out, HNO.out, Kd.R_below HR.out HB4.out⟩, HB4.out.mono HBS.out, Kept.of_below HB4.out _⟩

/-! what l03Put wants and leaves, in one word -/
def ArS (w : World) (base g : Nat) (ok : Nat → Prop) (l : List S34) : Prop := ArAt w base g ok l ∧ (∀ k, w.heap.size ≤ k → ok k) ∧ l.length ≤ 1048576
theorem ArAt.size {w : World} {base g : Nat} {ok : Nat → Prop} {l : List S34} (h : ArAt w base g ok l) : base ≤ g ∧ g < w.heap.size := by
 obtain ⟨v, h1, h2, _, _⟩ := h
 exact ⟨h2, blk_lt h1⟩
theorem ArS.keep {w w1 : World} {base g : Nat} {ok : Nat → Prop} {l : List S34} (h : ArS w base g ok l) (hb : Below w.heap.size w w1) : ArS w1 base g ok l :=
  ⟨h.1.keep hb, fun k hk => h.2.1 k (Nat.le_trans hb.size hk), h.2.2⟩
def ArPost (w : World) (base g : Nat) (ok : Nat → Prop) (r : List S34 × Int) (e : Ending) (w' : World) : Prop := e = .returned (.int .i64 r.2) ∧ ArS w' base g ok r.1 ∧ Below base w w' ∧ Kept w w' (Mine g ok)
theorem putN_len {l : List S34} {x : S34} (h : l.length ≤ 1048576) : (putN l x).1.length ≤ 1048576 := by
 rcases putN_cases l x with ⟨h1, _⟩ | ⟨_, _, ⟨h1, _⟩ | ⟨_, h2, h1, _⟩⟩
 ·rw [h1]; exact h
 ·rw [h1]; exact h
 ·rw [h1, List.length_append, List.length_singleton]; omega
theorem spec_put (l : List S34) (x : S34) (w : World) (base g : Nat) (ok : Nat → Prop) (h : ArS w base g ok l) :
  Calls Try.prog 113 #[.pointer (some ⟨g, 0, none⟩), .agg #[.int .i64 x.f0, .int .i64 x.f1, .int .i64 x.f2, .int .i64 x.f3]] w (ArPost w base g ok (putN l x)) := by
 have hs := h.1.size
 refine (spec_l03Put_at l x w base g ok h.1 (by omega) h.2.1 h.2.2).mono ?_
 rintro e w' ⟨he, hA, hb, hk⟩
 exact ⟨he, ⟨hA, fun k hk' => h.2.1 k (Nat.le_trans hb.size hk'), putN_len h.2.2⟩, hb, hk⟩
theorem ArPost.trans {w w1 w2 : World} {base g : Nat} {ok : Nat → Prop} {r : List S34 × Int} {e : Ending} (hb : Below base w w1) (hk : Kept w w1 (Mine g ok)) (h : ArPost w1 base g ok r e w2) : ArPost w base g ok r e w2 :=
  ⟨h.1, h.2.1, hb.trans h.2.2.1, hk.then_ h.2.2.2 (fun _ h => .inl h)⟩
/-! an arena that is drawn -/
def arenaBody (c : List Int) (ci ch : Int) (ns : List S34) : Option (List S34 × Int × Int) :=
  (if ns.length < 2 then some (true, ci, ch) else spec_l01Once.f c ci ch 3).bind fun o =>
    if o.1 = true then (spec_l01PickInt.f c o.2.1 o.2.2 ([0, 1, 5, 1000, 5000, 10000, 10001] : List Int)).bind fun p => some ((putN ns ⟨1, p.1, 0, 0⟩).1, p.2.1, p.2.2)
    else (spec_l01Below.f c o.2.1 o.2.2 8).bind fun q => if 0 ≤ q.1 ∧ q.1 ≤ 7 then (spec_l01Below.f c q.2.1 q.2.2 (ns.length : Int)).bind fun x => (spec_l01Below.f c x.2.1 x.2.2 (ns.length : Int)).bind fun y =>
      some ((putN ns ⟨2 + q.1, 0, x.1, if 2 + q.1 = 3 ∨ 2 + q.1 = 6 then 0 else y.1⟩).1, y.2.1, y.2.2) else none
def arenaLoop : Nat → List Int → Int → Int → Int → List S34 → Option (List S34 × Int × Int)
  | 0, _, _, _, _, _ => none
  | k + 1, c, ci, ch, j, ns => (spec_l01Below.f c ci ch 10).bind fun b => if 0 ≤ b.1 ∧ b.1 ≤ 9 then (if j < 3 + b.1 then (arenaBody c b.2.1 b.2.2 ns).bind fun s => arenaLoop k c s.2.1 s.2.2 (j + 1) s.1 else some (ns, b.2.1, b.2.2)) else none
/-- the world in the loop -/
def AInv (w0 w wr : World) (gc gr ga B : Nat) (c : List Int) (ns : List S34) (ci ch : Int) : Prop :=
  IsS119 w0 wr gc c ci ch ∧ ArS wr w.heap.size ga (fun k => B ≤ k) ns ∧ wr.heap[gr]? = some (.cells #[.slice none 0 0] 26 (0, 0)) ∧ Below w0.heap.size w0 wr ∧ KeepBut w wr gc none
def AFix (w0 w : World) (gc gr ga B : Nat) : Prop := w0.heap.size ≤ w.heap.size ∧ gc < w.heap.size ∧ w.heap.size ≤ gr ∧ w.heap.size ≤ ga ∧ gr < B ∧ ga < B ∧ gr ≠ ga
theorem AInv.draw {w0 w W W1 : World} {gc gr ga B : Nat} {c : List Int} {ns : List S34} {ci ch ci1 ch1 : Int} (hf : AFix w0 w gc gr ga B) (h : AInv w0 w W gc gr ga B c ns ci ch) (hi : IsS119 w0 W1 gc c ci1 ch1) (hb : Below w0.heap.size w0 W1) (hk : KeepBut W W1 gc none) : AInv w0 w W1 gc gr ga B c ns ci1 ch1 := by
 obtain ⟨_, f2, f3, f4, f5, f6, f7⟩ := hf
 obtain ⟨h1, ⟨⟨v, a1, a2, a3, a4⟩, a5, a6⟩, h3, h4, h5⟩ := h
 refine ⟨hi, ⟨⟨v, (hk.2 ga (blk_lt a1) (by omega) (by simp)).trans a1, a2, a3, ?_⟩, fun k hk' => a5 k (Nat.le_trans hk.1 hk'), a6⟩, (hk.2 gr (blk_lt h3) (by omega) (by simp)).trans h3, hb, h5.trans hk (.inl rfl)⟩
 exact Kd.R_keep a4 hk (fun k hk' => by omega)
theorem AInv.below {w0 w W W1 : World} {gc gr ga B : Nat} {c : List Int} {ns : List S34} {ci ch : Int} (h : AInv w0 w W gc gr ga B c ns ci ch) (hb : Below W.heap.size W W1) : AInv w0 w W1 gc gr ga B c ns ci ch := by
 obtain ⟨h1, h2, h3, h4, h5⟩ := h
 exact ⟨h1.below hb, h2.keep hb, blk_below h3 hb, below_step h4 hb, h5.trans (KeepBut.of_below hb gc none) (.inl rfl)⟩
theorem AInv.put {w0 w W W1 : World} {gc gr ga B : Nat} {c : List Int} {ns : List S34} {ci ch : Int} {r : List S34 × Int} {e : Ending} (hf : AFix w0 w gc gr ga B) (h : AInv w0 w W gc gr ga B c ns ci ch) (hp : ArPost W w.heap.size ga (fun k => B ≤ k) r e W1) : AInv w0 w W1 gc gr ga B c r.1 ci ch := by
 obtain ⟨f1, f2, f3, f4, f5, f6, f7⟩ := hf
 obtain ⟨h1, h2, h3, h4, h5⟩ := h
 obtain ⟨p1, p2, p3, p4⟩ := hp
 have hn : ∀ k, k < B → k ≠ ga → ¬ Mine ga (fun k => B ≤ k) k := fun k a b hm => by rcases hm with hm | hm <;> omega
 exact ⟨h1.kept p4 (hn gc (by omega) (by omega)), p2, blk_kept h3 p4 (hn gr f5 f7), h4.trans (p3.mono f1), Kept.keep h5 p4 (fun k hm => by rcases hm with hm | hm <;> omega)⟩
theorem AInv.setA {w0 w W : World} {gc gr ga B : Nat} {c : List Int} {ci ch : Int} (hf : AFix w0 w gc gr ga B) (h : AInv w0 w W gc gr ga B c [] ci ch) : AInv w0 w (W.setCell ⟨ga, 0, none⟩ (.slice none 0 0)) gc gr ga B c [] ci ch := by
 obtain ⟨f1, f2, f3, f4, f5, f6, f7⟩ := hf
 obtain ⟨h1, ⟨⟨v, a1, a2, a3, a4⟩, a5, a6⟩, h3, h4, h5⟩ := h
 refine ⟨h1.far (show gc ≠ ga by omega) _, ⟨⟨_, blk_put a1 0 _ rfl, a2, a3, Kd.R_nil _ _ _ _ _⟩, fun k hk => a5 k (by simpa [World.setCell] using hk), a6⟩, blk_far h3 f7 _, below_set h4 (by omega), keep_far h5 (by omega) _⟩
theorem AInv.cur {w0 w W : World} {gc gr ga B : Nat} {c : List Int} {ns : List S34} {ci ch : Int} (h : AInv w0 w W gc gr ga B c ns ci ch) : IsS119 w0 W gc c ci ch := h.1
theorem AInv.ars {w0 w W : World} {gc gr ga B : Nat} {c : List Int} {ns : List S34} {ci ch : Int} (h : AInv w0 w W gc gr ga B c ns ci ch) : ArS W w.heap.size ga (fun k => B ≤ k) ns := h.2.1
theorem AInv.bel {w0 w W : World} {gc gr ga B : Nat} {c : List Int} {ns : List S34} {ci ch : Int} (h : AInv w0 w W gc gr ga B c ns ci ch) : Below w0.heap.size w0 W := h.2.2.2.1
theorem lit_of {W : World} {base : Nat} {ok : Nat → Prop} {v : Value} {xs : List Int} (h : Kd.R (Kd.int .i64) 3 W base ok v xs) : ∃ A c, v = .slice A xs.length c ∧ xs.length ≤ c ∧ Kd.C (Kd.int .i64) W A xs.length xs := Kd.R_reads h
theorem lit_far {W0 W : World} {ok : Nat → Prop} {A : Option Addr} {n c : Nat} {xs : List Int} {gc : Nat} (h : Kd.R (Kd.int .i64) 3 W W0.heap.size ok (.slice A n c) xs) (hg : gc < W0.heap.size) : ∀ ad, A = some ad → 0 < xs.length → ad.block ≠ gc := by
 rintro ad rfl _ rfl
 have := Kd.R_base h ad.block (by simp [Value.ownBlock])
 omega
end Hand
open Hand in
def spec_l03Arena.f (s0_0 : List Int) (s0_1 : Int) (s0_2 : Int) : Option ((List (S34)) × Int × Int) := arenaLoop 13 s0_0 s0_1 s0_2 0 []
open Hand in
set_option maxHeartbeats 8000000 in
set_option maxRecDepth 100000 in
theorem spec_l03Arena.calls (g : Nat) (s0_0 : List Int) (s0_1 : Int) (s0_2 : Int) (r1 : List (S34)) (r2 : Int) (r3 : Int) (w0 w : World) (hI : IsS119 w0 w g s0_0 s0_1 s0_2) (hB : Below w0.heap.size w0 w) (h : spec_l03Arena.f s0_0 s0_1 s0_2 = some (r1, r2, r3)) :
  Calls Try.prog 69 #[.pointer (some ⟨g, 0, none⟩)] w fun e w' => ∃ v0_ : Value, e = .returned (.agg #[v0_]) ∧ Kd.R k34 34 w' w.heap.size (fun _ => True) v0_ r1 ∧ IsS119 w0 w' g s0_0 r2 r3 ∧ Below w0.heap.size w0 w' ∧ KeepBut w w' g none := by
 have hu26 := Try.underlying26
 unfold spec_l03Arena.f at h
 have HI := Aside0.mk hI
 have HB := Aside0.mk hB
 have H' := Aside0.mk h
 clear hI hB h
 go_enter Try.func69, Try.ntmps69
 go_wp2_with (first | ((with_reducible refine gate_dst (N := 2) rfl ?_); refine box_event ?hg (N := 2) ?hd (cs := #[.slice none 0 0]) (t := 26) ?hr ?_; (case hd => rfl); (case hg => rfl); (case hr => first | (go_simp; done) | (go_simp; rfl)); intro gr hg1 w3 hbox hb; have BKr := Aside0.mk hbox; have HB3 := Aside0.mk hb; have GR := Aside0.mk hg1; clear hg1 hbox hb) | ((with_reducible refine gate_dst (N := 3) rfl ?_); refine box_event ?hg (N := 3) ?hd (cs := #[.slice none 0 0]) (t := 26) ?hr ?_; (case hd => rfl); (case hg => rfl); (case hr => first | (go_simp; done) | (go_simp; rfl)); intro ga hg1 w4 hbox hb; have BKa := Aside0.mk hbox; have HB4 := Aside0.mk hb; have GA := Aside0.mk hg1; clear hg1 hbox hb; have hca4 : w4.cell? ⟨ga, 0, none⟩ = some (.slice none 0 0) := (blk_cell BKa.out 0).trans rfl; have hfa4 := blk_frozen BKa.out 0))
 have HF : Aside0 (AFix w0 w g gr ga w4.heap.size) := ⟨⟨HB.out.size, HI.out.lt, by rw [GR.out]; exact Nat.le_refl _, by rw [GA.out]; exact HB3.out.size, blk_lt (blk_below BKr.out HB4.out), blk_lt BKa.out, by rw [GA.out]; exact Nat.ne_of_lt (blk_lt BKr.out)⟩⟩
 have AI4 : Aside0 (AInv w0 w w4 g gr ga w4.heap.size s0_0 [] s0_1 s0_2) := ⟨⟨(HI.out.below HB3.out).below HB4.out, ⟨⟨_, BKa.out, HF.out.2.2.2.1, fun h => by have := HF.out.2.2.2.2.2.1; omega, Kd.R_nil _ _ _ _ _⟩, fun k hk => hk, by simp⟩, blk_below BKr.out HB4.out, below_step (below_step HB.out HB3.out) HB4.out, KeepBut.of_below (below_step HB3.out HB4.out) _ _⟩⟩
 clear HB3 HB4 BKa GA GR
 have AI4 := Aside0.mk (AInv.setA HF.out AI4.out)
 generalize w4.setCell ⟨ga, 0, none⟩ (.slice none 0 0) = w5 at AI4 ⊢
 go_loopg [4] 13 (fun kq v4 wr => ∃ (j ci ch : Int) (ns : List S34), v4 = .int .i64 j ∧ 0 ≤ j ∧ j ≤ 12 ∧ Aside0 (arenaLoop kq s0_0 ci ch j ns = some (r1, r2, r3)) ∧ Aside0 (AInv w0 w wr g gr ga w4.heap.size s0_0 ns ci ch))
 case atStart => exact ⟨0, s0_1, s0_2, [], rfl, by omega, by omega, H', AI4⟩
 case round =>
  clear H' AI4
  obtain ⟨j, ci, ch, ns, rfl, hj0, hj1, HA, AI5⟩ := hrel
  cases gk with
  | zero => exact absurd HA.out (by simp [arenaLoop])
  | succ k1 =>
   have H := HA.out
   clear HA
   simp only [arenaLoop] at H
   obtain ⟨⟨b1, b2, b3⟩, A6, H⟩ := Option.bind_eq_some_iff.1 H
   by_cases hb : 0 ≤ b1 ∧ b1 ≤ 9
   ·rw [if_pos hb] at H
    have A6 := Aside0.mk A6
    obtain ⟨hb0, hb9⟩ := hb
    by_cases hjb : j < 3 + b1
    ·rw [if_pos hjb] at H
     have hjd : decide (j < 3 + b1) = true := decide_eq_true hjb
     have hj11 : j ≤ 11 := by omega
     clear hjb
     obtain ⟨⟨s1, s2, s3⟩, AB, H⟩ := Option.bind_eq_some_iff.1 H
     have H' := Aside0.mk H
     clear H
     have HJ := Aside0.mk (show 0 ≤ j ∧ j ≤ 11 from ⟨hj0, hj11⟩)
     unfold arenaBody at AB
     obtain ⟨⟨o1, o2, o3⟩, AO, AB⟩ := Option.bind_eq_some_iff.1 AB
     by_cases hn : ns.length < 2
     ·rw [if_pos hn] at AO
      obtain ⟨rfl, rfl, rfl⟩ : true = o1 ∧ b2 = o2 ∧ b3 = o3 := by simpa using AO
      have hn0 : decide ((ns.length : Int) < 2) = true := decide_eq_true (by omega)
      have hn1 : decide (ns.length < 2) = true := decide_eq_true hn
      clear hn AO
      rw [if_pos rfl] at AB
      obtain ⟨⟨p1, p2, p3⟩, AP, AB⟩ := Option.bind_eq_some_iff.1 AB
      have AP := Aside0.mk AP
      obtain ⟨rfl, rfl, rfl⟩ : (putN ns ⟨1, p1, 0, 0⟩).1 = s1 ∧ p2 = s2 ∧ p3 = s3 := by simpa using AB
      clear AB
      go_wp2_with (first | (go_at_call 70; ((with_reducible refine (spec_l01Below.calls g s0_0 ci ch 10 b1 b2 b3 w0 _ AI5.out.cur AI5.out.bel A6.out).mono ?_); rintro e w6 ⟨rfl, hi, hb, hk⟩); have AI6 := Aside0.mk (AInv.draw HF.out AI5.out hi hb hk); clear hi hb hk; obtain ⟨v5, hv5, _, _, hr5⟩ := AI6.out.ars.1; obtain ⟨A5, c5, rfl, _, _⟩ := Kd.R_reads hr5; have HG5 := Aside0.mk hv5; clear hv5 hr5; have hcg5 : w6.cell? ⟨ga, 0, none⟩ = some (.slice A5 ns.length c5) := (blk_cell HG5.out 0).trans rfl) | ((with_reducible refine gate_dst (N := 27) rfl ?_); refine Kd.R_lit (Kd.int .i64) _ 3 ?hg (N := 27) ?hd (xs := ([0, 1, 5, 1000, 5000, 10000, 10001] : List Int)) (inner := [.int .i64 0, .int .i64 1, .int .i64 5, .int .i64 1000, .int .i64 5000, .int .i64 10000, .int .i64 10001]) (ok := fun _ => True) (okp := fun _ => True) ?hr ?hp (fun _ hk => hk) trivial (Below.refl _ _) (Nat.le_refl _) (by simp) ?_; (case hd => rfl); (case hg => rfl); (case hr => first | (go_simp; done) | (go_simp; rfl)); (case hp => exact (Reps.one (show Kd.M (Kd.int .i64) _ _ _ 0 [.int .i64 0] from rfl) (Reps.one (show Kd.M (Kd.int .i64) _ _ _ 1 [.int .i64 1] from rfl) (Reps.one (show Kd.M (Kd.int .i64) _ _ _ 5 [.int .i64 5] from rfl) (Reps.one (show Kd.M (Kd.int .i64) _ _ _ 1000 [.int .i64 1000] from rfl) (Reps.one (show Kd.M (Kd.int .i64) _ _ _ 5000 [.int .i64 5000] from rfl) (Reps.one (show Kd.M (Kd.int .i64) _ _ _ 10000 [.int .i64 10000] from rfl) (Reps.one (show Kd.M (Kd.int .i64) _ _ _ 10001 [.int .i64 10001] from rfl) (Reps.none _ _))))))))); intro vl wl hol hbl hgl hnl; obtain ⟨Al, cl, rfl, hcl, hCl⟩ := lit_of hol; have AIl := Aside0.mk (AInv.below AI6.out hbl); have HCl := Aside0.mk hCl; have HCc := Aside0.mk hcl; have HAl := Aside0.mk (lit_far (gc := g) hol AI6.out.cur.lt); clear hol hbl hgl hnl hcl hCl) | (go_at_call 110; ((refine (spec_l01PickInt.calls g s0_0 b2 b3 Al cl _ p1 p2 p3 w0 _ AIl.out.cur AIl.out.bel HCl.out HCc.out HAl.out AP.out).mono ?_); rintro e w8 ⟨rfl, hi, hb, hk⟩); have AI8 := Aside0.mk (AInv.draw HF.out AIl.out hi hb hk); clear hi hb hk) | (go_at_call 113; ((with_reducible refine (spec_put ns ⟨1, p1, 0, 0⟩ _ _ _ _ AI8.out.ars).mono ?_); rintro e w9 hp); have AI9 := Aside0.mk (AInv.put HF.out AI8.out hp); have HE9 := Aside0.mk hp.1; obtain ⟨rfl, _⟩ := hp))
      go_roundg k1
      case measure => exact Nat.lt_succ_self k1
      case rel => exact ⟨j + 1, p2, p3, _, by first | rfl | (simp only [Value.int.injEq, true_and]; exact w64 (by have := HJ.out; omega) (by have := HJ.out; omega)), by have := HJ.out; omega, by have := HJ.out; omega, H', AI9⟩
     ·rw [if_neg hn] at AO
      have hn0 : decide ((ns.length : Int) < 2) = false := decide_eq_false (by omega)
      have hn1 : decide (ns.length < 2) = false := decide_eq_false hn
      have AO := Aside0.mk AO
      clear hn
      by_cases ho : o1 = true
      ·subst ho
       rw [if_pos rfl] at AB
       obtain ⟨⟨p1, p2, p3⟩, AP, AB⟩ := Option.bind_eq_some_iff.1 AB
       have AP := Aside0.mk AP
       obtain ⟨rfl, rfl, rfl⟩ : (putN ns ⟨1, p1, 0, 0⟩).1 = s1 ∧ p2 = s2 ∧ p3 = s3 := by simpa using AB
       clear AB
       go_wp2_with (first | (go_at_call 70; ((with_reducible refine (spec_l01Below.calls g s0_0 ci ch 10 b1 b2 b3 w0 _ AI5.out.cur AI5.out.bel A6.out).mono ?_); rintro e w6 ⟨rfl, hi, hb, hk⟩); have AI6 := Aside0.mk (AInv.draw HF.out AI5.out hi hb hk); clear hi hb hk; obtain ⟨v5, hv5, _, _, hr5⟩ := AI6.out.ars.1; obtain ⟨A5, c5, rfl, _, _⟩ := Kd.R_reads hr5; have HG5 := Aside0.mk hv5; clear hv5 hr5; have hcg5 : w6.cell? ⟨ga, 0, none⟩ = some (.slice A5 ns.length c5) := (blk_cell HG5.out 0).trans rfl) | (go_at_call 117; ((with_reducible refine (spec_l01Once.calls g s0_0 b2 b3 3 true o2 o3 w0 _ AI6.out.cur AI6.out.bel AO.out).mono ?_); rintro e w7 ⟨rfl, hi, hb, hk⟩); have AI7 := Aside0.mk (AInv.draw HF.out AI6.out hi hb hk); clear hi hb hk) | ((with_reducible refine gate_dst (N := 27) rfl ?_); refine Kd.R_lit (Kd.int .i64) _ 3 ?hg (N := 27) ?hd (xs := ([0, 1, 5, 1000, 5000, 10000, 10001] : List Int)) (inner := [.int .i64 0, .int .i64 1, .int .i64 5, .int .i64 1000, .int .i64 5000, .int .i64 10000, .int .i64 10001]) (ok := fun _ => True) (okp := fun _ => True) ?hr ?hp (fun _ hk => hk) trivial (Below.refl _ _) (Nat.le_refl _) (by simp) ?_; (case hd => rfl); (case hg => rfl); (case hr => first | (go_simp; done) | (go_simp; rfl)); (case hp => exact (Reps.one (show Kd.M (Kd.int .i64) _ _ _ 0 [.int .i64 0] from rfl) (Reps.one (show Kd.M (Kd.int .i64) _ _ _ 1 [.int .i64 1] from rfl) (Reps.one (show Kd.M (Kd.int .i64) _ _ _ 5 [.int .i64 5] from rfl) (Reps.one (show Kd.M (Kd.int .i64) _ _ _ 1000 [.int .i64 1000] from rfl) (Reps.one (show Kd.M (Kd.int .i64) _ _ _ 5000 [.int .i64 5000] from rfl) (Reps.one (show Kd.M (Kd.int .i64) _ _ _ 10000 [.int .i64 10000] from rfl) (Reps.one (show Kd.M (Kd.int .i64) _ _ _ 10001 [.int .i64 10001] from rfl) (Reps.none _ _))))))))); intro vl wl hol hbl hgl hnl; obtain ⟨Al, cl, rfl, hcl, hCl⟩ := lit_of hol; have AIl := Aside0.mk (AInv.below AI7.out hbl); have HCl := Aside0.mk hCl; have HCc := Aside0.mk hcl; have HAl := Aside0.mk (lit_far (gc := g) hol AI7.out.cur.lt); clear hol hbl hgl hnl hcl hCl) | (go_at_call 110; ((refine (spec_l01PickInt.calls g s0_0 o2 o3 Al cl _ p1 p2 p3 w0 _ AIl.out.cur AIl.out.bel HCl.out HCc.out HAl.out AP.out).mono ?_); rintro e w8 ⟨rfl, hi, hb, hk⟩); have AI8 := Aside0.mk (AInv.draw HF.out AIl.out hi hb hk); clear hi hb hk) | (go_at_call 113; ((with_reducible refine (spec_put ns ⟨1, p1, 0, 0⟩ _ _ _ _ AI8.out.ars).mono ?_); rintro e w9 hp); have AI9 := Aside0.mk (AInv.put HF.out AI8.out hp); have HE9 := Aside0.mk hp.1; obtain ⟨rfl, _⟩ := hp))
       go_roundg k1
       case measure => exact Nat.lt_succ_self k1
       case rel => exact ⟨j + 1, p2, p3, _, by first | rfl | (simp only [Value.int.injEq, true_and]; exact w64 (by have := HJ.out; omega) (by have := HJ.out; omega)), by have := HJ.out; omega, by have := HJ.out; omega, H', AI9⟩
      ·have ho : o1 = false := by simpa using ho
       subst ho
       rw [if_neg (by simp)] at AB
       obtain ⟨⟨q1, q2, q3⟩, AQ, AB⟩ := Option.bind_eq_some_iff.1 AB
       by_cases hq : 0 ≤ q1 ∧ q1 ≤ 7
       ·rw [if_pos hq] at AB
        have AQ := Aside0.mk AQ
        obtain ⟨hq0, hq7⟩ := hq
        obtain ⟨⟨x1, x2, x3⟩, AX, AB⟩ := Option.bind_eq_some_iff.1 AB
        obtain ⟨⟨y1, y2, y3⟩, AY, AB⟩ := Option.bind_eq_some_iff.1 AB
        have AX := Aside0.mk AX
        have AY := Aside0.mk AY
        by_cases hone : 2 + q1 = 3 ∨ 2 + q1 = 6
        ·rw [if_pos hone] at AB
         have HO := Aside0.mk ((spec_One_f (2 + q1)).trans (congrArg some (decide_eq_true hone)))
         obtain ⟨rfl, rfl, rfl⟩ : (putN ns ⟨2 + q1, 0, x1, 0⟩).1 = s1 ∧ y2 = s2 ∧ y3 = s3 := by simpa using AB
         clear AB hone
         go_wp2_with (first | (go_at_call 70; ((with_reducible refine (spec_l01Below.calls g s0_0 ci ch 10 b1 b2 b3 w0 _ AI5.out.cur AI5.out.bel A6.out).mono ?_); rintro e w6 ⟨rfl, hi, hb, hk⟩); have AI6 := Aside0.mk (AInv.draw HF.out AI5.out hi hb hk); clear hi hb hk; obtain ⟨v5, hv5, _, _, hr5⟩ := AI6.out.ars.1; obtain ⟨A5, c5, rfl, _, _⟩ := Kd.R_reads hr5; have HG5 := Aside0.mk hv5; clear hv5 hr5; have hcg5 : w6.cell? ⟨ga, 0, none⟩ = some (.slice A5 ns.length c5) := (blk_cell HG5.out 0).trans rfl) | (go_at_call 117; ((with_reducible refine (spec_l01Once.calls g s0_0 b2 b3 3 false o2 o3 w0 _ AI6.out.cur AI6.out.bel AO.out).mono ?_); rintro e w7 ⟨rfl, hi, hb, hk⟩); have AI7 := Aside0.mk (AInv.draw HF.out AI6.out hi hb hk); clear hi hb hk) | (go_at_call 70; ((with_reducible refine (spec_l01Below.calls g s0_0 o2 o3 8 q1 q2 q3 w0 _ AI7.out.cur AI7.out.bel AQ.out).mono ?_); rintro e wa ⟨rfl, hi, hb, hk⟩); have AIa := Aside0.mk (AInv.draw HF.out AI7.out hi hb hk); clear hi hb hk) | (go_at_call 70; ((with_reducible refine (spec_l01Below.calls g s0_0 q2 q3 (ns.length : Int) x1 x2 x3 w0 _ AIa.out.cur AIa.out.bel AX.out).mono ?_); rintro e wb ⟨rfl, hi, hb, hk⟩); have AIb := Aside0.mk (AInv.draw HF.out AIa.out hi hb hk); clear hi hb hk) | (go_at_call 70; ((with_reducible refine (spec_l01Below.calls g s0_0 x2 x3 (ns.length : Int) y1 y2 y3 w0 _ AIb.out.cur AIb.out.bel AY.out).mono ?_); rintro e wc ⟨rfl, hi, hb, hk⟩); have AIc := Aside0.mk (AInv.draw HF.out AIb.out hi hb hk); clear hi hb hk) | (go_at_call 111; ((with_reducible refine (spec_l03One.calls (2 + q1) true _ HO.out).mono ?_); rintro e wd ⟨rfl, hd⟩); have AId := Aside0.mk (AInv.below AIc.out hd.below); clear hd) | (go_at_call 113; ((with_reducible refine (spec_put ns ⟨2 + q1, 0, x1, 0⟩ _ _ _ _ AId.out.ars).mono ?_); rintro e w9 hp); have AI9 := Aside0.mk (AInv.put HF.out AId.out hp); have HE9 := Aside0.mk hp.1; obtain ⟨rfl, _⟩ := hp))
         go_roundg k1
         case measure => exact Nat.lt_succ_self k1
         case rel => exact ⟨j + 1, y2, y3, _, by first | rfl | (simp only [Value.int.injEq, true_and]; exact w64 (by have := HJ.out; omega) (by have := HJ.out; omega)), by have := HJ.out; omega, by have := HJ.out; omega, H', AI9⟩
        ·rw [if_neg hone] at AB
         have HO := Aside0.mk ((spec_One_f (2 + q1)).trans (congrArg some (decide_eq_false hone)))
         obtain ⟨rfl, rfl, rfl⟩ : (putN ns ⟨2 + q1, 0, x1, y1⟩).1 = s1 ∧ y2 = s2 ∧ y3 = s3 := by simpa using AB
         clear AB hone
         go_wp2_with (first | (go_at_call 70; ((with_reducible refine (spec_l01Below.calls g s0_0 ci ch 10 b1 b2 b3 w0 _ AI5.out.cur AI5.out.bel A6.out).mono ?_); rintro e w6 ⟨rfl, hi, hb, hk⟩); have AI6 := Aside0.mk (AInv.draw HF.out AI5.out hi hb hk); clear hi hb hk; obtain ⟨v5, hv5, _, _, hr5⟩ := AI6.out.ars.1; obtain ⟨A5, c5, rfl, _, _⟩ := Kd.R_reads hr5; have HG5 := Aside0.mk hv5; clear hv5 hr5; have hcg5 : w6.cell? ⟨ga, 0, none⟩ = some (.slice A5 ns.length c5) := (blk_cell HG5.out 0).trans rfl) | (go_at_call 117; ((with_reducible refine (spec_l01Once.calls g s0_0 b2 b3 3 false o2 o3 w0 _ AI6.out.cur AI6.out.bel AO.out).mono ?_); rintro e w7 ⟨rfl, hi, hb, hk⟩); have AI7 := Aside0.mk (AInv.draw HF.out AI6.out hi hb hk); clear hi hb hk) | (go_at_call 70; ((with_reducible refine (spec_l01Below.calls g s0_0 o2 o3 8 q1 q2 q3 w0 _ AI7.out.cur AI7.out.bel AQ.out).mono ?_); rintro e wa ⟨rfl, hi, hb, hk⟩); have AIa := Aside0.mk (AInv.draw HF.out AI7.out hi hb hk); clear hi hb hk) | (go_at_call 70; ((with_reducible refine (spec_l01Below.calls g s0_0 q2 q3 (ns.length : Int) x1 x2 x3 w0 _ AIa.out.cur AIa.out.bel AX.out).mono ?_); rintro e wb ⟨rfl, hi, hb, hk⟩); have AIb := Aside0.mk (AInv.draw HF.out AIa.out hi hb hk); clear hi hb hk) | (go_at_call 70; ((with_reducible refine (spec_l01Below.calls g s0_0 x2 x3 (ns.length : Int) y1 y2 y3 w0 _ AIb.out.cur AIb.out.bel AY.out).mono ?_); rintro e wc ⟨rfl, hi, hb, hk⟩); have AIc := Aside0.mk (AInv.draw HF.out AIb.out hi hb hk); clear hi hb hk) | (go_at_call 111; ((with_reducible refine (spec_l03One.calls (2 + q1) false _ HO.out).mono ?_); rintro e wd ⟨rfl, hd⟩); have AId := Aside0.mk (AInv.below AIc.out hd.below); clear hd) | (go_at_call 113; ((with_reducible refine (spec_put ns ⟨2 + q1, 0, x1, y1⟩ _ _ _ _ AId.out.ars).mono ?_); rintro e w9 hp); have AI9 := Aside0.mk (AInv.put HF.out AId.out hp); have HE9 := Aside0.mk hp.1; obtain ⟨rfl, _⟩ := hp))
         go_roundg k1
         case measure => exact Nat.lt_succ_self k1
         case rel => exact ⟨j + 1, y2, y3, _, by first | rfl | (simp only [Value.int.injEq, true_and]; exact w64 (by have := HJ.out; omega) (by have := HJ.out; omega)), by have := HJ.out; omega, by have := HJ.out; omega, H', AI9⟩
       ·rw [if_neg hq] at AB
        cases AB
    ·rw [if_neg hjb] at H
     have hjd : decide (j < 3 + b1) = false := decide_eq_false hjb
     obtain ⟨rfl, rfl, rfl⟩ : ns = r1 ∧ b2 = r2 ∧ b3 = r3 := by simpa using H
     clear hjb H
     go_wp2_with (first | (go_at_call 70; ((with_reducible refine (spec_l01Below.calls g s0_0 ci ch 10 b1 b2 b3 w0 _ AI5.out.cur AI5.out.bel A6.out).mono ?_); rintro e w6 ⟨rfl, hi, hb, hk⟩); have AI6 := Aside0.mk (AInv.draw HF.out AI5.out hi hb hk); clear hi hb hk; obtain ⟨v5, hv5, _, _, hr5⟩ := AI6.out.ars.1; obtain ⟨A5, c5, rfl, _, _⟩ := Kd.R_reads hr5; have HG5 := Aside0.mk hv5; have HR5 := Aside0.mk hr5; clear hv5 hr5; have hcg5 : w6.cell? ⟨ga, 0, none⟩ = some (.slice A5 ns.length c5) := (blk_cell HG5.out 0).trans rfl; have hcr6 : w6.cell? ⟨gr, 0, none⟩ = some (.slice none 0 0) := (blk_cell AI6.out.2.2.1 0).trans rfl; have hfr6 := blk_frozen AI6.out.2.2.1 0))
     refine bodyPost_ret (results_cell_row rfl _ _ gr 26 #[.slice A5 ns.length c5] (0, 0) _ rfl (blk_put AI6.out.2.2.1 0 _ rfl) Try.underlying26 rfl (by kernel_rfl)) rfl ?_
     exact ⟨_, rfl, Kd.R_mono (Kd.R_far (p := ⟨gr, 0, none⟩) HR5.out (fun k hk e => by have e' : k = gr := e; have := HF.out.2.2.2.2.1; omega) _) (fun _ _ => trivial), AI6.out.1.far (show g ≠ gr by have := HF.out.2.1; have := HF.out.2.2.1; omega) _, below_set AI6.out.bel (show w0.heap.size ≤ gr by have := HF.out.1; have := HF.out.2.2.1; omega), keep_far AI6.out.2.2.2.2 (show w.heap.size ≤ gr from HF.out.2.2.1) _⟩
   ·rw [if_neg hb] at H
    cases H
namespace Hand

end Hand

/-! ### spec_DrawArena: function 46 -/
def spec_DrawArena.f (k : Nat) (l0 : List Int) : Option ((List (S34))) := (spec_l01New.f k l0).bind fun bt240 => ((spec_l03Arena.f bt240.1 bt240.2.1 bt240.2.2).bind fun bt244 => (some bt244.1))
set_option maxHeartbeats 8000000 in
set_option maxRecDepth 100000 in
theorem spec_DrawArena.calls (k : Nat) (A0 : Option Addr) (c0 : Nat) (l0 : List Int) (r : List (S34)) (w : World) (hr0 : Kd.C (Kd.int .u8) w A0 l0.length l0) (hc0 : l0.length ≤ c0) (h : spec_DrawArena.f k l0 = some r) :
  Calls Try.prog 46 #[.slice A0 l0.length c0] w fun e w' => ∃ v0_ : Value, e = .returned (.agg #[v0_]) ∧ Kd.R k34 34 w' w.heap.size (fun _ => True) v0_ r ∧ Below w.heap.size w w' := by
 have hu26 := Try.underlying26
 have HR0 := Aside0.mk hr0
 have HC0 := Aside0.mk hc0
 clear hr0 hc0
 have HB := Aside0.mk (Below.refl w.heap.size w)
 have H : ((spec_l01New.f k l0).bind fun bt240 => ((spec_l03Arena.f bt240.1 bt240.2.1 bt240.2.2).bind fun bt244 => (some bt244.1))) = some r := h
 clear h
 replace H := Option.bind_eq_some_iff.mp H
 obtain ⟨⟨t240, t241, t242⟩, A20, H⟩ := H
 replace H : ((spec_l03Arena.f t240 t241 t242).bind fun bt244 => (some bt244.1)) = some r := H
 have A2 := Aside0.mk A20
 clear A20
 replace H := Option.bind_eq_some_iff.mp H
 obtain ⟨⟨t244, t247, t248⟩, A30, H⟩ := H
 replace H : (some t244) = some r := H
 have A3 := Aside0.mk A30
 clear A30
 obtain rfl := Option.some.inj H
 go_enter Try.func46, Try.ntmps46
 go_wp2_with (first | ((with_reducible refine gate_dst (N := 2) rfl ?_); refine box_event ?hg (N := 2) ?hd (cs := #[.slice none 0 0]) (t := 26) ?hr ?_; (case hd => rfl); (case hg => rfl); (case hr => first | (go_simp; done) | (go_simp; rfl)); intro gb239 hg w4 hbox hb; have n0_ := Aside0.mk (below_step (bw HB.out) hb); have n1_ := Aside0.mk (hbox); have n2_ := Aside0.mk ((by rw [hg]; exact (below_size (bw HB.out)) : w.heap.size ≤ gb239)); have n3_ := Aside0.mk ((by rw [hg]; exact (below_size (bw HB.out)) : w.heap.size ≤ gb239)); clear HB; have HB := n0_; have BK239 := n1_; have GW239 := n2_; have GE239 := n3_; clear n0_ n1_ n2_ n3_ hb hbox hg) | ((with_reducible refine gate_callee (f := 68) rfl ?_); refine goesL_ (some 4) rfl rfl Try.func68 (by kernel_rfl) rfl #[.slice A0 l0.length c0] rfl ar ?_; (with_reducible refine (spec_l01New.calls k _ _ l0 t240 t241 t242 w _ ?side1 ?side2 ?side3 A2.out).mono ?_); (case side1 => exact bw HB.out); (case side2 => exact HR0.out); (case side3 => exact HC0.out); rintro e w5 ⟨g243, rfl, hi, hb, hb2⟩; refine ⟨_, rfl, ?_⟩; have n0_ := Aside0.mk (blk_below (g := gb239) (o := .cells #[.slice none 0 0] 26 (0, 0)) (bl BK239.out) hb2); have n1_ := Aside0.mk (hb); have n2_ := Aside0.mk (hi); have n3_ := Aside0.mk (IsS119.ne_blk hi (blk_below (g := gb239) (o := .cells #[.slice none 0 0] 26 (0, 0)) (bl BK239.out) hb2) (by decide)); have n4_ := Aside0.mk (Ne.symm (IsS119.ne_blk hi (blk_below (g := gb239) (o := .cells #[.slice none 0 0] 26 (0, 0)) (bl BK239.out) hb2) (by decide))); clear BK239 HB; have BK239 := n0_; have HB := n1_; have HI243 := n2_; have NB243_239 := n3_; have NB239_243 := n4_; clear n0_ n1_ n2_ n3_ n4_; (try clear hb); (try clear hb2); (try clear hk); (try clear hi)) | ((with_reducible refine gate_callee (f := 69) rfl ?_); refine goesL_ (some 5) rfl rfl Try.func69 (by kernel_rfl) rfl #[.pointer (some ⟨g243, 0, none⟩)] rfl ar ?_; (with_reducible refine (spec_l03Arena.calls g243 t240 t241 t242 t244 t247 t248 w _ ?side1 ?side2 A3.out).mono ?_); (case side1 => exact i9 HI243.out); (case side2 => exact b9 HB.out); rintro e w6 ⟨v245, rfl, ho0, hi, hb, hk⟩; refine ⟨_, rfl, ?_⟩; have n0_ := Aside0.mk (KeepBut.blk hk (g' := gb239) (o := .cells #[.slice none 0 0] 26 (0, 0)) (bl BK239.out) NB239_243.out (by simp)); have n1_ := Aside0.mk (Kd.R_lower ho0 (below_size (b9 HB.out))); have n2_ := Aside0.mk (hb); have n3_ := Aside0.mk (hi); clear BK239 HB HI243; have BK239 := n0_; have HO246 := n1_; have HB := n2_; have HI243 := n3_; clear n0_ n1_ n2_ n3_; (try clear hb); (try clear hb2); (try clear hk); (try clear hi); (try clear ho0); obtain ⟨Ao7, co7, eo7⟩ := Kd.R_slice HO246.out; subst eo7; have hnb8 := NB239_243.out; have hnc8 := NB243_239.out; have hcz9_0 : w6.cell? ⟨gb239, 0, none⟩ = some (.slice none 0 0) := (blk_cell BK239.out 0).trans rfl; have hfz9_0 := blk_frozen BK239.out 0))
 refine bodyPost_ret (results_cell_row rfl _ _ gb239 26 #[.slice Ao7 t244.length co7] (0, 0) _ rfl (by (with_reducible repeat (first | refine blk_drewN ?_ _ | refine blk_drew ?_ | refine blk_alloc ?_ _)); refine blk_put (cs := #[.slice none 0 0]) ?_ 0 _ rfl; exact bl BK239.out) Try.underlying26 rfl (by kernel_rfl)) rfl ?_
 exact ⟨_, by first | rfl | (simp [errW_none, errW_some] <;> rfl) | (simp [*, errW_none, errW_some] <;> rfl), by (with_reducible repeat (first | apply Kd.R_alloc | apply Kd.R_drewN | apply Kd.R_drew)); exact Kd.R_mono (Kd.R_far (p := ⟨gb239, 0, none⟩) (Kd.R_types HO246.out BK239.out (by decide)) (fun _ hk => hk.2) (.slice Ao7 t244.length co7)) (fun _ hk => trivial), b9 HB.out⟩

/-! ### impl_copyArena: function 103 -/
def impl_copyArena.f (l0_0 : List (S34)) : Option ((List (S34))) := (some (([] : List (S34)) : List (S34))).bind fun y251 => (if y251.length + l0_0.length < 4398046511104 then (some (y251 ++ l0_0)) else (none))
set_option maxHeartbeats 8000000 in
set_option maxRecDepth 100000 in
theorem impl_copyArena.calls (A0_0 : Option Addr) (c0_0 : Nat) (l0_0 : List (S34)) (r : List (S34)) (w : World) (hr0_0 : Kd.C k34 w A0_0 l0_0.length l0_0) (hc0_0 : l0_0.length ≤ c0_0) (h : impl_copyArena.f l0_0 = some r) :
  Calls Try.prog 103 #[.agg #[.slice A0_0 l0_0.length c0_0]] w fun e w' => ∃ v0_ : Value, e = .returned (.agg #[v0_]) ∧ Kd.R k34 34 w' w.heap.size (fun _ => True) v0_ r ∧ Below w.heap.size w w' := by
 have hu26 := Try.underlying26
 have HR0_0 := Aside0.mk hr0_0
 have HC0_0 := Aside0.mk hc0_0
 clear hr0_0 hc0_0
 have HB := Aside0.mk (Below.refl w.heap.size w)
 have H : ((some (([] : List (S34)) : List (S34))).bind fun y251 => (if y251.length + l0_0.length < 4398046511104 then (some (y251 ++ l0_0)) else (none))) = some r := h
 clear h
 obtain ⟨y251, hy251⟩ : ∃ y_ : List (S34), y_ = (([] : List (S34))) := ⟨_, rfl⟩
 replace H : (if y251.length + l0_0.length < 4398046511104 then (some (y251 ++ l0_0)) else (none)) = some r := by first | (rw [hy251]; with_reducible exact H) | (have H2_ := (Option.bind_some _ _).symm.trans H; rw [hy251]; with_reducible exact H2_) | (have H2_ := (Option.bind_some _ _).symm.trans H; with_reducible exact H2_) | with_reducible exact H | (rw [hy251]; exact H) | exact H
 have Ny251 := Aside0.mk hy251
 clear hy251
 by_cases c2 : y251.length + l0_0.length < 4398046511104
 ·rw [if_pos c2] at H
  have LMc2 := Aside0.mk c2
  clear c2
  obtain ⟨y254, hy254⟩ : ∃ y_ : List (S34), y_ = (y251 ++ l0_0) := ⟨_, rfl⟩
  replace H : (some y254) = some r := by first | (rw [hy254]; with_reducible exact H) | (have H2_ := (Option.bind_some _ _).symm.trans H; rw [hy254]; with_reducible exact H2_) | (have H2_ := (Option.bind_some _ _).symm.trans H; with_reducible exact H2_) | with_reducible exact H | (rw [hy254]; exact H) | exact H
  have Ny254 := Aside0.mk hy254
  clear hy254
  obtain rfl := Option.some.inj H
  go_enter Try.func103, Try.ntmps103
  go_wp2_with (first | ((with_reducible refine gate_dst (N := 1) rfl ?_); refine box_event ?hg (N := 1) ?hd (cs := #[.slice A0_0 l0_0.length c0_0]) (t := 26) ?hr ?_; (case hd => rfl); (case hg => rfl); (case hr => first | (go_simp; done) | (go_simp; rfl)); intro gb249 hg w3 hbox hb; have n0_ := Aside0.mk (below_step (bw HB.out) hb); have n1_ := Aside0.mk (hbox); have n2_ := Aside0.mk ((by rw [hg]; exact (below_size (bw HB.out)) : w.heap.size ≤ gb249)); have n3_ := Aside0.mk ((by rw [hg]; exact (below_size (bw HB.out)) : w.heap.size ≤ gb249)); clear HB; have HB := n0_; have BK249 := n1_; have GW249 := n2_; have GE249 := n3_; clear n0_ n1_ n2_ n3_ hb hbox hg) | ((with_reducible refine gate_dst (N := 2) rfl ?_); refine box_event ?hg (N := 2) ?hd (cs := #[.slice none 0 0]) (t := 26) ?hr ?_; (case hd => rfl); (case hg => rfl); (case hr => first | (go_simp; done) | (go_simp; rfl)); intro gb250 hg w4 hbox hb; have n0_ := Aside0.mk (blk_below (g := gb249) (o := .cells #[.slice A0_0 l0_0.length c0_0] 26 (0, 0)) (bl BK249.out) hb); have n1_ := Aside0.mk (below_step (bw HB.out) hb); have n2_ := Aside0.mk (hbox); have n3_ := Aside0.mk ((by rw [hg]; exact (below_size (bw HB.out)) : w.heap.size ≤ gb250)); have n4_ := Aside0.mk ((by rw [hg]; exact (below_size (bw HB.out)) : w.heap.size ≤ gb250)); have n5_ := Aside0.mk ((by rw [hg]; exact Nat.ne_of_lt (blk_lt (g := gb249) (o := .cells #[.slice A0_0 l0_0.length c0_0] 26 (0, 0)) (bl BK249.out)) : gb249 ≠ gb250)); have n6_ := Aside0.mk ((by rw [hg]; exact Nat.ne_of_gt (blk_lt (g := gb249) (o := .cells #[.slice A0_0 l0_0.length c0_0] 26 (0, 0)) (bl BK249.out)) : gb250 ≠ gb249)); clear BK249 HB; have BK249 := n0_; have HB := n1_; have BK250 := n2_; have GW250 := n3_; have GE250 := n4_; have NB249_250 := n5_; have NB250_249 := n6_; clear n0_ n1_ n2_ n3_ n4_ n5_ n6_ hb hbox hg) | ((with_reducible refine gate_dst (N := 3) rfl ?_); refine Kd.R_lit k34 _ 34 ?hg (N := 3) ?hd (xs := ([] : List (S34))) (inner := []) (ok := fun _ => True) (okp := fun _ => True) ?hr ?hp (fun _ hk => hk) trivial (Below.refl _ _) (Nat.le_refl _) (by simp) ?_; (case hd => rfl); (case hg => rfl); (case hr => first | (go_simp; done) | (go_simp; rfl)); (case hp => exact (Reps.none _ _)); intro v252 w5 ho6 hb hg_ hnew_; clear hg_ hnew_; (first | rw [← Ny251.out] at ho6 | (simp only [Int.reduceToNat] at ho6; rw [← Ny251.out] at ho6)); have n0_ := Aside0.mk (Kd.R_lower ho6 (below_size (bw HB.out))); have n1_ := Aside0.mk (blk_below (g := gb249) (o := .cells #[.slice A0_0 l0_0.length c0_0] 26 (0, 0)) (bl BK249.out) hb); have n2_ := Aside0.mk (blk_below (g := gb250) (o := .cells #[.slice none 0 0] 26 (0, 0)) (bl BK250.out) hb); have n3_ := Aside0.mk (below_step (bw HB.out) hb); clear BK249 BK250 HB; have HO253 := n0_; have BK249 := n1_; have BK250 := n2_; have HB := n3_; clear n0_ n1_ n2_ n3_ hb ho6; have hnb7 := NB249_250.out; have hnc7 := NB250_249.out; have hcz8_0 : w5.cell? ⟨gb249, 0, none⟩ = some (.slice A0_0 l0_0.length c0_0) := (blk_cell BK249.out 0).trans rfl; have hfz8_0 := blk_frozen BK249.out 0) | ((with_reducible refine gate_builtin (b := .append) (xs := #[.tmp 3, .tmp 5]) rfl ?_); at_builtin; refine Kd.R_append_rows k34 (w0 := w) w.heap.size rfl (.tmp 3) (.tmp 5) 24 34 (.agg #[(.int .i64 0), (.int .i64 0), (.int .i64 0), (.int .i64 0)]) 32 rfl Try.underlying24 info34 rfl (by decide) (by omega) v252 y251 l0_0 _ _ _ (fun _ => True) (fun _ => False) rfl rfl ?aO ?aR (fun _ _ h => h) (fun _ h => h.elim) ?aF ?aB ?aS ?aL ?_; (case aR => repeat (first | exact (Kd.C_below HR0_0.out HB.out) | (with_reducible refine Kd.C_alloc ?_ _) | (with_reducible refine Kd.C_drewN ?_ _) | (with_reducible refine Kd.C_drew ?_))); (case aB => exact (bw HB.out)); (case aF => exact (fun _ _ => trivial)); (case aO => exact (rl HO253.out)); (case aS => exact (below_size (bw HB.out))); (case aL => have := LMc2.out; omega); intro v255 w9 ho hb hg hat; rw [← Ny254.out] at ho; have n0_ := Aside0.mk (blk_grown (g := gb249) (o := .cells #[.slice A0_0 l0_0.length c0_0] 26 (0, 0)) (bl BK249.out) hg (Kd.R_ne HO253.out BK249.out (by decide))); have n1_ := Aside0.mk (blk_grown (g := gb250) (o := .cells #[.slice none 0 0] 26 (0, 0)) (bl BK250.out) hg (Kd.R_ne HO253.out BK250.out (by decide))); have n2_ := Aside0.mk (hb); have n3_ := Aside0.mk (ho); clear BK249 BK250 HB HO253; have BK249 := n0_; have BK250 := n1_; have HB := n2_; have HO256 := n3_; clear n0_ n1_ n2_ n3_ ho hb hg hat; obtain ⟨Ao10, co10, eo10⟩ := Kd.R_slice HO256.out; subst eo10; have hcz11_0 : w9.cell? ⟨gb250, 0, none⟩ = some (.slice none 0 0) := (blk_cell BK250.out 0).trans rfl; have hfz11_0 := blk_frozen BK250.out 0))
  refine bodyPost_ret (results_cell_row rfl _ _ gb250 26 #[.slice Ao10 y254.length co10] (0, 0) _ rfl (by (with_reducible repeat (first | refine blk_drewN ?_ _ | refine blk_drew ?_ | refine blk_alloc ?_ _)); refine blk_put (cs := #[.slice none 0 0]) ?_ 0 _ rfl; exact bl BK250.out) Try.underlying26 rfl (by kernel_rfl)) rfl ?_
  exact ⟨_, by first | rfl | (simp [errW_none, errW_some] <;> rfl) | (simp [*, errW_none, errW_some] <;> rfl), by (with_reducible repeat (first | apply Kd.R_alloc | apply Kd.R_drewN | apply Kd.R_drew)); exact Kd.R_mono (Kd.R_far (p := ⟨gb250, 0, none⟩) (Kd.R_types HO256.out BK250.out (by decide)) (fun _ hk => hk.2) (.slice Ao10 y254.length co10)) (fun _ hk => trivial), bw HB.out⟩
 ·rw [if_neg c2] at H
  exact absurd H (by simp)

-- NOT PRINTED: function 92 (impl_benchOf)

-- NOT PRINTED: function 94 (impl_bench_end)

-- NOT PRINTED: function 112 (impl_bench_put)

/-! ### impl_Put: OWN: function 56 -/
namespace Hand
open Go.Proofs.Ytkckdibalopagaa.Base
def BnPost (w : World) (base g : Nat) (ok : Nat → Prop) (r : List S34 × Bool × Int) (e : Ending) (w' : World) : Prop := e = .returned (.int .i64 r.2.2) ∧ BnAt w' base g ok r.1 r.2.1 ∧ Below base w w' ∧ Kept w w' (Mine g ok)
set_option maxHeartbeats 8000000 in
set_option maxRecDepth 100000 in
theorem impl_put_at (l : List S34) (bad : Bool) (x : S34) (w : World) (base g : Nat) (ok : Nat → Prop) (hA : BnAt w base g ok l bad) (hbase : base ≤ w.heap.size) (hfresh : ∀ k, w.heap.size ≤ k → ok k) (hl : l.length ≤ 1048576) :
  Calls Try.prog 112 #[.pointer (some ⟨g, 0, none⟩), .agg #[.int .i64 x.f0, .int .i64 x.f1, .int .i64 x.f2, .int .i64 x.f3]] w (BnPost w base g ok (putB l bad x)) := by
 have hu132 := Try.underlying132
 have hu34 := Try.underlying34
 obtain ⟨v, hblk, hbg, hno, hR⟩ := hA
 obtain ⟨A, c, rfl, hlc, hC⟩ := Kd.R_reads hR
 have HG0 := Aside0.mk hblk
 have HR := Aside0.mk hR
 have HC := Aside0.mk hC
 have HL := Aside0.mk hl
 have HBG := Aside0.mk hbg
 have HNO := Aside0.mk hno
 have HBS := Aside0.mk hbase
 have HF := Aside0.mk hfresh
 have HLC := Aside0.mk hlc
 clear hblk hR hC hl hbg hno hbase hfresh hlc
 have hbw : base ≤ w.heap.size := HBS.out
 cases bad with
 | true =>
  have he : putB l true x = (l, true, -1) := rfl
  have HE := Aside0.mk he
  clear he hbw
  go_enter Try.func112, Try.ntmps112
  go_wp2_with (first | ((with_reducible refine gate_dst (N := 3) rfl ?_); refine box_event ?hg (N := 3) ?hd (cs := #[.int .i64 x.f0, .int .i64 x.f1, .int .i64 x.f2, .int .i64 x.f3]) (t := 34) ?hr ?_; (case hd => rfl); (case hg => rfl); (case hr => first | (go_simp; done) | (go_simp; rfl)); intro gb hg1 w3 hbox hb; have BK3 := Aside0.mk hbox; have HB3 := Aside0.mk hb; have GB3 := Aside0.mk hg1; clear hg1 hbox hb))
  have HG3 := Aside0.mk (blk_below HG0.out HB3.out)
  refine start_ (n := 14) (S := fun w' => w'.cell? ⟨g, 0, none⟩ = some (.slice A l.length c) ∧ w'.cell? ⟨gb, 0, none⟩ = some (.int .i64 x.f0) ∧ w'.cell? ⟨gb, 1, none⟩ = some (.int .i64 x.f1) ∧ w'.cell? ⟨gb, 2, none⟩ = some (.int .i64 x.f2) ∧ w'.cell? ⟨gb, 3, none⟩ = some (.int .i64 x.f3) ∧ w'.cell? ⟨g, 1, none⟩ = some (.bool true)) (ds := []) #[false, false, false, false, false, false, false, false, false, false, false, false, false, false] (by kernel_rfl) rfl rfl ⟨(blk_cell (blk_drew HG3.out) 0).trans rfl, (blk_cell (blk_drew BK3.out) 0).trans rfl, (blk_cell (blk_drew BK3.out) 1).trans rfl, (blk_cell (blk_drew BK3.out) 2).trans rfl, (blk_cell (blk_drew BK3.out) 3).trans rfl, (blk_cell (blk_drew HG3.out) 1).trans rfl⟩ (fun hHeld => ?_)
  refine pure_ (i := 0) (N := some 7) (v := ?_) (a' := ?_) #[true, false, false, false, false, false, false, false, false, false, false, false, false, false] rfl rfl (by kernel_rfl) (fun _ _ _ h => h) (Or.inl ⟨by rfl, ?_⟩) ?_ ?_
  rotate_left
  ·intro w'
   go_simp
   with_reducible rfl
  rotate_left
  ·simp only [Act.put, List.setIfInBounds_toArray, List.set_cons_zero, List.set_cons_succ, i64_w, i32_w]
   rfl
  refine pure_ (i := 1) (N := some 8) (v := ?_) (a' := ?_) #[true, true, false, false, false, false, false, false, false, false, false, false, false, false] rfl rfl (by kernel_rfl) (fun _ _ _ h => h) (Or.inl ⟨by rfl, ?_⟩) ?_ ?_
  rotate_left
  ·intro w'
   go_simp
   with_reducible rfl
  rotate_left
  ·simp only [Act.put, List.setIfInBounds_toArray, List.set_cons_zero, List.set_cons_succ, i64_w, i32_w]
   rfl
  refine pure_ (i := 2) (N := some 9) (v := ?_) (a' := ?_) #[true, true, true, false, false, false, false, false, false, false, false, false, false, false] rfl rfl (by kernel_rfl) (fun _ _ _ h => h) (Or.inl ⟨by rfl, ?_⟩) ?_ ?_
  rotate_left
  ·intro w'
   go_simp
   with_reducible rfl
  rotate_left
  ·simp only [Act.put, List.setIfInBounds_toArray, List.set_cons_zero, List.set_cons_succ, i64_w, i32_w]
   rfl
  refine take_ (i := 3) (N := some 10) (v := ?_) (a' := ?_) #[true, true, true, true, false, false, false, false, false, false, false, false, false, false] rfl rfl (by kernel_rfl) (fun _ _ _ h => h) (Or.inl ⟨by rfl, ?_⟩) hHeld ?_ ?_
  rotate_left
  ·rintro w' ⟨s0, s1, s2, s3, s4, s5⟩
   go_simp
   with_reducible rfl
  rotate_left
  ·simp only [Act.put, List.setIfInBounds_toArray, List.set_cons_zero, List.set_cons_succ, i64_w, i32_w]
   rfl
  refine pure_ (i := 4) (N := some 11) (v := ?_) (a' := ?_) #[true, true, true, true, true, false, false, false, false, false, false, false, false, false] rfl rfl (by kernel_rfl) (fun _ _ _ h => h) (Or.inl ⟨by rfl, ?_⟩) ?_ ?_
  rotate_left
  ·intro w'
   go_simp
   with_reducible rfl
  rotate_left
  ·simp only [Act.put, List.setIfInBounds_toArray, List.set_cons_zero, List.set_cons_succ, i64_w, i32_w]
   rfl
  refine pure_ (i := 5) (N := some 12) (v := undef) (a' := ?_) #[true, true, true, true, true, true, false, false, false, false, false, false, false, false] rfl rfl (by kernel_rfl) (fun _ _ _ h => h) (Or.inr ⟨by rfl, rfl⟩) ?_ ?_
  rotate_left
  ·simp only [Act.put, List.setIfInBounds_toArray, List.set_cons_zero, List.set_cons_succ, i64_w, i32_w]
   rfl
  refine pure_ (i := 6) (N := some 13) (v := undef) (a' := ?_) #[true, true, true, true, true, true, true, false, false, false, false, false, false, false] rfl rfl (by kernel_rfl) (fun _ _ _ h => h) (Or.inr ⟨by rfl, rfl⟩) ?_ ?_
  rotate_left
  ·simp only [Act.put, List.setIfInBounds_toArray, List.set_cons_zero, List.set_cons_succ, i64_w, i32_w]
   rfl
  refine pure_ (i := 7) (N := some 14) (v := undef) (a' := ?_) #[true, true, true, true, true, true, true, true, false, false, false, false, false, false] rfl rfl (by kernel_rfl) (fun _ _ _ h => h) (Or.inr ⟨by rfl, rfl⟩) ?_ ?_
  rotate_left
  ·simp only [Act.put, List.setIfInBounds_toArray, List.set_cons_zero, List.set_cons_succ, i64_w, i32_w]
   rfl
  refine pure_ (i := 8) (N := some 15) (v := undef) (a' := ?_) #[true, true, true, true, true, true, true, true, true, false, false, false, false, false] rfl rfl (by kernel_rfl) (fun _ _ _ h => h) (Or.inr ⟨by rfl, rfl⟩) ?_ ?_
  rotate_left
  ·simp only [Act.put, List.setIfInBounds_toArray, List.set_cons_zero, List.set_cons_succ, i64_w, i32_w]
   rfl
  refine pure_ (i := 9) (N := some 16) (v := undef) (a' := ?_) #[true, true, true, true, true, true, true, true, true, true, false, false, false, false] rfl rfl (by kernel_rfl) (fun _ _ _ h => h) (Or.inr ⟨by rfl, rfl⟩) ?_ ?_
  rotate_left
  ·simp only [Act.put, List.setIfInBounds_toArray, List.set_cons_zero, List.set_cons_succ, i64_w, i32_w]
   rfl
  refine pure_ (i := 10) (N := some 17) (v := undef) (a' := ?_) #[true, true, true, true, true, true, true, true, true, true, true, false, false, false] rfl rfl (by kernel_rfl) (fun _ _ _ h => h) (Or.inr ⟨by rfl, rfl⟩) ?_ ?_
  rotate_left
  ·simp only [Act.put, List.setIfInBounds_toArray, List.set_cons_zero, List.set_cons_succ, i64_w, i32_w]
   rfl
  refine pure_ (i := 11) (N := some 18) (v := undef) (a' := ?_) #[true, true, true, true, true, true, true, true, true, true, true, true, false, false] rfl rfl (by kernel_rfl) (fun _ _ _ h => h) (Or.inr ⟨by rfl, rfl⟩) ?_ ?_
  rotate_left
  ·simp only [Act.put, List.setIfInBounds_toArray, List.set_cons_zero, List.set_cons_succ, i64_w, i32_w]
   rfl
  refine pure_ (i := 12) (N := some 19) (v := undef) (a' := ?_) #[true, true, true, true, true, true, true, true, true, true, true, true, true, false] rfl rfl (by kernel_rfl) (fun _ _ _ h => h) (Or.inr ⟨by rfl, rfl⟩) ?_ ?_
  rotate_left
  ·simp only [Act.put, List.setIfInBounds_toArray, List.set_cons_zero, List.set_cons_succ, i64_w, i32_w]
   rfl
  refine pure_ (i := 13) (N := some 20) (v := ?_) (a' := ?_) #[true, true, true, true, true, true, true, true, true, true, true, true, true, true] rfl rfl (by kernel_rfl) (fun _ _ _ h => h) (Or.inl ⟨by rfl, ?_⟩) ?_ ?_
  rotate_left
  ·intro w'
   go_simp
   with_reducible rfl
  rotate_left
  ·simp only [Act.put, List.setIfInBounds_toArray, List.set_cons_zero, List.set_cons_succ, i64_w, i32_w]
   rfl
  refine done_ (by kernel_rfl) ?_
  have HG4 := Aside0.mk (blk_drew HG3.out)
  have BK4 := Aside0.mk (blk_drew BK3.out)
  have HB4 := Aside0.mk (below_drew1 HB3.out)
  generalize w3.drew = w4 at HG4 BK4 HB4 ⊢
  have hn0 : w4.cell? ⟨gb, 0, none⟩ = some (.int .i64 x.f0) := (blk_cell BK4.out 0).trans rfl
  have hn1 : w4.cell? ⟨gb, 1, none⟩ = some (.int .i64 x.f1) := (blk_cell BK4.out 1).trans rfl
  have hn2 : w4.cell? ⟨gb, 2, none⟩ = some (.int .i64 x.f2) := (blk_cell BK4.out 2).trans rfl
  have hn3 : w4.cell? ⟨gb, 3, none⟩ = some (.int .i64 x.f3) := (blk_cell BK4.out 3).trans rfl
  have hf0 := blk_frozen BK4.out 0
  have hf1 := blk_frozen BK4.out 1
  have hf2 := blk_frozen BK4.out 2
  have hf3 := blk_frozen BK4.out 3
  have hg0 : w4.cell? ⟨g, 0, none⟩ = some (.slice A l.length c) := (blk_cell HG4.out 0).trans rfl
  have hgf := blk_frozen HG4.out 0
  have hg1 : w4.cell? ⟨g, 1, none⟩ = some (.bool true) := (blk_cell HG4.out 1).trans rfl
  have hgf1 := blk_frozen HG4.out 1
  go_wp2
  obtain ⟨w9, hw9⟩ : ∃ w9, w4.setCell ⟨g, 1, none⟩ (.bool true) = w9 := ⟨_, rfl⟩
  rw [hw9]
  have HG9 : w9.heap[g]? = some (.cells #[.slice A l.length c, .bool true] 132 (0, 0)) := by rw [← hw9]; exact blk_put (HG4.out) 1 _ rfl
  have HB9 : Below base w w9 := by rw [← hw9]; exact (HB4.out.mono HBS.out).setCell HBG.out _
  have HK9 : Kept w w9 (Mine g ok) := by rw [← hw9]; exact Kept.setCell (Kept.of_below HB4.out _) (.inl (.inl rfl)) _
  have HO9 : Kd.R k34 34 w9 base ok (.slice A l.length c) l := by rw [← hw9]; exact Kd.R_far (Kd.R_below HR.out HB4.out) (fun k hk e => HNO.out (by rwa [show k = g from e] at hk)) _
  clear hw9
  go_ret
  rw [HE.out]
  exact ⟨rfl, ⟨_, HG9, HBG.out, HNO.out, HO9⟩, HB9, HK9⟩
 | false =>
  obtain ⟨kn, hK⟩ := impl_nodeRight_f x.f0 x.f1 x.f2 x.f3 (l.length : Int) (by have := HL.out; omega)
  have HK := Aside0.mk (hK kn (Nat.le_refl _))
  clear hK
  by_cases hb : nodeB x.f0 x.f1 x.f2 x.f3 (l.length : Int) = true
  ·rw [hb] at HK
   have HN := Aside0.mk hb
   clear hb hbw
   go_enter Try.func112, Try.ntmps112
   go_wp2_with (first | ((with_reducible refine gate_dst (N := 3) rfl ?_); refine box_event ?hg (N := 3) ?hd (cs := #[.int .i64 x.f0, .int .i64 x.f1, .int .i64 x.f2, .int .i64 x.f3]) (t := 34) ?hr ?_; (case hd => rfl); (case hg => rfl); (case hr => first | (go_simp; done) | (go_simp; rfl)); intro gb hg1 w3 hbox hb; have BK3 := Aside0.mk hbox; have HB3 := Aside0.mk hb; have GB3 := Aside0.mk hg1; clear hg1 hbox hb))
   have HG3 := Aside0.mk (blk_below HG0.out HB3.out)
   refine start_ (n := 14) (S := fun w' => w'.cell? ⟨g, 0, none⟩ = some (.slice A l.length c) ∧ w'.cell? ⟨gb, 0, none⟩ = some (.int .i64 x.f0) ∧ w'.cell? ⟨gb, 1, none⟩ = some (.int .i64 x.f1) ∧ w'.cell? ⟨gb, 2, none⟩ = some (.int .i64 x.f2) ∧ w'.cell? ⟨gb, 3, none⟩ = some (.int .i64 x.f3) ∧ w'.cell? ⟨g, 1, none⟩ = some (.bool false)) (ds := []) #[false, false, false, false, false, false, false, false, false, false, false, false, false, false] (by kernel_rfl) rfl rfl ⟨(blk_cell (blk_drew HG3.out) 0).trans rfl, (blk_cell (blk_drew BK3.out) 0).trans rfl, (blk_cell (blk_drew BK3.out) 1).trans rfl, (blk_cell (blk_drew BK3.out) 2).trans rfl, (blk_cell (blk_drew BK3.out) 3).trans rfl, (blk_cell (blk_drew HG3.out) 1).trans rfl⟩ (fun hHeld => ?_)
   refine pure_ (i := 0) (N := some 7) (v := ?_) (a' := ?_) #[true, false, false, false, false, false, false, false, false, false, false, false, false, false] rfl rfl (by kernel_rfl) (fun _ _ _ h => h) (Or.inl ⟨by rfl, ?_⟩) ?_ ?_
   rotate_left
   ·intro w'
    go_simp
    with_reducible rfl
   rotate_left
   ·simp only [Act.put, List.setIfInBounds_toArray, List.set_cons_zero, List.set_cons_succ, i64_w, i32_w]
    rfl
   refine pure_ (i := 1) (N := some 8) (v := ?_) (a' := ?_) #[true, true, false, false, false, false, false, false, false, false, false, false, false, false] rfl rfl (by kernel_rfl) (fun _ _ _ h => h) (Or.inl ⟨by rfl, ?_⟩) ?_ ?_
   rotate_left
   ·intro w'
    go_simp
    with_reducible rfl
   rotate_left
   ·simp only [Act.put, List.setIfInBounds_toArray, List.set_cons_zero, List.set_cons_succ, i64_w, i32_w]
    rfl
   refine pure_ (i := 2) (N := some 9) (v := ?_) (a' := ?_) #[true, true, true, false, false, false, false, false, false, false, false, false, false, false] rfl rfl (by kernel_rfl) (fun _ _ _ h => h) (Or.inl ⟨by rfl, ?_⟩) ?_ ?_
   rotate_left
   ·intro w'
    go_simp
    with_reducible rfl
   rotate_left
   ·simp only [Act.put, List.setIfInBounds_toArray, List.set_cons_zero, List.set_cons_succ, i64_w, i32_w]
    rfl
   refine take_ (i := 3) (N := some 10) (v := ?_) (a' := ?_) #[true, true, true, true, false, false, false, false, false, false, false, false, false, false] rfl rfl (by kernel_rfl) (fun _ _ _ h => h) (Or.inl ⟨by rfl, ?_⟩) hHeld ?_ ?_
   rotate_left
   ·rintro w' ⟨s0, s1, s2, s3, s4, s5⟩
    go_simp
    with_reducible rfl
   rotate_left
   ·simp only [Act.put, List.setIfInBounds_toArray, List.set_cons_zero, List.set_cons_succ, i64_w, i32_w]
    rfl
   refine pure_ (i := 4) (N := some 11) (v := ?_) (a' := ?_) #[true, true, true, true, true, false, false, false, false, false, false, false, false, false] rfl rfl (by kernel_rfl) (fun _ _ _ h => h) (Or.inl ⟨by rfl, ?_⟩) ?_ ?_
   rotate_left
   ·intro w'
    go_simp
    with_reducible rfl
   rotate_left
   ·simp only [Act.put, List.setIfInBounds_toArray, List.set_cons_zero, List.set_cons_succ, i64_w, i32_w]
    rfl
   refine pure_ (i := 6) (N := some 13) (v := ?_) (a' := ?_) #[true, true, true, true, true, false, true, false, false, false, false, false, false, false] rfl rfl (by kernel_rfl) (fun _ _ _ h => h) (Or.inl ⟨by rfl, ?_⟩) ?_ ?_
   rotate_left
   ·intro w'
    go_simp
    with_reducible rfl
   rotate_left
   ·simp only [Act.put, List.setIfInBounds_toArray, List.set_cons_zero, List.set_cons_succ, i64_w, i32_w]
    rfl
   refine pure_ (i := 7) (N := some 14) (v := ?_) (a' := ?_) #[true, true, true, true, true, false, true, true, false, false, false, false, false, false] rfl rfl (by kernel_rfl) (fun _ _ _ h => h) (Or.inl ⟨by rfl, ?_⟩) ?_ ?_
   rotate_left
   ·intro w'
    go_simp
    with_reducible rfl
   rotate_left
   ·simp only [Act.put, List.setIfInBounds_toArray, List.set_cons_zero, List.set_cons_succ, i64_w, i32_w]
    rfl
   refine pure_ (i := 8) (N := some 15) (v := ?_) (a' := ?_) #[true, true, true, true, true, false, true, true, true, false, false, false, false, false] rfl rfl (by kernel_rfl) (fun _ _ _ h => h) (Or.inl ⟨by rfl, ?_⟩) ?_ ?_
   rotate_left
   ·intro w'
    go_simp
    with_reducible rfl
   rotate_left
   ·simp only [Act.put, List.setIfInBounds_toArray, List.set_cons_zero, List.set_cons_succ, i64_w, i32_w]
    rfl
   refine take_ (i := 5) (N := some 12) (v := ?_) (a' := ?_) #[true, true, true, true, true, true, true, true, true, false, false, false, false, false] rfl rfl (by kernel_rfl) (fun _ _ _ h => h) (Or.inl ⟨by rfl, ?_⟩) hHeld ?_ ?_
   rotate_left
   ·rintro w' ⟨s0, s1, s2, s3, s4, s5⟩
    go_simp
    with_reducible rfl
   rotate_left
   ·simp only [Act.put, List.setIfInBounds_toArray, List.set_cons_zero, List.set_cons_succ, i64_w, i32_w]
    rfl
   refine take_ (i := 9) (N := some 16) (v := ?_) (a' := ?_) #[true, true, true, true, true, true, true, true, true, true, false, false, false, false] rfl rfl (by kernel_rfl) (fun _ _ _ h => h) (Or.inl ⟨by rfl, ?_⟩) hHeld ?_ ?_
   rotate_left
   ·rintro w' ⟨s0, s1, s2, s3, s4, s5⟩
    go_simp
    with_reducible rfl
   rotate_left
   ·simp only [Act.put, List.setIfInBounds_toArray, List.set_cons_zero, List.set_cons_succ, i64_w, i32_w]
    rfl
   refine pure_ (i := 10) (N := some 17) (v := ?_) (a' := ?_) #[true, true, true, true, true, true, true, true, true, true, true, false, false, false] rfl rfl (by kernel_rfl) (fun _ _ _ h => h) (Or.inl ⟨by rfl, ?_⟩) ?_ ?_
   rotate_left
   ·intro w'
    go_simp
    with_reducible rfl
   rotate_left
   ·simp only [Act.put, List.setIfInBounds_toArray, List.set_cons_zero, List.set_cons_succ, i64_w, i32_w]
    rfl
   refine one_ (i := 11) (N := some 18) #[true, true, true, true, true, true, true, true, true, true, true, true, false, false] rfl rfl (by kernel_rfl) (by decide) (fun K hK => ?_)
   refine goes_ Try.func84 (by kernel_rfl) rfl #[.agg #[.int .i64 x.f0, .int .i64 x.f1, .int .i64 x.f2, .int .i64 x.f3], .int .i64 (l.length : Int)] (by rfl) rfl rfl (by simp only [List.map_toArray, List.map_cons, List.map_nil]; rfl) ?_
   with_reducible refine (impl_nodeRight.calls kn x.f0 x.f1 x.f2 x.f3 (l.length : Int) true _ HK.out).mono ?_
   rintro e w4 ⟨rfl, hb4⟩
   refine ⟨_, rfl, ?_⟩
   have HG4 := Aside0.mk (blk_below (blk_drew HG3.out) hb4)
   have BK4 := Aside0.mk (blk_below (blk_drew BK3.out) hb4)
   have HB4 := Aside0.mk (below_step (below_drew1 HB3.out) hb4)
   clear hb4
   refine hK.out _ _ ⟨(blk_cell (HG4.out) 0).trans rfl, (blk_cell (BK4.out) 0).trans rfl, (blk_cell (BK4.out) 1).trans rfl, (blk_cell (BK4.out) 2).trans rfl, (blk_cell (BK4.out) 3).trans rfl, (blk_cell HG4.out 1).trans rfl⟩ (fun hHeld => ?_)
   clear hK K
   refine norm_ (a' := ?_) ?_ ?_
   rotate_left
   ·show Act.put _ (some 18) _ = _
    simp only [Act.put, List.setIfInBounds_toArray, List.set_cons_zero, List.set_cons_succ, i64_w, i32_w]
    rfl
   refine pure_ (i := 12) (N := some 19) (v := ?_) (a' := ?_) #[true, true, true, true, true, true, true, true, true, true, true, true, true, false] rfl rfl (by kernel_rfl) (fun _ _ _ h => h) (Or.inl ⟨by rfl, ?_⟩) ?_ ?_
   rotate_left
   ·intro w'
    go_simp
    with_reducible rfl
   rotate_left
   ·simp only [Act.put, List.setIfInBounds_toArray, List.set_cons_zero, List.set_cons_succ, i64_w, i32_w]
    rfl
   refine pure_ (i := 13) (N := some 20) (v := ?_) (a' := ?_) #[true, true, true, true, true, true, true, true, true, true, true, true, true, true] rfl rfl (by kernel_rfl) (fun _ _ _ h => h) (Or.inl ⟨by rfl, ?_⟩) ?_ ?_
   rotate_left
   ·intro w'
    go_simp
    with_reducible rfl
   rotate_left
   ·simp only [Act.put, List.setIfInBounds_toArray, List.set_cons_zero, List.set_cons_succ, i64_w, i32_w]
    rfl
   refine done_ (by kernel_rfl) ?_
   have hn0 : w4.cell? ⟨gb, 0, none⟩ = some (.int .i64 x.f0) := (blk_cell BK4.out 0).trans rfl
   have hn1 : w4.cell? ⟨gb, 1, none⟩ = some (.int .i64 x.f1) := (blk_cell BK4.out 1).trans rfl
   have hn2 : w4.cell? ⟨gb, 2, none⟩ = some (.int .i64 x.f2) := (blk_cell BK4.out 2).trans rfl
   have hn3 : w4.cell? ⟨gb, 3, none⟩ = some (.int .i64 x.f3) := (blk_cell BK4.out 3).trans rfl
   have hf0 := blk_frozen BK4.out 0
   have hf1 := blk_frozen BK4.out 1
   have hf2 := blk_frozen BK4.out 2
   have hf3 := blk_frozen BK4.out 3
   have hg0 : w4.cell? ⟨g, 0, none⟩ = some (.slice A l.length c) := (blk_cell HG4.out 0).trans rfl
   have hgf := blk_frozen HG4.out 0
   have hg1 : w4.cell? ⟨g, 1, none⟩ = some (.bool false) := (blk_cell HG4.out 1).trans rfl
   have hgf1 := blk_frozen HG4.out 1
   go_wp2
   go_loopw [29] (fun v wr => ∃ i : Int, 0 ≤ i ∧ i ≤ l.length ∧ v = .int .i64 i ∧ Aside0 (∀ m (hm : m < l.length), m < i.toNat → sameN l[m] x = false) ∧ Aside0 (wr.heap[g]? = some (.cells #[.slice A l.length c, .bool false] 132 (0, 0))) ∧ Aside0 (wr.heap[gb]? = some (.cells #[.int .i64 x.f0, .int .i64 x.f1, .int .i64 x.f2, .int .i64 x.f3] 34 (0, 0))) ∧ Aside0 (Below w.heap.size w wr)) (fun i _ => l.length - (intOf i).toNat)
   case atStart => exact ⟨0, by omega, by omega, rfl, ⟨fun m _ hm => by simp at hm⟩, ⟨HG4.out⟩, ⟨BK4.out⟩, ⟨HB4.out⟩⟩
   case round =>
    clear hn0 hf0 hn1 hf1 hn2 hf2 hn3 hf3 hg0 hgf hg1 hgf1
    obtain ⟨i, h0, h1, rfl, HA, HG5, BK5, HB5⟩ := hrel
    have Hi := Aside0.mk h0
    have Hj := Aside0.mk h1
    have hn0 : wr.cell? ⟨gb, 0, none⟩ = some (.int .i64 x.f0) := (blk_cell BK5.out 0).trans rfl
    have hn1 : wr.cell? ⟨gb, 1, none⟩ = some (.int .i64 x.f1) := (blk_cell BK5.out 1).trans rfl
    have hn2 : wr.cell? ⟨gb, 2, none⟩ = some (.int .i64 x.f2) := (blk_cell BK5.out 2).trans rfl
    have hn3 : wr.cell? ⟨gb, 3, none⟩ = some (.int .i64 x.f3) := (blk_cell BK5.out 3).trans rfl
    have hf0 := blk_frozen BK5.out 0
    have hf1 := blk_frozen BK5.out 1
    have hf2 := blk_frozen BK5.out 2
    have hf3 := blk_frozen BK5.out 3
    have hg0 : wr.cell? ⟨g, 0, none⟩ = some (.slice A l.length c) := (blk_cell HG5.out 0).trans rfl
    have hgf := blk_frozen HG5.out 0
    have hg1 : wr.cell? ⟨g, 1, none⟩ = some (.bool false) := (blk_cell HG5.out 1).trans rfl
    have hgf1 := blk_frozen HG5.out 1
    have hm0 : ∀ o, (wr.alloc o).cell? ⟨gb, 0, none⟩ = some (.int .i64 x.f0) := fun o => (blk_cell (blk_alloc BK5.out o) 0).trans rfl
    have hm1 : ∀ o, (wr.alloc o).cell? ⟨gb, 1, none⟩ = some (.int .i64 x.f1) := fun o => (blk_cell (blk_alloc BK5.out o) 1).trans rfl
    have hm2 : ∀ o, (wr.alloc o).cell? ⟨gb, 2, none⟩ = some (.int .i64 x.f2) := fun o => (blk_cell (blk_alloc BK5.out o) 2).trans rfl
    have hm3 : ∀ o, (wr.alloc o).cell? ⟨gb, 3, none⟩ = some (.int .i64 x.f3) := fun o => (blk_cell (blk_alloc BK5.out o) 3).trans rfl
    by_cases hlt : i < (l.length : Int)
    ·obtain ⟨ad, e1, x0, x1, x2, x3⟩ := at_T34 HC.out i h0 hlt
     cases e1
     have Hlt := Aside0.mk hlt
     obtain ⟨nd, hnd⟩ : ∃ nd, rd_T34 l i = nd := ⟨_, rfl⟩
     rw [hnd] at x0 x1 x2 x3
     have enode : ∀ h : i.toNat < l.length, l[i.toNat]'h = nd := fun h => by rw [← hnd, ← rdI (l := l) (i := i.toNat) h, Int.toNat_of_nonneg h0]
     have EN := Aside0.mk enode
     replace x0 := (HB5.out.cell (World.block_lt_of_cell? w _ x0)).trans x0
     replace x1 := (HB5.out.cell (World.block_lt_of_cell? w _ x1)).trans x1
     replace x2 := (HB5.out.cell (World.block_lt_of_cell? w _ x2)).trans x2
     replace x3 := (HB5.out.cell (World.block_lt_of_cell? w _ x3)).trans x3
     have p0 : (0 ≤ i) = True := eq_true h0
     have p1 : (i < (l.length : Int)) = True := eq_true hlt
     have p2 : decide (i < (l.length : Int)) = true := decide_eq_true hlt
     by_cases hs : sameN nd x = true
     ·have he : putB l false x = (l, false, i) := by
       have ha : atV l x = i := by
        have := atV_hit (l := l) (x := x) (i := i.toNat) (by omega) (by rw [enode (by omega)]; exact hs) (fun j hj => HA.out j (by omega) hj)
        rw [this, Int.toNat_of_nonneg h0]
       have hp : putN l x = (l, i) := by unfold putN; rw [if_pos HN.out, ha, if_pos h0]
       unfold putB
       rw [if_neg (by simp), hp, if_neg (by simp only; omega)]
      have HE := Aside0.mk he
      clear he h0 h1 hlt hnd enode
      have hs2 := sameN_eq hs
      clear hs
      subst hs2
      go_wp2
      go_ret
      rw [HE.out]
      exact ⟨rfl, ⟨_, blk_alloc HG5.out _, HBG.out, HNO.out, Kd.R_alloc (Kd.R_below HR.out HB5.out) _⟩, (below_alloc HB5.out _).mono HBS.out, Kept.of_below (below_alloc HB5.out _) _⟩
     ·have hs0 : sameN nd x = false := by simpa using hs
      have HS0 := Aside0.mk hs0
      rw [← sameN_def] at hs0
      clear h0 h1 hlt hnd enode hs
      go_wp2
      all_goals first
       | (exfalso; simp_all; done)
       | skip
      all_goals
       go_roundw
       case rel =>
        have hll := HL.out
        have hii := Hi.out
        have hij := Hlt.out
        refine ⟨i + 1, by omega, by omega, by first | rfl | (simp only [Value.int.injEq, true_and]; exact w64 (by omega) (by omega)), ⟨fun m hm hmi => ?_⟩, ⟨blk_alloc HG5.out _⟩, ⟨blk_alloc BK5.out _⟩, ⟨below_alloc HB5.out _⟩⟩
        by_cases hmi2 : m = i.toNat
        ·subst hmi2
         rw [EN.out hm]; exact HS0.out
        ·exact HA.out m hm (by omega)
       case measure => have hii := Hi.out; have hij := Hlt.out; have hll := HL.out; have hw := w64 (x := i + 1) (by omega) (by omega); simp only [intOf]; simp; rw [hw]; omega
    ·obtain rfl : i = (l.length : Int) := by omega
     have ha : atV l x = -1 := atV_miss (fun j hj => HA.out j hj (by omega))
     clear h0 h1 hlt
     by_cases h3 : 3000 ≤ l.length
     ·have he : putB l false x = (l, true, -1) := by
       have hp : putN l x = (l, -1) := by unfold putN; rw [if_pos HN.out, if_neg (by omega), if_pos h3]
       unfold putB
       rw [if_neg (by simp), hp]
       rfl
      have HE := Aside0.mk he
      have h30 : decide (3000 ≤ (l.length : Int)) = true := decide_eq_true (by omega)
      have h31 : decide (3000 ≤ l.length) = true := decide_eq_true h3
      clear he ha h3
      go_wp2
      obtain ⟨w9, hw9⟩ : ∃ w9, wr.setCell ⟨g, 1, none⟩ (.bool true) = w9 := ⟨_, rfl⟩
      rw [hw9]
      have HG9 : w9.heap[g]? = some (.cells #[.slice A l.length c, .bool true] 132 (0, 0)) := by rw [← hw9]; exact blk_put (HG5.out) 1 _ rfl
      have HB9 : Below base w w9 := by rw [← hw9]; exact (HB5.out.mono HBS.out).setCell HBG.out _
      have HK9 : Kept w w9 (Mine g ok) := by rw [← hw9]; exact Kept.setCell (Kept.of_below HB5.out _) (.inl (.inl rfl)) _
      have HO9 : Kd.R k34 34 w9 base ok (.slice A l.length c) l := by rw [← hw9]; exact Kd.R_far (Kd.R_below HR.out HB5.out) (fun k hk e => HNO.out (by rwa [show k = g from e] at hk)) _
      clear hw9
      go_ret
      rw [HE.out]
      exact ⟨rfl, ⟨_, HG9, HBG.out, HNO.out, HO9⟩, HB9, HK9⟩
     ·have he : putB l false x = (l ++ [x], false, (l.length : Int)) := by
       have hp : putN l x = (l ++ [x], (l.length : Int)) := by unfold putN; rw [if_pos HN.out, if_neg (by omega), if_neg h3]
       unfold putB
       rw [if_neg (by simp), hp, if_neg (by simp only; omega)]
      have HE := Aside0.mk he
      have h30 : decide (3000 ≤ (l.length : Int)) = false := decide_eq_false (by omega)
      have h31 : decide (3000 ≤ l.length) = false := decide_eq_false h3
      have H3 := Aside0.mk h3
      clear he ha h3
      go_wp2
      have HRw := Aside0.mk (Kd.R_below (Kd.R_elderB HR.out gb (by rw [GB3.out]; exact Nat.le_refl _)) HB5.out)
      have HS5 := Aside0.mk (below_size HB5.out)
      have HGB := Aside0.mk (show gb < wr.heap.size from blk_lt BK5.out)
      refine start_ (n := 11) (S := fun w' => w'.cell? ⟨g, 0, none⟩ = some (.slice A l.length c) ∧ w'.cell? ⟨gb, 0, none⟩ = some (.int .i64 x.f0) ∧ w'.cell? ⟨gb, 1, none⟩ = some (.int .i64 x.f1) ∧ w'.cell? ⟨gb, 2, none⟩ = some (.int .i64 x.f2) ∧ w'.cell? ⟨gb, 3, none⟩ = some (.int .i64 x.f3)) (ds := [10]) #[false, false, false, false, false, false, false, false, false, false, false] (by kernel_rfl) rfl rfl ⟨(blk_cell (blk_drew HG5.out) 0).trans rfl, (blk_cell (blk_drew BK5.out) 0).trans rfl, (blk_cell (blk_drew BK5.out) 1).trans rfl, (blk_cell (blk_drew BK5.out) 2).trans rfl, (blk_cell (blk_drew BK5.out) 3).trans rfl⟩ (fun hHeld => ?_)
      refine pure_ (i := 0) (N := some 48) (v := ?_) (a' := ?_) #[true, false, false, false, false, false, false, false, false, false, false] rfl rfl (by kernel_rfl) (fun _ _ _ h => h) (Or.inl ⟨by rfl, ?_⟩) ?_ ?_
      rotate_left
      ·intro w'
       go_simp
       with_reducible rfl
      rotate_left
      ·simp only [Act.put, List.setIfInBounds_toArray, List.set_cons_zero, List.set_cons_succ, i64_w, i32_w]
       rfl
      refine pure_ (i := 1) (N := some 49) (v := ?_) (a' := ?_) #[true, true, false, false, false, false, false, false, false, false, false] rfl rfl (by kernel_rfl) (fun _ _ _ h => h) (Or.inl ⟨by rfl, ?_⟩) ?_ ?_
      rotate_left
      ·intro w'
       go_simp
       with_reducible rfl
      rotate_left
      ·simp only [Act.put, List.setIfInBounds_toArray, List.set_cons_zero, List.set_cons_succ, i64_w, i32_w]
       rfl
      refine pure_ (i := 2) (N := some 50) (v := ?_) (a' := ?_) #[true, true, true, false, false, false, false, false, false, false, false] rfl rfl (by kernel_rfl) (fun _ _ _ h => h) (Or.inl ⟨by rfl, ?_⟩) ?_ ?_
      rotate_left
      ·intro w'
       go_simp
       with_reducible rfl
      rotate_left
      ·simp only [Act.put, List.setIfInBounds_toArray, List.set_cons_zero, List.set_cons_succ, i64_w, i32_w]
       rfl
      refine pure_ (i := 3) (N := some 51) (v := ?_) (a' := ?_) #[true, true, true, true, false, false, false, false, false, false, false] rfl rfl (by kernel_rfl) (fun _ _ _ h => h) (Or.inl ⟨by rfl, ?_⟩) ?_ ?_
      rotate_left
      ·intro w'
       go_simp
       with_reducible rfl
      rotate_left
      ·simp only [Act.put, List.setIfInBounds_toArray, List.set_cons_zero, List.set_cons_succ, i64_w, i32_w]
       rfl
      refine take_ (i := 4) (N := some 52) (v := ?_) (a' := ?_) #[true, true, true, true, true, false, false, false, false, false, false] rfl rfl (by kernel_rfl) (fun _ _ _ h => h) (Or.inl ⟨by rfl, ?_⟩) hHeld ?_ ?_
      rotate_left
      ·rintro w' ⟨s0, s1, s2, s3, s4⟩
       go_simp
       with_reducible rfl
      rotate_left
      ·simp only [Act.put, List.setIfInBounds_toArray, List.set_cons_zero, List.set_cons_succ, i64_w, i32_w]
       rfl
      refine take_ (i := 5) (N := some 53) (v := ?_) (a' := ?_) #[true, true, true, true, true, true, false, false, false, false, false] rfl rfl (by kernel_rfl) (fun _ _ _ h => h) (Or.inl ⟨by rfl, ?_⟩) hHeld ?_ ?_
      rotate_left
      ·rintro w' ⟨s0, s1, s2, s3, s4⟩
       go_simp
       with_reducible rfl
      rotate_left
      ·simp only [Act.put, List.setIfInBounds_toArray, List.set_cons_zero, List.set_cons_succ, i64_w, i32_w]
       rfl
      refine one_ (i := 6) (N := some 54) #[true, true, true, true, true, true, true, false, false, false, false] rfl rfl (by kernel_rfl) (by decide) (fun K hK => ?_)
      refine value_ (w1 := ?_) (v := ?_) (by rfl) rfl ?_ ?_
      rotate_left 2
      ·go_simp
       constructor
       ·rfl
       ·rfl
      refine hK.out _ _ ⟨(blk_cell (blk_alloc (blk_drew HG5.out) _) 0).trans rfl, (blk_cell (blk_alloc (blk_drew BK5.out) _) 0).trans rfl, (blk_cell (blk_alloc (blk_drew BK5.out) _) 1).trans rfl, (blk_cell (blk_alloc (blk_drew BK5.out) _) 2).trans rfl, (blk_cell (blk_alloc (blk_drew BK5.out) _) 3).trans rfl⟩ (fun hHeld => ?_)
      clear hK K
      refine norm_ (a' := ?_) ?_ ?_
      rotate_left
      ·show Act.put _ (some 54) _ = _
       simp only [Act.put, List.setIfInBounds_toArray, List.set_cons_zero, List.set_cons_succ, i64_w, i32_w]
       rfl
      refine one_ (i := 7) (N := some 55) #[true, true, true, true, true, true, true, true, false, false, false] rfl rfl (by kernel_rfl) (by decide) (fun K hK => ?_)
      refine Kd.R_append_step k34 (w0 := w) (W := wr.drew) base (by rfl) (.tmp 52) (.tmp 54) 24 34 (.agg #[.int .i64 0, .int .i64 0, .int .i64 0, .int .i64 0]) 32 rfl Try.underlying24 info34 rfl (by decide) (by decide) (.slice A l.length c) l x [.int .i64 x.f0, .int .i64 x.f1, .int .i64 x.f2, .int .i64 x.f3] (fun k => ok k ∧ k ≠ gb) (fun _ => False) rfl rfl (k34_mkM _ _ _ x) (fun _ h => h.elim) (fun k hk => ⟨HF.out k (Nat.le_trans HS5.out hk), fun e => Nat.lt_irrefl _ (Nat.lt_of_lt_of_le HGB.out (e ▸ hk))⟩) (Kd.R_drew HRw.out) ((below_drew1 HB5.out).mono HBS.out) (Nat.le_trans HBS.out HS5.out) (Nat.le_trans (Nat.mul_le_mul_right 32 (Nat.lt_of_not_le H3.out)) (by decide)) ?_
      intro v1 w7 ho hb hg hat
      have hne : ∀ k, (Value.slice A l.length c).ownBlock = some k → ok k ∧ k ≠ gb := HRw.out.1
      have HG7 := Aside0.mk (blk_grown (blk_drew HG5.out) hg (fun e => HNO.out (hne _ e.symm).1))
      have BK7 := Aside0.mk (blk_grown (blk_drew BK5.out) hg (fun e => (hne _ e.symm).2 rfl))
      have HK7 := Aside0.mk (Kept.of_grown (S := Mine g ok) hg (Kept.drew (Kept.of_below HB5.out _)) (fun k hk => .inl (.inr (hne k hk).1)))
      have HB7 := Aside0.mk hb
      obtain ⟨A1, c1, rfl, hlc1, _⟩ := Kd.R_reads ho
      have HO7 := Aside0.mk ho
      have hg07 : w7.cell? ⟨g, 0, none⟩ = some (.slice A l.length c) := (blk_cell HG7.out 0).trans rfl
      have hgf7 := blk_frozen HG7.out 0
      clear ho hb hg hat hne hlc1
      refine hK.out _ _ ⟨(blk_cell HG7.out 0).trans rfl, (blk_cell BK7.out 0).trans rfl, (blk_cell BK7.out 1).trans rfl, (blk_cell BK7.out 2).trans rfl, (blk_cell BK7.out 3).trans rfl⟩ (fun hHeld => ?_)
      clear hK K
      refine norm_ (a' := ?_) ?_ ?_
      rotate_left
      ·show Act.put _ (some 55) _ = _
       simp only [Act.put, List.setIfInBounds_toArray, List.set_cons_zero, List.set_cons_succ, i64_w, i32_w]
       rfl
      refine pure_ (i := 8) (N := some 56) (v := ?_) (a' := ?_) #[true, true, true, true, true, true, true, true, true, false, false] rfl rfl (by kernel_rfl) (fun _ _ _ h => h) (Or.inl ⟨by rfl, ?_⟩) ?_ ?_
      rotate_left
      ·intro w'
       go_simp
       with_reducible rfl
      rotate_left
      ·simp only [Act.put, List.setIfInBounds_toArray, List.set_cons_zero, List.set_cons_succ, i64_w, i32_w]
       rfl
      refine pure_ (i := 9) (N := some 57) (v := ?_) (a' := ?_) #[true, true, true, true, true, true, true, true, true, true, false] rfl rfl (by kernel_rfl) (fun _ _ _ h => h) (Or.inl ⟨by rfl, ?_⟩) ?_ ?_
      rotate_left
      ·intro w'
       go_simp
       with_reducible rfl
      rotate_left
      ·simp only [Act.put, List.setIfInBounds_toArray, List.set_cons_zero, List.set_cons_succ, i64_w, i32_w]
       rfl
      refine last_ (i := 10) (N := none) #[true, true, true, true, true, true, true, true, true, true, true] rfl rfl (by kernel_rfl) (by decide) (fun K hK => ?_)
      refine skip_ (w1 := ?_) (by rfl) rfl ?_ ?_
      rotate_left
      ·go_simp
       rfl
      refine hK.out _ _ ?_
      clear hK K
      refine done_ (by kernel_rfl) ?_
      obtain ⟨w8, hw8⟩ : ∃ w8, w7.setCell ⟨g, 0, none⟩ (.slice A1 (l.length + 1) c1) = w8 := ⟨_, rfl⟩
      rw [hw8]
      have HG8 := Aside0.mk (show w8.heap[g]? = some (.cells #[.slice A1 (l.length + 1) c1, .bool false] 132 (0, 0)) by rw [← hw8]; exact blk_put HG7.out 0 _ rfl)
      have HB8 := Aside0.mk (show Below base w w8 by rw [← hw8]; exact HB7.out.setCell HBG.out _)
      have HK8 := Aside0.mk (show Kept w w8 (Mine g ok) by rw [← hw8]; exact Kept.setCell HK7.out (.inl (.inl rfl)) _)
      have HO8 := Aside0.mk (show Kd.R k34 34 w8 base (fun k => ok k ∧ k ≠ gb) (.slice A1 (l ++ [x]).length c1) (l ++ [x]) by rw [← hw8]; exact Kd.R_far HO7.out (fun k hk e => HNO.out (by have h1 := hk.1; rwa [show k = g from e] at h1)) _)
      clear hw8
      have hg08 : w8.cell? ⟨g, 0, none⟩ = some (.slice A1 (l.length + 1) c1) := (blk_cell HG8.out 0).trans rfl
      have hgf8 := blk_frozen HG8.out 0
      have hlt8 : l.length ≤ 1048576 := HL.out
      go_wp2
      go_ret
      rw [HE.out]
      refine ⟨by first | rfl | (congr 2; omega) | (simp; omega), ⟨_, HG8.out, HBG.out, HNO.out, ?_⟩, HB8.out, HK8.out⟩
      have hO := Kd.R_mono HO8.out (fun _ hk => hk.1)
      rw [List.length_append] at hO
      exact hO
  ·have hb0 : nodeB x.f0 x.f1 x.f2 x.f3 (l.length : Int) = false := by simpa using hb
   rw [hb0] at HK
   have he : putB l false x = (l, true, -1) := by unfold putB putN; rw [if_neg (by simp), if_neg hb]; rfl
   have HE := Aside0.mk he
   clear he hb hb0 hbw
   go_enter Try.func112, Try.ntmps112
   go_wp2_with (first | ((with_reducible refine gate_dst (N := 3) rfl ?_); refine box_event ?hg (N := 3) ?hd (cs := #[.int .i64 x.f0, .int .i64 x.f1, .int .i64 x.f2, .int .i64 x.f3]) (t := 34) ?hr ?_; (case hd => rfl); (case hg => rfl); (case hr => first | (go_simp; done) | (go_simp; rfl)); intro gb hg1 w3 hbox hb; have BK3 := Aside0.mk hbox; have HB3 := Aside0.mk hb; have GB3 := Aside0.mk hg1; clear hg1 hbox hb))
   have HG3 := Aside0.mk (blk_below HG0.out HB3.out)
   refine start_ (n := 14) (S := fun w' => w'.cell? ⟨g, 0, none⟩ = some (.slice A l.length c) ∧ w'.cell? ⟨gb, 0, none⟩ = some (.int .i64 x.f0) ∧ w'.cell? ⟨gb, 1, none⟩ = some (.int .i64 x.f1) ∧ w'.cell? ⟨gb, 2, none⟩ = some (.int .i64 x.f2) ∧ w'.cell? ⟨gb, 3, none⟩ = some (.int .i64 x.f3) ∧ w'.cell? ⟨g, 1, none⟩ = some (.bool false)) (ds := []) #[false, false, false, false, false, false, false, false, false, false, false, false, false, false] (by kernel_rfl) rfl rfl ⟨(blk_cell (blk_drew HG3.out) 0).trans rfl, (blk_cell (blk_drew BK3.out) 0).trans rfl, (blk_cell (blk_drew BK3.out) 1).trans rfl, (blk_cell (blk_drew BK3.out) 2).trans rfl, (blk_cell (blk_drew BK3.out) 3).trans rfl, (blk_cell (blk_drew HG3.out) 1).trans rfl⟩ (fun hHeld => ?_)
   refine pure_ (i := 0) (N := some 7) (v := ?_) (a' := ?_) #[true, false, false, false, false, false, false, false, false, false, false, false, false, false] rfl rfl (by kernel_rfl) (fun _ _ _ h => h) (Or.inl ⟨by rfl, ?_⟩) ?_ ?_
   rotate_left
   ·intro w'
    go_simp
    with_reducible rfl
   rotate_left
   ·simp only [Act.put, List.setIfInBounds_toArray, List.set_cons_zero, List.set_cons_succ, i64_w, i32_w]
    rfl
   refine pure_ (i := 1) (N := some 8) (v := ?_) (a' := ?_) #[true, true, false, false, false, false, false, false, false, false, false, false, false, false] rfl rfl (by kernel_rfl) (fun _ _ _ h => h) (Or.inl ⟨by rfl, ?_⟩) ?_ ?_
   rotate_left
   ·intro w'
    go_simp
    with_reducible rfl
   rotate_left
   ·simp only [Act.put, List.setIfInBounds_toArray, List.set_cons_zero, List.set_cons_succ, i64_w, i32_w]
    rfl
   refine pure_ (i := 2) (N := some 9) (v := ?_) (a' := ?_) #[true, true, true, false, false, false, false, false, false, false, false, false, false, false] rfl rfl (by kernel_rfl) (fun _ _ _ h => h) (Or.inl ⟨by rfl, ?_⟩) ?_ ?_
   rotate_left
   ·intro w'
    go_simp
    with_reducible rfl
   rotate_left
   ·simp only [Act.put, List.setIfInBounds_toArray, List.set_cons_zero, List.set_cons_succ, i64_w, i32_w]
    rfl
   refine take_ (i := 3) (N := some 10) (v := ?_) (a' := ?_) #[true, true, true, true, false, false, false, false, false, false, false, false, false, false] rfl rfl (by kernel_rfl) (fun _ _ _ h => h) (Or.inl ⟨by rfl, ?_⟩) hHeld ?_ ?_
   rotate_left
   ·rintro w' ⟨s0, s1, s2, s3, s4, s5⟩
    go_simp
    with_reducible rfl
   rotate_left
   ·simp only [Act.put, List.setIfInBounds_toArray, List.set_cons_zero, List.set_cons_succ, i64_w, i32_w]
    rfl
   refine pure_ (i := 4) (N := some 11) (v := ?_) (a' := ?_) #[true, true, true, true, true, false, false, false, false, false, false, false, false, false] rfl rfl (by kernel_rfl) (fun _ _ _ h => h) (Or.inl ⟨by rfl, ?_⟩) ?_ ?_
   rotate_left
   ·intro w'
    go_simp
    with_reducible rfl
   rotate_left
   ·simp only [Act.put, List.setIfInBounds_toArray, List.set_cons_zero, List.set_cons_succ, i64_w, i32_w]
    rfl
   refine pure_ (i := 6) (N := some 13) (v := ?_) (a' := ?_) #[true, true, true, true, true, false, true, false, false, false, false, false, false, false] rfl rfl (by kernel_rfl) (fun _ _ _ h => h) (Or.inl ⟨by rfl, ?_⟩) ?_ ?_
   rotate_left
   ·intro w'
    go_simp
    with_reducible rfl
   rotate_left
   ·simp only [Act.put, List.setIfInBounds_toArray, List.set_cons_zero, List.set_cons_succ, i64_w, i32_w]
    rfl
   refine pure_ (i := 7) (N := some 14) (v := ?_) (a' := ?_) #[true, true, true, true, true, false, true, true, false, false, false, false, false, false] rfl rfl (by kernel_rfl) (fun _ _ _ h => h) (Or.inl ⟨by rfl, ?_⟩) ?_ ?_
   rotate_left
   ·intro w'
    go_simp
    with_reducible rfl
   rotate_left
   ·simp only [Act.put, List.setIfInBounds_toArray, List.set_cons_zero, List.set_cons_succ, i64_w, i32_w]
    rfl
   refine pure_ (i := 8) (N := some 15) (v := ?_) (a' := ?_) #[true, true, true, true, true, false, true, true, true, false, false, false, false, false] rfl rfl (by kernel_rfl) (fun _ _ _ h => h) (Or.inl ⟨by rfl, ?_⟩) ?_ ?_
   rotate_left
   ·intro w'
    go_simp
    with_reducible rfl
   rotate_left
   ·simp only [Act.put, List.setIfInBounds_toArray, List.set_cons_zero, List.set_cons_succ, i64_w, i32_w]
    rfl
   refine take_ (i := 5) (N := some 12) (v := ?_) (a' := ?_) #[true, true, true, true, true, true, true, true, true, false, false, false, false, false] rfl rfl (by kernel_rfl) (fun _ _ _ h => h) (Or.inl ⟨by rfl, ?_⟩) hHeld ?_ ?_
   rotate_left
   ·rintro w' ⟨s0, s1, s2, s3, s4, s5⟩
    go_simp
    with_reducible rfl
   rotate_left
   ·simp only [Act.put, List.setIfInBounds_toArray, List.set_cons_zero, List.set_cons_succ, i64_w, i32_w]
    rfl
   refine take_ (i := 9) (N := some 16) (v := ?_) (a' := ?_) #[true, true, true, true, true, true, true, true, true, true, false, false, false, false] rfl rfl (by kernel_rfl) (fun _ _ _ h => h) (Or.inl ⟨by rfl, ?_⟩) hHeld ?_ ?_
   rotate_left
   ·rintro w' ⟨s0, s1, s2, s3, s4, s5⟩
    go_simp
    with_reducible rfl
   rotate_left
   ·simp only [Act.put, List.setIfInBounds_toArray, List.set_cons_zero, List.set_cons_succ, i64_w, i32_w]
    rfl
   refine pure_ (i := 10) (N := some 17) (v := ?_) (a' := ?_) #[true, true, true, true, true, true, true, true, true, true, true, false, false, false] rfl rfl (by kernel_rfl) (fun _ _ _ h => h) (Or.inl ⟨by rfl, ?_⟩) ?_ ?_
   rotate_left
   ·intro w'
    go_simp
    with_reducible rfl
   rotate_left
   ·simp only [Act.put, List.setIfInBounds_toArray, List.set_cons_zero, List.set_cons_succ, i64_w, i32_w]
    rfl
   refine one_ (i := 11) (N := some 18) #[true, true, true, true, true, true, true, true, true, true, true, true, false, false] rfl rfl (by kernel_rfl) (by decide) (fun K hK => ?_)
   refine goes_ Try.func84 (by kernel_rfl) rfl #[.agg #[.int .i64 x.f0, .int .i64 x.f1, .int .i64 x.f2, .int .i64 x.f3], .int .i64 (l.length : Int)] (by rfl) rfl rfl (by simp only [List.map_toArray, List.map_cons, List.map_nil]; rfl) ?_
   with_reducible refine (impl_nodeRight.calls kn x.f0 x.f1 x.f2 x.f3 (l.length : Int) false _ HK.out).mono ?_
   rintro e w4 ⟨rfl, hb4⟩
   refine ⟨_, rfl, ?_⟩
   have HG4 := Aside0.mk (blk_below (blk_drew HG3.out) hb4)
   have BK4 := Aside0.mk (blk_below (blk_drew BK3.out) hb4)
   have HB4 := Aside0.mk (below_step (below_drew1 HB3.out) hb4)
   clear hb4
   refine hK.out _ _ ⟨(blk_cell (HG4.out) 0).trans rfl, (blk_cell (BK4.out) 0).trans rfl, (blk_cell (BK4.out) 1).trans rfl, (blk_cell (BK4.out) 2).trans rfl, (blk_cell (BK4.out) 3).trans rfl, (blk_cell HG4.out 1).trans rfl⟩ (fun hHeld => ?_)
   clear hK K
   refine norm_ (a' := ?_) ?_ ?_
   rotate_left
   ·show Act.put _ (some 18) _ = _
    simp only [Act.put, List.setIfInBounds_toArray, List.set_cons_zero, List.set_cons_succ, i64_w, i32_w]
    rfl
   refine pure_ (i := 12) (N := some 19) (v := ?_) (a' := ?_) #[true, true, true, true, true, true, true, true, true, true, true, true, true, false] rfl rfl (by kernel_rfl) (fun _ _ _ h => h) (Or.inl ⟨by rfl, ?_⟩) ?_ ?_
   rotate_left
   ·intro w'
    go_simp
    with_reducible rfl
   rotate_left
   ·simp only [Act.put, List.setIfInBounds_toArray, List.set_cons_zero, List.set_cons_succ, i64_w, i32_w]
    rfl
   refine pure_ (i := 13) (N := some 20) (v := ?_) (a' := ?_) #[true, true, true, true, true, true, true, true, true, true, true, true, true, true] rfl rfl (by kernel_rfl) (fun _ _ _ h => h) (Or.inl ⟨by rfl, ?_⟩) ?_ ?_
   rotate_left
   ·intro w'
    go_simp
    with_reducible rfl
   rotate_left
   ·simp only [Act.put, List.setIfInBounds_toArray, List.set_cons_zero, List.set_cons_succ, i64_w, i32_w]
    rfl
   refine done_ (by kernel_rfl) ?_
   have hn0 : w4.cell? ⟨gb, 0, none⟩ = some (.int .i64 x.f0) := (blk_cell BK4.out 0).trans rfl
   have hn1 : w4.cell? ⟨gb, 1, none⟩ = some (.int .i64 x.f1) := (blk_cell BK4.out 1).trans rfl
   have hn2 : w4.cell? ⟨gb, 2, none⟩ = some (.int .i64 x.f2) := (blk_cell BK4.out 2).trans rfl
   have hn3 : w4.cell? ⟨gb, 3, none⟩ = some (.int .i64 x.f3) := (blk_cell BK4.out 3).trans rfl
   have hf0 := blk_frozen BK4.out 0
   have hf1 := blk_frozen BK4.out 1
   have hf2 := blk_frozen BK4.out 2
   have hf3 := blk_frozen BK4.out 3
   have hg0 : w4.cell? ⟨g, 0, none⟩ = some (.slice A l.length c) := (blk_cell HG4.out 0).trans rfl
   have hgf := blk_frozen HG4.out 0
   have hg1 : w4.cell? ⟨g, 1, none⟩ = some (.bool false) := (blk_cell HG4.out 1).trans rfl
   have hgf1 := blk_frozen HG4.out 1
   go_wp2
   obtain ⟨w9, hw9⟩ : ∃ w9, w4.setCell ⟨g, 1, none⟩ (.bool true) = w9 := ⟨_, rfl⟩
   rw [hw9]
   have HG9 : w9.heap[g]? = some (.cells #[.slice A l.length c, .bool true] 132 (0, 0)) := by rw [← hw9]; exact blk_put (HG4.out) 1 _ rfl
   have HB9 : Below base w w9 := by rw [← hw9]; exact (HB4.out.mono HBS.out).setCell HBG.out _
   have HK9 : Kept w w9 (Mine g ok) := by rw [← hw9]; exact Kept.setCell (Kept.of_below HB4.out _) (.inl (.inl rfl)) _
   have HO9 : Kd.R k34 34 w9 base ok (.slice A l.length c) l := by rw [← hw9]; exact Kd.R_far (Kd.R_below HR.out HB4.out) (fun k hk e => HNO.out (by rwa [show k = g from e] at hk)) _
   clear hw9
   go_ret
   rw [HE.out]
   exact ⟨rfl, ⟨_, HG9, HBG.out, HNO.out, HO9⟩, HB9, HK9⟩

/-! what put wants and leaves, in one word -/
def BnS (w : World) (base g : Nat) (ok : Nat → Prop) (l : List S34) (bad : Bool) : Prop := BnAt w base g ok l bad ∧ (∀ k, w.heap.size ≤ k → ok k) ∧ l.length ≤ 1048576
theorem BnAt.size {w : World} {base g : Nat} {ok : Nat → Prop} {l : List S34} {bad : Bool} (h : BnAt w base g ok l bad) : base ≤ g ∧ g < w.heap.size := by
 obtain ⟨v, h1, h2, _, _⟩ := h
 exact ⟨h2, blk_lt h1⟩
theorem BnS.keep {w w1 : World} {base g : Nat} {ok : Nat → Prop} {l : List S34} {bad : Bool} (h : BnS w base g ok l bad) (hb : Below w.heap.size w w1) : BnS w1 base g ok l bad :=
  ⟨h.1.keep hb, fun k hk => h.2.1 k (Nat.le_trans hb.size hk), h.2.2⟩
def BPost (w : World) (base g : Nat) (ok : Nat → Prop) (r : List S34 × Bool × Int) (e : Ending) (w' : World) : Prop := e = .returned (.int .i64 r.2.2) ∧ BnS w' base g ok r.1 r.2.1 ∧ Below base w w' ∧ Kept w w' (Mine g ok)
theorem putN_lenB {l : List S34} {x : S34} (h : l.length ≤ 1048576) : (putN l x).1.length ≤ 1048576 := by
 rcases putN_cases l x with ⟨h1, _⟩ | ⟨_, _, ⟨h1, _⟩ | ⟨_, h2, h1, _⟩⟩
 ·rw [h1]; exact h
 ·rw [h1]; exact h
 ·rw [h1, List.length_append, List.length_singleton]; omega
theorem putB_len {l : List S34} {bad : Bool} {x : S34} (h : l.length ≤ 1048576) : (putB l bad x).1.length ≤ 1048576 := by
 unfold putB
 split
 ·exact h
 ·split
  ·exact h
  ·exact putN_lenB h
theorem impl_put (l : List S34) (bad : Bool) (x : S34) (w : World) (base g : Nat) (ok : Nat → Prop) (h : BnS w base g ok l bad) :
  Calls Try.prog 112 #[.pointer (some ⟨g, 0, none⟩), .agg #[.int .i64 x.f0, .int .i64 x.f1, .int .i64 x.f2, .int .i64 x.f3]] w (BPost w base g ok (putB l bad x)) := by
 have hs := h.1.size
 refine (impl_put_at l bad x w base g ok h.1 (by omega) h.2.1 h.2.2).mono ?_
 rintro e w' ⟨he, hA, hb, hk⟩
 exact ⟨he, ⟨hA, fun k hk' => h.2.1 k (Nat.le_trans hb.size hk'), putB_len h.2.2⟩, hb, hk⟩
theorem BPost.trans {w w1 w2 : World} {base g : Nat} {ok : Nat → Prop} {r : List S34 × Bool × Int} {e : Ending} (hb : Below base w w1) (hk : Kept w w1 (Mine g ok)) (h : BPost w1 base g ok r e w2) : BPost w base g ok r e w2 :=
  ⟨h.1, h.2.1, hb.trans h.2.2.1, hk.then_ h.2.2.2 (fun _ h => .inl h)⟩
theorem BPost.before {w w1 w2 : World} {base g : Nat} {ok : Nat → Prop} {r : List S34 × Bool × Int} {e : Ending} (hs : base ≤ w.heap.size) (hb : Below w.heap.size w w1) (h : BPost w1 base g ok r e w2) : BPost w base g ok r e w2 :=
  h.trans (hb.mono hs) (Kept.of_below hb _)
theorem BPost.bn {w w1 : World} {base g : Nat} {ok : Nat → Prop} {r : List S34 × Bool × Int} {e : Ending} (h : BPost w base g ok r e w1) : BnS w1 base g ok r.1 r.2.1 := h.2.1
theorem BPost.bel {w w1 : World} {base g : Nat} {ok : Nat → Prop} {r : List S34 × Bool × Int} {e : Ending} (h : BPost w base g ok r e w1) : Below base w w1 := h.2.2.1
theorem BPost.kept {w w1 : World} {base g : Nat} {ok : Nat → Prop} {r : List S34 × Bool × Int} {e : Ending} (h : BPost w base g ok r e w1) : Kept w w1 (Mine g ok) := h.2.2.2

theorem copyI_f {l : List S34} (h : l.length ≤ 1048576) : impl_copyArena.f l = some l := by
 unfold impl_copyArena.f
 simp only [Option.bind_some, List.length_nil, List.nil_append]
 rw [if_pos (by omega)]
def BenchOfPost (w : World) (l : List S34) (e : Ending) (w' : World) : Prop := ∃ g, e = .returned (.pointer (some ⟨g, 0, none⟩)) ∧ w.heap.size ≤ g ∧ BnS w' w.heap.size g (fun k => w.heap.size ≤ k ∧ k ≠ g) l false ∧ Below w.heap.size w w'
set_option maxHeartbeats 8000000 in
set_option maxRecDepth 100000 in
theorem impl_benchOf (A : Option Addr) (c : Nat) (l : List S34) (w : World) (hr : Kd.C k34 w A l.length l) (hc : l.length ≤ c) (hl : l.length ≤ 1048576) :
  Calls Try.prog 92 #[.agg #[.slice A l.length c]] w (BenchOfPost w l) := by
 have hu26 := Try.underlying26
 have hu132 := Try.underlying132
 have HR := Aside0.mk hr
 have HC := Aside0.mk hc
 have HCF := Aside0.mk (copyI_f hl)
 have HL := Aside0.mk hl
 clear hr hc hl
 have hfd : ∀ (A : Option Addr) (n c : Nat) (w : World), (Instr.field 26 (.agg #[.slice A n c]) 0).run Try.prog w = .ok (.slice A n c) w := fun _ _ _ _ => by kernel_rfl
 go_enter Try.func92, Try.ntmps92
 go_wp2_with (first | ((with_reducible refine gate_dst (N := 1) rfl ?_); refine box_event ?hg (N := 1) ?hd (cs := #[.slice A l.length c]) (t := 26) ?hr ?_; (case hd => rfl); (case hg => rfl); (case hr => first | (go_simp; done) | (go_simp; rfl)); intro ga hg1 w3 hbox hb; have BKa := Aside0.mk hbox; have HB3 := Aside0.mk hb; have GA := Aside0.mk hg1; clear hg1 hbox hb; have hca : w3.cell? ⟨ga, 0, none⟩ = some (.slice A l.length c) := (blk_cell BKa.out 0).trans rfl) | (go_at_call 103; ((with_reducible refine (impl_copyArena.calls A c l l _ (Kd.C_below HR.out HB3.out) HC.out HCF.out).mono ?_); rintro e w4 ⟨v0, rfl, ho, hb⟩); have HO4 := Aside0.mk ho; have HB4 := Aside0.mk hb; obtain ⟨Ao, co, rfl, hlo, _⟩ := Kd.R_reads ho; clear ho hb hlo) | ((with_reducible refine gate_dst (N := 7) rfl ?_); refine box_event ?hg (N := 7) ?hd (cs := #[.slice Ao l.length co, .bool false]) (t := 132) ?hr ?_; (case hd => rfl); (case hg => rfl); (case hr => first | (go_simp; done) | (go_simp; rfl)); intro g hg1 w5 hbox hb; have BK5 := Aside0.mk hbox; have HB5 := Aside0.mk hb; have GB5 := Aside0.mk hg1; clear hg1 hbox hb))
 go_ret
 refine ⟨g, rfl, by rw [GB5.out]; exact Nat.le_trans HB3.out.size HB4.out.size, ⟨⟨_, BK5.out, by rw [GB5.out]; exact Nat.le_trans HB3.out.size HB4.out.size, fun h => h.2 rfl, ?_⟩, fun k hk => ⟨?_, ?_⟩, HL.out⟩, below_step (below_step HB3.out HB4.out) HB5.out⟩
 ·refine Kd.R_below (Kd.R_lower (Kd.R_mono (Kd.R_bound HO4.out) (fun k hk => ⟨Nat.le_trans HB3.out.size hk.2.1, ?_⟩)) HB3.out.size) HB5.out
  have h1 := hk.2.2.1
  have h2 := GB5.out
  omega
 ·exact Nat.le_trans (Nat.le_trans HB3.out.size (Nat.le_trans HB4.out.size HB5.out.size)) hk
 ·have h1 := blk_lt BK5.out
  omega
def EndPost (w : World) (base : Nat) (ok : Nat → Prop) (r : List S34 × Int) (e : Ending) (w' : World) : Prop := ∃ v, e = .returned (.tuple #[.agg #[v], .int .i64 r.2]) ∧ Kd.R k34 34 w' base ok v r.1 ∧ Below w.heap.size w w'
theorem end_copy {w w4 w5 : World} {base gr : Nat} {ok : Nat → Prop} {A : Option Addr} {c : Nat} {l : List S34} {u : Value} (ho : Kd.R k34 34 w5 w4.heap.size (fun _ => True) (.slice A l.length c) l) (hb : base ≤ w.heap.size) (h4 : w.heap.size ≤ w4.heap.size) (hg : gr < w4.heap.size) (hf : ∀ k, w.heap.size ≤ k → ok k) : Kd.R k34 34 (w5.setCell ⟨gr, 0, none⟩ u) base ok (.slice A l.length c) l :=
  Kd.R_lower (Kd.R_mono (Kd.R_far (p := ⟨gr, 0, none⟩) (Kd.R_mono (Kd.R_bound ho) (fun k hk => (show w4.heap.size ≤ k from hk.2.1))) (fun k hk e => by have e' : k = gr := e; omega) _) (fun k hk => hf k (Nat.le_trans h4 hk))) (Nat.le_trans hb h4)
theorem end_own {w w4 : World} {base gr : Nat} {ok : Nat → Prop} {A : Option Addr} {c : Nat} {l : List S34} {u : Value} (ho : Kd.R k34 34 w base ok (.slice A l.length c) l) (h4 : Below w.heap.size w w4) (hg : w.heap.size ≤ gr) : Kd.R k34 34 (w4.setCell ⟨gr, 0, none⟩ u) base ok (.slice A l.length c) l :=
  Kd.R_mono (Kd.R_far (p := ⟨gr, 0, none⟩) (Kd.R_below (Kd.R_elderB ho gr hg) h4) (fun k hk => hk.2) _) (fun k hk => hk.1)
set_option maxHeartbeats 8000000 in
set_option maxRecDepth 100000 in
theorem impl_end (A : Option Addr) (c : Nat) (l0 : List S34) (s : List S34 × Bool × Int) (w w0 : World) (base g : Nat) (ok : Nat → Prop) (h : BnS w base g ok s.1 s.2.1) (hr : Kd.C k34 w0 A l0.length l0) (hc : l0.length ≤ c) (h0 : Below w0.heap.size w0 w) (hw0 : w0.heap.size ≤ w.heap.size) (hl : l0.length ≤ 1048576) :
  Calls Try.prog 94 #[.pointer (some ⟨g, 0, none⟩), .agg #[.slice A l0.length c], .int .i64 s.2.2] w (EndPost w base ok (endN l0 s)) := by
 have hu26 := Try.underlying26
 have hu132 := Try.underlying132
 have HBS := Aside0.mk (show base ≤ w.heap.size by have := h.1.size; omega)
 obtain ⟨⟨v, hblk, hbg, hno, hR⟩, hfr, _⟩ := h
 obtain ⟨Ag, cg, rfl, hlg, _⟩ := Kd.R_reads hR
 have HG := Aside0.mk hblk
 have HRG := Aside0.mk hR
 have HF := Aside0.mk hfr
 have HR0 := Aside0.mk hr
 have HC0 := Aside0.mk hc
 have H0 := Aside0.mk h0
 have HCF := Aside0.mk (copyI_f hl)
 clear hblk hR hfr hbg hno hlg hr hc h0 hl
 by_cases hb : s.2.1 = true
 ·have he : endN l0 s = (l0, -1) := by unfold endN; rw [if_pos (.inl hb)]
  have HE := Aside0.mk he
  rw [hb] at HG
  clear he
  go_enter Try.func94, Try.ntmps94
  go_wp2_with (first | ((with_reducible refine gate_dst (N := 4) rfl ?_); refine box_event ?hg (N := 4) ?hd (cs := #[.slice A l0.length c]) (t := 26) ?hr ?_; (case hd => rfl); (case hg => rfl); (case hr => first | (go_simp; done) | (go_simp; rfl)); intro ga hg1 w3 hbox hb; have BKa := Aside0.mk hbox; have HB3 := Aside0.mk hb; have GA := Aside0.mk hg1; clear hg1 hbox hb) | ((with_reducible refine gate_dst (N := 6) rfl ?_); refine box_event ?hg (N := 6) ?hd (cs := #[.slice none 0 0]) (t := 26) ?hr ?_; (case hd => rfl); (case hg => rfl); (case hr => first | (go_simp; done) | (go_simp; rfl)); intro gr hg1 w4 hbox hb; have BKr := Aside0.mk hbox; have HB4 := Aside0.mk hb; have GR := Aside0.mk hg1; clear hg1 hbox hb; have HBw4 := Aside0.mk (below_step HB3.out HB4.out); have BKa4 := Aside0.mk (blk_below BKa.out HB4.out); have BKg4 := Aside0.mk (blk_below HG.out HBw4.out); have hca4 : w4.cell? ⟨ga, 0, none⟩ = some (.slice A l0.length c) := (blk_cell BKa4.out 0).trans rfl; have hcr4 : w4.cell? ⟨gr, 0, none⟩ = some (.slice none 0 0) := (blk_cell BKr.out 0).trans rfl; have hfr4 := blk_frozen BKr.out 0; have hcg4 : w4.cell? ⟨g, 0, none⟩ = some (.slice Ag s.1.length cg) := (blk_cell BKg4.out 0).trans rfl; have hcb4 : w4.cell? ⟨g, 1, none⟩ = some (.bool true) := (blk_cell BKg4.out 1).trans rfl) | (go_at_call 103; ((with_reducible refine (impl_copyArena.calls A c l0 l0 _ (Kd.C_below HR0.out (below_step H0.out HBw4.out)) HC0.out HCF.out).mono ?_); rintro e w5 ⟨v0, rfl, ho, hb⟩); have HO5 := Aside0.mk ho; have HB5 := Aside0.mk hb; obtain ⟨Ao, co, rfl, hlo, _⟩ := Kd.R_reads ho; clear ho hb hlo; have BKr5 := Aside0.mk (blk_below BKr.out HB5.out); have hcr5 : w5.cell? ⟨gr, 0, none⟩ = some (.slice none 0 0) := (blk_cell BKr5.out 0).trans rfl; have hfr5 := blk_frozen BKr5.out 0))
  rw [HE.out]
  refine bodyPost_ret (results_ct rfl _ _ gr 26 #[.slice Ao l0.length co] (0, 0) _ rfl (blk_put BKr5.out 0 _ rfl) Try.underlying26 rfl (by kernel_rfl)) rfl ?_
  exact ⟨_, rfl, end_copy HO5.out HBS.out HBw4.out.size (blk_lt BKr.out) HF.out, below_set (below_step HBw4.out HB5.out) (by rw [GR.out]; exact HB3.out.size)⟩
 ·have hb0 : s.2.1 = false := by simpa using hb
  rw [hb0] at HG
  by_cases hk : s.2.2 < 0
  ·have he : endN l0 s = (l0, -1) := by unfold endN; rw [if_pos (.inr hk)]
   have HE := Aside0.mk he
   have hkd : decide (s.2.2 < 0) = true := decide_eq_true hk
   clear he hk hb
   go_enter Try.func94, Try.ntmps94
   go_wp2_with (first | ((with_reducible refine gate_dst (N := 4) rfl ?_); refine box_event ?hg (N := 4) ?hd (cs := #[.slice A l0.length c]) (t := 26) ?hr ?_; (case hd => rfl); (case hg => rfl); (case hr => first | (go_simp; done) | (go_simp; rfl)); intro ga hg1 w3 hbox hb; have BKa := Aside0.mk hbox; have HB3 := Aside0.mk hb; have GA := Aside0.mk hg1; clear hg1 hbox hb) | ((with_reducible refine gate_dst (N := 6) rfl ?_); refine box_event ?hg (N := 6) ?hd (cs := #[.slice none 0 0]) (t := 26) ?hr ?_; (case hd => rfl); (case hg => rfl); (case hr => first | (go_simp; done) | (go_simp; rfl)); intro gr hg1 w4 hbox hb; have BKr := Aside0.mk hbox; have HB4 := Aside0.mk hb; have GR := Aside0.mk hg1; clear hg1 hbox hb; have HBw4 := Aside0.mk (below_step HB3.out HB4.out); have BKa4 := Aside0.mk (blk_below BKa.out HB4.out); have BKg4 := Aside0.mk (blk_below HG.out HBw4.out); have hca4 : w4.cell? ⟨ga, 0, none⟩ = some (.slice A l0.length c) := (blk_cell BKa4.out 0).trans rfl; have hcr4 : w4.cell? ⟨gr, 0, none⟩ = some (.slice none 0 0) := (blk_cell BKr.out 0).trans rfl; have hfr4 := blk_frozen BKr.out 0; have hcg4 : w4.cell? ⟨g, 0, none⟩ = some (.slice Ag s.1.length cg) := (blk_cell BKg4.out 0).trans rfl; have hcb4 : w4.cell? ⟨g, 1, none⟩ = some (.bool false) := (blk_cell BKg4.out 1).trans rfl) | (go_at_call 103; ((with_reducible refine (impl_copyArena.calls A c l0 l0 _ (Kd.C_below HR0.out (below_step H0.out HBw4.out)) HC0.out HCF.out).mono ?_); rintro e w5 ⟨v0, rfl, ho, hb⟩); have HO5 := Aside0.mk ho; have HB5 := Aside0.mk hb; obtain ⟨Ao, co, rfl, hlo, _⟩ := Kd.R_reads ho; clear ho hb hlo; have BKr5 := Aside0.mk (blk_below BKr.out HB5.out); have hcr5 : w5.cell? ⟨gr, 0, none⟩ = some (.slice none 0 0) := (blk_cell BKr5.out 0).trans rfl; have hfr5 := blk_frozen BKr5.out 0))
   rw [HE.out]
   refine bodyPost_ret (results_ct rfl _ _ gr 26 #[.slice Ao l0.length co] (0, 0) _ rfl (blk_put BKr5.out 0 _ rfl) Try.underlying26 rfl (by kernel_rfl)) rfl ?_
   exact ⟨_, rfl, end_copy HO5.out HBS.out HBw4.out.size (blk_lt BKr.out) HF.out, below_set (below_step HBw4.out HB5.out) (by rw [GR.out]; exact HB3.out.size)⟩
  ·have he : endN l0 s = (s.1, s.2.2) := by unfold endN; rw [if_neg (by rw [hb0]; simp; omega)]
   have HE := Aside0.mk he
   have hkd : decide (s.2.2 < 0) = false := decide_eq_false hk
   clear he hk hb
   go_enter Try.func94, Try.ntmps94
   go_wp2_with (first | ((with_reducible refine gate_dst (N := 4) rfl ?_); refine box_event ?hg (N := 4) ?hd (cs := #[.slice A l0.length c]) (t := 26) ?hr ?_; (case hd => rfl); (case hg => rfl); (case hr => first | (go_simp; done) | (go_simp; rfl)); intro ga hg1 w3 hbox hb; have BKa := Aside0.mk hbox; have HB3 := Aside0.mk hb; have GA := Aside0.mk hg1; clear hg1 hbox hb) | ((with_reducible refine gate_dst (N := 6) rfl ?_); refine box_event ?hg (N := 6) ?hd (cs := #[.slice none 0 0]) (t := 26) ?hr ?_; (case hd => rfl); (case hg => rfl); (case hr => first | (go_simp; done) | (go_simp; rfl)); intro gr hg1 w4 hbox hb; have BKr := Aside0.mk hbox; have HB4 := Aside0.mk hb; have GR := Aside0.mk hg1; clear hg1 hbox hb; have HBw4 := Aside0.mk (below_step HB3.out HB4.out); have BKa4 := Aside0.mk (blk_below BKa.out HB4.out); have BKg4 := Aside0.mk (blk_below HG.out HBw4.out); have hca4 : w4.cell? ⟨ga, 0, none⟩ = some (.slice A l0.length c) := (blk_cell BKa4.out 0).trans rfl; have hcr4 : w4.cell? ⟨gr, 0, none⟩ = some (.slice none 0 0) := (blk_cell BKr.out 0).trans rfl; have hfr4 := blk_frozen BKr.out 0; have hcg4 : w4.cell? ⟨g, 0, none⟩ = some (.slice Ag s.1.length cg) := (blk_cell BKg4.out 0).trans rfl; have hcb4 : w4.cell? ⟨g, 1, none⟩ = some (.bool false) := (blk_cell BKg4.out 1).trans rfl))
   rw [HE.out]
   refine bodyPost_ret (results_ct rfl _ _ gr 26 #[.slice Ag s.1.length cg] (0, 0) _ rfl (blk_put BKr.out 0 _ rfl) Try.underlying26 rfl (by kernel_rfl)) rfl ?_
   exact ⟨_, rfl, end_own HRG.out HBw4.out (by rw [GR.out]; exact HB3.out.size), below_set HBw4.out (by rw [GR.out]; exact HB3.out.size)⟩

theorem impl_end' {A : Option Addr} {c : Nat} {l0 : List S34} {s : List S34 × Bool × Int} {w w0 : World} {base g : Nat} {ok : Nat → Prop} {r : List S34 × Int} (h : BnS w base g ok s.1 s.2.1) (hr : Kd.C k34 w0 A l0.length l0) (hc : l0.length ≤ c) (h0 : Below w0.heap.size w0 w) (hw0 : w0.heap.size ≤ w.heap.size) (hl : l0.length ≤ 1048576) (he : endN l0 s = r) :
    Calls Try.prog 94 #[.pointer (some ⟨g, 0, none⟩), .agg #[.slice A l0.length c], .int .i64 s.2.2] w (EndPost w base ok r) := he ▸ impl_end A c l0 s w w0 base g ok h hr hc h0 hw0 hl

theorem top_own {w w4 w7 : World} {g gr : Nat} {A : Option Addr} {c : Nat} {l : List S34} {u : Value} (ho : Kd.R k34 34 w7 w4.heap.size (fun k => w4.heap.size ≤ k ∧ k ≠ g) (.slice A l.length c) l) (hs : w.heap.size ≤ w4.heap.size) (hg : gr < w4.heap.size) : Kd.R k34 34 (w7.setCell ⟨gr, 0, none⟩ u) w.heap.size (fun _ => True) (.slice A l.length c) l :=
  Kd.R_lower (Kd.R_mono (Kd.R_far (p := ⟨gr, 0, none⟩) ho (fun k hk e => by have e' : k = gr := e; have := hk.1; omega) _) (fun _ _ => trivial)) hs

theorem hs_post {P : Program} {f : Nat} {args : Array Value} {w : World} {base g : Nat} {ok : Nat → Prop} {u s : List S34 × Bool × Int} (h : u = s) (hc : Calls P f args w (BPost w base g ok u)) : Calls P f args w (BPost w base g ok s) := h ▸ hc

end Hand
open Hand in
def impl_Put.f (l0_0 : List S34) (a1_0 : Int) (a1_1 : Int) (a1_2 : Int) (a1_3 : Int) : Option (List S34 × Int) := if l0_0.length ≤ 1048576 then some (endN l0_0 (putB l0_0 false ⟨a1_0, a1_1, a1_2, a1_3⟩)) else none
open Hand in
set_option maxHeartbeats 8000000 in
set_option maxRecDepth 100000 in
theorem impl_Put.calls (A0_0 : Option Addr) (c0_0 : Nat) (l0_0 : List (S34)) (a1_0 : Int) (a1_1 : Int) (a1_2 : Int) (a1_3 : Int) (r1 : List (S34)) (r2 : Int) (w : World) (hr0_0 : Kd.C k34 w A0_0 l0_0.length l0_0) (hc0_0 : l0_0.length ≤ c0_0)  (h : impl_Put.f l0_0 a1_0 a1_1 a1_2 a1_3 = some (r1, r2)) :
  Calls Try.prog 56 #[.agg #[.slice A0_0 l0_0.length c0_0], .agg #[.int .i64 a1_0, .int .i64 a1_1, .int .i64 a1_2, .int .i64 a1_3]] w fun e w' => ∃ v0_ : Value, e = .returned (.tuple #[.agg #[v0_], .int .i64 r2]) ∧ Kd.R k34 34 w' w.heap.size (fun _ => True) v0_ r1 ∧ Below w.heap.size w w' := by
 have hu26 := Try.underlying26
 unfold impl_Put.f at h
 by_cases hl0 : l0_0.length ≤ 1048576
 ·rw [if_pos hl0] at h
  have hl : l0_0.length ≤ 1048576 := hl0
  have HL := Aside0.mk hl
  have HL0 := Aside0.mk hl0
  have HR0 := Aside0.mk hr0_0
  have HC0 := Aside0.mk hc0_0
  clear hl hl0 hr0_0 hc0_0
  obtain ⟨s, hs⟩ : ∃ s, putB l0_0 false ⟨a1_0, a1_1, a1_2, a1_3⟩ = s := ⟨_, rfl⟩
  rw [hs] at h
  have HS := Aside0.mk hs
  have HE := Aside0.mk (Option.some.inj h)
  clear hs h
  go_enter Try.func56, Try.ntmps56
  go_wp2_with (first | ((with_reducible refine gate_dst (N := 2) rfl ?_); refine box_event ?hg (N := 2) ?hd (cs := #[.slice A0_0 l0_0.length c0_0]) (t := 26) ?hr ?_; (case hd => rfl); (case hg => rfl); (case hr => first | (go_simp; done) | (go_simp; rfl)); intro ga hg1 w3 hbox hb; have BKa := Aside0.mk hbox; have HB3 := Aside0.mk hb; have GA := Aside0.mk hg1; clear hg1 hbox hb) | ((with_reducible refine gate_dst (N := 3) rfl ?_); refine box_event ?hg (N := 3) ?hd (cs := #[.int .i64 a1_0, .int .i64 a1_1, .int .i64 a1_2, .int .i64 a1_3]) (t := 34) ?hr ?_; (case hd => rfl); (case hg => rfl); (case hr => first | (go_simp; done) | (go_simp; rfl)); intro gn hg1 w3n hbox hb; have BKn := Aside0.mk hbox; have HBn := Aside0.mk hb; have GN := Aside0.mk hg1; clear hg1 hbox hb; have HB3n := Aside0.mk (below_step HB3.out HBn.out); have BKan := Aside0.mk (blk_below BKa.out HBn.out)) | ((with_reducible refine gate_dst (N := 4) rfl ?_); refine box_event ?hg (N := 4) ?hd (cs := #[.slice none 0 0]) (t := 26) ?hr ?_; (case hd => rfl); (case hg => rfl); (case hr => first | (go_simp; done) | (go_simp; rfl)); intro gr hg1 w4 hbox hb; have BKr := Aside0.mk hbox; have HB4 := Aside0.mk hb; have GR := Aside0.mk hg1; clear hg1 hbox hb; have HBw4 := Aside0.mk (below_step HB3n.out HB4.out); have BKa4 := Aside0.mk (blk_below BKan.out HB4.out); have hca4 : w4.cell? ⟨ga, 0, none⟩ = some (.slice A0_0 l0_0.length c0_0) := (blk_cell BKa4.out 0).trans rfl; have BKn4 := Aside0.mk (blk_below BKn.out HB4.out)) | (go_at_call 92; ((with_reducible refine (impl_benchOf A0_0 c0_0 l0_0 _ (Kd.C_below HR0.out HBw4.out) HC0.out HL.out).mono ?_); rintro e w5 hp); obtain ⟨g, rfl, hgs, hB5, hb5⟩ := hp; have HBN := Aside0.mk hB5; have HB5 := Aside0.mk hb5; clear hgs hB5 hb5; have BKn5 := Aside0.mk (blk_below BKn4.out HB5.out); have hn0 : w5.cell? ⟨gn, 0, none⟩ = some (.int .i64 a1_0) := (blk_cell BKn5.out 0).trans rfl; have hn1 : w5.cell? ⟨gn, 1, none⟩ = some (.int .i64 a1_1) := (blk_cell BKn5.out 1).trans rfl; have hn2 : w5.cell? ⟨gn, 2, none⟩ = some (.int .i64 a1_2) := (blk_cell BKn5.out 2).trans rfl; have hn3 : w5.cell? ⟨gn, 3, none⟩ = some (.int .i64 a1_3) := (blk_cell BKn5.out 3).trans rfl) | (go_at_call 112; ((with_reducible refine (hs_post HS.out (impl_put l0_0 false ⟨a1_0, a1_1, a1_2, a1_3⟩ _ w4.heap.size g _ HBN.out)).mono ?_); rintro e w6 hp); have HP6 := Aside0.mk hp; obtain ⟨rfl, _⟩ := hp; have HB6 := Aside0.mk (below_step HBw4.out (HB5.out.trans HP6.out.2.2.1)); have BKa6 := Aside0.mk ((HP6.out.2.2.1.block ga (blk_lt BKa4.out)).trans (blk_below BKa4.out HB5.out)); have BKr6 := Aside0.mk ((HP6.out.2.2.1.block gr (blk_lt BKr.out)).trans (blk_below BKr.out HB5.out)); have hca6 : w6.cell? ⟨ga, 0, none⟩ = some (.slice A0_0 l0_0.length c0_0) := (blk_cell BKa6.out 0).trans rfl) | (go_at_call 94; ((with_reducible refine (impl_end' (s := s) HP6.out.bn HR0.out HC0.out HB6.out HB6.out.size HL.out HE.out).mono ?_); rintro e w7 hp); obtain ⟨v, rfl, hR7, hb7⟩ := hp; obtain ⟨A7, c7, rfl, hl7, _⟩ := Kd.R_reads hR7; have HR7 := Aside0.mk hR7; have HB7 := Aside0.mk hb7; clear hR7 hl7 hb7; have BKr7 := Aside0.mk (blk_below BKr6.out HB7.out); have hcr7 : w7.cell? ⟨gr, 0, none⟩ = some (.slice none 0 0) := (blk_cell BKr7.out 0).trans rfl; have hfr7 := blk_frozen BKr7.out 0))
  refine bodyPost_ret (results_ct rfl _ _ gr 26 #[.slice A7 r1.length c7] (0, 0) _ rfl (blk_put BKr7.out 0 _ rfl) Try.underlying26 rfl (by kernel_rfl)) rfl ?_
  exact ⟨_, rfl, top_own HR7.out HBw4.out.size (blk_lt BKr.out), below_set (below_step HB6.out HB7.out) (by rw [GR.out]; exact HB3n.out.size)⟩
 ·rw [if_neg hl0] at h
  cases h
namespace Hand

end Hand

end Go.Proofs.Ytkckdibalopagaa.SFnTerms
