-- Began as a print of the kit over stubs (wip/stub.py); the sections that are named OWN are this session's.
import Derived.Test.YtdhpcchmhikgeaaDoorSFnNumbersx0
import Derived.Test.YtdhpcchmhikgeaaDoorShelf
import Derived.Test.YtdhpcchmhikgeaaDoorBase
import Derived.Lib.AtoiTie
import Derived.Lib.AtoiAllCases
import Derived.Lib.ItoaMem
import Derived.Lib.LaidTab
namespace Go.Proofs.YtdhpcchmhikgeaaDoor.SFnNumbers
open Go.RowKit Go.Proofs.YtdhpcchmhikgeaaDoorW.PrintWords Go.Proofs.YtdhpcchmhikgeaaDoorW.PrintLast Go.Proofs.YtdhpcchmhikgeaaDoorW.PrintMore
attribute [local go_sem] max2_int min2_int max_two min_two max_three min_three max_four min_four   -- for this text's walks alone
set_option linter.unusedVariables false
set_option linter.unusedSimpArgs false

/-! ### impl_Decimal: OWN: function 8 -/
namespace Hand
open Go.Proofs.YtdhpcchmhikgeaaDoor.Base
/-! a decimal numeral, with no program in sight (out of Decimal and ReadDec) -/
def itoaB (a : Int) : ByteArray := ⟨(Lib.itoa a).toArray⟩
theorem decFrom_app (l r : List UInt8) : ∀ acc, Lib.decFrom acc (l ++ r) = (Lib.decFrom acc l).bind (fun m => Lib.decFrom m r) := by
  induction l with
  | nil => intro acc; rfl
  | cons b l ih =>
    intro acc
    simp only [List.cons_append, Lib.decFrom]
    cases Lib.digitVal b with
    | none => rfl
    | some d => exact ih _
theorem digit_val {d : Nat} (h : d < 10) : Lib.digitVal (UInt8.ofNat (48 + d)) = some d := by
  have : (UInt8.ofNat (48 + d)).toNat = 48 + d := by rw [UInt8.toNat_ofNat']; omega
  unfold Lib.digitVal
  rw [this, if_pos (by omega)]
  congr 1
  omega
theorem decFrom_digits (u : Nat) : Lib.decFrom 0 (Lib.decDigits u) = some u := by
  induction u using Nat.strongRecOn with
  | _ u ih =>
    rw [Lib.decDigits]
    by_cases h1 : u < 10
    · rw [dif_pos h1]
      simp only [Lib.decFrom]
      rw [digit_val h1]
      simp
    · rw [dif_neg h1, decFrom_app, ih (u / 10) (by omega)]
      simp only [Option.bind_some, Lib.decFrom]
      rw [digit_val (Nat.mod_lt _ (by omega))]
      simp only
      congr 1
      omega
theorem digits_ne (u : Nat) : ∃ c r, Lib.decDigits u = c :: r ∧ 48 ≤ c.toNat ∧ c.toNat ≤ 57 := by
  induction u using Nat.strongRecOn with
  | _ u ih =>
    rw [Lib.decDigits]
    by_cases h1 : u < 10
    · rw [dif_pos h1]
      have : (UInt8.ofNat (48 + u)).toNat = 48 + u := by rw [UInt8.toNat_ofNat']; omega
      exact ⟨_, _, rfl, by omega, by omega⟩
    · rw [dif_neg h1]
      obtain ⟨c, r, e, h⟩ := ih (u / 10) (by omega)
      rw [e]
      exact ⟨c, _, rfl, h⟩
theorem digits_len (d : Nat) : ∀ u : Nat, u < 10 ^ (d + 1) → (Lib.decDigits u).length ≤ d + 1 := by
  induction d with
  | zero => intro u hu; rw [Lib.decDigits, dif_pos (by omega)]; simp
  | succ d ih =>
    intro u hu
    rw [Lib.decDigits]
    by_cases h1 : u < 10
    · rw [dif_pos h1]; simp
    · rw [dif_neg h1, List.length_append]
      have := ih (u / 10) (by rw [Nat.pow_succ] at hu; omega)
      simp
      omega
theorem atoi_digits (u : Nat) : Lib.atoi (Lib.decDigits u) = some (u : Int) := by
  obtain ⟨c, r, e, h1, h2⟩ := digits_ne u
  have hd := decFrom_digits u
  rw [e] at hd ⊢
  unfold Lib.atoi Lib.decNat
  have n45 : (c == 45) = false := by
    rw [beq_eq_false_iff_ne]
    rintro rfl
    simp at h1
  have n43 : (c == 43) = false := by
    rw [beq_eq_false_iff_ne]
    rintro rfl
    simp at h1
  simp [n45, n43, hd]
theorem size_list (s : ByteArray) : s.data.toList.length = s.size := Array.length_toList
def readDecI (t : ByteArray) : Int × Bool := match Lib.atoiAll t.data.toList with
  | .ok v => if 0 ≤ v ∧ v ≤ 1000000000 ∧ (itoaB v).toList = t.toList then (v, true) else (0, false)
  | _ => (0, false)
theorem itoaB_data (m : Nat) : (itoaB (m : Int)).data.toList = Lib.decDigits m := by
  unfold itoaB
  rw [Lib.itoa_nonneg]
theorem readDecI_itoa {m : Nat} (hm : m ≤ 1000000000) : readDecI (itoaB (m : Int)) = ((m : Int), true) := by
  have hl := digits_len 9 m (by omega)
  unfold readDecI
  rw [itoaB_data, Lib.atoiAll_short _ (by omega), atoi_digits]
  simp only [Lib.NumEnd.ofOption]
  rw [if_pos ⟨by omega, by omega, trivial⟩]
theorem itoaB_size {m : Nat} (hm : m ≤ 1000000000) : (itoaB (m : Int)).size ≤ 10 := by
  have hl := digits_len 9 m (by omega)
  rw [← size_list, itoaB_data]
  exact hl
theorem gTab : Tryd.prog.globalNamed "internal/strconv.uint64pow10" = some 3 := by kernel_rfl
theorem gTabType : (Tryd.prog.globals[3]?).map (·.type) = some 91 := by kernel_rfl
theorem cells91 : Tryd.prog.cellsOf 91 = 20 := by kernel_rfl
theorem cells75 : Tryd.prog.cellsOf 75 = 1 := by kernel_rfl
theorem tab_below {w w1 : World} (h : Lib.TabIs Tryd.prog w "internal/strconv.uint64pow10" .u64 Lib.pow10Tab) (hb : Below w.heap.size w w1) : Lib.TabIs Tryd.prog w1 "internal/strconv.uint64pow10" .u64 Lib.pow10Tab := by
  unfold Lib.TabIs World.var? at h ⊢
  rw [gTab, Option.bind_some] at h ⊢
  have h3 : 3 < w.heap.size := by
    rcases Nat.lt_or_ge 3 w.heap.size with hlt | hge
    · exact hlt
    · rw [Array.getElem?_eq_none hge] at h
      cases h
  rw [hb.block 3 h3]
  exact h
theorem below_grow (w : World) (k : Nat) (os : Array Obj) : Below w.heap.size w (Go.Sort.grow (w.drewN k) os) :=
  ⟨rfl, rfl, rfl, by show w.heap.size ≤ (w.heap ++ os).size; rw [Array.size_append]; omega, fun i hi => by
    show (w.heap ++ os)[i]? = w.heap[i]?
    rw [Array.getElem?_append_left hi]⟩
theorem var_below {n : String} {cs : Array Value} {w w1 : World} (h : w.var? Tryd.prog n = some cs) (hb : Below w.heap.size w w1) : w1.var? Tryd.prog n = some cs := by
  unfold World.var? at h ⊢
  cases hg : Tryd.prog.globalNamed n with
  | none => rw [hg] at h; cases h
  | some g =>
    rw [hg, Option.bind_some] at h
    rw [Option.bind_some]
    have h3 : g < w.heap.size := by
      rcases Nat.lt_or_ge g w.heap.size with hlt | hge
      · exact hlt
      · rw [Array.getElem?_eq_none hge] at h
        cases h
    rw [hb.block g h3]
    exact h
theorem old_below {w w' : World} (h : w' = w ∨ ∃ t, w' = Lib.bytesWorld w 5 t) : Below w.heap.size w w' := by
  rcases h with rfl | ⟨t, rfl⟩
  · exact Below.refl _ _
  · exact bytes_below (Below.refl _ _) (Nat.le_refl _) 5 t
def Wd (w : World) : Prop := Lib.TabIs Tryd.prog w "internal/strconv.uint64pow10" .u64 Lib.pow10Tab ∧ (∃ p, w.var? Tryd.prog "strconv.ErrSyntax" = some #[.iface 97 p]) ∧ (∃ p, w.var? Tryd.prog "strconv.ErrRange" = some #[.iface 97 p])
theorem Wd.below {w W : World} (h : Wd w) (hb : Below w.heap.size w W) : Wd W := by
  obtain ⟨h1, ⟨p, h2⟩, ⟨q, h3⟩⟩ := h
  exact ⟨tab_below h1 hb, ⟨p, var_below h2 hb⟩, ⟨q, var_below h3 hb⟩⟩
theorem impl_Decimal_at (a : Int) (h : (Lit.int .i64 a).wf = true) (w : World) (hT : Lib.TabIs Tryd.prog w "internal/strconv.uint64pow10" .u64 Lib.pow10Tab) :
    Calls Tryd.prog 8 #[.int .i64 a] w fun e w' => e = .returned (.string (itoaB a)) ∧ Below w.heap.size w w' := by
  have hr := wf64 h
  go_enter Tryd.func8, Tryd.ntmps8
  go_wp2_with (go_at_call 26; refine (Tryd.strconv_Itoa a hr.1 hr.2 _ hT).mono ?_; rintro e w' ⟨rfl, k, os, rfl⟩)
  go_ret
  exact ⟨rfl, below_grow w k os⟩
end Hand
open Hand in
def impl_Decimal.f (a0 : Int) : Option (ByteArray) := if -9223372036854775808 ≤ a0 ∧ a0 ≤ 9223372036854775807 then some (itoaB a0) else none
open Hand in
theorem impl_Decimal.calls (a0 : Int) (r : ByteArray) (w : World) (hm : Wd w) (h : impl_Decimal.f a0 = some r) :
    Calls Tryd.prog 8 #[.int .i64 a0] w fun e w' => e = .returned (.string r) ∧ Below w.heap.size w w' := by
  unfold impl_Decimal.f at h
  by_cases hs : -9223372036854775808 ≤ a0 ∧ a0 ≤ 9223372036854775807
  · rw [if_pos hs] at h
    obtain rfl := Option.some.inj h
    exact impl_Decimal_at a0 (by simpa [Lit.wf, IntKind.min, IntKind.max, IntKind.signed, IntKind.bits] using hs) w hm.1
  · rw [if_neg hs] at h
    cases h

/-! ### impl_within: function 27 -/
def impl_within.f (a0 : Int) (a1 : Int) (a2 : Int) : Option (Bool) := if a0 ≥ a1 then (some (decide (a0 ≤ a2))) else (some false)
set_option maxHeartbeats 8000000 in
set_option maxRecDepth 100000 in
theorem impl_within.calls (a0 : Int) (a1 : Int) (a2 : Int) (r : Bool) (w : World) (h : impl_within.f a0 a1 a2 = some r) :
    Calls Tryd.prog 27 #[.int .i64 a0, .int .i64 a1, .int .i64 a2] w fun e w' => e = .returned (.bool r) ∧ Drawn0 w w' := by
  have H : (if a0 ≥ a1 then (some (decide (a0 ≤ a2))) else (some false)) = some r := h
  clear h
  by_cases c4 : a0 ≥ a1
  · rw [if_pos c4] at H
    have c4b0 : decide (a1 ≤ a0) = true := decide_eq_true c4
    clear c4
    obtain rfl := Option.some.inj H
    go_enter Tryd.func27, Tryd.ntmps27
    go_wp2
    go_ret
    exact ⟨by first | rfl | (simp; done) | (simp [*]; done), by repeat (first | exact Drawn0.refl _ | apply Drawn0.step)⟩
  · rw [if_neg c4] at H
    have c4b0 : decide (a1 ≤ a0) = false := decide_eq_false c4
    clear c4
    obtain rfl := Option.some.inj H
    go_enter Tryd.func27, Tryd.ntmps27
    go_wp2
    go_ret
    exact ⟨by first | rfl | (simp; done) | (simp [*]; done), by repeat (first | exact Drawn0.refl _ | apply Drawn0.step)⟩
end Go.Proofs.YtdhpcchmhikgeaaDoor.SFnNumbers
