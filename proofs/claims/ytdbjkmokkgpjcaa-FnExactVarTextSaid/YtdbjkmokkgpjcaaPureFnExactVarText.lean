/- Proved: the program's VarText returns what the reference's VarText returns, for every int; no condition. -/
import Derived.Test.YtdbjkmokkgpjcaaPFnExactVarTextx1
import Derived.Test.YtdbjkmokkgpjcaaBase
namespace Go.Proofs.Ytdbjkmokkgpjcaa.Pure
open Go.RowKit Go.Proofs.Ytdbjkmokkgpjcaa.PFnExactVarText Go.Proofs.Ytdbjkmokkgpjcaa.Base Go.Proofs.YtdbjkmokkgpjcaaW.PrintWords Go.Proofs.YtdbjkmokkgpjcaaW.PrintLast Go.Proofs.YtdbjkmokkgpjcaaW.PrintMore
set_option linter.unusedVariables false
set_option linter.unusedSimpArgs false

/-! numbers as texts -/
theorem spec_l01Var_ev (d : Nat) : ∀ (n : Nat) (acc : List Int), n < 128 ^ (d + 1) → n ≤ 9223372036854775807 → acc.length + d ≤ 1000000 → Ev (fun k => spec_l01Var.l0 k (n : Int) acc) (strOfNums (acc ++ varN n)) := by
  induction d with
  | zero =>
    intro n acc h hb ha
    rw [varN_small (by omega)]
    refine ev_end (fun k => ?_)
    rw [spec_l01Var.l0, if_neg (by omega), if_pos (by omega)]
    congr 4
    omega
  | succ d ih =>
    intro n acc h hb ha
    by_cases hn : n > 127
    · rw [varN_big hn]
      refine Ev.step (fun k => by rw [spec_l01Var.l0, if_pos (by omega), if_pos (by omega)]) ?_
      have e1 : wrap64 (Int.tdiv (n : Int) 128) = ((n / 128 : Nat) : Int) := by
        rw [Int.tdiv_eq_ediv_of_nonneg (by omega)]
        unfold wrap64
        omega
      have e2 : wrap64 ((Int.tmod (n : Int) 128) + 128) % 256 = ((n % 128 + 128 : Nat) : Int) := by
        rw [Int.tmod_eq_emod_of_nonneg (by omega)]
        unfold wrap64
        omega
      rw [e1, e2]
      refine ev_cast (ih (n / 128) _ (by rw [Nat.div_lt_iff_lt_mul (by omega)]; rw [Nat.pow_succ] at h; exact h) (by omega) (by simp; omega)) ?_
      simp
    · rw [varN_small (by omega)]
      refine ev_end (fun k => ?_)
      rw [spec_l01Var.l0, if_neg (by omega), if_pos (by omega)]
      congr 4
      omega
theorem spec_l01Var_f (n : Nat) (h : n ≤ 9223372036854775807) : Ev (fun k => spec_l01Var.f k (n : Int)) (strOfNums (varN n)) :=
  spec_l01Var_ev 9 n [] (by omega) h (by simp)

theorem impl_within_in {a b c : Int} (h : b ≤ a) (h' : a ≤ c) : impl_within.f a b c = some true := by
  unfold impl_within.f
  rw [if_pos h]
  simp [h']
theorem impl_within_out {a b c : Int} (h : a < b ∨ c < a) : impl_within.f a b c = some false := by
  unfold impl_within.f
  by_cases h0 : a ≥ b
  · rw [if_pos h0]
    have : ¬ a ≤ c := by omega
    simp [this]
  · rw [if_neg h0]

theorem impl_VarText_ev (d : Nat) : ∀ (n : Nat) (acc : List Int), n < 128 ^ (d + 1) → n ≤ 9223372036854775807 → acc.length + d ≤ 1000000 → Ev (fun k => impl_VarText.l0 k (n : Int) acc) (strOfNums (acc ++ varN n), true) := by
  induction d with
  | zero =>
    intro n acc h hb ha
    rw [varN_small (by omega)]
    refine ev_end (fun k => ?_)
    rw [impl_VarText.l0, if_neg (by omega), if_pos (by omega)]
    congr 5
    omega
  | succ d ih =>
    intro n acc h hb ha
    by_cases hn : n > 127
    · rw [varN_big hn]
      refine Ev.step (fun k => by rw [impl_VarText.l0, if_pos (by omega), if_pos (by omega)]) ?_
      have e1 : wrap64 (Int.tdiv (n : Int) 128) = ((n / 128 : Nat) : Int) := by
        rw [Int.tdiv_eq_ediv_of_nonneg (by omega)]
        unfold wrap64
        omega
      have e2 : wrap64 ((Int.tmod (n : Int) 128) + 128) % 256 = ((n % 128 + 128 : Nat) : Int) := by
        rw [Int.tmod_eq_emod_of_nonneg (by omega)]
        unfold wrap64
        omega
      rw [e1, e2]
      refine ev_cast (ih (n / 128) _ (by rw [Nat.div_lt_iff_lt_mul (by omega)]; rw [Nat.pow_succ] at h; exact h) (by omega) (by simp; omega)) ?_
      simp
    · rw [varN_small (by omega)]
      refine ev_end (fun k => ?_)
      rw [impl_VarText.l0, if_neg (by omega), if_pos (by omega)]
      congr 5
      omega
theorem impl_VarText_in {n : Int} (h : 0 ≤ n) (h' : n ≤ 1000000000) : Ev (fun k => impl_VarText.f k n) (strOfNums (varN n.toNat), true) := by
  obtain ⟨m, rfl⟩ := Int.eq_ofNat_of_zero_le h
  exact ev_now (impl_within_in h h') (evT rfl (impl_VarText_ev 9 m [] (by omega) (by omega) (by simp)))
theorem impl_VarText_out {n : Int} (h : n < 0 ∨ 1000000000 < n) : Ev (fun k => impl_VarText.f k n) ((⟨#[]⟩ : ByteArray), false) :=
  ev_now (impl_within_out h) (evF (by simp) (Ev.now _))

theorem spec_In_in {a b c : Int} (h : b ≤ a) (h' : a ≤ c) : spec_l01In.f a b c = some true := by
  unfold spec_l01In.f
  rw [if_pos h]
  simp [h']
theorem spec_In_out {a b c : Int} (h : a < b ∨ c < a) : spec_l01In.f a b c = some false := by
  unfold spec_l01In.f
  by_cases h0 : a ≥ b
  · rw [if_pos h0]
    have : ¬ a ≤ c := by omega
    simp [this]
  · rw [if_neg h0]

theorem spec_VarText_in {n : Int} (h : 0 ≤ n) (h' : n ≤ 1000000000) : Ev (fun k => spec_VarText.f k n) (strOfNums (varN n.toNat), true) := by
  obtain ⟨m, rfl⟩ := Int.eq_ofNat_of_zero_le h
  exact ev_now (spec_In_in h h') (evT rfl (Ev.bind (spec_l01Var_f m (by omega)) (Ev.now _)))
theorem spec_VarText_out {n : Int} (h : n < 0 ∨ 1000000000 < n) : Ev (fun k => spec_VarText.f k n) ((⟨#[]⟩ : ByteArray), false) :=
  ev_now (spec_In_out h) (evF (by simp) (Ev.now _))

theorem FnExactVarText : laws_FnExactVarText.Pure := by
  intro n _
  refine Ev.rounds ?_
  by_cases hb : 0 ≤ n ∧ n ≤ 1000000000
  · exact Ev.bind (spec_VarText_in hb.1 hb.2) (Ev.bind (impl_VarText_in hb.1 hb.2) (evT rfl (evF (by simp) (Ev.now _))))
  · have hb : n < 0 ∨ 1000000000 < n := by omega
    exact Ev.bind (spec_VarText_out hb) (Ev.bind (impl_VarText_out hb) (evT rfl (evF (by simp) (Ev.now _))))

end Go.Proofs.Ytdbjkmokkgpjcaa.Pure
