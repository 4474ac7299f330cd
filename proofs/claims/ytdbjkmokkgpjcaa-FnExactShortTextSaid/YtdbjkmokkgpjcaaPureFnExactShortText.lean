/- Proved: the program's ShortText returns what the reference's ShortText returns, for every text; no condition. -/
import Derived.Test.YtdbjkmokkgpjcaaPFnExactShortTextx1
import Derived.Test.YtdbjkmokkgpjcaaBase
namespace Go.Proofs.Ytdbjkmokkgpjcaa.Pure
open Go.RowKit Go.Proofs.Ytdbjkmokkgpjcaa.PFnExactShortText Go.Proofs.Ytdbjkmokkgpjcaa.Base Go.Proofs.YtdbjkmokkgpjcaaW.PrintWords Go.Proofs.YtdbjkmokkgpjcaaW.PrintLast Go.Proofs.YtdbjkmokkgpjcaaW.PrintMore
set_option linter.unusedVariables false
set_option linter.unusedSimpArgs false

/-! numbers as texts -/
theorem spec_l01Var_ev (d : Nat) : ∀ (n : Nat) (acc : List Int), n < 128 ^ (d + 1) → n ≤ 9223372036854775807 → acc.length + d ≤ 1000000 → Ev (fun k => spec_l01Var.l0 k (n : Int) acc) (strOfNums (acc ++ varN n)) := by
  induction d with
  | zero =>
    intro n acc h hb ha
    rw [varN_small (by omega)]
    refine ev_end (fun k => ?_)
    rw [spec_l01Var.l0, if_neg (by omega), if_pos (by omega)]
    congr 4
    omega
  | succ d ih =>
    intro n acc h hb ha
    by_cases hn : n > 127
    · rw [varN_big hn]
      refine Ev.step (fun k => by rw [spec_l01Var.l0, if_pos (by omega), if_pos (by omega)]) ?_
      have e1 : wrap64 (Int.tdiv (n : Int) 128) = ((n / 128 : Nat) : Int) := by
        rw [Int.tdiv_eq_ediv_of_nonneg (by omega)]
        unfold wrap64
        omega
      have e2 : wrap64 ((Int.tmod (n : Int) 128) + 128) % 256 = ((n % 128 + 128 : Nat) : Int) := by
        rw [Int.tmod_eq_emod_of_nonneg (by omega)]
        unfold wrap64
        omega
      rw [e1, e2]
      refine ev_cast (ih (n / 128) _ (by rw [Nat.div_lt_iff_lt_mul (by omega)]; rw [Nat.pow_succ] at h; exact h) (by omega) (by simp; omega)) ?_
      simp
    · rw [varN_small (by omega)]
      refine ev_end (fun k => ?_)
      rw [spec_l01Var.l0, if_neg (by omega), if_pos (by omega)]
      congr 4
      omega
theorem spec_l01Var_f (n : Nat) (h : n ≤ 9223372036854775807) : Ev (fun k => spec_l01Var.f k (n : Int)) (strOfNums (varN n)) :=
  spec_l01Var_ev 9 n [] (by omega) h (by simp)

theorem impl_within_in {a b c : Int} (h : b ≤ a) (h' : a ≤ c) : impl_within.f a b c = some true := by
  unfold impl_within.f
  rw [if_pos h]
  simp [h']
theorem impl_within_out {a b c : Int} (h : a < b ∨ c < a) : impl_within.f a b c = some false := by
  unfold impl_within.f
  by_cases h0 : a ≥ b
  · rw [if_pos h0]
    have : ¬ a ≤ c := by omega
    simp [this]
  · rw [if_neg h0]

theorem impl_VarText_ev (d : Nat) : ∀ (n : Nat) (acc : List Int), n < 128 ^ (d + 1) → n ≤ 9223372036854775807 → acc.length + d ≤ 1000000 → Ev (fun k => impl_VarText.l0 k (n : Int) acc) (strOfNums (acc ++ varN n), true) := by
  induction d with
  | zero =>
    intro n acc h hb ha
    rw [varN_small (by omega)]
    refine ev_end (fun k => ?_)
    rw [impl_VarText.l0, if_neg (by omega), if_pos (by omega)]
    congr 5
    omega
  | succ d ih =>
    intro n acc h hb ha
    by_cases hn : n > 127
    · rw [varN_big hn]
      refine Ev.step (fun k => by rw [impl_VarText.l0, if_pos (by omega), if_pos (by omega)]) ?_
      have e1 : wrap64 (Int.tdiv (n : Int) 128) = ((n / 128 : Nat) : Int) := by
        rw [Int.tdiv_eq_ediv_of_nonneg (by omega)]
        unfold wrap64
        omega
      have e2 : wrap64 ((Int.tmod (n : Int) 128) + 128) % 256 = ((n % 128 + 128 : Nat) : Int) := by
        rw [Int.tmod_eq_emod_of_nonneg (by omega)]
        unfold wrap64
        omega
      rw [e1, e2]
      refine ev_cast (ih (n / 128) _ (by rw [Nat.div_lt_iff_lt_mul (by omega)]; rw [Nat.pow_succ] at h; exact h) (by omega) (by simp; omega)) ?_
      simp
    · rw [varN_small (by omega)]
      refine ev_end (fun k => ?_)
      rw [impl_VarText.l0, if_neg (by omega), if_pos (by omega)]
      congr 5
      omega
theorem impl_VarText_in {n : Int} (h : 0 ≤ n) (h' : n ≤ 1000000000) : Ev (fun k => impl_VarText.f k n) (strOfNums (varN n.toNat), true) := by
  obtain ⟨m, rfl⟩ := Int.eq_ofNat_of_zero_le h
  exact ev_now (impl_within_in h h') (evT rfl (impl_VarText_ev 9 m [] (by omega) (by omega) (by simp)))
theorem impl_VarText_out {n : Int} (h : n < 0 ∨ 1000000000 < n) : Ev (fun k => impl_VarText.f k n) ((⟨#[]⟩ : ByteArray), false) :=
  ev_now (impl_within_out h) (evF (by simp) (Ev.now _))

theorem FnExactShortText : laws_FnExactShortText.Pure := by
  intro s hs
  refine Ev.rounds ?_
  by_cases hb : (s.size : Int) > 1048576
  · exact evT hb (Ev.now _)
  refine evF hb ?_
  by_cases hl : (s.size : Int) > 20000
  · exact Ev.bind (evT hl (Ev.now _)) (Ev.bind (evT hl (Ev.now _)) (evT rfl (evF (by simp) (Ev.now _))))
  · have hsz : (strOfNums (varN s.size)).size + s.size ≤ 9223372036854775807 := by
      rw [strOfNums_size]
      have := (varN_length 9 s.size (by omega)).2
      omega
    refine Ev.bind (evF hl (Ev.bind (spec_l01Var_f s.size (by omega)) (evT hsz (Ev.now _)))) (Ev.bind (evF hl (Ev.bind (impl_VarText_in (by omega) (by omega)) (evT ?_ (Ev.now _)))) (evT ?_ (evF ?_ (Ev.now _))))
    · simpa using hsz
    · simp
    · simp

end Go.Proofs.Ytdbjkmokkgpjcaa.Pure
