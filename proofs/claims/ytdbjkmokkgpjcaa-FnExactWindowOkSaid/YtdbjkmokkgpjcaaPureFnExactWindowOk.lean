/- Proved: the program's WindowOk answers what the reference's WindowOk answers, for every window; no condition. -/
import Derived.Test.YtdbjkmokkgpjcaaPFnExactWindowOkx1
import Derived.Test.YtdbjkmokkgpjcaaBase
namespace Go.Proofs.Ytdbjkmokkgpjcaa.Pure
open Go.RowKit Go.Proofs.Ytdbjkmokkgpjcaa.PFnExactWindowOk Go.Proofs.Ytdbjkmokkgpjcaa.Base Go.Proofs.YtdbjkmokkgpjcaaW.PrintWords Go.Proofs.YtdbjkmokkgpjcaaW.PrintLast Go.Proofs.YtdbjkmokkgpjcaaW.PrintMore
set_option linter.unusedVariables false
set_option linter.unusedSimpArgs false

theorem spec_In_in {a b c : Int} (h : b ≤ a) (h' : a ≤ c) : spec_l01In.f a b c = some true := by
  unfold spec_l01In.f
  rw [if_pos h]
  simp [h']
theorem spec_In_out {a b c : Int} (h : a < b ∨ c < a) : spec_l01In.f a b c = some false := by
  unfold spec_l01In.f
  by_cases h0 : a ≥ b
  · rw [if_pos h0]
    have : ¬ a ≤ c := by omega
    simp [this]
  · rw [if_neg h0]

theorem impl_within_in {a b c : Int} (h : b ≤ a) (h' : a ≤ c) : impl_within.f a b c = some true := by
  unfold impl_within.f
  rw [if_pos h]
  simp [h']
theorem impl_within_out {a b c : Int} (h : a < b ∨ c < a) : impl_within.f a b c = some false := by
  unfold impl_within.f
  by_cases h0 : a ≥ b
  · rw [if_pos h0]
    have : ¬ a ≤ c := by omega
    simp [this]
  · rw [if_neg h0]

/-! windows: both WindowOk come to 'winOk' -/
theorem spec_WindowOk_f (t s : Int) (ht : -9223372036854775808 ≤ t ∧ t ≤ 9223372036854775807) : Ev (fun k => spec_WindowOk.f k t s) (winOk t s) := by
  by_cases h1 : -1 ≤ t ∧ t ≤ 9999
  · refine ev_now (spec_In_in h1.1 h1.2) (evT rfl ?_)
    by_cases h2 : 0 ≤ s ∧ s ≤ 65535
    · refine ev_now (spec_In_in h2.1 h2.2) ?_
      refine Ev.step (fun k => by rw [spec_WindowOk.j0]) ?_
      refine evF (by simp) ?_
      have hv : winOk t s = _ := if_pos ⟨h1, h2⟩
      refine ev_cast ?_ hv.symm
      by_cases h3 : t < 0
      · refine ev_cast ?_ (if_pos h3).symm
        exact evT (by omega) (Ev.now _)
      · refine ev_cast ?_ (if_neg h3).symm
        refine evF (by omega) ?_
        have e1 : Int.tmod s 2 = s % 2 := Int.tmod_eq_emod_of_nonneg h2.1
        have e2 : IntKind.u64.wrap (wrap64 (t + 1)) = t + 1 := by
          rw [w64 (by omega) (by omega)]
          simp [IntKind.wrap, IntKind.bits, IntKind.signed]
          omega
        rw [e1, e2]
        by_cases h4 : s % 2 = 1
        · refine evT h4 ?_
          by_cases h5 : t ≥ 15
          · exact ev_cast (evT h5 (Ev.now _)) (by simp [h4, h5])
          · refine ev_cast (evF h5 (evT (by omega) (Ev.now _))) ?_
            have e3 := shl_one (n := t + 1) (by omega) (by omega)
            rw [e3]
            simp [h4, h5]
        · exact ev_cast (evF h4 (Ev.now _)) (by simp [h4])
    · refine ev_now (spec_In_out (by omega)) ?_
      refine Ev.step (fun k => by rw [spec_WindowOk.j0]) ?_
      exact ev_cast (evT rfl (Ev.now _)) (if_neg (fun h => h2 h.2)).symm
  · refine ev_now (spec_In_out (by omega)) (evF (by simp) ?_)
    refine Ev.step (fun k => by rw [spec_WindowOk.j0]) ?_
    exact ev_cast (evT rfl (Ev.now _)) (if_neg (fun h => h1 h.1)).symm
theorem impl_WindowOk_f (t s : Int) (ht : -9223372036854775808 ≤ t ∧ t ≤ 9223372036854775807) : Ev (fun k => impl_WindowOk.f k t s) (winOk t s) := by
  by_cases h1 : -1 ≤ t ∧ t ≤ 9999
  · refine ev_now (impl_within_in h1.1 h1.2) (evT rfl ?_)
    by_cases h2 : 0 ≤ s ∧ s ≤ 65535
    · refine ev_now (impl_within_in h2.1 h2.2) ?_
      refine Ev.step (fun k => by rw [impl_WindowOk.j0]) ?_
      refine evF (by simp) ?_
      have hv : winOk t s = _ := if_pos ⟨h1, h2⟩
      refine ev_cast ?_ hv.symm
      by_cases h3 : t < 0
      · refine ev_cast ?_ (if_pos h3).symm
        exact evT (by omega) (Ev.now _)
      · refine ev_cast ?_ (if_neg h3).symm
        refine evF (by omega) ?_
        have e1 : Int.tmod s 2 = s % 2 := Int.tmod_eq_emod_of_nonneg h2.1
        have e2 : wrap64 (t + 1) = t + 1 := w64 (by omega) (by omega)
        rw [e1, e2]
        by_cases h4 : s % 2 = 1
        · refine evT h4 ?_
          by_cases h5 : t ≥ 15
          · exact ev_cast (evT h5 (Ev.now _)) (by simp [h4, h5])
          · refine ev_cast (evF h5 (evT (by omega) (Ev.now _))) ?_
            have e3 := shl_one (n := t + 1) (by omega) (by omega)
            rw [e3]
            simp [h4, h5]
        · exact ev_cast (evF h4 (Ev.now _)) (by simp [h4])
    · refine ev_now (impl_within_out (by omega)) ?_
      refine Ev.step (fun k => by rw [impl_WindowOk.j0]) ?_
      exact ev_cast (evT rfl (Ev.now _)) (if_neg (fun h => h2 h.2)).symm
  · refine ev_now (impl_within_out (by omega)) (evF (by simp) ?_)
    refine Ev.step (fun k => by rw [impl_WindowOk.j0]) ?_
    exact ev_cast (evT rfl (Ev.now _)) (if_neg (fun h => h1 h.1)).symm

theorem FnExactWindowOk : ∀ t s : Int, (Lit.int .i64 t).wf = true → (Lit.int .i64 s).wf = true → ∃ k, laws_FnExactWindowOk.f k t s = some true := by
  intro t s ht hs
  have ht := wf64 ht
  refine Ev.rounds (ev_now rfl (Ev.bind (spec_WindowOk_f t s ht) (ev_now rfl (Ev.bind (impl_WindowOk_f t s ht) (evF (by simp) (Ev.now _))))))

end Go.Proofs.Ytdbjkmokkgpjcaa.Pure
