/- Proved: the program's Noted returns what the reference's Noted returns, for every window and every number; no condition. -/
import Derived.Test.YtdhpcchmhikgeaaPFnExactNotedx2
import Derived.Test.YtdhpcchmhikgeaaBase
namespace Go.Proofs.Ytdhpcchmhikgeaa.Pure
open Go.RowKit Go.Proofs.Ytdhpcchmhikgeaa.PFnExactNoted Go.Proofs.Ytdhpcchmhikgeaa.Base Go.Proofs.YtdhpcchmhikgeaaW.PrintWords Go.Proofs.YtdhpcchmhikgeaaW.PrintLast Go.Proofs.YtdhpcchmhikgeaaW.PrintMore
set_option linter.unusedVariables false
set_option linter.unusedSimpArgs false

theorem spec_In_in {a b c : Int} (h : b ≤ a) (h' : a ≤ c) : spec_l01In.f a b c = some true := by
  unfold spec_l01In.f
  rw [if_pos h]
  simp [h']
theorem spec_In_out {a b c : Int} (h : a < b ∨ c < a) : spec_l01In.f a b c = some false := by
  unfold spec_l01In.f
  by_cases h0 : a ≥ b
  · rw [if_pos h0]
    have : ¬ a ≤ c := by omega
    simp [this]
  · rw [if_neg h0]

theorem impl_within_in {a b c : Int} (h : b ≤ a) (h' : a ≤ c) : impl_within.f a b c = some true := by
  unfold impl_within.f
  rw [if_pos h]
  simp [h']
theorem impl_within_out {a b c : Int} (h : a < b ∨ c < a) : impl_within.f a b c = some false := by
  unfold impl_within.f
  by_cases h0 : a ≥ b
  · rw [if_pos h0]
    have : ¬ a ≤ c := by omega
    simp [this]
  · rw [if_neg h0]

/-! windows: both WindowOk come to 'winOk' -/
theorem spec_WindowOk_f (t s : Int) (ht : -9223372036854775808 ≤ t ∧ t ≤ 9223372036854775807) : Ev (fun k => spec_WindowOk.f k t s) (winOk t s) := by
  by_cases h1 : -1 ≤ t ∧ t ≤ 9999
  · refine ev_now (spec_In_in h1.1 h1.2) (evT rfl ?_)
    by_cases h2 : 0 ≤ s ∧ s ≤ 65535
    · refine ev_now (spec_In_in h2.1 h2.2) ?_
      refine Ev.step (fun k => by rw [spec_WindowOk.j0]) ?_
      refine evF (by simp) ?_
      have hv : winOk t s = _ := if_pos ⟨h1, h2⟩
      refine ev_cast ?_ hv.symm
      by_cases h3 : t < 0
      · refine ev_cast ?_ (if_pos h3).symm
        exact evT (by omega) (Ev.now _)
      · refine ev_cast ?_ (if_neg h3).symm
        refine evF (by omega) ?_
        have e1 : Int.tmod s 2 = s % 2 := Int.tmod_eq_emod_of_nonneg h2.1
        have e2 : IntKind.u64.wrap (wrap64 (t + 1)) = t + 1 := by
          rw [w64 (by omega) (by omega)]
          simp [IntKind.wrap, IntKind.bits, IntKind.signed]
          omega
        rw [e1, e2]
        by_cases h4 : s % 2 = 1
        · refine evT h4 ?_
          by_cases h5 : t ≥ 15
          · exact ev_cast (evT h5 (Ev.now _)) (by simp [h4, h5])
          · refine ev_cast (evF h5 (evT (by omega) (Ev.now _))) ?_
            have e3 := shl_one (n := t + 1) (by omega) (by omega)
            rw [e3]
            simp [h4, h5]
        · exact ev_cast (evF h4 (Ev.now _)) (by simp [h4])
    · refine ev_now (spec_In_out (by omega)) ?_
      refine Ev.step (fun k => by rw [spec_WindowOk.j0]) ?_
      exact ev_cast (evT rfl (Ev.now _)) (if_neg (fun h => h2 h.2)).symm
  · refine ev_now (spec_In_out (by omega)) (evF (by simp) ?_)
    refine Ev.step (fun k => by rw [spec_WindowOk.j0]) ?_
    exact ev_cast (evT rfl (Ev.now _)) (if_neg (fun h => h1 h.1)).symm
theorem impl_WindowOk_f (t s : Int) (ht : -9223372036854775808 ≤ t ∧ t ≤ 9223372036854775807) : Ev (fun k => impl_WindowOk.f k t s) (winOk t s) := by
  by_cases h1 : -1 ≤ t ∧ t ≤ 9999
  · refine ev_now (impl_within_in h1.1 h1.2) (evT rfl ?_)
    by_cases h2 : 0 ≤ s ∧ s ≤ 65535
    · refine ev_now (impl_within_in h2.1 h2.2) ?_
      refine Ev.step (fun k => by rw [impl_WindowOk.j0]) ?_
      refine evF (by simp) ?_
      have hv : winOk t s = _ := if_pos ⟨h1, h2⟩
      refine ev_cast ?_ hv.symm
      by_cases h3 : t < 0
      · refine ev_cast ?_ (if_pos h3).symm
        exact evT (by omega) (Ev.now _)
      · refine ev_cast ?_ (if_neg h3).symm
        refine evF (by omega) ?_
        have e1 : Int.tmod s 2 = s % 2 := Int.tmod_eq_emod_of_nonneg h2.1
        have e2 : wrap64 (t + 1) = t + 1 := w64 (by omega) (by omega)
        rw [e1, e2]
        by_cases h4 : s % 2 = 1
        · refine evT h4 ?_
          by_cases h5 : t ≥ 15
          · exact ev_cast (evT h5 (Ev.now _)) (by simp [h4, h5])
          · refine ev_cast (evF h5 (evT (by omega) (Ev.now _))) ?_
            have e3 := shl_one (n := t + 1) (by omega) (by omega)
            rw [e3]
            simp [h4, h5]
        · exact ev_cast (evF h4 (Ev.now _)) (by simp [h4])
    · refine ev_now (impl_within_out (by omega)) ?_
      refine Ev.step (fun k => by rw [impl_WindowOk.j0]) ?_
      exact ev_cast (evT rfl (Ev.now _)) (if_neg (fun h => h2 h.2)).symm
  · refine ev_now (impl_within_out (by omega)) (evF (by simp) ?_)
    refine Ev.step (fun k => by rw [impl_WindowOk.j0]) ?_
    exact ev_cast (evT rfl (Ev.now _)) (if_neg (fun h => h1 h.1)).symm

/-! Fresh: both come to 'winFresh' -/
theorem spec_Fresh_f (t s q : Int) (ht : -9223372036854775808 ≤ t ∧ t ≤ 9223372036854775807) : Ev (fun k => spec_Fresh.f k t s q) (winFresh t s q) := by
  refine Ev.bind (spec_WindowOk_f t s ht) ?_
  by_cases h0 : winOk t s = true
  · refine evT h0 ?_
    by_cases h1 : 0 ≤ q ∧ q ≤ 9999
    · refine ev_now (spec_In_in h1.1 h1.2) ?_
      refine Ev.step (fun k => by rw [spec_Fresh.j0]) ?_
      refine evF (by simp) ?_
      obtain ⟨g1, g2⟩ := winOk_range h0
      by_cases h2 : q > t
      · exact ev_cast (evT h2 (Ev.now _)) (by simp [winFresh, h0, h1, h2])
      · have e1 : wrap64 (t - q) = t - q := w64 (by omega) (by omega)
        have e2 : IntKind.u64.wrap (t - q) = t - q := by
          simp [IntKind.wrap, IntKind.bits, IntKind.signed]
          omega
        rw [e1, e2]
        refine evF h2 ?_
        by_cases h3 : t - q < 16
        · refine ev_cast (evT h3 (evT (by omega) (Ev.now _))) ?_
          obtain ⟨g3, g4⟩ := shr_small16 (x := s) (y := t - q) (by omega) (by omega) (by omega) (by omega)
          rw [and_one (by omega) (by omega)]
          simp [winFresh, h0, h1, h2, h3]
        · exact ev_cast (evF h3 (Ev.now _)) (by simp [winFresh, h0, h1, h2, h3])
    · refine ev_now (spec_In_out (by omega)) ?_
      refine Ev.step (fun k => by rw [spec_Fresh.j0]) ?_
      exact ev_cast (evT rfl (Ev.now _)) (by simp [winFresh, h0]; intro g1 g2; omega)
  · refine evF h0 ?_
    refine Ev.step (fun k => by rw [spec_Fresh.j0]) ?_
    exact ev_cast (evT rfl (Ev.now _)) (by simp [winFresh, h0])
theorem impl_Fresh_f (t s q : Int) (ht : -9223372036854775808 ≤ t ∧ t ≤ 9223372036854775807) : Ev (fun k => impl_Fresh.f k t s q) (winFresh t s q) := by
  refine Ev.bind (impl_WindowOk_f t s ht) ?_
  by_cases h0 : winOk t s = true
  · refine evT h0 ?_
    by_cases h1 : 0 ≤ q ∧ q ≤ 9999
    · refine ev_now (impl_within_in h1.1 h1.2) (evT rfl ?_)
      obtain ⟨g1, g2⟩ := winOk_range h0
      have e1 : wrap64 (t - q) = t - q := w64 (by omega) (by omega)
      rw [e1]
      by_cases h2 : q > t
      · exact ev_cast (evT (by omega) (Ev.now _)) (by simp [winFresh, h0, h1, h2])
      · refine evF (by omega) ?_
        by_cases h3 : t - q < 16
        · refine ev_cast (evT h3 (evT (by omega) (Ev.now _))) ?_
          obtain ⟨g3, g4⟩ := shr_small16 (x := s) (y := t - q) (by omega) (by omega) (by omega) (by omega)
          rw [Int.tmod_eq_emod_of_nonneg (by omega)]
          simp [winFresh, h0, h1, h2, h3]
        · exact ev_cast (evF h3 (Ev.now _)) (by simp [winFresh, h0, h1, h2, h3])
    · exact ev_cast (ev_now (impl_within_out (by omega)) (evF (by simp) (Ev.now _))) (by simp [winFresh, h0]; intro g1 g2; omega)
  · exact ev_cast (evF h0 (Ev.now _)) (by simp [winFresh, h0])

/-! Noted: both come to 'winNoted' -/
theorem impl_Noted_f (t s q : Int) (ht : -9223372036854775808 ≤ t ∧ t ≤ 9223372036854775807) : Ev (fun k => impl_Noted.f k t s q) (winNoted t s q) := by
  unfold winNoted
  refine Ev.bind (impl_Fresh_f t s q ht) ?_
  by_cases h : winFresh t s q = true
  · obtain ⟨ho, hq, hf⟩ := winFresh_parts h
    obtain ⟨g1, g2⟩ := winOk_range ho
    refine evT h ?_
    refine ev_cast ?_ (if_pos h).symm
    rw [w64 (x := t - q) (by omega) (by omega), w64 (x := q - t) (by omega) (by omega)]
    by_cases hl : q < t
    · exact ev_cast (evT hl (evT (by omega) (Ev.now _))) (if_pos hl).symm
    · have hm : 0 ≤ mn (q - t) 16 ∧ mn (q - t) 16 ≤ 16 := by unfold mn; split <;> omega
      refine ev_cast (evF hl (evT hm.1 (Ev.now _))) ?_
      rw [if_neg hl]
      have := moved_impl (s := s.toNat) (a := (mn (q - t) 16).toNat) (by omega) (by omega)
      rw [Int.toNat_of_nonneg g2.1] at this
      rw [this]
  · exact ev_cast (evF h (Ev.now _)) (if_neg h).symm
theorem spec_Noted_f (t s q : Int) (ht : -9223372036854775808 ≤ t ∧ t ≤ 9223372036854775807) : Ev (fun k => spec_Noted.f k t s q) (winNoted t s q) := by
  unfold winNoted
  refine Ev.bind (spec_Fresh_f t s q ht) ?_
  by_cases h : winFresh t s q = true
  · obtain ⟨ho, hq, hf⟩ := winFresh_parts h
    obtain ⟨g1, g2⟩ := winOk_range ho
    have hne := winFresh_ne h
    refine evT h ?_
    refine ev_cast ?_ (if_pos h).symm
    rw [w64 (x := t - q) (by omega) (by omega), w64 (x := q - t) (by omega) (by omega)]
    by_cases hl : q < t
    · have e2 : IntKind.u64.wrap (t - q) = t - q := by
        simp [IntKind.wrap, IntKind.bits, IntKind.signed]
        omega
      rw [e2]
      exact ev_cast (evT (by omega) (evT (by omega) (Ev.now _))) (if_pos hl).symm
    · refine ev_cast ?_ (if_neg hl).symm
      have e2 : IntKind.u64.wrap (q - t) = q - t := by
        simp [IntKind.wrap, IntKind.bits, IntKind.signed]
        omega
      have e1 : Go.bits .or .i64 0 1 = 1 := by decide
      rw [e2, e1]
      refine evF (by omega) ?_
      by_cases h0 : t ≥ 0
      · refine evT h0 ?_
        by_cases h16 : q - t < 16
        · refine ev_cast (evT h16 (evT (by omega) (Ev.now _))) ?_
          have em : mn (q - t) 16 = q - t := by unfold mn; rw [if_neg (by omega)]
          have := moved_spec (s := s.toNat) (a := (q - t).toNat) (by omega) (by omega)
          rw [Int.toNat_of_nonneg g2.1, Int.toNat_of_nonneg (by omega)] at this
          rw [em, this]
        · refine ev_cast (evF h16 (Ev.now _)) ?_
          have em : mn (q - t) 16 = 16 := by unfold mn; split <;> omega
          rw [em, show ((16 : Int)).toNat = 16 from rfl, moved_16]
          rfl
      · refine ev_cast (evF h0 (Ev.now _)) ?_
        rw [(winOk_low ho).1 (by omega), show ((0 : Int)).toNat = 0 from rfl, moved_zero]
        rfl
  · exact ev_cast (evF h (Ev.now _)) (if_neg h).symm

theorem eqWindow_self (t s : Int) : laws_eqWindow.f t s t s = some true := by
  unfold laws_eqWindow.f
  rw [if_pos rfl, if_pos rfl]
theorem FnExactNoted : ∀ t s q : Int, (Lit.int .i64 t).wf = true → (Lit.int .i64 s).wf = true → (Lit.int .i64 q).wf = true → ∃ k, laws_FnExactNoted.f k t s q = some true := by
  intro t s q ht hs hq
  have ht := wf64 ht
  refine Ev.rounds (ev_now rfl (Ev.bind (spec_Noted_f t s q ht) (ev_now rfl (Ev.bind (impl_Noted_f t s q ht) (ev_now (eqWindow_self _ _) (evT rfl (evF (by simp) (Ev.now _))))))))

end Go.Proofs.Ytdhpcchmhikgeaa.Pure
