/- Proved: at every drawn list of numbers, a number is taken once by Noted, in whatever order they come, and the drawn windows are told as the reference tells them; no condition. -/
import Derived.Test.YtdhpcchmhikgeaaSFnWindowsx6
import Derived.Test.YtdhpcchmhikgeaaBase
namespace Go.Proofs.Ytdhpcchmhikgeaa.Pure
open Go.RowKit Go.Proofs.Ytdhpcchmhikgeaa.SFnWindows Go.Proofs.Ytdhpcchmhikgeaa.Base Go.Proofs.YtdhpcchmhikgeaaW.PrintWords Go.Proofs.YtdhpcchmhikgeaaW.PrintLast Go.Proofs.YtdhpcchmhikgeaaW.PrintMore
set_option linter.unusedVariables false
set_option linter.unusedSimpArgs false

theorem spec_In_in {a b c : Int} (h : b ≤ a) (h' : a ≤ c) : spec_l01In.f a b c = some true := by
  unfold spec_l01In.f
  rw [if_pos h]
  simp [h']
theorem spec_In_out {a b c : Int} (h : a < b ∨ c < a) : spec_l01In.f a b c = some false := by
  unfold spec_l01In.f
  by_cases h0 : a ≥ b
  · rw [if_pos h0]
    have : ¬ a ≤ c := by omega
    simp [this]
  · rw [if_neg h0]

theorem impl_within_in {a b c : Int} (h : b ≤ a) (h' : a ≤ c) : impl_within.f a b c = some true := by
  unfold impl_within.f
  rw [if_pos h]
  simp [h']
theorem impl_within_out {a b c : Int} (h : a < b ∨ c < a) : impl_within.f a b c = some false := by
  unfold impl_within.f
  by_cases h0 : a ≥ b
  · rw [if_pos h0]
    have : ¬ a ≤ c := by omega
    simp [this]
  · rw [if_neg h0]

/-! windows: both WindowOk come to 'winOk' -/
theorem spec_WindowOk_f (t s : Int) (ht : -9223372036854775808 ≤ t ∧ t ≤ 9223372036854775807) : Ev (fun k => spec_WindowOk.f k t s) (winOk t s) := by
  by_cases h1 : -1 ≤ t ∧ t ≤ 9999
  · refine ev_now (spec_In_in h1.1 h1.2) (evT rfl ?_)
    by_cases h2 : 0 ≤ s ∧ s ≤ 65535
    · refine ev_now (spec_In_in h2.1 h2.2) ?_
      refine Ev.step (fun k => by rw [spec_WindowOk.j0]) ?_
      refine evF (by simp) ?_
      have hv : winOk t s = _ := if_pos ⟨h1, h2⟩
      refine ev_cast ?_ hv.symm
      by_cases h3 : t < 0
      · refine ev_cast ?_ (if_pos h3).symm
        exact evT (by omega) (Ev.now _)
      · refine ev_cast ?_ (if_neg h3).symm
        refine evF (by omega) ?_
        have e1 : Int.tmod s 2 = s % 2 := Int.tmod_eq_emod_of_nonneg h2.1
        have e2 : IntKind.u64.wrap (wrap64 (t + 1)) = t + 1 := by
          rw [w64 (by omega) (by omega)]
          simp [IntKind.wrap, IntKind.bits, IntKind.signed]
          omega
        rw [e1, e2]
        by_cases h4 : s % 2 = 1
        · refine evT h4 ?_
          by_cases h5 : t ≥ 15
          · exact ev_cast (evT h5 (Ev.now _)) (by simp [h4, h5])
          · refine ev_cast (evF h5 (evT (by omega) (Ev.now _))) ?_
            have e3 := shl_one (n := t + 1) (by omega) (by omega)
            rw [e3]
            simp [h4, h5]
        · exact ev_cast (evF h4 (Ev.now _)) (by simp [h4])
    · refine ev_now (spec_In_out (by omega)) ?_
      refine Ev.step (fun k => by rw [spec_WindowOk.j0]) ?_
      exact ev_cast (evT rfl (Ev.now _)) (if_neg (fun h => h2 h.2)).symm
  · refine ev_now (spec_In_out (by omega)) (evF (by simp) ?_)
    refine Ev.step (fun k => by rw [spec_WindowOk.j0]) ?_
    exact ev_cast (evT rfl (Ev.now _)) (if_neg (fun h => h1 h.1)).symm
theorem impl_WindowOk_f (t s : Int) (ht : -9223372036854775808 ≤ t ∧ t ≤ 9223372036854775807) : Ev (fun k => impl_WindowOk.f k t s) (winOk t s) := by
  by_cases h1 : -1 ≤ t ∧ t ≤ 9999
  · refine ev_now (impl_within_in h1.1 h1.2) (evT rfl ?_)
    by_cases h2 : 0 ≤ s ∧ s ≤ 65535
    · refine ev_now (impl_within_in h2.1 h2.2) ?_
      refine Ev.step (fun k => by rw [impl_WindowOk.j0]) ?_
      refine evF (by simp) ?_
      have hv : winOk t s = _ := if_pos ⟨h1, h2⟩
      refine ev_cast ?_ hv.symm
      by_cases h3 : t < 0
      · refine ev_cast ?_ (if_pos h3).symm
        exact evT (by omega) (Ev.now _)
      · refine ev_cast ?_ (if_neg h3).symm
        refine evF (by omega) ?_
        have e1 : Int.tmod s 2 = s % 2 := Int.tmod_eq_emod_of_nonneg h2.1
        have e2 : wrap64 (t + 1) = t + 1 := w64 (by omega) (by omega)
        rw [e1, e2]
        by_cases h4 : s % 2 = 1
        · refine evT h4 ?_
          by_cases h5 : t ≥ 15
          · exact ev_cast (evT h5 (Ev.now _)) (by simp [h4, h5])
          · refine ev_cast (evF h5 (evT (by omega) (Ev.now _))) ?_
            have e3 := shl_one (n := t + 1) (by omega) (by omega)
            rw [e3]
            simp [h4, h5]
        · exact ev_cast (evF h4 (Ev.now _)) (by simp [h4])
    · refine ev_now (impl_within_out (by omega)) ?_
      refine Ev.step (fun k => by rw [impl_WindowOk.j0]) ?_
      exact ev_cast (evT rfl (Ev.now _)) (if_neg (fun h => h2 h.2)).symm
  · refine ev_now (impl_within_out (by omega)) (evF (by simp) ?_)
    refine Ev.step (fun k => by rw [impl_WindowOk.j0]) ?_
    exact ev_cast (evT rfl (Ev.now _)) (if_neg (fun h => h1 h.1)).symm

/-! Fresh: both come to 'winFresh' -/
theorem spec_Fresh_f (t s q : Int) (ht : -9223372036854775808 ≤ t ∧ t ≤ 9223372036854775807) : Ev (fun k => spec_Fresh.f k t s q) (winFresh t s q) := by
  refine Ev.bind (spec_WindowOk_f t s ht) ?_
  by_cases h0 : winOk t s = true
  · refine evT h0 ?_
    by_cases h1 : 0 ≤ q ∧ q ≤ 9999
    · refine ev_now (spec_In_in h1.1 h1.2) ?_
      refine Ev.step (fun k => by rw [spec_Fresh.j0]) ?_
      refine evF (by simp) ?_
      obtain ⟨g1, g2⟩ := winOk_range h0
      by_cases h2 : q > t
      · exact ev_cast (evT h2 (Ev.now _)) (by simp [winFresh, h0, h1, h2])
      · have e1 : wrap64 (t - q) = t - q := w64 (by omega) (by omega)
        have e2 : IntKind.u64.wrap (t - q) = t - q := by
          simp [IntKind.wrap, IntKind.bits, IntKind.signed]
          omega
        rw [e1, e2]
        refine evF h2 ?_
        by_cases h3 : t - q < 16
        · refine ev_cast (evT h3 (evT (by omega) (Ev.now _))) ?_
          obtain ⟨g3, g4⟩ := shr_small16 (x := s) (y := t - q) (by omega) (by omega) (by omega) (by omega)
          rw [and_one (by omega) (by omega)]
          simp [winFresh, h0, h1, h2, h3]
        · exact ev_cast (evF h3 (Ev.now _)) (by simp [winFresh, h0, h1, h2, h3])
    · refine ev_now (spec_In_out (by omega)) ?_
      refine Ev.step (fun k => by rw [spec_Fresh.j0]) ?_
      exact ev_cast (evT rfl (Ev.now _)) (by simp [winFresh, h0]; intro g1 g2; omega)
  · refine evF h0 ?_
    refine Ev.step (fun k => by rw [spec_Fresh.j0]) ?_
    exact ev_cast (evT rfl (Ev.now _)) (by simp [winFresh, h0])
theorem impl_Fresh_f (t s q : Int) (ht : -9223372036854775808 ≤ t ∧ t ≤ 9223372036854775807) : Ev (fun k => impl_Fresh.f k t s q) (winFresh t s q) := by
  refine Ev.bind (impl_WindowOk_f t s ht) ?_
  by_cases h0 : winOk t s = true
  · refine evT h0 ?_
    by_cases h1 : 0 ≤ q ∧ q ≤ 9999
    · refine ev_now (impl_within_in h1.1 h1.2) (evT rfl ?_)
      obtain ⟨g1, g2⟩ := winOk_range h0
      have e1 : wrap64 (t - q) = t - q := w64 (by omega) (by omega)
      rw [e1]
      by_cases h2 : q > t
      · exact ev_cast (evT (by omega) (Ev.now _)) (by simp [winFresh, h0, h1, h2])
      · refine evF (by omega) ?_
        by_cases h3 : t - q < 16
        · refine ev_cast (evT h3 (evT (by omega) (Ev.now _))) ?_
          obtain ⟨g3, g4⟩ := shr_small16 (x := s) (y := t - q) (by omega) (by omega) (by omega) (by omega)
          rw [Int.tmod_eq_emod_of_nonneg (by omega)]
          simp [winFresh, h0, h1, h2, h3]
        · exact ev_cast (evF h3 (Ev.now _)) (by simp [winFresh, h0, h1, h2, h3])
    · exact ev_cast (ev_now (impl_within_out (by omega)) (evF (by simp) (Ev.now _))) (by simp [winFresh, h0]; intro g1 g2; omega)
  · exact ev_cast (evF h0 (Ev.now _)) (by simp [winFresh, h0])

/-! Noted: both come to 'winNoted' -/
theorem impl_Noted_f (t s q : Int) (ht : -9223372036854775808 ≤ t ∧ t ≤ 9223372036854775807) : Ev (fun k => impl_Noted.f k t s q) (winNoted t s q) := by
  unfold winNoted
  refine Ev.bind (impl_Fresh_f t s q ht) ?_
  by_cases h : winFresh t s q = true
  · obtain ⟨ho, hq, hf⟩ := winFresh_parts h
    obtain ⟨g1, g2⟩ := winOk_range ho
    refine evT h ?_
    refine ev_cast ?_ (if_pos h).symm
    rw [w64 (x := t - q) (by omega) (by omega), w64 (x := q - t) (by omega) (by omega)]
    by_cases hl : q < t
    · exact ev_cast (evT hl (evT (by omega) (Ev.now _))) (if_pos hl).symm
    · have hm : 0 ≤ mn (q - t) 16 ∧ mn (q - t) 16 ≤ 16 := by unfold mn; split <;> omega
      refine ev_cast (evF hl (evT hm.1 (Ev.now _))) ?_
      rw [if_neg hl]
      have := moved_impl (s := s.toNat) (a := (mn (q - t) 16).toNat) (by omega) (by omega)
      rw [Int.toNat_of_nonneg g2.1] at this
      rw [this]
  · exact ev_cast (evF h (Ev.now _)) (if_neg h).symm
theorem spec_Noted_f (t s q : Int) (ht : -9223372036854775808 ≤ t ∧ t ≤ 9223372036854775807) : Ev (fun k => spec_Noted.f k t s q) (winNoted t s q) := by
  unfold winNoted
  refine Ev.bind (spec_Fresh_f t s q ht) ?_
  by_cases h : winFresh t s q = true
  · obtain ⟨ho, hq, hf⟩ := winFresh_parts h
    obtain ⟨g1, g2⟩ := winOk_range ho
    have hne := winFresh_ne h
    refine evT h ?_
    refine ev_cast ?_ (if_pos h).symm
    rw [w64 (x := t - q) (by omega) (by omega), w64 (x := q - t) (by omega) (by omega)]
    by_cases hl : q < t
    · have e2 : IntKind.u64.wrap (t - q) = t - q := by
        simp [IntKind.wrap, IntKind.bits, IntKind.signed]
        omega
      rw [e2]
      exact ev_cast (evT (by omega) (evT (by omega) (Ev.now _))) (if_pos hl).symm
    · refine ev_cast ?_ (if_neg hl).symm
      have e2 : IntKind.u64.wrap (q - t) = q - t := by
        simp [IntKind.wrap, IntKind.bits, IntKind.signed]
        omega
      have e1 : Go.bits .or .i64 0 1 = 1 := by decide
      rw [e2, e1]
      refine evF (by omega) ?_
      by_cases h0 : t ≥ 0
      · refine evT h0 ?_
        by_cases h16 : q - t < 16
        · refine ev_cast (evT h16 (evT (by omega) (Ev.now _))) ?_
          have em : mn (q - t) 16 = q - t := by unfold mn; rw [if_neg (by omega)]
          have := moved_spec (s := s.toNat) (a := (q - t).toNat) (by omega) (by omega)
          rw [Int.toNat_of_nonneg g2.1, Int.toNat_of_nonneg (by omega)] at this
          rw [em, this]
        · refine ev_cast (evF h16 (Ev.now _)) ?_
          have em : mn (q - t) 16 = 16 := by unfold mn; split <;> omega
          rw [em, show ((16 : Int)).toNat = 16 from rfl, moved_16]
          rfl
      · refine ev_cast (evF h0 (Ev.now _)) ?_
        rw [(winOk_low ho).1 (by omega), show ((0 : Int)).toNat = 0 from rfl, moved_zero]
        rfl
  · exact ev_cast (evF h (Ev.now _)) (if_neg h).symm

/-! draws: what they come to lies in its bounds -/
theorem New_ev (l : List Int) (hl : l.length ≤ 140737488351232) : ∀ (d i : Nat) (x : Int), 4000 - i = d → i ≤ l.length → ∃ h, Ev (fun k => spec_l01New.l0 k l x (i : Int)) (l, 0, h) := by
  intro d
  induction d with
  | zero =>
    intro i x hd hi
    by_cases hlt : i < l.length
    · exact ⟨x, ev_end (fun k => by rw [spec_l01New.l0, if_pos (by omega), if_neg (by omega)])⟩
    · exact ⟨x, ev_end (fun k => by rw [spec_l01New.l0, if_neg (by omega)])⟩
  | succ d ih =>
    intro i x hd hi
    by_cases hlt : i < l.length
    · obtain ⟨h, hh⟩ := ih (i + 1) (Go.bits .and .i64 (wrap64 ((wrap64 ((wrap64 (x * 131)) + (wrap64 (rd l i)))) + 7)) 1073741823) (by omega) (by omega)
      exact ⟨h, Ev.step (fun k => by rw [spec_l01New.l0, if_pos (by omega), if_pos (by omega), if_pos (by omega), w64 (x := (i : Int) + 1) (by omega) (by omega)]; rfl) hh⟩
    · exact ⟨x, ev_end (fun k => by rw [spec_l01New.l0, if_neg (by omega)])⟩
theorem New_f (l : List Int) (hl : l.length ≤ 140737488351232) : ∃ h, Ev (fun k => spec_l01New.f k l) (l, 0, h) := New_ev l hl 4000 0 _ rfl (by omega)
theorem cur_zero {l : List Int} (hl : l.length ≤ 140737488351232) : Cur l 0 := ⟨by omega, by omega, hl⟩
theorem Byte_f {l : List Int} {i : Int} (h : Int) (c : Cur l i) : ∃ r i' h', spec_l01Byte.f l i h = some (r, i', h') ∧ Cur l i' ∧ 0 ≤ r ∧ r ≤ 255 := by
  obtain ⟨c0, c1, c2⟩ := c
  unfold spec_l01Byte.f
  by_cases hi : i < (l.length : Int)
  · rw [if_pos hi, if_pos c0, w64 (x := i + 1) (by omega) (by omega)]
    exact ⟨_, _, _, rfl, ⟨by omega, by omega, c2⟩, (and255 _).1, (and255 _).2⟩
  · rw [if_neg hi]
    exact ⟨_, _, _, rfl, ⟨c0, c1, c2⟩, (and255 _).1, (and255 _).2⟩
theorem Below_f {l : List Int} {i : Int} (h n : Int) (hn : n ≤ 4294967296) (c : Cur l i) : ∃ r i' h', spec_l01Below.f l i h n = some (r, i', h') ∧ Cur l i' ∧ (0 < n → 0 ≤ r ∧ r < n) ∧ (n ≤ 0 → r = 0) := by
  unfold spec_l01Below.f
  by_cases h0 : n ≤ 0
  · rw [if_pos h0]
    exact ⟨_, _, _, rfl, c, fun h => by omega, fun _ => rfl⟩
  · rw [if_neg h0]
    by_cases h1 : n ≤ 256
    · rw [if_pos h1]
      obtain ⟨r, i', h', e, c', r0, r1⟩ := Byte_f h c
      rw [e]
      simp only [Option.bind_some]
      rw [if_neg (by omega)]
      exact ⟨_, _, _, rfl, c', fun _ => by rw [Int.tmod_eq_emod_of_nonneg r0]; exact ⟨Int.emod_nonneg _ (by omega), Int.emod_lt_of_pos _ (by omega)⟩, fun h => by omega⟩
    · rw [if_neg h1]
      obtain ⟨ra, ia, ha, ea, ca, a0, a1⟩ := Byte_f h c
      rw [ea]
      simp only [Option.bind_some]
      obtain ⟨rb, ib, hb, eb, cb, b0, b1⟩ := Byte_f ha ca
      rw [eb]
      simp only [Option.bind_some]
      obtain ⟨rc, ic, hc, ec, cc, c0, c1⟩ := Byte_f hb cb
      rw [ec]
      simp only [Option.bind_some]
      obtain ⟨rd, id, hd, ed, cd, d0, d1⟩ := Byte_f hc cc
      rw [ed]
      simp only [Option.bind_some]
      rw [if_neg (by omega)]
      refine ⟨_, _, _, rfl, cd, fun _ => ?_, fun h => by omega⟩
      have e1 : wrap64 (ra * 16777216) = ra * 16777216 := w64 (by omega) (by omega)
      have e2 : wrap64 (rb * 65536) = rb * 65536 := w64 (by omega) (by omega)
      have e3 : wrap64 (rc * 256) = rc * 256 := w64 (by omega) (by omega)
      have e4 : wrap64 (ra * 16777216 + rb * 65536) = ra * 16777216 + rb * 65536 := w64 (by omega) (by omega)
      have e5 : wrap64 (ra * 16777216 + rb * 65536 + rc * 256) = ra * 16777216 + rb * 65536 + rc * 256 := w64 (by omega) (by omega)
      have e6 : wrap64 (ra * 16777216 + rb * 65536 + rc * 256 + rd) = ra * 16777216 + rb * 65536 + rc * 256 + rd := w64 (by omega) (by omega)
      rw [e1, e2, e3, e4, e5, e6, Int.tmod_eq_emod_of_nonneg (by omega)]
      exact ⟨Int.emod_nonneg _ (by omega), Int.emod_lt_of_pos _ (by omega)⟩

theorem rd_mem {l : List Int} {r : Int} (h0 : 0 ≤ r) (h1 : r < l.length) : rd l r ∈ l := by
  unfold rd
  have : r.toNat < l.length := by omega
  rw [List.getD_eq_getElem?_getD, List.getElem?_eq_getElem this]
  exact List.getElem_mem this
theorem PickInt_f {l : List Int} {i : Int} (h : Int) (xs : List Int) (h0 : 0 < xs.length) (hx : xs.length ≤ 256) (c : Cur l i) : ∃ r i' h', spec_l01PickInt.f l i h xs = some (r, i', h') ∧ Cur l i' ∧ r ∈ xs := by
  unfold spec_l01PickInt.f
  obtain ⟨r, i', h', e, c', hr, _⟩ := Below_f h (xs.length : Int) (by omega) c
  have hr := hr (by omega)
  rw [e]
  simp only [Option.bind_some]
  rw [if_pos hr.1, if_pos hr.2]
  exact ⟨_, _, _, rfl, c', rd_mem hr.1 hr.2⟩

theorem Places_ev (l : List Int) : ∀ (d n : Nat) (acc : List Int) (i h : Int), 12 - n = d → n ≤ 12 → acc.length = n → (∀ x ∈ acc, 0 ≤ x ∧ x < 10000) → Cur l i →
    ∃ r, Ev (fun k => spec_DrawPlaces.l0 k acc (n : Int) l i h) r ∧ r.length = 12 ∧ ∀ x ∈ r, 0 ≤ x ∧ x < 10000 := by
  intro d
  induction d with
  | zero =>
    intro n acc i h hd hn ha hx c
    exact ⟨acc, ev_end (fun k => by rw [spec_DrawPlaces.l0, if_neg (by omega)]), by omega, hx⟩
  | succ d ih =>
    intro n acc i h hd hn ha hx c
    obtain ⟨r, i', h', e, c', hr, _⟩ := Below_f h 10000 (by omega) c
    have hr := hr (by omega)
    obtain ⟨q, hq, q1, q2⟩ := ih (n + 1) (acc ++ [r]) i' h' (by omega) (by omega) (by simp; omega) (fun x hm => by
      rcases List.mem_append.1 hm with hm | hm
      · exact hx x hm
      · rw [List.mem_singleton.1 hm]; exact hr) c'
    refine ⟨q, ?_, q1, q2⟩
    refine Ev.step (fun k => by rw [spec_DrawPlaces.l0, if_pos (by omega), e, Option.bind_some, if_pos (by omega), w64 (x := (n : Int) + 1) (by omega) (by omega)]) ?_
    exact hq
theorem Places_f (l : List Int) (hl : l.length ≤ 140737488351232) : ∃ r, Ev (fun k => spec_DrawPlaces.f k l) r ∧ r.length = 12 ∧ ∀ x ∈ r, 0 ≤ x ∧ x < 10000 := by
  obtain ⟨h, hh⟩ := New_f l hl
  obtain ⟨r, i', h', e, c', _⟩ := Byte_f h (cur_zero hl)
  obtain ⟨q, hq, q1⟩ := Places_ev l 12 0 [] i' h' (by omega) (by omega) rfl (by simp) c'
  exact ⟨q, Ev.bind hh (ev_now e hq), q1⟩

/-! the drawn window -/
theorem noted_bounds (t s q : Int) (ht : -10000 ≤ t ∧ t ≤ 10000) (hq : 0 ≤ q ∧ q ≤ 30) : -10000 ≤ (winNoted t s q).1 ∧ (winNoted t s q).1 ≤ 10000 := by
  unfold winNoted
  split
  · split
    · exact ht
    · exact ⟨by simp only; omega, by simp only; omega⟩
  · exact ht
theorem Window_ev (l : List Int) : ∀ (d n : Nat) (i h t s : Int), 7 - n = d → n ≤ 7 → Cur l i → (-10000 ≤ t ∧ t ≤ 10000) →
    ∃ t' s' i' h', Ev (fun k => spec_l07Window.l0 k (n : Int) l i h t s) (t', s', i', h') ∧ Cur l i' ∧ (-10000 ≤ t' ∧ t' ≤ 10000) := by
  intro d
  induction d with
  | zero =>
    intro n i h t s hd hn c ht
    obtain ⟨r, i', h', e, c', hr, _⟩ := Below_f h 7 (by omega) c
    have hr := hr (by omega)
    exact ⟨t, s, i', h', ev_end (fun k => by rw [spec_l07Window.l0, e, Option.bind_some, if_neg (by simp only; omega)]), c', ht⟩
  | succ d ih =>
    intro n i h t s hd hn c ht
    obtain ⟨r, i', h', e, c', hr, _⟩ := Below_f h 7 (by omega) c
    have hr := hr (by omega)
    by_cases hlt : (n : Int) < r
    · obtain ⟨q, i2, h2, e2, c2, hq, _⟩ := Below_f h' 30 (by omega) c'
      have hq := hq (by omega)
      obtain ⟨t', s', i3, h3, hev, c3, ht'⟩ := ih (n + 1) i2 h2 (winNoted t s q).1 (winNoted t s q).2.1 (by omega) (by omega) c2 (noted_bounds t s q ht ⟨by omega, by omega⟩)
      refine ⟨t', s', i3, h3, ?_, c3, ht'⟩
      refine Ev.step (fun k => by rw [spec_l07Window.l0, e, Option.bind_some, if_pos hlt, e2, Option.bind_some, w64 (x := (n : Int) + 1) (by omega) (by omega)]) ?_
      exact Ev.bind (spec_Noted_f t s q (by omega)) hev
    · exact ⟨t, s, i', h', ev_end (fun k => by rw [spec_l07Window.l0, e, Option.bind_some, if_neg hlt]), c', ht⟩
theorem Window_f {l : List Int} {i : Int} (h : Int) (c : Cur l i) : ∃ t' s' i' h', Ev (fun k => spec_l07Window.f k l i h) (t', s', i', h') ∧ Cur l i' ∧ (-10000 ≤ t' ∧ t' ≤ 10000) :=
  Window_ev l 7 0 i h (-1) 0 (by omega) (by omega) c (by omega)
theorem Any_f {l : List Int} {i : Int} (h : Int) (c : Cur l i) : ∃ t' s' i' h', Ev (fun k => spec_l07Any.f k l i h) (t', s', i', h') ∧ (-10000 ≤ t' ∧ t' ≤ 10000) := by
  obtain ⟨r, i1, h1, e1, c1, _⟩ := Below_f h 10 (by omega) c
  obtain ⟨t, s, i2, h2, hev, c2, ht⟩ := Window_f h1 c1
  by_cases r0 : r = 0
  · obtain ⟨q, i3, h3, e3, c3, hq⟩ := PickInt_f h2 ([(-2), 10000, (-1), 3] : List Int) (by simp) (by simp) c2
    refine ⟨q, s, i3, h3, ev_now e1 (Ev.bind hev (evT r0 (ev_now e3 (Ev.now _)))), ?_⟩
    simp at hq
    omega
  · by_cases r1 : r = 1
    · obtain ⟨q, i3, h3, e3, c3, hq⟩ := PickInt_f h2 ([0, 65535, 65536, (-1), 2] : List Int) (by simp) (by simp) c2
      exact ⟨t, q, i3, h3, ev_now e1 (Ev.bind hev (evF r0 (evT r1 (ev_now e3 (Ev.now _))))), ht⟩
    · exact ⟨t, s, i2, h2, ev_now e1 (Ev.bind hev (evF r0 (evF r1 (Ev.now _)))), ht⟩
theorem DrawNoted_f (l : List Int) (hl : l.length ≤ 140737488351232) : ∃ t s q, Ev (fun k => spec_DrawNoted.f k l) (t, s, q) ∧ (-10000 ≤ t ∧ t ≤ 10000) := by
  obtain ⟨h, hh⟩ := New_f l hl
  obtain ⟨q, i1, h1, e1, c1, _⟩ := PickInt_f h ([0, 1, 5, 9, 14, 20, 29, 31, (-1), 9999, 10000] : List Int) (by simp) (by simp) (cur_zero hl)
  obtain ⟨t, s, i2, h2, hev, ht⟩ := Any_f h1 c1
  exact ⟨t, s, q, Ev.bind (Ev.bind hh (ev_now e1 (Ev.bind hev (Ev.now _)))) (Ev.now _), ht⟩

/-! the law's loop -/
theorem inner_ev (l p seen : List Int) (x n : Int) (t s t' s' : Int) (hn : 0 ≤ n ∧ n < 40) (ht : -1 ≤ t ∧ t ≤ 9999) (hs : seen.length ≤ 12)
    (hok : winFresh t s n = true) (hseen : ∀ m ∈ seen, Taken t s m) {r : Bool}
    (hj : Ev (fun k => laws_FnWindows.j3 k l p (seen ++ [n]) x n true t s t' s') r) :
    ∀ (d j : Nat), seen.length - j = d → j ≤ seen.length → Ev (fun k => laws_FnWindows.l1 k l p seen x n true (j : Int) t s t' s') r := by
  intro d
  induction d with
  | zero =>
    intro j hd hjl
    refine Ev.step (fun k => by rw [laws_FnWindows.l1, if_neg (by omega)]) ?_
    refine Ev.step (fun k => by rw [laws_FnWindows.j2]) ?_
    exact evF (by simp) (evT rfl (evT (by omega) hj))
  | succ d ih =>
    intro j hd hjl
    refine Ev.step (fun k => by rw [laws_FnWindows.l1, if_pos (by omega)]) ?_
    refine Ev.step (fun k => by rw [laws_FnWindows.j2]) ?_
    have hmem : rd seen (j : Int) ∈ seen := rd_mem (by omega) (by omega)
    have hne : rd seen (j : Int) ≠ n := by
      intro he
      have := taken_not_fresh (hseen _ hmem)
      rw [he, hok] at this
      cases this
    have hw : ¬ wrap64 (n + 16) ≤ t := by
      rw [w64 (by omega) (by omega)]
      have := (winFresh_parts hok).2.2
      omega
    refine evT rfl (evT (by omega) (evT (by omega) (evF hne (evF hw ?_))))
    rw [w64 (by omega) (by omega)]
    exact ih (j + 1) (by omega) (by omega)
theorem inner_no (l p seen : List Int) (x n : Int) (t s t' s' : Int) {r : Bool}
    (hj : Ev (fun k => laws_FnWindows.j3 k l p seen x n false t s t' s') r) :
    Ev (fun k => laws_FnWindows.l1 k l p seen x n false 0 t s t' s') r := by
  by_cases h : 0 < seen.length
  · refine Ev.step (fun k => by rw [laws_FnWindows.l1, if_pos (by omega)]) ?_
    refine Ev.step (fun k => by rw [laws_FnWindows.j2]) ?_
    exact evF (by simp) (evF (by simp) hj)
  · refine Ev.step (fun k => by rw [laws_FnWindows.l1, if_neg (by omega)]) ?_
    refine Ev.step (fun k => by rw [laws_FnWindows.j2]) ?_
    exact evF (by simp) (evF (by simp) hj)
theorem loop_ev (l p : List Int) (hl : l.length ≤ 140737488351232) (hp : p.length = 12) (hpx : ∀ x ∈ p, 0 ≤ x ∧ x < 10000) : ∀ (d i : Nat) (seen : List Int) (t s : Int), 12 - i = d → i ≤ 12 → winOk t s = true → seen.length ≤ i → (0 < i → 0 < seen.length) → (i = 0 → t = -1) → (∀ m ∈ seen, Taken t s m) →
    Ev (fun k => laws_FnWindows.l0 k l p seen (i : Int) t s) true := by
  intro d
  induction d with
  | zero =>
    intro i seen t s hd hi hw hsl hpos hfirst hseen
    refine Ev.step (fun k => by rw [laws_FnWindows.l0, if_neg (by omega)]) ?_
    obtain ⟨t1, s1, q1, hev, ht1⟩ := DrawNoted_f l hl
    refine Ev.bind hev (Ev.bind (impl_Noted_f t1 s1 q1 (by omega)) (Ev.bind (spec_Noted_f t1 s1 q1 (by omega)) ?_))
    refine evT (by simp) (evT (by simp) (Ev.bind (impl_Fresh_f t1 s1 q1 (by omega)) (Ev.bind (spec_Fresh_f t1 s1 q1 (by omega)) (evT (by simp) (Ev.bind (impl_WindowOk_f t1 s1 (by omega)) (Ev.bind (spec_WindowOk_f t1 s1 (by omega)) (evT (by simp) ?_)))))))
    refine ev_cast (Ev.now _) ?_
    simp
    exact hpos (by omega)
  | succ d ih =>
    intro i seen t s hd hi hw hsl hpos hfirst hseen
    have hr := winOk_range hw
    have hmem : rd p (i : Int) ∈ p := rd_mem (by omega) (by omega)
    have hb := hpx _ hmem
    have hn : 0 ≤ Int.tmod (rd p (i : Int)) 40 ∧ Int.tmod (rd p (i : Int)) 40 < 40 := by
      rw [Int.tmod_eq_emod_of_nonneg hb.1]
      omega
    generalize hN : Int.tmod (rd p (i : Int)) 40 = n at hn
    refine Ev.step (fun k => by rw [laws_FnWindows.l0, if_pos (by omega), if_pos (by omega), if_pos (by omega), hN]) ?_
    refine Ev.bind (impl_Noted_f t s n (by omega)) ?_
    rw [noted_ok]
    by_cases hf : winFresh t s n = true
    · obtain ⟨f1, f2, f3⟩ := noted_facts hf
      have hr' := winOk_range f1
      rw [hf]
      refine inner_ev l p seen i n t s _ _ hn hr.1 (by omega) hf hseen ?_ seen.length 0 (by omega) (by omega)
      refine Ev.step (fun k => by rw [laws_FnWindows.j3]) ?_
      refine Ev.bind (impl_Fresh_f t s n (by omega)) (evF (by simp [hf]) (Ev.bind (impl_WindowOk_f _ _ (by omega)) (evT f1 (evT rfl (Ev.bind (impl_Fresh_f _ _ n (by omega)) (evF ?_ ?_))))))
      · rw [taken_not_fresh f2]
        simp
      · rw [w64 (x := (i : Int) + 1) (by omega) (by omega)]
        refine ih (i + 1) (seen ++ [n]) _ _ (by omega) (by omega) f1 (by simp; omega) (by simp) (by omega) ?_
        intro m hm
        rcases List.mem_append.1 hm with hm | hm
        · exact f3 m (hseen m hm)
        · rw [List.mem_singleton.1 hm]
          exact f2
    · have hf : winFresh t s n = false := by simpa using hf
      rw [hf, noted_else hf]
      refine inner_no l p seen i n t s t s ?_
      refine Ev.step (fun k => by rw [laws_FnWindows.j3]) ?_
      refine Ev.bind (impl_Fresh_f t s n (by omega)) (evF (by simp [hf]) (Ev.bind (impl_WindowOk_f _ _ (by omega)) (evT hw (evF (by simp) ?_))))
      rw [w64 (x := (i : Int) + 1) (by omega) (by omega)]
      have hi0 : i ≠ 0 := by
        intro h0
        have ht := hfirst h0
        subst ht
        have : winFresh (-1) s n = true := by
          unfold winFresh
          rw [hw]
          simp
          omega
        rw [this] at hf
        cases hf
      exact ih (i + 1) seen t s (by omega) (by omega) hw (by omega) (fun _ => hpos (by omega)) (by omega) hseen
theorem FnWindows : laws_FnWindows.Pure := by
  intro l _ hl _
  refine Ev.rounds ?_
  by_cases hb : (l.length : Int) > 1048576
  · exact ev_now rfl (evT (by simpa using hb) (Ev.now _))
  refine ev_now rfl (evF (by simpa using hb) ?_)
  obtain ⟨p, hp, hp1, hp2⟩ := Places_f l (by omega)
  refine Ev.bind hp (ev_now rfl ?_)
  exact loop_ev l p (by omega) hp1 hp2 12 0 [] (-1) 0 (by omega) (by omega) (by decide) (by simp) (by omega) (fun _ => rfl) (by simp)

end Go.Proofs.Ytdhpcchmhikgeaa.Pure
