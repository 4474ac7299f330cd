/- Proved: the program's ReadShort returns what the reference's ReadShort returns, for every text and every place; no condition. -/
import Derived.Test.YtdhpcchmhikgeaaPFnExactReadShortx2
import Derived.Test.YtdhpcchmhikgeaaBase
namespace Go.Proofs.Ytdhpcchmhikgeaa.Pure
open Go.RowKit Go.Proofs.Ytdhpcchmhikgeaa.PFnExactReadShort Go.Proofs.Ytdhpcchmhikgeaa.Base Go.Proofs.YtdhpcchmhikgeaaW.PrintWords Go.Proofs.YtdhpcchmhikgeaaW.PrintLast Go.Proofs.YtdhpcchmhikgeaaW.PrintMore
set_option linter.unusedVariables false
set_option linter.unusedSimpArgs false

/-! numbers as texts -/
theorem spec_l01Var_ev (d : Nat) : ∀ (n : Nat) (acc : List Int), n < 128 ^ (d + 1) → n ≤ 9223372036854775807 → acc.length + d ≤ 1000000 → Ev (fun k => spec_l01Var.l0 k (n : Int) acc) (strOfNums (acc ++ varN n)) := by
  induction d with
  | zero =>
    intro n acc h hb ha
    rw [varN_small (by omega)]
    refine ev_end (fun k => ?_)
    rw [spec_l01Var.l0, if_neg (by omega), if_pos (by omega)]
    congr 4
    omega
  | succ d ih =>
    intro n acc h hb ha
    by_cases hn : n > 127
    · rw [varN_big hn]
      refine Ev.step (fun k => by rw [spec_l01Var.l0, if_pos (by omega), if_pos (by omega)]) ?_
      have e1 : wrap64 (Int.tdiv (n : Int) 128) = ((n / 128 : Nat) : Int) := by
        rw [Int.tdiv_eq_ediv_of_nonneg (by omega)]
        unfold wrap64
        omega
      have e2 : wrap64 ((Int.tmod (n : Int) 128) + 128) % 256 = ((n % 128 + 128 : Nat) : Int) := by
        rw [Int.tmod_eq_emod_of_nonneg (by omega)]
        unfold wrap64
        omega
      rw [e1, e2]
      refine ev_cast (ih (n / 128) _ (by rw [Nat.div_lt_iff_lt_mul (by omega)]; rw [Nat.pow_succ] at h; exact h) (by omega) (by simp; omega)) ?_
      simp
    · rw [varN_small (by omega)]
      refine ev_end (fun k => ?_)
      rw [spec_l01Var.l0, if_neg (by omega), if_pos (by omega)]
      congr 4
      omega
theorem spec_l01Var_f (n : Nat) (h : n ≤ 9223372036854775807) : Ev (fun k => spec_l01Var.f k (n : Int)) (strOfNums (varN n)) :=
  spec_l01Var_ev 9 n [] (by omega) h (by simp)

theorem spec_In_in {a b c : Int} (h : b ≤ a) (h' : a ≤ c) : spec_l01In.f a b c = some true := by
  unfold spec_l01In.f
  rw [if_pos h]
  simp [h']
theorem spec_In_out {a b c : Int} (h : a < b ∨ c < a) : spec_l01In.f a b c = some false := by
  unfold spec_l01In.f
  by_cases h0 : a ≥ b
  · rw [if_pos h0]
    have : ¬ a ≤ c := by omega
    simp [this]
  · rw [if_neg h0]

theorem impl_within_in {a b c : Int} (h : b ≤ a) (h' : a ≤ c) : impl_within.f a b c = some true := by
  unfold impl_within.f
  rw [if_pos h]
  simp [h']
theorem impl_within_out {a b c : Int} (h : a < b ∨ c < a) : impl_within.f a b c = some false := by
  unfold impl_within.f
  by_cases h0 : a ≥ b
  · rw [if_pos h0]
    have : ¬ a ≤ c := by omega
    simp [this]
  · rw [if_neg h0]

/-! the reference's ReadVar -/
theorem spec_ReadVar_ev (s : ByteArray) (hs : s.size ≤ 140737488351232) (A : Nat) (hA : A ≤ s.size) : ∀ (d j : Nat) (n : Int), 5 - j = d → j ≤ 5 → 0 ≤ n → n < 128 ^ j →
    Ev (fun k => spec_ReadVar.l0 k s (A : Int) n (128 ^ j) ((A + j : Nat) : Int)) (readVj ((bytesOf s).drop A) ((bytesOf s).drop (A + j)) A j n) := by
  intro d
  induction d with
  | zero =>
    intro j n hd hj h0 h1
    obtain rfl : j = 5 := by omega
    rw [readVj_end]
    by_cases hlt : A + 5 < s.size
    · refine Ev.step (fun k => by rw [spec_ReadVar.l0, if_pos (by omega), w64 (by omega) (by omega)]) (ev_end (fun k => ?_))
      rw [spec_ReadVar.j1, if_neg (by simp only [decide_eq_true_eq]; omega)]
    · refine Ev.step (fun k => by rw [spec_ReadVar.l0, if_neg (by omega)]) (ev_end (fun k => ?_))
      rw [spec_ReadVar.j1, if_neg (by simp)]
  | succ d ih =>
    intro j n hd hj h0 h1
    have hj5 : j < 5 := by omega
    by_cases hlt : A + j < s.size
    · have hr := bt_range s ((A + j : Nat) : Int)
      rw [bytesOf_drop hlt]
      have hp : (0 : Int) < 128 ^ j ∧ (128 : Int) ^ j ≤ 268435456 ∧ (128 : Int) ^ (j + 1) = 128 * 128 ^ j := by
        have : j = 0 ∨ j = 1 ∨ j = 2 ∨ j = 3 ∨ j = 4 := by omega
        rcases this with rfl | rfl | rfl | rfl | rfl <;> decide
      generalize hP : (128 : Int) ^ j = P at hp h1
      obtain ⟨hp0, hp1, hp2⟩ := hp
      refine Ev.step (fun k => by rw [spec_ReadVar.l0, if_pos (by omega), w64 (by omega) (by omega)]) ?_
      have e0 : wrap64 (bt s ((A + j : Nat) : Int)) = bt s ((A + j : Nat) : Int) := w64 (by omega) (by omega)
      have em : Int.tmod (bt s ((A + j : Nat) : Int)) 128 = bt s ((A + j : Nat) : Int) % 128 := Int.tmod_eq_emod_of_nonneg (by omega)
      have hc0 : 0 ≤ bt s ((A + j : Nat) : Int) % 128 ∧ bt s ((A + j : Nat) : Int) % 128 ≤ 127 := by omega
      have hm : bt s ((A + j : Nat) : Int) % 128 * P = P * (bt s ((A + j : Nat) : Int) % 128) := Int.mul_comm _ _
      have hb0 : 0 ≤ P * (bt s ((A + j : Nat) : Int) % 128) := Int.mul_nonneg (by omega) hc0.1
      have hb1 : P * (bt s ((A + j : Nat) : Int) % 128) ≤ P * 127 := Int.mul_le_mul_of_nonneg_left hc0.2 (by omega)
      refine Ev.step (fun k => by rw [spec_ReadVar.j1, if_pos (by simp only [decide_eq_true_eq]; omega), if_pos (by omega), if_pos (by omega), e0, em, hm, w64 (x := P * _) (by omega) (by omega), w64 (x := n + _) (by omega) (by omega), w64 (x := _ + 1) (by omega) (by omega)]) ?_
      by_cases hc : bt s ((A + j : Nat) : Int) < 128
      · refine evT hc ?_
        have ec : bt s ((A + j : Nat) : Int) % 128 = bt s ((A + j : Nat) : Int) := by omega
        rw [readVj_small _ _ _ _ _ _ hj5 (by omega) (by omega), hP]
        rw [ec] at hb0 hb1 ⊢
        by_cases hbig : n + P * bt s ((A + j : Nat) : Int) > 1000000000
        · refine evT hbig ?_
          rw [if_neg (by omega)]
          exact Ev.now _
        · refine evF hbig ?_
          have hv := spec_l01Var_f (n + P * bt s ((A + j : Nat) : Int)).toNat (by omega)
          rw [Int.toNat_of_nonneg (by omega)] at hv
          refine Ev.bind hv (evT (by omega) (evT (by omega) (evT (by omega) ?_)))
          have hiff := str_ext_iff (varN_range (n + P * bt s ((A + j : Nat) : Int)).toNat) s A (A + j + 1)
          rw [show A + j + 1 - A = j + 1 by omega] at hiff
          have ei : (((A + j : Nat) : Int) + 1).toNat = A + j + 1 := by omega
          rw [ei, Int.toNat_natCast]
          by_cases hq : varN (n + P * bt s ((A + j : Nat) : Int)).toNat = ((bytesOf s).drop A).take (j + 1)
          · refine ev_cast (evT (hiff.2 hq) (Ev.now _)) ?_
            rw [if_pos ⟨by omega, hq⟩]
            congr 2
          · exact ev_cast (evF (fun h => hq (hiff.1 h)) (Ev.now _)) (if_neg (fun h => hq h.2)).symm
      · refine evF hc ?_
        rw [readVj_big _ _ _ _ _ _ hj5 (by omega) (by omega), hP]
        have e1 : wrap64 (P * 128) = 128 ^ (j + 1) := by rw [hp2, w64 (by omega) (by omega)]; omega
        have e2 : ((A + j : Nat) : Int) + 1 = ((A + (j + 1) : Nat) : Int) := by omega
        rw [e1, e2]
        have := ih (j + 1) (n + P * (bt s ((A + j : Nat) : Int) % 128)) (by omega) (by omega) (by omega) (by omega)
        exact this
    · rw [bytesOf_all (i := A + j) (by omega), readVj_nil]
      refine Ev.step (fun k => by rw [spec_ReadVar.l0, if_neg (by omega)]) (ev_end (fun k => ?_))
      rw [spec_ReadVar.j1, if_neg (by simp)]
theorem spec_ReadVar_f (s : ByteArray) (hs : s.size ≤ 140737488351232) (a : Int) : Ev (fun k => spec_ReadVar.f k s a) (readVar s a) := by
  unfold readVar
  by_cases h : 0 ≤ a ∧ a ≤ s.size
  · rw [if_pos h]
    obtain ⟨A, rfl⟩ := Int.eq_ofNat_of_zero_le h.1
    refine ev_now (spec_In_in h.1 h.2) (evT rfl ?_)
    have := spec_ReadVar_ev s hs A (by omega) 5 0 0 (by omega) (by omega) (by omega) (by simp)
    rw [Int.toNat_natCast, ← readVj_zero]
    simpa using this
  · rw [if_neg h]
    exact ev_now (spec_In_out (by omega)) (evF (by simp) (Ev.now _))

/-! the program's ReadVar -/
theorem impl_ReadVar_ev (s : ByteArray) (hs : s.size ≤ 140737488351232) (A : Nat) (hA : A ≤ s.size) : ∀ (d j : Nat) (n : Int), 5 - j = d → j ≤ 5 → 0 ≤ n → n < 128 ^ j →
    (rv 5 ((bytesOf s).drop A) = (rv (5 - j) ((bytesOf s).drop (A + j))).map (fun p => ((n + 128 ^ j * (p.1 : Int)).toNat, j + p.2))) →
    Ev (fun k => impl_ReadVar.l0 k s (A : Int) n (j : Int)) (readVj ((bytesOf s).drop A) ((bytesOf s).drop (A + j)) A j n) := by
  intro d
  induction d with
  | zero =>
    intro j n hd hj h0 h1 hrv
    obtain rfl : j = 5 := by omega
    rw [readVj_end]
    refine Ev.step (fun k => by rw [impl_ReadVar.l0, if_neg (by omega)]) (ev_end (fun k => ?_))
    rw [impl_ReadVar.j1, if_neg (by simp)]
  | succ d ih =>
    intro j n hd hj h0 h1 hrv
    have hj5 : j < 5 := by omega
    have ea : (A : Int) + (j : Int) = ((A + j : Nat) : Int) := by omega
    by_cases hlt : A + j < s.size
    · have hr := bt_range s ((A + j : Nat) : Int)
      rw [bytesOf_drop hlt] at hrv ⊢
      have hp : (0 : Int) < 128 ^ j ∧ (128 : Int) ^ j ≤ 268435456 ∧ (128 : Int) ^ (j + 1) = 128 * 128 ^ j ∧ (2 : Int) ^ (7 * j) = 128 ^ j := by
        have : j = 0 ∨ j = 1 ∨ j = 2 ∨ j = 3 ∨ j = 4 := by omega
        rcases this with rfl | rfl | rfl | rfl | rfl <;> decide
      generalize hP : (128 : Int) ^ j = P at hp h1 hrv
      obtain ⟨hp0, hp1, hp2, hp3⟩ := hp
      refine Ev.step (fun k => by rw [impl_ReadVar.l0, if_pos (by omega), w64 (by omega) (by omega), ea]) ?_
      have e0 : wrap64 (bt s ((A + j : Nat) : Int)) = bt s ((A + j : Nat) : Int) := w64 (by omega) (by omega)
      have em : Int.tmod (bt s ((A + j : Nat) : Int)) 128 = bt s ((A + j : Nat) : Int) % 128 := Int.tmod_eq_emod_of_nonneg (by omega)
      have hc0 : 0 ≤ bt s ((A + j : Nat) : Int) % 128 ∧ bt s ((A + j : Nat) : Int) % 128 ≤ 127 := by omega
      have hm : bt s ((A + j : Nat) : Int) % 128 * P = P * (bt s ((A + j : Nat) : Int) % 128) := Int.mul_comm _ _
      have hb0 : 0 ≤ P * (bt s ((A + j : Nat) : Int) % 128) := Int.mul_nonneg (by omega) hc0.1
      have hb1 : P * (bt s ((A + j : Nat) : Int) % 128) ≤ P * 127 := Int.mul_le_mul_of_nonneg_left hc0.2 (by omega)
      have e7 : wrap64 (7 * (j : Int)) = 7 * (j : Int) := w64 (by omega) (by omega)
      have esh : shl .i64 (bt s ((A + j : Nat) : Int) % 128) (7 * (j : Int)) = P * (bt s ((A + j : Nat) : Int) % 128) := by
        unfold shl
        have : min (7 * (j : Int)).toNat IntKind.i64.bits = 7 * j := by
          simp only [IntKind.bits]
          omega
        rw [this, hp3, hm, IntKind.wrap_i64]
        omega
      by_cases hc : bt s ((A + j : Nat) : Int) > 127
      · refine Ev.step (fun k => by rw [impl_ReadVar.j1, if_pos (by simp only [decide_eq_true_eq]; omega), w64 (x := (A : Int) + (j : Int)) (by omega) (by omega), ea, if_pos (by omega), if_pos (by omega), e7, if_pos (by omega), e0, em, if_pos hc, esh, w64 (x := n + _) (by omega) (by omega), w64 (x := (j : Int) + 1) (by omega) (by omega)]) ?_
        rw [readVj_big _ _ _ _ _ _ hj5 (by omega) (by omega), hP]
        have := ih (j + 1) (n + P * (bt s ((A + j : Nat) : Int) % 128)) (by omega) (by omega) (by omega) (by omega) ?_
        · exact this
        · rw [hrv, show 5 - j = (5 - (j + 1)) + 1 by omega, rv, if_pos (by omega), Option.map_map]
          congr 1
          funext p
          simp only [Function.comp, Prod.mk.injEq]
          constructor
          · congr 1
            rw [hp2, Int.natCast_add, Int.toNat_of_nonneg (by omega), Int.natCast_mul, Int.mul_add, show ((128 : Nat) : Int) = 128 from rfl, Int.mul_comm 128 P, Int.mul_assoc, Int.add_assoc]
          · omega
      · have ec : bt s ((A + j : Nat) : Int) % 128 = bt s ((A + j : Nat) : Int) := by omega
        rw [readVj_small _ _ _ _ _ _ hj5 (by omega) (by omega), hP]
        have hrange : ∀ x ∈ (bytesOf s).drop A, 0 ≤ x ∧ x ≤ 255 := fun x hx => bytesOf_range (List.mem_of_mem_drop hx)
        rw [show 5 - j = (5 - (j + 1)) + 1 by omega, rv, if_neg (by omega)] at hrv
        simp only [Option.map_some, Int.toNat_of_nonneg hr.1] at hrv
        have hcan := rv_canon hrange hrv
        have hget : ((bytesOf s).drop A)[j + 1 - 1]? = some (bt s ((A + j : Nat) : Int)) := by
          rw [Nat.add_sub_cancel, List.getElem?_drop, List.getElem?_eq_getElem (by rw [bytesOf_length]; exact hlt), bytesOf_get hlt]
        rw [hget] at hcan
        rw [ec] at hb0 hb1 esh
        refine Ev.step (fun k => by rw [impl_ReadVar.j1, if_pos (by simp only [decide_eq_true_eq]; omega), w64 (x := (A : Int) + (j : Int)) (by omega) (by omega), ea, if_pos (by omega), if_pos (by omega), e7, if_pos (by omega), e0, em, ec, if_neg hc, esh, w64 (x := n + _) (by omega) (by omega), w64 (x := _ + 1) (by omega) (by omega)]) ?_
        have ee : ((A + j : Nat) : Int) + 1 = (A : Int) + ((j + 1 : Nat) : Int) := by omega
        by_cases hj0 : (j : Int) > 0
        · refine evT hj0 ?_
          by_cases hz : bt s ((A + j : Nat) : Int) = 0
          · refine evT hz ?_
            rw [if_neg]
            · exact Ev.now _
            · intro h
              exact hcan.1 h.2 ⟨by omega, by rw [hz]⟩
          · refine evF hz ?_
            by_cases hbig : n + P * bt s ((A + j : Nat) : Int) > 1000000000
            · refine evT hbig ?_
              rw [if_neg (by omega)]
              exact Ev.now _
            · refine evF hbig ?_
              rw [if_pos ⟨by omega, hcan.2 (fun h => hz (Option.some.inj h.2))⟩, ee]
              exact Ev.now _
        · refine evF hj0 ?_
          by_cases hbig : n + P * bt s ((A + j : Nat) : Int) > 1000000000
          · refine evT hbig ?_
            rw [if_neg (by omega)]
            exact Ev.now _
          · refine evF hbig ?_
            rw [if_pos ⟨by omega, hcan.2 (fun h => by omega)⟩, ee]
            exact Ev.now _
    · rw [bytesOf_all (i := A + j) (by omega), readVj_nil]
      refine Ev.step (fun k => by rw [impl_ReadVar.l0, if_pos (by omega), w64 (by omega) (by omega)]) (ev_end (fun k => ?_))
      rw [impl_ReadVar.j1, if_neg (by simp only [decide_eq_true_eq]; omega)]
theorem impl_ReadVar_f (s : ByteArray) (hs : s.size ≤ 140737488351232) (a : Int) : Ev (fun k => impl_ReadVar.f k s a) (readVar s a) := by
  unfold readVar
  by_cases h : 0 ≤ a ∧ a ≤ s.size
  · rw [if_pos h]
    obtain ⟨A, rfl⟩ := Int.eq_ofNat_of_zero_le h.1
    refine ev_now (impl_within_in h.1 h.2) (evT rfl ?_)
    have := impl_ReadVar_ev s hs A (by omega) 5 0 0 (by omega) (by omega) (by omega) (by simp) (by simp)
    rw [Int.toNat_natCast, ← readVj_zero]
    simpa using this
  · rw [if_neg h]
    exact ev_now (impl_within_out (by omega)) (evF (by simp) (Ev.now _))

theorem spec_ReadShort_f (s : ByteArray) (hs : s.size ≤ 140737488351232) (a : Int) : Ev (fun k => spec_ReadShort.f k s a) (readShort s a) := by
  refine Ev.bind (spec_ReadVar_f s hs a) ?_
  unfold readShort
  by_cases h : (readVar s a).2.2 = true
  · have hr := readVar_ok h
    refine evT h ?_
    refine ev_cast ?_ (if_pos h).symm
    by_cases h1 : (readVar s a).1 > 20000
    · exact ev_cast (evT h1 (Ev.now _)) (if_pos (Or.inl h1)).symm
    · refine evF h1 ?_
      rw [w64 (x := (s.size : Int) - _) (by omega) (by omega), w64 (x := _ + _) (by omega) (by omega)]
      by_cases h2 : (readVar s a).1 > (s.size : Int) - (readVar s a).2.1
      · exact ev_cast (evT h2 (Ev.now _)) (if_pos (Or.inr h2)).symm
      · exact ev_cast (evF h2 (evT (by omega) (evT (by omega) (evT (by omega) (Ev.now _))))) (if_neg (by omega)).symm
  · exact ev_cast (evF h (Ev.now _)) (if_neg h).symm

theorem impl_ReadShort_f (s : ByteArray) (hs : s.size ≤ 140737488351232) (a : Int) : Ev (fun k => impl_ReadShort.f k s a) (readShort s a) := by
  refine Ev.bind (impl_ReadVar_f s hs a) ?_
  unfold readShort
  by_cases h : (readVar s a).2.2 = true
  · have hr := readVar_ok h
    refine evT h ?_
    refine ev_cast ?_ (if_pos h).symm
    by_cases h1 : (readVar s a).1 > 20000
    · exact ev_cast (evT h1 (Ev.now _)) (if_pos (Or.inl h1)).symm
    · refine evF h1 ?_
      rw [w64 (x := (s.size : Int) - _) (by omega) (by omega), w64 (x := _ + _) (by omega) (by omega)]
      by_cases h2 : (readVar s a).1 > (s.size : Int) - (readVar s a).2.1
      · exact ev_cast (evT h2 (Ev.now _)) (if_pos (Or.inr h2)).symm
      · exact ev_cast (evF h2 (evT (by omega) (evT (by omega) (evT (by omega) (Ev.now _))))) (if_neg (by omega)).symm
  · exact ev_cast (evF h (Ev.now _)) (if_neg h).symm

theorem FnExactReadShort : laws_FnExactReadShort.Pure := by
  intro s a hs _
  refine Ev.rounds ?_
  by_cases hb : (s.size : Int) > 1048576
  · exact evT hb (Ev.now _)
  exact evF hb (Ev.bind (spec_ReadShort_f s hs a) (Ev.bind (impl_ReadShort_f s hs a) (evT rfl (evT rfl (evF (by simp) (Ev.now _))))))

end Go.Proofs.Ytdhpcchmhikgeaa.Pure
