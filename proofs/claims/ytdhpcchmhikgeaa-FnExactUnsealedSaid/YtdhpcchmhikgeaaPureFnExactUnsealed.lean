/- Proved: the program's Unsealed returns what the reference's Unsealed returns, for every text; no condition. -/
import Derived.Test.YtdhpcchmhikgeaaPFnExactUnsealedx2
import Derived.Test.YtdhpcchmhikgeaaBase
namespace Go.Proofs.Ytdhpcchmhikgeaa.Pure
open Go.RowKit Go.Proofs.Ytdhpcchmhikgeaa.PFnExactUnsealed Go.Proofs.Ytdhpcchmhikgeaa.Base Go.Proofs.YtdhpcchmhikgeaaW.PrintWords Go.Proofs.YtdhpcchmhikgeaaW.PrintLast Go.Proofs.YtdhpcchmhikgeaaW.PrintMore
set_option linter.unusedVariables false
set_option linter.unusedSimpArgs false

/-! SumMore: both come to 'sumL' -/
theorem spec_SumMore_ev (s : ByteArray) (hs : s.size ≤ 140737488351232) : ∀ (d i : Nat) (x : Int), s.size - i = d → i ≤ s.size → Ev (fun k => spec_SumMore.l0 k x s (i : Int)) (sumL x ((bytesOf s).drop i)) := by
  intro d
  induction d with
  | zero =>
    intro i x hd hi
    have : (bytesOf s).drop i = [] := bytesOf_all (by omega)
    rw [this]
    exact ev_end (fun k => by rw [spec_SumMore.l0, if_neg (by omega)]; rfl)
  | succ d ih =>
    intro i x hd hi
    have hlt : i < s.size := by omega
    rw [bytesOf_drop hlt]
    refine Ev.step (fun k => by rw [spec_SumMore.l0, if_pos (by omega), if_pos (by omega)]) ?_
    have inner : ∀ (m : Nat) (j : Int) (y : Int), (8 : Int) - j = m → 0 ≤ j → Ev (fun k => spec_SumMore.l1 k y s (i : Int) j) (sumL (sit m y) ((bytesOf s).drop (i + 1))) := by
      intro m
      induction m with
      | zero =>
        intro j y hj h0
        refine Ev.step (fun k => by rw [spec_SumMore.l1, if_neg (by omega), w64 (by omega) (by omega)]) ?_
        exact ih (i + 1) y (by omega) (by omega)
      | succ m ihm =>
        intro j y hj h0
        by_cases ho : Int.tmod y 2 = 1
        · refine Ev.step (fun k => by rw [spec_SumMore.l1, if_pos (by omega), if_pos ho, w64 (by omega) (by omega)]) ?_
          refine ev_cast (ihm (j + 1) _ (by omega) (by omega)) ?_
          rw [sit, sone, if_pos ho]
        · refine Ev.step (fun k => by rw [spec_SumMore.l1, if_pos (by omega), if_neg ho, w64 (by omega) (by omega)]) ?_
          refine ev_cast (ihm (j + 1) _ (by omega) (by omega)) ?_
          rw [sit, sone, if_neg ho]
    exact inner 8 0 _ (by omega) (by omega)
theorem spec_SumMore_f (x : Int) (s : ByteArray) (hs : s.size ≤ 140737488351232) : Ev (fun k => spec_SumMore.f k x s) (sumL x (bytesOf s)) :=
  spec_SumMore_ev s hs s.size 0 x (by omega) (by omega)
theorem impl_SumMore_ev (s : ByteArray) (hs : s.size ≤ 140737488351232) : ∀ (d i : Nat) (x : Int), s.size - i = d → i ≤ s.size → Ev (fun k => impl_SumMore.l0 k x s (i : Int)) (sumL x ((bytesOf s).drop i)) := by
  intro d
  induction d with
  | zero =>
    intro i x hd hi
    have : (bytesOf s).drop i = [] := bytesOf_all (by omega)
    rw [this]
    exact ev_end (fun k => by rw [impl_SumMore.l0, if_neg (by omega)]; rfl)
  | succ d ih =>
    intro i x hd hi
    have hlt : i < s.size := by omega
    rw [bytesOf_drop hlt]
    refine Ev.step (fun k => by rw [impl_SumMore.l0, if_pos (by omega), if_pos (by omega)]) ?_
    have inner : ∀ (m : Nat) (j : Int) (y : Int), (8 : Int) - j = m → 0 ≤ j → Ev (fun k => impl_SumMore.l1 k y s (i : Int) j) (sumL (sit m y) ((bytesOf s).drop (i + 1))) := by
      intro m
      induction m with
      | zero =>
        intro j y hj h0
        refine Ev.step (fun k => by rw [impl_SumMore.l1, if_neg (by omega), w64 (by omega) (by omega)]) ?_
        exact ih (i + 1) y (by omega) (by omega)
      | succ m ihm =>
        intro j y hj h0
        by_cases ho : Int.tmod y 2 = 1
        · refine Ev.step (fun k => by rw [impl_SumMore.l1, if_pos (by omega), if_pos ho, w64 (by omega) (by omega)]) ?_
          refine ev_cast (ihm (j + 1) _ (by omega) (by omega)) ?_
          rw [sit, sone, if_pos ho]
        · refine Ev.step (fun k => by rw [impl_SumMore.l1, if_pos (by omega), if_neg ho, w64 (by omega) (by omega)]) ?_
          refine ev_cast (ihm (j + 1) _ (by omega) (by omega)) ?_
          rw [sit, sone, if_neg ho]
    exact inner 8 0 _ (by omega) (by omega)
theorem impl_SumMore_f (x : Int) (s : ByteArray) (hs : s.size ≤ 140737488351232) : Ev (fun k => impl_SumMore.f k x s) (sumL x (bytesOf s)) :=
  impl_SumMore_ev s hs s.size 0 x (by omega) (by omega)

/-! Sealed: both put the four bytes of the sum behind the text -/
theorem impl_highFirst_f (x : Int) (h0 : 0 ≤ x) (h1 : x ≤ 4294967295) : Ev (fun k => impl_highFirst.f k x 4) (strOfNums (four x)) := by
  have e : ∀ y : Int, 0 ≤ y → y ≤ 4294967295 → Go.bits .and .i64 y 255 % 256 = y % 256 := fun y h0 h1 => by rw [and_255 h0 (by omega)]; omega
  refine evT (by omega) (evT (by decide) ?_)
  have e4 : List.replicate ((4 : Int)).toNat (0 : Int) = [0, 0, 0, 0] := rfl
  have w3 : wrap64 (4 - 1) = 3 := by unfold wrap64; omega
  have w2 : wrap64 (3 - 1) = 2 := by unfold wrap64; omega
  have w1 : wrap64 (2 - 1) = 1 := by unfold wrap64; omega
  have w0 : wrap64 (1 - 1) = 0 := by unfold wrap64; omega
  have wm : wrap64 (0 - 1) = -1 := by unfold wrap64; omega
  rw [e4, w3]
  refine Ev.step (fun k => by rw [impl_highFirst.l0, if_pos (by omega), if_pos (by omega), if_pos (by simp), w2, e x h0 h1]) ?_
  refine Ev.step (fun k => by rw [impl_highFirst.l0, if_pos (by omega), if_pos (by omega), if_pos (by simp), w1, e _ (by omega) (by omega)]) ?_
  refine Ev.step (fun k => by rw [impl_highFirst.l0, if_pos (by omega), if_pos (by omega), if_pos (by simp), w0, e _ (by omega) (by omega)]) ?_
  refine Ev.step (fun k => by rw [impl_highFirst.l0, if_pos (by omega), if_pos (by omega), if_pos (by simp), wm, e _ (by omega) (by omega)]) ?_
  refine ev_end (fun k => ?_)
  rw [impl_highFirst.l0, if_neg (by omega)]
  congr 2
  simp only [four]
  have a1 : x / 256 / 256 = x / 65536 := by omega
  have a2 : x / 256 / 256 / 256 = x / 16777216 := by omega
  rw [a2, a1]
  rfl
theorem impl_SumOf_f (s : ByteArray) (hs : s.size ≤ 140737488351232) : Ev (fun k => impl_SumOf.f k s) (sumL 4294967295 (bytesOf s)) :=
  Ev.bind (impl_SumMore_f _ s hs) (Ev.now _)
theorem sealed_size (s : ByteArray) (h : s.size ≤ 20000) (x : Int) : s.size + (strOfNums (four x)).size ≤ 9223372036854775807 := by
  rw [strOfNums_size]
  simp only [four, List.length_cons, List.length_nil]
  omega
theorem impl_Sealed_in (s : ByteArray) (h : s.size ≤ 20000) : Ev (fun k => impl_Sealed.f k s) (s ++ strOfNums (four (sumL 4294967295 (bytesOf s))), true) := by
  have hr := sumL_range (l := bytesOf s) (x := 4294967295) (by omega) (by omega)
  refine evF (by omega) (Ev.bind (impl_SumOf_f s (by omega)) ?_)
  rw [w64 (by omega) (by omega)]
  exact Ev.bind (impl_highFirst_f _ hr.1 hr.2) (evT (sealed_size s h _) (Ev.now _))
theorem impl_Sealed_out (s : ByteArray) (h : ¬ s.size ≤ 20000) : Ev (fun k => impl_Sealed.f k s) ((⟨#[]⟩ : ByteArray), false) := evT (by omega) (Ev.now _)

theorem spec_SumOf_f (s : ByteArray) (hs : s.size ≤ 140737488351232) : Ev (fun k => spec_SumOf.f k s) (sumL 4294967295 (bytesOf s)) :=
  Ev.bind (spec_SumMore_f _ s hs) (Ev.now _)
theorem spec_Four_f (x : Int) : spec_l02Four.f x = some (strOfNums (four x)) := rfl

theorem unseal_iff (s : ByteArray) (n : Nat) (hn : n + 4 = s.size) (x : Int) : ((s.extract 0 n ++ strOfNums (four x)).toList = s.toList) ↔ ((s.extract n s.size).toList = (strOfNums (four x)).toList) := by
  rw [toList_iff, toList_iff, bytesOf_append, bytesOf_str (four_range x), bytesOf_extract, bytesOf_extract, Nat.sub_zero, List.drop_zero]
  have hl : ((bytesOf s).drop n).length = s.size - n := by rw [List.length_drop, bytesOf_length]
  rw [show s.size - n = ((bytesOf s).drop n).length from hl.symm, List.take_length]
  constructor
  · intro h
    have : (bytesOf s).take n ++ four x = (bytesOf s).take n ++ (bytesOf s).drop n := by rw [List.take_append_drop]; exact h
    exact (List.append_cancel_left this).symm
  · intro h
    rw [← h, List.take_append_drop]
/-- what Unsealed tells -/
def unsealed (s : ByteArray) : ByteArray × Bool :=
  if 4 ≤ s.size ∧ s.size ≤ 20004 ∧ (s.extract (s.size - 4) s.size).toList = (strOfNums (four (sumL 4294967295 (bytesOf (s.extract 0 (s.size - 4)))))).toList then (s.extract 0 (s.size - 4), true) else ((⟨#[]⟩ : ByteArray), false)
theorem extract_size (s : ByteArray) (n : Nat) (h : n ≤ s.size) : (s.extract 0 n).size = n := by
  have := bytesOf_length (s.extract 0 n)
  rw [bytesOf_extract, Nat.sub_zero, List.drop_zero, List.length_take, bytesOf_length] at this
  omega
theorem impl_Unsealed_f (s : ByteArray) (hs : s.size ≤ 140737488351232) : Ev (fun k => impl_Unsealed.f k s) (unsealed s) := by
  unfold unsealed
  by_cases h4 : 4 ≤ s.size
  · have e : wrap64 ((s.size : Int) - 4) = ((s.size - 4 : Nat) : Int) := by rw [w64 (by omega) (by omega)]; omega
    unfold impl_Unsealed.f
    rw [e, Int.toNat_natCast]
    refine evF (by omega) (evT (by omega) (evT (by omega) ?_))
    have hz := extract_size s (s.size - 4) (by omega)
    by_cases hb : s.size ≤ 20004
    · refine Ev.bind (impl_Sealed_in (s.extract 0 (s.size - 4)) (by omega)) (evT rfl ?_)
      have hi := unseal_iff s (s.size - 4) (by omega) (sumL 4294967295 (bytesOf (s.extract 0 (s.size - 4))))
      by_cases hc : (s.extract (s.size - 4) s.size).toList = (strOfNums (four (sumL 4294967295 (bytesOf (s.extract 0 (s.size - 4)))))).toList
      · exact ev_cast (evT (hi.2 hc) (Ev.now _)) (if_pos ⟨h4, hb, hc⟩).symm
      · exact ev_cast (evF (fun h => hc (hi.1 h)) (Ev.now _)) (if_neg (fun h => hc h.2.2)).symm
    · exact ev_cast (Ev.bind (impl_Sealed_out (s.extract 0 (s.size - 4)) (by omega)) (evF (by simp) (Ev.now _))) (if_neg (fun h => hb h.2.1)).symm
  · have e : wrap64 ((s.size : Int) - 4) = (s.size : Int) - 4 := w64 (by omega) (by omega)
    unfold impl_Unsealed.f
    rw [e]
    exact ev_cast (evT (by omega) (Ev.now _)) (if_neg (fun h => h4 h.1)).symm

theorem spec_Unsealed_f (s : ByteArray) (hs : s.size ≤ 140737488351232) : Ev (fun k => spec_Unsealed.f k s) (unsealed s) := by
  unfold unsealed
  by_cases h4 : 4 ≤ s.size
  · have e : wrap64 ((s.size : Int) - 4) = ((s.size - 4 : Nat) : Int) := by rw [w64 (by omega) (by omega)]; omega
    unfold spec_Unsealed.f
    rw [e, Int.toNat_natCast]
    refine evF (by omega) ?_
    by_cases hb : s.size ≤ 20004
    · refine evF (by omega) (evT (by omega) (evT (by omega) ?_))
      have hz := extract_size s (s.size - 4) (by omega)
      refine Ev.bind (spec_SumOf_f _ (by omega)) (ev_now (spec_Four_f _) ?_)
      by_cases hc : (s.extract (s.size - 4) s.size).toList = (strOfNums (four (sumL 4294967295 (bytesOf (s.extract 0 (s.size - 4)))))).toList
      · exact ev_cast (evT hc (Ev.now _)) (if_pos ⟨h4, hb, hc⟩).symm
      · exact ev_cast (evF hc (Ev.now _)) (if_neg (fun h => hc h.2.2)).symm
    · exact ev_cast (evT (by omega) (Ev.now _)) (if_neg (fun h => hb h.2.1)).symm
  · have e : wrap64 ((s.size : Int) - 4) = (s.size : Int) - 4 := w64 (by omega) (by omega)
    unfold spec_Unsealed.f
    rw [e]
    exact ev_cast (evT (by omega) (Ev.now _)) (if_neg (fun h => h4 h.1)).symm
theorem FnExactUnsealed : laws_FnExactUnsealed.Pure := by
  intro s hs
  refine Ev.rounds ?_
  by_cases hb : (s.size : Int) > 1048576
  · exact evT hb (Ev.now _)
  exact evF hb (Ev.bind (spec_Unsealed_f s hs) (Ev.bind (impl_Unsealed_f s hs) (evT rfl (evF (by simp) (Ev.now _)))))

end Go.Proofs.Ytdhpcchmhikgeaa.Pure
