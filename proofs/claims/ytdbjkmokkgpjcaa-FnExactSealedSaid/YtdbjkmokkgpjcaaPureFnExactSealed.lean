/- Proved: the program's Sealed returns what the reference's Sealed returns, for every text; no condition. -/
import Derived.Test.YtdbjkmokkgpjcaaPFnExactSealedx1
import Derived.Test.YtdbjkmokkgpjcaaBase
namespace Go.Proofs.Ytdbjkmokkgpjcaa.Pure
open Go.RowKit Go.Proofs.Ytdbjkmokkgpjcaa.PFnExactSealed Go.Proofs.Ytdbjkmokkgpjcaa.Base Go.Proofs.YtdbjkmokkgpjcaaW.PrintWords Go.Proofs.YtdbjkmokkgpjcaaW.PrintLast Go.Proofs.YtdbjkmokkgpjcaaW.PrintMore
set_option linter.unusedVariables false
set_option linter.unusedSimpArgs false

/-! SumMore: both come to 'sumL' -/
theorem spec_SumMore_ev (s : ByteArray) (hs : s.size ≤ 140737488351232) : ∀ (d i : Nat) (x : Int), s.size - i = d → i ≤ s.size → Ev (fun k => spec_SumMore.l0 k x s (i : Int)) (sumL x ((bytesOf s).drop i)) := by
  intro d
  induction d with
  | zero =>
    intro i x hd hi
    have : (bytesOf s).drop i = [] := bytesOf_all (by omega)
    rw [this]
    exact ev_end (fun k => by rw [spec_SumMore.l0, if_neg (by omega)]; rfl)
  | succ d ih =>
    intro i x hd hi
    have hlt : i < s.size := by omega
    rw [bytesOf_drop hlt]
    refine Ev.step (fun k => by rw [spec_SumMore.l0, if_pos (by omega), if_pos (by omega)]) ?_
    have inner : ∀ (m : Nat) (j : Int) (y : Int), (8 : Int) - j = m → 0 ≤ j → Ev (fun k => spec_SumMore.l1 k y s (i : Int) j) (sumL (sit m y) ((bytesOf s).drop (i + 1))) := by
      intro m
      induction m with
      | zero =>
        intro j y hj h0
        refine Ev.step (fun k => by rw [spec_SumMore.l1, if_neg (by omega), w64 (by omega) (by omega)]) ?_
        exact ih (i + 1) y (by omega) (by omega)
      | succ m ihm =>
        intro j y hj h0
        by_cases ho : Int.tmod y 2 = 1
        · refine Ev.step (fun k => by rw [spec_SumMore.l1, if_pos (by omega), if_pos ho, w64 (by omega) (by omega)]) ?_
          refine ev_cast (ihm (j + 1) _ (by omega) (by omega)) ?_
          rw [sit, sone, if_pos ho]
        · refine Ev.step (fun k => by rw [spec_SumMore.l1, if_pos (by omega), if_neg ho, w64 (by omega) (by omega)]) ?_
          refine ev_cast (ihm (j + 1) _ (by omega) (by omega)) ?_
          rw [sit, sone, if_neg ho]
    exact inner 8 0 _ (by omega) (by omega)
theorem spec_SumMore_f (x : Int) (s : ByteArray) (hs : s.size ≤ 140737488351232) : Ev (fun k => spec_SumMore.f k x s) (sumL x (bytesOf s)) :=
  spec_SumMore_ev s hs s.size 0 x (by omega) (by omega)
theorem impl_SumMore_ev (s : ByteArray) (hs : s.size ≤ 140737488351232) : ∀ (d i : Nat) (x : Int), s.size - i = d → i ≤ s.size → Ev (fun k => impl_SumMore.l0 k x s (i : Int)) (sumL x ((bytesOf s).drop i)) := by
  intro d
  induction d with
  | zero =>
    intro i x hd hi
    have : (bytesOf s).drop i = [] := bytesOf_all (by omega)
    rw [this]
    exact ev_end (fun k => by rw [impl_SumMore.l0, if_neg (by omega)]; rfl)
  | succ d ih =>
    intro i x hd hi
    have hlt : i < s.size := by omega
    rw [bytesOf_drop hlt]
    refine Ev.step (fun k => by rw [impl_SumMore.l0, if_pos (by omega), if_pos (by omega)]) ?_
    have inner : ∀ (m : Nat) (j : Int) (y : Int), (8 : Int) - j = m → 0 ≤ j → Ev (fun k => impl_SumMore.l1 k y s (i : Int) j) (sumL (sit m y) ((bytesOf s).drop (i + 1))) := by
      intro m
      induction m with
      | zero =>
        intro j y hj h0
        refine Ev.step (fun k => by rw [impl_SumMore.l1, if_neg (by omega), w64 (by omega) (by omega)]) ?_
        exact ih (i + 1) y (by omega) (by omega)
      | succ m ihm =>
        intro j y hj h0
        by_cases ho : Int.tmod y 2 = 1
        · refine Ev.step (fun k => by rw [impl_SumMore.l1, if_pos (by omega), if_pos ho, w64 (by omega) (by omega)]) ?_
          refine ev_cast (ihm (j + 1) _ (by omega) (by omega)) ?_
          rw [sit, sone, if_pos ho]
        · refine Ev.step (fun k => by rw [impl_SumMore.l1, if_pos (by omega), if_neg ho, w64 (by omega) (by omega)]) ?_
          refine ev_cast (ihm (j + 1) _ (by omega) (by omega)) ?_
          rw [sit, sone, if_neg ho]
    exact inner 8 0 _ (by omega) (by omega)
theorem impl_SumMore_f (x : Int) (s : ByteArray) (hs : s.size ≤ 140737488351232) : Ev (fun k => impl_SumMore.f k x s) (sumL x (bytesOf s)) :=
  impl_SumMore_ev s hs s.size 0 x (by omega) (by omega)

/-! Sealed: both put the four bytes of the sum behind the text -/
theorem impl_highFirst_f (x : Int) (h0 : 0 ≤ x) (h1 : x ≤ 4294967295) : Ev (fun k => impl_highFirst.f k x 4) (strOfNums (four x)) := by
  have e : ∀ y : Int, 0 ≤ y → y ≤ 4294967295 → Go.bits .and .i64 y 255 % 256 = y % 256 := fun y h0 h1 => by rw [and_255 h0 (by omega)]; omega
  refine evT (by omega) (evT (by decide) ?_)
  have e4 : List.replicate ((4 : Int)).toNat (0 : Int) = [0, 0, 0, 0] := rfl
  have w3 : wrap64 (4 - 1) = 3 := by unfold wrap64; omega
  have w2 : wrap64 (3 - 1) = 2 := by unfold wrap64; omega
  have w1 : wrap64 (2 - 1) = 1 := by unfold wrap64; omega
  have w0 : wrap64 (1 - 1) = 0 := by unfold wrap64; omega
  have wm : wrap64 (0 - 1) = -1 := by unfold wrap64; omega
  rw [e4, w3]
  refine Ev.step (fun k => by rw [impl_highFirst.l0, if_pos (by omega), if_pos (by omega), if_pos (by simp), w2, e x h0 h1]) ?_
  refine Ev.step (fun k => by rw [impl_highFirst.l0, if_pos (by omega), if_pos (by omega), if_pos (by simp), w1, e _ (by omega) (by omega)]) ?_
  refine Ev.step (fun k => by rw [impl_highFirst.l0, if_pos (by omega), if_pos (by omega), if_pos (by simp), w0, e _ (by omega) (by omega)]) ?_
  refine Ev.step (fun k => by rw [impl_highFirst.l0, if_pos (by omega), if_pos (by omega), if_pos (by simp), wm, e _ (by omega) (by omega)]) ?_
  refine ev_end (fun k => ?_)
  rw [impl_highFirst.l0, if_neg (by omega)]
  congr 2
  simp only [four]
  have a1 : x / 256 / 256 = x / 65536 := by omega
  have a2 : x / 256 / 256 / 256 = x / 16777216 := by omega
  rw [a2, a1]
  rfl
theorem impl_SumOf_f (s : ByteArray) (hs : s.size ≤ 140737488351232) : Ev (fun k => impl_SumOf.f k s) (sumL 4294967295 (bytesOf s)) :=
  Ev.bind (impl_SumMore_f _ s hs) (Ev.now _)
theorem sealed_size (s : ByteArray) (h : s.size ≤ 20000) (x : Int) : s.size + (strOfNums (four x)).size ≤ 9223372036854775807 := by
  rw [strOfNums_size]
  simp only [four, List.length_cons, List.length_nil]
  omega
theorem impl_Sealed_in (s : ByteArray) (h : s.size ≤ 20000) : Ev (fun k => impl_Sealed.f k s) (s ++ strOfNums (four (sumL 4294967295 (bytesOf s))), true) := by
  have hr := sumL_range (l := bytesOf s) (x := 4294967295) (by omega) (by omega)
  refine evF (by omega) (Ev.bind (impl_SumOf_f s (by omega)) ?_)
  rw [w64 (by omega) (by omega)]
  exact Ev.bind (impl_highFirst_f _ hr.1 hr.2) (evT (sealed_size s h _) (Ev.now _))
theorem impl_Sealed_out (s : ByteArray) (h : ¬ s.size ≤ 20000) : Ev (fun k => impl_Sealed.f k s) ((⟨#[]⟩ : ByteArray), false) := evT (by omega) (Ev.now _)

theorem spec_SumOf_f (s : ByteArray) (hs : s.size ≤ 140737488351232) : Ev (fun k => spec_SumOf.f k s) (sumL 4294967295 (bytesOf s)) :=
  Ev.bind (spec_SumMore_f _ s hs) (Ev.now _)
theorem spec_Four_f (x : Int) : spec_l02Four.f x = some (strOfNums (four x)) := rfl

theorem spec_Sealed_in (s : ByteArray) (h : s.size ≤ 20000) : Ev (fun k => spec_Sealed.f k s) (s ++ strOfNums (four (sumL 4294967295 (bytesOf s))), true) :=
  evF (by omega) (Ev.bind (spec_SumOf_f s (by omega)) (ev_now (spec_Four_f _) (evT (sealed_size s h _) (Ev.now _))))
theorem spec_Sealed_out (s : ByteArray) (h : ¬ s.size ≤ 20000) : Ev (fun k => spec_Sealed.f k s) ((⟨#[]⟩ : ByteArray), false) := evT (by omega) (Ev.now _)
theorem FnExactSealed : laws_FnExactSealed.Pure := by
  intro s hs
  refine Ev.rounds ?_
  by_cases hb : (s.size : Int) > 1048576
  · exact evT hb (Ev.now _)
  refine evF hb ?_
  by_cases hl : s.size ≤ 20000
  · exact Ev.bind (spec_Sealed_in s hl) (Ev.bind (impl_Sealed_in s hl) (evT rfl (evF (by simp) (Ev.now _))))
  · exact Ev.bind (spec_Sealed_out s hl) (Ev.bind (impl_Sealed_out s hl) (evT rfl (evF (by simp) (Ev.now _))))

end Go.Proofs.Ytdbjkmokkgpjcaa.Pure
