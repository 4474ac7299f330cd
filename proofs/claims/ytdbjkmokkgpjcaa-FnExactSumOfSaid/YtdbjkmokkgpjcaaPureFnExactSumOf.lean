/- Proved: the program's SumOf returns what the reference's SumOf returns, for every text; no condition. -/
import Derived.Test.YtdbjkmokkgpjcaaPFnExactSumOfx1
import Derived.Test.YtdbjkmokkgpjcaaBase
namespace Go.Proofs.Ytdbjkmokkgpjcaa.Pure
open Go.RowKit Go.Proofs.Ytdbjkmokkgpjcaa.PFnExactSumOf Go.Proofs.Ytdbjkmokkgpjcaa.Base Go.Proofs.YtdbjkmokkgpjcaaW.PrintWords Go.Proofs.YtdbjkmokkgpjcaaW.PrintLast Go.Proofs.YtdbjkmokkgpjcaaW.PrintMore
set_option linter.unusedVariables false
set_option linter.unusedSimpArgs false

/-! SumMore: both come to 'sumL' -/
theorem spec_SumMore_ev (s : ByteArray) (hs : s.size ≤ 140737488351232) : ∀ (d i : Nat) (x : Int), s.size - i = d → i ≤ s.size → Ev (fun k => spec_SumMore.l0 k x s (i : Int)) (sumL x ((bytesOf s).drop i)) := by
  intro d
  induction d with
  | zero =>
    intro i x hd hi
    have : (bytesOf s).drop i = [] := bytesOf_all (by omega)
    rw [this]
    exact ev_end (fun k => by rw [spec_SumMore.l0, if_neg (by omega)]; rfl)
  | succ d ih =>
    intro i x hd hi
    have hlt : i < s.size := by omega
    rw [bytesOf_drop hlt]
    refine Ev.step (fun k => by rw [spec_SumMore.l0, if_pos (by omega), if_pos (by omega)]) ?_
    have inner : ∀ (m : Nat) (j : Int) (y : Int), (8 : Int) - j = m → 0 ≤ j → Ev (fun k => spec_SumMore.l1 k y s (i : Int) j) (sumL (sit m y) ((bytesOf s).drop (i + 1))) := by
      intro m
      induction m with
      | zero =>
        intro j y hj h0
        refine Ev.step (fun k => by rw [spec_SumMore.l1, if_neg (by omega), w64 (by omega) (by omega)]) ?_
        exact ih (i + 1) y (by omega) (by omega)
      | succ m ihm =>
        intro j y hj h0
        by_cases ho : Int.tmod y 2 = 1
        · refine Ev.step (fun k => by rw [spec_SumMore.l1, if_pos (by omega), if_pos ho, w64 (by omega) (by omega)]) ?_
          refine ev_cast (ihm (j + 1) _ (by omega) (by omega)) ?_
          rw [sit, sone, if_pos ho]
        · refine Ev.step (fun k => by rw [spec_SumMore.l1, if_pos (by omega), if_neg ho, w64 (by omega) (by omega)]) ?_
          refine ev_cast (ihm (j + 1) _ (by omega) (by omega)) ?_
          rw [sit, sone, if_neg ho]
    exact inner 8 0 _ (by omega) (by omega)
theorem spec_SumMore_f (x : Int) (s : ByteArray) (hs : s.size ≤ 140737488351232) : Ev (fun k => spec_SumMore.f k x s) (sumL x (bytesOf s)) :=
  spec_SumMore_ev s hs s.size 0 x (by omega) (by omega)
theorem impl_SumMore_ev (s : ByteArray) (hs : s.size ≤ 140737488351232) : ∀ (d i : Nat) (x : Int), s.size - i = d → i ≤ s.size → Ev (fun k => impl_SumMore.l0 k x s (i : Int)) (sumL x ((bytesOf s).drop i)) := by
  intro d
  induction d with
  | zero =>
    intro i x hd hi
    have : (bytesOf s).drop i = [] := bytesOf_all (by omega)
    rw [this]
    exact ev_end (fun k => by rw [impl_SumMore.l0, if_neg (by omega)]; rfl)
  | succ d ih =>
    intro i x hd hi
    have hlt : i < s.size := by omega
    rw [bytesOf_drop hlt]
    refine Ev.step (fun k => by rw [impl_SumMore.l0, if_pos (by omega), if_pos (by omega)]) ?_
    have inner : ∀ (m : Nat) (j : Int) (y : Int), (8 : Int) - j = m → 0 ≤ j → Ev (fun k => impl_SumMore.l1 k y s (i : Int) j) (sumL (sit m y) ((bytesOf s).drop (i + 1))) := by
      intro m
      induction m with
      | zero =>
        intro j y hj h0
        refine Ev.step (fun k => by rw [impl_SumMore.l1, if_neg (by omega), w64 (by omega) (by omega)]) ?_
        exact ih (i + 1) y (by omega) (by omega)
      | succ m ihm =>
        intro j y hj h0
        by_cases ho : Int.tmod y 2 = 1
        · refine Ev.step (fun k => by rw [impl_SumMore.l1, if_pos (by omega), if_pos ho, w64 (by omega) (by omega)]) ?_
          refine ev_cast (ihm (j + 1) _ (by omega) (by omega)) ?_
          rw [sit, sone, if_pos ho]
        · refine Ev.step (fun k => by rw [impl_SumMore.l1, if_pos (by omega), if_neg ho, w64 (by omega) (by omega)]) ?_
          refine ev_cast (ihm (j + 1) _ (by omega) (by omega)) ?_
          rw [sit, sone, if_neg ho]
    exact inner 8 0 _ (by omega) (by omega)
theorem impl_SumMore_f (x : Int) (s : ByteArray) (hs : s.size ≤ 140737488351232) : Ev (fun k => impl_SumMore.f k x s) (sumL x (bytesOf s)) :=
  impl_SumMore_ev s hs s.size 0 x (by omega) (by omega)

theorem FnExactSumOf : laws_FnExactSumOf.Pure := by
  intro s hs
  refine Ev.rounds ?_
  by_cases hb : (s.size : Int) > 1048576
  · exact evT hb (Ev.now _)
  · exact evF hb (Ev.bind (Ev.bind (spec_SumMore_f _ s hs) (Ev.now _)) (Ev.bind (Ev.bind (impl_SumMore_f _ s hs) (Ev.now _)) (evT rfl (Ev.now _))))

end Go.Proofs.Ytdbjkmokkgpjcaa.Pure
