/- Proved: the program's Hex returns what the reference's Hex returns, for every text; no condition. -/
import Derived.Test.YtdbjkmokkgpjcaaHexOwn
import Derived.Test.YtdbjkmokkgpjcaaBase
namespace Go.Proofs.Ytdbjkmokkgpjcaa.Pure
open Go.RowKit Go.Proofs.Ytdbjkmokkgpjcaa.PFnExactHex Go.Proofs.Ytdbjkmokkgpjcaa.Base Go.Proofs.YtdbjkmokkgpjcaaW.PrintWords Go.Proofs.YtdbjkmokkgpjcaaW.PrintLast Go.Proofs.YtdbjkmokkgpjcaaW.PrintMore
set_option linter.unusedVariables false
set_option linter.unusedSimpArgs false

/-! Hex -/
theorem spec_Fig_f {x : Int} (h0 : 0 ≤ x) (h1 : x < 16) : spec_l01Figure.f x = some (fig x) := by
  unfold spec_l01Figure.f fig
  by_cases h : x < 10
  · rw [if_pos h, if_pos h, w64 (by omega) (by omega)]
    congr 1
    omega
  · rw [if_neg h, if_neg h, w64 (x := 97 + x) (by omega) (by omega), w64 (x := 97 + x - 10) (by omega) (by omega)]
    congr 1
    omega

theorem spec_Hex_ev (s : ByteArray) (hs : s.size ≤ 20000) : ∀ (d i : Nat) (acc : List Int), s.size - i = d → i ≤ s.size → acc.length = 2 * i → Ev (fun k => spec_Hex.l0 k s acc (i : Int)) (strOfNums (acc ++ hexL ((bytesOf s).drop i)), true) := by
  intro d
  induction d with
  | zero =>
    intro i acc hd hi ha
    rw [bytesOf_all (by omega)]
    exact ev_end (fun k => by rw [spec_Hex.l0, if_neg (by omega)]; simp [hexL])
  | succ d ih =>
    intro i acc hd hi ha
    have hlt : i < s.size := by omega
    have hr := bt_range s (i : Int)
    rw [bytesOf_drop hlt]
    refine Ev.step (fun k => by rw [spec_Hex.l0, if_pos (by omega), if_pos (by omega)]) ?_
    have e1 : wrap64 (Int.tdiv (wrap64 (bt s i)) 16) = bt s i / 16 := by
      rw [w64 (x := bt s i) (by omega) (by omega), Int.tdiv_eq_ediv_of_nonneg (by omega), w64 (x := bt s i / 16) (by omega) (by omega)]
    have e2 : Int.tmod (wrap64 (bt s i)) 16 = bt s i % 16 := by
      rw [w64 (x := bt s i) (by omega) (by omega), Int.tmod_eq_emod_of_nonneg (by omega)]
    rw [e1, e2]
    refine ev_now (spec_Fig_f (by omega) (by omega)) (ev_now (spec_Fig_f (by omega) (by omega)) (ev_now rfl (evT (by simp; omega) ?_)))
    rw [w64 (by omega) (by omega)]
    refine ev_cast (ih (i + 1) _ (by omega) (by omega) (by simp; omega)) ?_
    simp [hexL]
theorem impl_Hex_ev (s : ByteArray) (hs : s.size ≤ 20000) : ∀ (d i : Nat) (acc : List Int), s.size - i = d → i ≤ s.size → acc.length = 2 * i → Ev (fun k => impl_Hex.l0 k s acc (i : Int)) (strOfNums (acc ++ hexL ((bytesOf s).drop i)), true) := by
  intro d
  induction d with
  | zero =>
    intro i acc hd hi ha
    rw [bytesOf_all (by omega)]
    exact ev_end (fun k => by rw [impl_Hex.l0, if_neg (by omega)]; simp [hexL])
  | succ d ih =>
    intro i acc hd hi ha
    have hlt : i < s.size := by omega
    have hr := bt_range s (i : Int)
    rw [bytesOf_drop hlt]
    have e1 : Int.tdiv (bt s i) 16 % 256 = bt s i / 16 := by
      rw [Int.tdiv_eq_ediv_of_nonneg (by omega)]
      omega
    have e2 : Int.tmod (bt s i) 16 = bt s i % 16 := Int.tmod_eq_emod_of_nonneg (by omega)
    refine Ev.step (fun k => by rw [impl_Hex.l0, if_pos (by omega), if_pos (by omega), e1, e2, if_pos (by omega), if_pos (by omega), if_pos (by omega), if_pos (by omega), hex_fig (by omega) (by omega), hex_fig (by omega) (by omega)]) ?_
    refine ev_now rfl (evT (by simp; omega) ?_)
    rw [w64 (by omega) (by omega)]
    refine ev_cast (ih (i + 1) _ (by omega) (by omega) (by simp; omega)) ?_
    simp [hexL]

theorem FnExactHex : laws_FnExactHex.Pure := by
  intro s hs
  refine Ev.rounds ?_
  by_cases hb : (s.size : Int) > 1048576
  · exact evT hb (Ev.now _)
  refine evF hb ?_
  by_cases hl : (s.size : Int) > 20000
  · exact Ev.bind (evT hl (Ev.now _)) (Ev.bind (evT hl (Ev.now _)) (evT rfl (evF (by simp) (Ev.now _))))
  · exact Ev.bind (evF hl (spec_Hex_ev s (by omega) s.size 0 [] (by omega) (by omega) rfl)) (Ev.bind (evF hl (impl_Hex_ev s (by omega) s.size 0 [] (by omega) (by omega) rfl)) (evT rfl (evF (by simp) (Ev.now _))))

end Go.Proofs.Ytdbjkmokkgpjcaa.Pure
