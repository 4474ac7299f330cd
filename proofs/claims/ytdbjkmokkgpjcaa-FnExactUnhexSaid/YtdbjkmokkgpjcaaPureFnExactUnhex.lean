/- Proved: the program's Unhex returns what the reference's Unhex returns, for every text; no condition. -/
import Derived.Test.YtdbjkmokkgpjcaaSFnExactUnhexx1
import Derived.Test.YtdbjkmokkgpjcaaBase
namespace Go.Proofs.Ytdbjkmokkgpjcaa.Pure
open Go.RowKit Go.Proofs.Ytdbjkmokkgpjcaa.SFnExactUnhex Go.Proofs.Ytdbjkmokkgpjcaa.Base Go.Proofs.YtdbjkmokkgpjcaaW.PrintWords Go.Proofs.YtdbjkmokkgpjcaaW.PrintLast Go.Proofs.YtdbjkmokkgpjcaaW.PrintMore
set_option linter.unusedVariables false
set_option linter.unusedSimpArgs false

/-! Unhex -/
theorem spec_Value_f {c : Int} (h0 : 0 ≤ c) (h1 : c ≤ 255) : Ev (fun k => spec_l01Value.f k c) (val c) := by
  unfold val
  by_cases h : c ≥ 48
  · by_cases h' : c ≤ 57
    · refine evT h ?_
      refine Ev.step (fun k => by rw [spec_l01Value.j0]) ?_
      refine ev_cast (evT (by simp [h']) (Ev.now _)) ?_
      rw [if_pos ⟨h, h'⟩, w64 (x := c) (by omega) (by omega), w64 (x := c - 48) (by omega) (by omega)]
    · refine evT h ?_
      refine Ev.step (fun k => by rw [spec_l01Value.j0]) ?_
      refine evF (by simp; omega) ?_
      by_cases h2 : c ≥ 97
      · refine evT h2 ?_
        by_cases h3 : c ≤ 102
        · refine ev_cast (evT h3 (Ev.now _)) ?_
          rw [if_neg (by omega), if_pos ⟨h2, h3⟩, w64 (x := c) (by omega) (by omega), w64 (x := c - 97) (by omega) (by omega), w64 (by omega) (by omega)]
          omega
        · exact ev_cast (evF h3 (Ev.now _)) (by rw [if_neg (by omega), if_neg (by omega)])
      · exact ev_cast (evF h2 (Ev.now _)) (by rw [if_neg (by omega), if_neg (by omega)])
  · refine evF h ?_
    refine Ev.step (fun k => by rw [spec_l01Value.j0]) ?_
    refine evF (by simp) ?_
    exact ev_cast (evF (by omega) (Ev.now _)) (by rw [if_neg (by omega), if_neg (by omega)])
theorem idx_at : ∀ c : Fin 256, Go.Lib.indexByte (⟨#[48, 49, 50, 51, 52, 53, 54, 55, 56, 57, 97, 98, 99, 100, 101, 102]⟩ : ByteArray).data.toList ((c : Nat) : Int).toNat.toUInt8 = val ((c : Nat) : Int) := by decide +kernel
theorem impl_Index_f {c : Int} (h0 : 0 ≤ c) (h1 : c ≤ 255) : strings_IndexByte.f (⟨#[48, 49, 50, 51, 52, 53, 54, 55, 56, 57, 97, 98, 99, 100, 101, 102]⟩ : ByteArray) c = some (val c) := by
  obtain ⟨n, rfl⟩ := Int.eq_ofNat_of_zero_le h0
  have := idx_at ⟨n, by omega⟩
  unfold strings_IndexByte.f stringslite_IndexByte.f
  simp only [Option.bind_some]
  exact congrArg some this
def unhexR (acc : List Int) : Option (List Int) → ByteArray × Bool
  | none => ((⟨#[]⟩ : ByteArray), false)
  | some l => (strOfNums (acc ++ l), true)
theorem unhexR_map (acc : List Int) (x : Int) (o : Option (List Int)) : unhexR acc (o.map (fun t => x :: t)) = unhexR (acc ++ [x]) o := by
  cases o with
  | none => rfl
  | some l => simp [unhexR]
theorem byte_pair (v w : Int) (hv : 0 ≤ v ∧ v < 16) (hw : 0 ≤ w ∧ w < 16) : (wrap64 ((wrap64 (16 * v)) + w)) % 256 = 16 * v + w := by
  rw [w64 (x := 16 * v) (by omega) (by omega), w64 (by omega) (by omega)]
  omega
theorem spec_Unhex_ev (s : ByteArray) (hs : s.size ≤ 40000) (he : s.size % 2 = 0) : ∀ (d i : Nat) (acc : List Int), s.size - 2 * i = 2 * d → 2 * i ≤ s.size → acc.length = i → Ev (fun k => spec_Unhex.l0 k s acc ((2 * i : Nat) : Int)) (unhexR acc (unhexL ((bytesOf s).drop (2 * i)))) := by
  intro d
  induction d with
  | zero =>
    intro i acc hd hi ha
    rw [bytesOf_all (i := 2 * i) (by omega)]
    exact ev_end (fun k => by rw [spec_Unhex.l0, if_neg (by omega)]; simp [unhexL, unhexR])
  | succ d ih =>
    intro i acc hd hi ha
    have hlt : 2 * i < s.size := by omega
    have hlt' : 2 * i + 1 < s.size := by omega
    have r0 := bt_range s ((2 * i : Nat) : Int)
    have r1 := bt_range s ((2 * i + 1 : Nat) : Int)
    have e1 : wrap64 (((2 * i : Nat) : Int) + 1) = ((2 * i + 1 : Nat) : Int) := by rw [w64 (by omega) (by omega)]; omega
    have e2 : wrap64 (((2 * i : Nat) : Int) + 2) = ((2 * (i + 1) : Nat) : Int) := by rw [w64 (by omega) (by omega)]; omega
    rw [bytesOf_drop hlt, bytesOf_drop hlt', unhexL]
    refine Ev.step (fun k => by rw [spec_Unhex.l0, if_pos (by omega), if_pos (by omega), e1, e2]) ?_
    refine Ev.bind (spec_Value_f r0.1 r0.2) (evT (by omega) (evT (by omega) (Ev.bind (spec_Value_f r1.1 r1.2) ?_)))
    have v0 := val_range (bt s ((2 * i : Nat) : Int))
    have v1 := val_range (bt s ((2 * i + 1 : Nat) : Int))
    by_cases c0 : val (bt s ((2 * i : Nat) : Int)) < 0
    · exact ev_cast (evT c0 (Ev.now _)) (by rw [if_pos (Or.inl c0)]; rfl)
    · refine evF c0 ?_
      by_cases c1 : val (bt s ((2 * i + 1 : Nat) : Int)) < 0
      · exact ev_cast (evT c1 (Ev.now _)) (by rw [if_pos (Or.inr c1)]; rfl)
      · refine evF c1 (evT (by omega) ?_)
        rw [byte_pair _ _ (by omega) (by omega)]
        refine ev_cast (ih (i + 1) _ (by omega) (by omega) (by simp; omega)) ?_
        rw [if_neg (by omega), unhexR_map]
        rfl
theorem impl_Unhex_ev (s : ByteArray) (hs : s.size ≤ 40000) (he : s.size % 2 = 0) : ∀ (d i : Nat) (acc : List Int), s.size - 2 * i = 2 * d → 2 * i ≤ s.size → acc.length = i → Ev (fun k => impl_Unhex.l0 k s acc ((2 * i : Nat) : Int)) (unhexR acc (unhexL ((bytesOf s).drop (2 * i)))) := by
  intro d
  induction d with
  | zero =>
    intro i acc hd hi ha
    rw [bytesOf_all (i := 2 * i) (by omega)]
    exact ev_end (fun k => by rw [impl_Unhex.l0, if_neg (by omega)]; simp [unhexL, unhexR])
  | succ d ih =>
    intro i acc hd hi ha
    have hlt : 2 * i < s.size := by omega
    have hlt' : 2 * i + 1 < s.size := by omega
    have r0 := bt_range s ((2 * i : Nat) : Int)
    have r1 := bt_range s ((2 * i + 1 : Nat) : Int)
    have e1 : wrap64 (((2 * i : Nat) : Int) + 1) = ((2 * i + 1 : Nat) : Int) := by rw [w64 (by omega) (by omega)]; omega
    have e2 : wrap64 (((2 * i : Nat) : Int) + 2) = ((2 * (i + 1) : Nat) : Int) := by rw [w64 (by omega) (by omega)]; omega
    rw [bytesOf_drop hlt, bytesOf_drop hlt', unhexL]
    refine Ev.step (fun k => by rw [impl_Unhex.l0, if_pos (by omega), if_pos (by omega), e1, e2]) ?_
    refine ev_now (impl_Index_f r0.1 r0.2) (evT (by omega) (evT (by omega) (ev_now (impl_Index_f r1.1 r1.2) ?_)))
    have v0 := val_range (bt s ((2 * i : Nat) : Int))
    have v1 := val_range (bt s ((2 * i + 1 : Nat) : Int))
    by_cases c0 : val (bt s ((2 * i : Nat) : Int)) < 0
    · exact ev_cast (evT c0 (Ev.now _)) (by rw [if_pos (Or.inl c0)]; rfl)
    · refine evF c0 ?_
      by_cases c1 : val (bt s ((2 * i + 1 : Nat) : Int)) < 0
      · exact ev_cast (evT c1 (Ev.now _)) (by rw [if_pos (Or.inr c1)]; rfl)
      · refine evF c1 (evT (by omega) ?_)
        rw [byte_pair _ _ (by omega) (by omega)]
        refine ev_cast (ih (i + 1) _ (by omega) (by omega) (by simp; omega)) ?_
        rw [if_neg (by omega), unhexR_map]
        rfl
theorem impl_Unhex_in (s : ByteArray) (hs : s.size ≤ 40000) (he : s.size % 2 = 0) : Ev (fun k => impl_Unhex.f k s) (unhexR [] (unhexL (bytesOf s))) := by
  refine evT (by omega) ?_
  refine Ev.step (fun k => by rw [impl_Unhex.j0]) ?_
  exact evF (by simp; omega) (impl_Unhex_ev s hs he (s.size / 2) 0 [] (by omega) (by omega) rfl)
theorem impl_Unhex_out (s : ByteArray) (h : ¬ (s.size ≤ 40000 ∧ s.size % 2 = 0)) : Ev (fun k => impl_Unhex.f k s) ((⟨#[]⟩ : ByteArray), false) := by
  by_cases he : s.size % 2 = 0
  · refine evT (by omega) ?_
    refine Ev.step (fun k => by rw [impl_Unhex.j0]) ?_
    exact evT (by simp; omega) (Ev.now _)
  · refine evF (by omega) ?_
    refine Ev.step (fun k => by rw [impl_Unhex.j0]) ?_
    exact evT rfl (Ev.now _)

theorem spec_Unhex_in (s : ByteArray) (hs : s.size ≤ 40000) (he : s.size % 2 = 0) : Ev (fun k => spec_Unhex.f k s) (unhexR [] (unhexL (bytesOf s))) := by
  refine evF (by omega) ?_
  refine Ev.step (fun k => by rw [spec_Unhex.j0]) ?_
  exact evF (by simp; omega) (spec_Unhex_ev s hs he (s.size / 2) 0 [] (by omega) (by omega) rfl)
theorem spec_Unhex_out (s : ByteArray) (h : ¬ (s.size ≤ 40000 ∧ s.size % 2 = 0)) : Ev (fun k => spec_Unhex.f k s) ((⟨#[]⟩ : ByteArray), false) := by
  by_cases hb : (s.size : Int) > 40000
  · refine evT hb ?_
    refine Ev.step (fun k => by rw [spec_Unhex.j0]) ?_
    exact evT rfl (Ev.now _)
  · refine evF hb ?_
    refine Ev.step (fun k => by rw [spec_Unhex.j0]) ?_
    exact evT (by simp; omega) (Ev.now _)
theorem FnExactUnhex : laws_FnExactUnhex.Pure := by
  intro s hs
  refine Ev.rounds ?_
  by_cases hb : (s.size : Int) > 1048576
  · exact evT hb (Ev.now _)
  refine evF hb ?_
  by_cases hl : s.size ≤ 40000 ∧ s.size % 2 = 0
  · exact Ev.bind (spec_Unhex_in s hl.1 hl.2) (Ev.bind (impl_Unhex_in s hl.1 hl.2) (evT rfl (evF (by simp) (Ev.now _))))
  · exact Ev.bind (spec_Unhex_out s hl) (Ev.bind (impl_Unhex_out s hl) (evT rfl (evF (by simp) (Ev.now _))))

end Go.Proofs.Ytdbjkmokkgpjcaa.Pure
