/- FnExactDecimal -/
import Derived.Test.YtdhpcchmhikgeaaDoorSFnExactDecimalx1
import Derived.Test.YtdhpcchmhikgeaaDoorBase
import Derived.Lib.ItoaNum
namespace Go.Proofs.YtdhpcchmhikgeaaDoor.Pure
open Go.RowKit Go.Proofs.YtdhpcchmhikgeaaDoor.SFnExactDecimal Go.Proofs.YtdhpcchmhikgeaaDoor.Base Go.Proofs.YtdhpcchmhikgeaaDoorW.PrintWords Go.Proofs.YtdhpcchmhikgeaaDoorW.PrintLast Go.Proofs.YtdhpcchmhikgeaaDoorW.PrintMore
set_option linter.unusedVariables false
set_option linter.unusedSimpArgs false

-- IMPORT: Derived.Lib.ItoaNum
/-! the reference's decimal numeral -/
def digs (u : Nat) : List Int := if h : u = 0 then [] else digs (u / 10) ++ [48 + ((u % 10 : Nat) : Int)]
termination_by u
decreasing_by omega
theorem digs_zero : digs 0 = [] := by rw [digs]; rfl
theorem digs_pos {u : Nat} (h : u ≠ 0) : digs u = digs (u / 10) ++ [48 + ((u % 10 : Nat) : Int)] := by rw [digs, dif_neg h]
theorem digs_len (d : Nat) : ∀ u : Nat, u < 10 ^ d → (digs u).length ≤ d := by
  induction d with
  | zero => intro u hu; have : u = 0 := by omega
            rw [this, digs_zero]; simp
  | succ d ih =>
    intro u hu
    by_cases h : u = 0
    · rw [h, digs_zero]; simp
    · rw [digs_pos h, List.length_append]
      have := ih (u / 10) (by rw [Nat.pow_succ] at hu; omega)
      simp
      omega
theorem digs_range (u : Nat) : ∀ x ∈ digs u, 0 ≤ x ∧ x ≤ 255 := by
  induction u using Nat.strongRecOn with
  | _ u ih =>
    by_cases h : u = 0
    · rw [h, digs_zero]; intro x hx; cases hx
    · rw [digs_pos h]
      intro x hx
      rcases List.mem_append.1 hx with hx | hx
      · exact ih (u / 10) (by omega) x hx
      · have : x = 48 + ((u % 10 : Nat) : Int) := by simpa using hx
        omega
theorem digs_dec {u : Nat} (h : u ≠ 0) : digs u = (Lib.decDigits u).map (fun x => (x.toNat : Int)) := by
  induction u using Nat.strongRecOn with
  | _ u ih =>
    rw [digs_pos h, Lib.decDigits]
    by_cases h1 : u < 10
    · rw [dif_pos h1]
      have e : u / 10 = 0 := by omega
      have e2 : u % 10 = u := by omega
      rw [e, e2, digs_zero, List.nil_append, List.map_singleton]
      have : (UInt8.ofNat (48 + u)).toNat = 48 + u := by rw [UInt8.toNat_ofNat']; omega
      rw [this]
      simp
    · rw [dif_neg h1, ih (u / 10) (by omega) (by omega), List.map_append, List.map_singleton]
      have : (UInt8.ofNat (48 + u % 10)).toNat = 48 + u % 10 := by rw [UInt8.toNat_ofNat']; omega
      rw [this]
      simp
theorem figure_ok {d : Nat} (h : d < 10) : spec_l01Figure.f (d : Int) = some (48 + (d : Int)) := by
  unfold spec_l01Figure.f
  rw [if_pos (by omega), w64 (by omega) (by omega)]
  congr 1
  omega
theorem tmod_nat (u : Nat) : Int.tmod (u : Int) 10 = ((u % 10 : Nat) : Int) := rfl
theorem tdiv_nat (u : Nat) : Int.tdiv (u : Int) 10 = ((u / 10 : Nat) : Int) := rfl
theorem tmod_neg (u : Nat) : Int.tmod (-(u : Int)) 10 = -((u % 10 : Nat) : Int) := by rw [Int.neg_tmod, tmod_nat]
theorem tdiv_neg (u : Nat) : Int.tdiv (-(u : Int)) 10 = -((u / 10 : Nat) : Int) := by rw [Int.neg_tdiv, tdiv_nat]
def minus (b : Bool) (s : ByteArray) : ByteArray := if b = true then (⟨#[45]⟩ : ByteArray) ++ s else s
theorem one_size (x : Int) : (strOfNums [x]).size = 1 := rfl
theorem app_assoc (a b c : ByteArray) : a ++ b ++ c = a ++ (b ++ c) := by
  apply bytesOf_inj
  simp only [bytesOf_append, List.append_assoc]
theorem str_app {xs ys : List Int} (hx : ∀ x ∈ xs, 0 ≤ x ∧ x ≤ 255) (hy : ∀ x ∈ ys, 0 ≤ x ∧ x ≤ 255) : strOfNums (xs ++ ys) = strOfNums xs ++ strOfNums ys := by
  apply bytesOf_inj
  rw [bytesOf_append, bytesOf_str hx, bytesOf_str hy, bytesOf_str (fun x h => (List.mem_append.1 h).elim (hx x) (hy x))]
theorem spec_digits_ev (b : Bool) (d : Nat) : ∀ (u : Nat) (x : Int) (s : ByteArray), u < 10 ^ d → u ≤ 9223372036854775808 → (x = (u : Int) ∨ x = -(u : Int)) → -9223372036854775808 ≤ x → x ≤ 9223372036854775807 → s.size + d ≤ 100 → Ev (fun k => spec_Decimal.l0 k x b s) (minus b (strOfNums (digs u) ++ s)) := by
  induction d with
  | zero =>
    intro u x s hu _ hx _ _ hs
    have e : u = 0 := by omega
    subst e
    have e2 : x = 0 := by omega
    refine ev_end (fun k => ?_)
    rw [spec_Decimal.l0, if_pos e2, digs_zero]
    have e3 : strOfNums ([] : List Int) ++ s = s := by
      apply bytesOf_inj
      rw [bytesOf_append, bytesOf_str (fun x h => by cases h), List.nil_append]
    rw [e3]
    unfold minus
    cases b with
    | true => rw [if_pos rfl, if_pos (by omega), if_pos rfl]
    | false => rw [if_neg (by simp), if_neg (by simp)]
  | succ d ih =>
    intro u x s hu hm hx h0 h1 hs
    by_cases hz : u = 0
    · subst hz
      have e2 : x = 0 := by omega
      refine ev_end (fun k => ?_)
      rw [spec_Decimal.l0, if_pos e2, digs_zero]
      have e3 : strOfNums ([] : List Int) ++ s = s := by
        apply bytesOf_inj
        rw [bytesOf_append, bytesOf_str (fun x h => by cases h), List.nil_append]
      rw [e3]
      unfold minus
      cases b with
      | true => rw [if_pos rfl, if_pos (by omega), if_pos rfl]
      | false => rw [if_neg (by simp), if_neg (by simp)]
    · have hd : u % 10 < 10 := Nat.mod_lt _ (by omega)
      have hfig := figure_ok hd
      have hq : u / 10 < 10 ^ d := by rw [Nat.pow_succ] at hu; omega
      have hone : ∀ y ∈ [(48 : Int) + ((u % 10 : Nat) : Int)], 0 ≤ y ∧ y ≤ 255 := by
        intro y hy
        have : y = 48 + ((u % 10 : Nat) : Int) := by simpa using hy
        omega
      have hval : minus b (strOfNums (digs (u / 10)) ++ (strOfNums [48 + ((u % 10 : Nat) : Int)] ++ s)) = minus b (strOfNums (digs u) ++ s) := by
        rw [digs_pos hz, str_app (digs_range _) hone, app_assoc]
      have hsz : (strOfNums [48 + ((u % 10 : Nat) : Int)]).size = 1 := rfl
      have hnext : ∀ x' : Int, (x' = ((u / 10 : Nat) : Int) ∨ x' = -((u / 10 : Nat) : Int)) → Ev (fun k => spec_Decimal.l0 k x' b (strOfNums [48 + ((u % 10 : Nat) : Int)] ++ s)) (minus b (strOfNums (digs u) ++ s)) := by
        intro x' hx'
        rw [← hval]
        exact ih (u / 10) x' _ hq (by omega) hx' (by omega) (by omega) (by rw [ByteArray.size_append, hsz]; omega)
      rcases hx with hx | hx
      · refine Ev.step (fun k => by rw [spec_Decimal.l0, if_neg (by omega), hx, tmod_nat, tdiv_nat, if_neg (by omega), hfig, Option.bind_some, Option.bind_some, hsz, if_pos (by omega), w64 (by omega) (by omega)]) (hnext _ (.inl rfl))
      · by_cases h10 : u % 10 = 0
        · have hf0 : spec_l01Figure.f (-((0 : Nat) : Int)) = some (48 + ((0 : Nat) : Int)) := figure_ok (d := 0) (by omega)
          refine Ev.step (fun k => by rw [spec_Decimal.l0, if_neg (by omega), hx, tmod_neg, tdiv_neg, if_neg (by omega), h10, hf0, Option.bind_some, Option.bind_some, one_size, if_pos (by omega), w64 (by omega) (by omega)]) ?_
          have := hnext _ (.inr rfl)
          rw [h10] at this
          exact this
        · refine Ev.step (fun k => by rw [spec_Decimal.l0, if_neg (by omega), hx, tmod_neg, tdiv_neg, if_pos (by omega), Int.neg_neg, w64 (x := ((u % 10 : Nat) : Int)) (by omega) (by omega), hfig, Option.bind_some, Option.bind_some, hsz, if_pos (by omega), w64 (by omega) (by omega)]) (hnext _ (.inr rfl))
def itoaB (a : Int) : ByteArray := ⟨(Lib.itoa a).toArray⟩
theorem bytesOf_itoaB (a : Int) : bytesOf (itoaB a) = (Lib.itoa a).map (fun x => (x.toNat : Int)) := by
  simp [bytesOf, itoaB]
theorem spec_Decimal_f (a : Int) (h0 : -9223372036854775808 ≤ a) (h1 : a ≤ 9223372036854775807) : Ev (fun k => spec_Decimal.f k a) (itoaB a) := by
  by_cases hz : a = 0
  · subst hz
    have e : Lib.itoa 0 = [48] := by
      unfold Lib.itoa
      rw [if_neg (by omega)]
      exact Lib.decDigits_one (i := 0) (by omega)
    refine ev_cast (evT rfl (Ev.now _)) ?_
    unfold itoaB
    rw [e]
  · refine evF hz ?_
    have hu : a.natAbs ≠ 0 := by omega
    refine ev_cast (spec_digits_ev (decide (a < 0)) 20 a.natAbs a ⟨#[]⟩ (by omega) (by omega) (by omega) h0 h1 (by decide)) ?_
    apply bytesOf_inj
    rw [bytesOf_itoaB]
    unfold minus Lib.itoa
    by_cases hn : a < 0
    · rw [if_pos (decide_eq_true hn), if_pos hn, bytesOf_append, bytesOf_append, bytesOf_str (digs_range _), digs_dec hu]
      simp [bytesOf]
    · rw [if_neg (by simpa using hn), if_neg hn, bytesOf_append, bytesOf_str (digs_range _), digs_dec hu]
      have e : a.toNat = a.natAbs := by omega
      rw [e]
      simp [bytesOf]

theorem FnExactDecimal (a : Int) (w : (Lit.int .i64 a).wf = true) : ∃ k, spec_Decimal.f k a = some (itoaB a) := by
  have h := wf64 w
  exact Ev.rounds (spec_Decimal_f a h.1 h.2)

end Go.Proofs.YtdhpcchmhikgeaaDoor.Pure
