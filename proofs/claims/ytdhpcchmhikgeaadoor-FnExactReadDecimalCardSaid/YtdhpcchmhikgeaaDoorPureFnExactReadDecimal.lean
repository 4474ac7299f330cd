/- FnExactReadDecimal -/
import Derived.Test.YtdhpcchmhikgeaaDoorSFnExactReadDecimalx1
import Derived.Test.YtdhpcchmhikgeaaDoorBase
import Derived.Lib.ItoaNum
import Derived.Lib.AtoiTie
import Derived.Lib.AtoiAllCases
import Derived.Lib.ItoaMem
namespace Go.Proofs.YtdhpcchmhikgeaaDoor.Pure
open Go.RowKit Go.Proofs.YtdhpcchmhikgeaaDoor.SFnExactReadDecimal Go.Proofs.YtdhpcchmhikgeaaDoor.Base Go.Proofs.YtdhpcchmhikgeaaDoorW.PrintWords Go.Proofs.YtdhpcchmhikgeaaDoorW.PrintLast Go.Proofs.YtdhpcchmhikgeaaDoorW.PrintMore
set_option linter.unusedVariables false
set_option linter.unusedSimpArgs false

-- IMPORT: Derived.Lib.ItoaNum
/-! the reference's decimal numeral -/
def digs (u : Nat) : List Int := if h : u = 0 then [] else digs (u / 10) ++ [48 + ((u % 10 : Nat) : Int)]
termination_by u
decreasing_by omega
theorem digs_zero : digs 0 = [] := by rw [digs]; rfl
theorem digs_pos {u : Nat} (h : u ≠ 0) : digs u = digs (u / 10) ++ [48 + ((u % 10 : Nat) : Int)] := by rw [digs, dif_neg h]
theorem digs_len (d : Nat) : ∀ u : Nat, u < 10 ^ d → (digs u).length ≤ d := by
  induction d with
  | zero => intro u hu; have : u = 0 := by omega
            rw [this, digs_zero]; simp
  | succ d ih =>
    intro u hu
    by_cases h : u = 0
    · rw [h, digs_zero]; simp
    · rw [digs_pos h, List.length_append]
      have := ih (u / 10) (by rw [Nat.pow_succ] at hu; omega)
      simp
      omega
theorem digs_range (u : Nat) : ∀ x ∈ digs u, 0 ≤ x ∧ x ≤ 255 := by
  induction u using Nat.strongRecOn with
  | _ u ih =>
    by_cases h : u = 0
    · rw [h, digs_zero]; intro x hx; cases hx
    · rw [digs_pos h]
      intro x hx
      rcases List.mem_append.1 hx with hx | hx
      · exact ih (u / 10) (by omega) x hx
      · have : x = 48 + ((u % 10 : Nat) : Int) := by simpa using hx
        omega
theorem digs_dec {u : Nat} (h : u ≠ 0) : digs u = (Lib.decDigits u).map (fun x => (x.toNat : Int)) := by
  induction u using Nat.strongRecOn with
  | _ u ih =>
    rw [digs_pos h, Lib.decDigits]
    by_cases h1 : u < 10
    · rw [dif_pos h1]
      have e : u / 10 = 0 := by omega
      have e2 : u % 10 = u := by omega
      rw [e, e2, digs_zero, List.nil_append, List.map_singleton]
      have : (UInt8.ofNat (48 + u)).toNat = 48 + u := by rw [UInt8.toNat_ofNat']; omega
      rw [this]
      simp
    · rw [dif_neg h1, ih (u / 10) (by omega) (by omega), List.map_append, List.map_singleton]
      have : (UInt8.ofNat (48 + u % 10)).toNat = 48 + u % 10 := by rw [UInt8.toNat_ofNat']; omega
      rw [this]
      simp
theorem figure_ok {d : Nat} (h : d < 10) : spec_l01Figure.f (d : Int) = some (48 + (d : Int)) := by
  unfold spec_l01Figure.f
  rw [if_pos (by omega), w64 (by omega) (by omega)]
  congr 1
  omega
theorem tmod_nat (u : Nat) : Int.tmod (u : Int) 10 = ((u % 10 : Nat) : Int) := rfl
theorem tdiv_nat (u : Nat) : Int.tdiv (u : Int) 10 = ((u / 10 : Nat) : Int) := rfl
theorem tmod_neg (u : Nat) : Int.tmod (-(u : Int)) 10 = -((u % 10 : Nat) : Int) := by rw [Int.neg_tmod, tmod_nat]
theorem tdiv_neg (u : Nat) : Int.tdiv (-(u : Int)) 10 = -((u / 10 : Nat) : Int) := by rw [Int.neg_tdiv, tdiv_nat]
def minus (b : Bool) (s : ByteArray) : ByteArray := if b = true then (⟨#[45]⟩ : ByteArray) ++ s else s
theorem one_size (x : Int) : (strOfNums [x]).size = 1 := rfl
theorem app_assoc (a b c : ByteArray) : a ++ b ++ c = a ++ (b ++ c) := by
  apply bytesOf_inj
  simp only [bytesOf_append, List.append_assoc]
theorem str_app {xs ys : List Int} (hx : ∀ x ∈ xs, 0 ≤ x ∧ x ≤ 255) (hy : ∀ x ∈ ys, 0 ≤ x ∧ x ≤ 255) : strOfNums (xs ++ ys) = strOfNums xs ++ strOfNums ys := by
  apply bytesOf_inj
  rw [bytesOf_append, bytesOf_str hx, bytesOf_str hy, bytesOf_str (fun x h => (List.mem_append.1 h).elim (hx x) (hy x))]
theorem spec_digits_ev (b : Bool) (d : Nat) : ∀ (u : Nat) (x : Int) (s : ByteArray), u < 10 ^ d → u ≤ 9223372036854775808 → (x = (u : Int) ∨ x = -(u : Int)) → -9223372036854775808 ≤ x → x ≤ 9223372036854775807 → s.size + d ≤ 100 → Ev (fun k => spec_Decimal.l0 k x b s) (minus b (strOfNums (digs u) ++ s)) := by
  induction d with
  | zero =>
    intro u x s hu _ hx _ _ hs
    have e : u = 0 := by omega
    subst e
    have e2 : x = 0 := by omega
    refine ev_end (fun k => ?_)
    rw [spec_Decimal.l0, if_pos e2, digs_zero]
    have e3 : strOfNums ([] : List Int) ++ s = s := by
      apply bytesOf_inj
      rw [bytesOf_append, bytesOf_str (fun x h => by cases h), List.nil_append]
    rw [e3]
    unfold minus
    cases b with
    | true => rw [if_pos rfl, if_pos (by omega), if_pos rfl]
    | false => rw [if_neg (by simp), if_neg (by simp)]
  | succ d ih =>
    intro u x s hu hm hx h0 h1 hs
    by_cases hz : u = 0
    · subst hz
      have e2 : x = 0 := by omega
      refine ev_end (fun k => ?_)
      rw [spec_Decimal.l0, if_pos e2, digs_zero]
      have e3 : strOfNums ([] : List Int) ++ s = s := by
        apply bytesOf_inj
        rw [bytesOf_append, bytesOf_str (fun x h => by cases h), List.nil_append]
      rw [e3]
      unfold minus
      cases b with
      | true => rw [if_pos rfl, if_pos (by omega), if_pos rfl]
      | false => rw [if_neg (by simp), if_neg (by simp)]
    · have hd : u % 10 < 10 := Nat.mod_lt _ (by omega)
      have hfig := figure_ok hd
      have hq : u / 10 < 10 ^ d := by rw [Nat.pow_succ] at hu; omega
      have hone : ∀ y ∈ [(48 : Int) + ((u % 10 : Nat) : Int)], 0 ≤ y ∧ y ≤ 255 := by
        intro y hy
        have : y = 48 + ((u % 10 : Nat) : Int) := by simpa using hy
        omega
      have hval : minus b (strOfNums (digs (u / 10)) ++ (strOfNums [48 + ((u % 10 : Nat) : Int)] ++ s)) = minus b (strOfNums (digs u) ++ s) := by
        rw [digs_pos hz, str_app (digs_range _) hone, app_assoc]
      have hsz : (strOfNums [48 + ((u % 10 : Nat) : Int)]).size = 1 := rfl
      have hnext : ∀ x' : Int, (x' = ((u / 10 : Nat) : Int) ∨ x' = -((u / 10 : Nat) : Int)) → Ev (fun k => spec_Decimal.l0 k x' b (strOfNums [48 + ((u % 10 : Nat) : Int)] ++ s)) (minus b (strOfNums (digs u) ++ s)) := by
        intro x' hx'
        rw [← hval]
        exact ih (u / 10) x' _ hq (by omega) hx' (by omega) (by omega) (by rw [ByteArray.size_append, hsz]; omega)
      rcases hx with hx | hx
      · refine Ev.step (fun k => by rw [spec_Decimal.l0, if_neg (by omega), hx, tmod_nat, tdiv_nat, if_neg (by omega), hfig, Option.bind_some, Option.bind_some, hsz, if_pos (by omega), w64 (by omega) (by omega)]) (hnext _ (.inl rfl))
      · by_cases h10 : u % 10 = 0
        · have hf0 : spec_l01Figure.f (-((0 : Nat) : Int)) = some (48 + ((0 : Nat) : Int)) := figure_ok (d := 0) (by omega)
          refine Ev.step (fun k => by rw [spec_Decimal.l0, if_neg (by omega), hx, tmod_neg, tdiv_neg, if_neg (by omega), h10, hf0, Option.bind_some, Option.bind_some, one_size, if_pos (by omega), w64 (by omega) (by omega)]) ?_
          have := hnext _ (.inr rfl)
          rw [h10] at this
          exact this
        · refine Ev.step (fun k => by rw [spec_Decimal.l0, if_neg (by omega), hx, tmod_neg, tdiv_neg, if_pos (by omega), Int.neg_neg, w64 (x := ((u % 10 : Nat) : Int)) (by omega) (by omega), hfig, Option.bind_some, Option.bind_some, hsz, if_pos (by omega), w64 (by omega) (by omega)]) (hnext _ (.inr rfl))
def itoaB (a : Int) : ByteArray := ⟨(Lib.itoa a).toArray⟩
theorem bytesOf_itoaB (a : Int) : bytesOf (itoaB a) = (Lib.itoa a).map (fun x => (x.toNat : Int)) := by
  simp [bytesOf, itoaB]
theorem spec_Decimal_f (a : Int) (h0 : -9223372036854775808 ≤ a) (h1 : a ≤ 9223372036854775807) : Ev (fun k => spec_Decimal.f k a) (itoaB a) := by
  by_cases hz : a = 0
  · subst hz
    have e : Lib.itoa 0 = [48] := by
      unfold Lib.itoa
      rw [if_neg (by omega)]
      exact Lib.decDigits_one (i := 0) (by omega)
    refine ev_cast (evT rfl (Ev.now _)) ?_
    unfold itoaB
    rw [e]
  · refine evF hz ?_
    have hu : a.natAbs ≠ 0 := by omega
    refine ev_cast (spec_digits_ev (decide (a < 0)) 20 a.natAbs a ⟨#[]⟩ (by omega) (by omega) (by omega) h0 h1 (by decide)) ?_
    apply bytesOf_inj
    rw [bytesOf_itoaB]
    unfold minus Lib.itoa
    by_cases hn : a < 0
    · rw [if_pos (decide_eq_true hn), if_pos hn, bytesOf_append, bytesOf_append, bytesOf_str (digs_range _), digs_dec hu]
      simp [bytesOf]
    · rw [if_neg (by simpa using hn), if_neg hn, bytesOf_append, bytesOf_str (digs_range _), digs_dec hu]
      have e : a.toNat = a.natAbs := by omega
      rw [e]
      simp [bytesOf]

-- IMPORT: Derived.Lib.AtoiTie
-- IMPORT: Derived.Lib.AtoiAllCases
-- IMPORT: Derived.Lib.ItoaMem
/-! a decimal numeral read back -/
theorem decFrom_app (l r : List UInt8) : ∀ acc, Lib.decFrom acc (l ++ r) = (Lib.decFrom acc l).bind (fun m => Lib.decFrom m r) := by
  induction l with
  | nil => intro acc; rfl
  | cons b l ih =>
    intro acc
    simp only [List.cons_append, Lib.decFrom]
    cases Lib.digitVal b with
    | none => rfl
    | some d => exact ih _
theorem digit_val {d : Nat} (h : d < 10) : Lib.digitVal (UInt8.ofNat (48 + d)) = some d := by
  have : (UInt8.ofNat (48 + d)).toNat = 48 + d := by rw [UInt8.toNat_ofNat']; omega
  unfold Lib.digitVal
  rw [this, if_pos (by omega)]
  congr 1
  omega
theorem decFrom_digits (u : Nat) : Lib.decFrom 0 (Lib.decDigits u) = some u := by
  induction u using Nat.strongRecOn with
  | _ u ih =>
    rw [Lib.decDigits]
    by_cases h1 : u < 10
    · rw [dif_pos h1]
      simp only [Lib.decFrom]
      rw [digit_val h1]
      simp
    · rw [dif_neg h1, decFrom_app, ih (u / 10) (by omega)]
      simp only [Option.bind_some, Lib.decFrom]
      rw [digit_val (Nat.mod_lt _ (by omega))]
      simp only
      congr 1
      omega
theorem digits_ne (u : Nat) : ∃ c r, Lib.decDigits u = c :: r ∧ 48 ≤ c.toNat ∧ c.toNat ≤ 57 := by
  induction u using Nat.strongRecOn with
  | _ u ih =>
    rw [Lib.decDigits]
    by_cases h1 : u < 10
    · rw [dif_pos h1]
      have : (UInt8.ofNat (48 + u)).toNat = 48 + u := by rw [UInt8.toNat_ofNat']; omega
      exact ⟨_, _, rfl, by omega, by omega⟩
    · rw [dif_neg h1]
      obtain ⟨c, r, e, h⟩ := ih (u / 10) (by omega)
      rw [e]
      exact ⟨c, _, rfl, h⟩
theorem digits_len (d : Nat) : ∀ u : Nat, u < 10 ^ (d + 1) → (Lib.decDigits u).length ≤ d + 1 := by
  induction d with
  | zero => intro u hu; rw [Lib.decDigits, dif_pos (by omega)]; simp
  | succ d ih =>
    intro u hu
    rw [Lib.decDigits]
    by_cases h1 : u < 10
    · rw [dif_pos h1]; simp
    · rw [dif_neg h1, List.length_append]
      have := ih (u / 10) (by rw [Nat.pow_succ] at hu; omega)
      simp
      omega
theorem atoi_digits (u : Nat) : Lib.atoi (Lib.decDigits u) = some (u : Int) := by
  obtain ⟨c, r, e, h1, h2⟩ := digits_ne u
  have hd := decFrom_digits u
  rw [e] at hd ⊢
  unfold Lib.atoi Lib.decNat
  have n45 : (c == 45) = false := by
    rw [beq_eq_false_iff_ne]
    rintro rfl
    simp at h1
  have n43 : (c == 43) = false := by
    rw [beq_eq_false_iff_ne]
    rintro rfl
    simp at h1
  simp [n45, n43, hd]
theorem size_list (s : ByteArray) : s.data.toList.length = s.size := Array.length_toList
def readDec (t : ByteArray) : Int × Bool :=
  if t.size ≤ 10 then (match Lib.decFrom 0 t.data.toList with
    | none => (0, false)
    | some m => if 1000000000 < m then (0, false) else if (itoaB (m : Int)).toList = t.toList then ((m : Int), true) else (0, false))
  else (0, false)
def readDecI (t : ByteArray) : Int × Bool := match Lib.atoiAll t.data.toList with
  | .ok v => if 0 ≤ v ∧ v ≤ 1000000000 ∧ (itoaB v).toList = t.toList then (v, true) else (0, false)
  | _ => (0, false)
theorem itoaB_data (m : Nat) : (itoaB (m : Int)).data.toList = Lib.decDigits m := by
  unfold itoaB
  rw [Lib.itoa_nonneg]
theorem toList_eq {s t : ByteArray} (h : s.toList = t.toList) : s = t := bytesOf_inj (toList_iff.1 h)
theorem readDec_eq (t : ByteArray) : readDecI t = readDec t := by
  by_cases H : ∃ m : Nat, m ≤ 1000000000 ∧ t = itoaB (m : Int)
  · obtain ⟨m, hm, rfl⟩ := H
    have hl := digits_len 9 m (by omega)
    have hsz : (itoaB (m : Int)).size ≤ 10 := by
      rw [← size_list, itoaB_data]
      exact hl
    have e1 : readDec (itoaB (m : Int)) = ((m : Int), true) := by
      unfold readDec
      rw [if_pos hsz, itoaB_data, decFrom_digits]
      simp only
      rw [if_neg (by omega), if_pos trivial]
    have e2 : readDecI (itoaB (m : Int)) = ((m : Int), true) := by
      unfold readDecI
      rw [itoaB_data, Lib.atoiAll_short _ (by omega), atoi_digits]
      simp only [Lib.NumEnd.ofOption]
      rw [if_pos ⟨by omega, by omega, trivial⟩]
    rw [e1, e2]
  · have e1 : readDec t = (0, false) := by
      unfold readDec
      split
      · split
        · rfl
        · rename_i m _
          split
          · rfl
          · rename_i h1
            split
            · rename_i h2
              exact absurd ⟨m, by omega, (toList_eq h2).symm⟩ H
            · rfl
      · rfl
    have e2 : readDecI t = (0, false) := by
      unfold readDecI
      split
      · rename_i v _
        split
        · rename_i h
          obtain ⟨m, rfl⟩ := Int.eq_ofNat_of_zero_le h.1
          exact absurd ⟨m, by omega, (toList_eq h.2.2).symm⟩ H
        · rfl
      · rfl
    rw [e1, e2]
theorem decFrom_take_next {t : ByteArray} {i n : Nat} (hi : i < t.size) : Lib.decFrom n (t.data.toList.drop i) = (match Lib.digitVal (t[i]'hi) with
    | some d => Lib.decFrom (n * 10 + d) (t.data.toList.drop (i + 1))
    | none => none) := by
  have : t.data.toList.drop i = (t[i]'hi) :: t.data.toList.drop (i + 1) := by
    have hlt : i < t.data.toList.length := by rw [size_list]; exact hi
    rw [List.drop_eq_getElem_cons hlt]
    rfl
  rw [this]
  simp only [Lib.decFrom]
  cases Lib.digitVal (t[i]'hi) <;> rfl
def endDec (t : ByteArray) : Option Nat → Int × Bool
  | none => (0, false)
  | some m => if 1000000000 < m then (0, false) else if (itoaB (m : Int)).toList = t.toList then ((m : Int), true) else (0, false)
theorem spec_ReadDecimal_ev (t : ByteArray) (ht : t.size ≤ 10) : ∀ (d i n : Nat), t.size - i = d → i ≤ t.size → n < 10 ^ i →
    Ev (fun k => spec_ReadDecimal.l0 k t (n : Int) (i : Int)) (endDec t (Lib.decFrom n (t.data.toList.drop i))) := by
  intro d
  induction d with
  | zero =>
    intro i n hd hi hn
    have hnil : t.data.toList.drop i = [] := List.drop_eq_nil_of_le (by rw [size_list]; omega)
    rw [hnil]
    simp only [Lib.decFrom, endDec]
    have hn2 : n < 10000000000 := Nat.lt_of_lt_of_le hn (Nat.pow_le_pow_right (by omega) (show i ≤ 10 by omega))
    by_cases hb : 1000000000 < n
    · rw [if_pos hb]
      exact ev_end (fun k => by rw [spec_ReadDecimal.l0, if_neg (by omega), if_pos (by omega)])
    · rw [if_neg hb]
      refine Ev.step (fun k => by rw [spec_ReadDecimal.l0, if_neg (by omega), if_neg (by omega)]) ?_
      refine Ev.bind (spec_Decimal_f (n : Int) (by omega) (by omega)) ?_
      by_cases h : (itoaB (n : Int)).toList = t.toList
      · exact ev_cast (evT h (Ev.now _)) (if_pos h).symm
      · exact ev_cast (evF h (Ev.now _)) (if_neg h).symm
  | succ d ih =>
    intro i n hd hi hn
    have hlt : i < t.size := by omega
    have hn2 : n < 1000000000 := Nat.lt_of_lt_of_le hn (Nat.pow_le_pow_right (by omega) (show i ≤ 9 by omega))
    rw [decFrom_take_next hlt]
    have hbt := bt_lt hlt
    have hbr := bt_range t (i : Int)
    refine Ev.step (fun k => by rw [spec_ReadDecimal.l0, if_pos (by omega), if_pos (by omega)]) ?_
    by_cases h1 : bt t (i : Int) < 48
    · have hv : Lib.digitVal (t[i]'hlt) = none := by unfold Lib.digitVal; rw [if_neg (by omega)]
      rw [hv]
      exact evT h1 (Ev.now _)
    · refine evF h1 ?_
      by_cases h2 : bt t (i : Int) > 57
      · have hv : Lib.digitVal (t[i]'hlt) = none := by unfold Lib.digitVal; rw [if_neg (by omega)]
        rw [hv]
        exact evT h2 (Ev.now _)
      · refine evF h2 ?_
        have hv : Lib.digitVal (t[i]'hlt) = some ((t[i]'hlt).toNat - 48) := by unfold Lib.digitVal; rw [if_pos (by omega)]
        rw [hv]
        simp only
        have e : wrap64 ((wrap64 ((wrap64 (10 * (n : Int))) + (wrap64 (bt t (i : Int))))) - 48) = ((n * 10 + ((t[i]'hlt).toNat - 48) : Nat) : Int) := by
          rw [w64 (x := 10 * (n : Int)) (by omega) (by omega), w64 (x := bt t (i : Int)) (by omega) (by omega), w64 (x := 10 * (n : Int) + bt t (i : Int)) (by omega) (by omega), w64 (by omega) (by omega)]
          omega
        rw [e, w64 (x := (i : Int) + 1) (by omega) (by omega)]
        exact ih (i + 1) _ (by omega) (by omega) (by rw [Nat.pow_succ]; omega)
theorem spec_ReadDecimal_f (t : ByteArray) : Ev (fun k => spec_ReadDecimal.f k t) (readDec t) := by
  unfold readDec
  by_cases h : t.size ≤ 10
  · rw [if_pos h]
    refine evF (by omega) ?_
    have := spec_ReadDecimal_ev t h t.size 0 0 (by omega) (by omega) (by simp)
    refine ev_cast this ?_
    rw [List.drop_zero]
    rfl
  · rw [if_neg h]
    exact evT (by omega) (Ev.now _)

theorem FnExactReadDecimal (t : ByteArray) : ∃ k, spec_ReadDecimal.f k t = some (readDecI t) := by
  rw [readDec_eq]
  exact Ev.rounds (spec_ReadDecimal_f t)

end Go.Proofs.YtdhpcchmhikgeaaDoor.Pure
