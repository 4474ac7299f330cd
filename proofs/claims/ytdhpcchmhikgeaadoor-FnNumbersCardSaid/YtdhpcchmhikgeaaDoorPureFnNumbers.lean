/- FnNumbers -/
import Derived.Test.YtdhpcchmhikgeaaDoorSFnNumbersx6
import Derived.Test.YtdhpcchmhikgeaaDoorBase
namespace Go.Proofs.YtdhpcchmhikgeaaDoor.Pure
open Go.RowKit Go.Proofs.YtdhpcchmhikgeaaDoor.SFnNumbers Go.Proofs.YtdhpcchmhikgeaaDoor.Base Go.Proofs.YtdhpcchmhikgeaaDoorW.PrintWords Go.Proofs.YtdhpcchmhikgeaaDoorW.PrintLast Go.Proofs.YtdhpcchmhikgeaaDoorW.PrintMore
open Go.Proofs.YtdhpcchmhikgeaaDoor.SFnNumbers.Hand
set_option linter.unusedVariables false
set_option linter.unusedSimpArgs false

/-! draws: what they come to lies in its bounds -/
theorem New_ev (l : List Int) (hl : l.length ≤ 140737488351232) : ∀ (d i : Nat) (x : Int), 4000 - i = d → i ≤ l.length → ∃ h, Ev (fun k => spec_l01New.l0 k l x (i : Int)) (l, 0, h) := by
  intro d
  induction d with
  | zero =>
    intro i x hd hi
    by_cases hlt : i < l.length
    · exact ⟨x, ev_end (fun k => by rw [spec_l01New.l0, if_pos (by omega), if_neg (by omega)])⟩
    · exact ⟨x, ev_end (fun k => by rw [spec_l01New.l0, if_neg (by omega)])⟩
  | succ d ih =>
    intro i x hd hi
    by_cases hlt : i < l.length
    · obtain ⟨h, hh⟩ := ih (i + 1) (Go.bits .and .i64 (wrap64 ((wrap64 ((wrap64 (x * 131)) + (wrap64 (rd l i)))) + 7)) 1073741823) (by omega) (by omega)
      exact ⟨h, Ev.step (fun k => by rw [spec_l01New.l0, if_pos (by omega), if_pos (by omega), if_pos (by omega), w64 (x := (i : Int) + 1) (by omega) (by omega)]; rfl) hh⟩
    · exact ⟨x, ev_end (fun k => by rw [spec_l01New.l0, if_neg (by omega)])⟩
theorem New_f (l : List Int) (hl : l.length ≤ 140737488351232) : ∃ h, Ev (fun k => spec_l01New.f k l) (l, 0, h) := New_ev l hl 4000 0 _ rfl (by omega)
theorem cur_zero {l : List Int} (hl : l.length ≤ 140737488351232) : Cur l 0 := ⟨by omega, by omega, hl⟩
theorem Byte_f {l : List Int} {i : Int} (h : Int) (c : Cur l i) : ∃ r i' h', spec_l01Byte.f l i h = some (r, i', h') ∧ Cur l i' ∧ 0 ≤ r ∧ r ≤ 255 := by
  obtain ⟨c0, c1, c2⟩ := c
  unfold spec_l01Byte.f
  by_cases hi : i < (l.length : Int)
  · rw [if_pos hi, if_pos c0, w64 (x := i + 1) (by omega) (by omega)]
    exact ⟨_, _, _, rfl, ⟨by omega, by omega, c2⟩, (and255 _).1, (and255 _).2⟩
  · rw [if_neg hi]
    exact ⟨_, _, _, rfl, ⟨c0, c1, c2⟩, (and255 _).1, (and255 _).2⟩
theorem Below_f {l : List Int} {i : Int} (h n : Int) (hn : n ≤ 4294967296) (c : Cur l i) : ∃ r i' h', spec_l01Below.f l i h n = some (r, i', h') ∧ Cur l i' ∧ (0 < n → 0 ≤ r ∧ r < n) ∧ (n ≤ 0 → r = 0) := by
  unfold spec_l01Below.f
  by_cases h0 : n ≤ 0
  · rw [if_pos h0]
    exact ⟨_, _, _, rfl, c, fun h => by omega, fun _ => rfl⟩
  · rw [if_neg h0]
    by_cases h1 : n ≤ 256
    · rw [if_pos h1]
      obtain ⟨r, i', h', e, c', r0, r1⟩ := Byte_f h c
      rw [e]
      simp only [Option.bind_some]
      rw [if_neg (by omega)]
      exact ⟨_, _, _, rfl, c', fun _ => by rw [Int.tmod_eq_emod_of_nonneg r0]; exact ⟨Int.emod_nonneg _ (by omega), Int.emod_lt_of_pos _ (by omega)⟩, fun h => by omega⟩
    · rw [if_neg h1]
      obtain ⟨ra, ia, ha, ea, ca, a0, a1⟩ := Byte_f h c
      rw [ea]
      simp only [Option.bind_some]
      obtain ⟨rb, ib, hb, eb, cb, b0, b1⟩ := Byte_f ha ca
      rw [eb]
      simp only [Option.bind_some]
      obtain ⟨rc, ic, hc, ec, cc, c0, c1⟩ := Byte_f hb cb
      rw [ec]
      simp only [Option.bind_some]
      obtain ⟨rd, id, hd, ed, cd, d0, d1⟩ := Byte_f hc cc
      rw [ed]
      simp only [Option.bind_some]
      rw [if_neg (by omega)]
      refine ⟨_, _, _, rfl, cd, fun _ => ?_, fun h => by omega⟩
      have e1 : wrap64 (ra * 16777216) = ra * 16777216 := w64 (by omega) (by omega)
      have e2 : wrap64 (rb * 65536) = rb * 65536 := w64 (by omega) (by omega)
      have e3 : wrap64 (rc * 256) = rc * 256 := w64 (by omega) (by omega)
      have e4 : wrap64 (ra * 16777216 + rb * 65536) = ra * 16777216 + rb * 65536 := w64 (by omega) (by omega)
      have e5 : wrap64 (ra * 16777216 + rb * 65536 + rc * 256) = ra * 16777216 + rb * 65536 + rc * 256 := w64 (by omega) (by omega)
      have e6 : wrap64 (ra * 16777216 + rb * 65536 + rc * 256 + rd) = ra * 16777216 + rb * 65536 + rc * 256 + rd := w64 (by omega) (by omega)
      rw [e1, e2, e3, e4, e5, e6, Int.tmod_eq_emod_of_nonneg (by omega)]
      exact ⟨Int.emod_nonneg _ (by omega), Int.emod_lt_of_pos _ (by omega)⟩

/-! draws of numbers and of short texts end -/
theorem PickInt_f {l : List Int} {i : Int} (h : Int) (c : Cur l i) (xs : List Int) (h0 : 0 < xs.length) (h1 : xs.length ≤ 1000) : ∃ r i' h', spec_l01PickInt.f l i h xs = some (r, i', h') ∧ Cur l i' := by
  obtain ⟨r, i', h', e, c', r0, _⟩ := Below_f h (xs.length : Int) (by omega) c
  have hr := r0 (by omega)
  unfold spec_l01PickInt.f
  rw [e]
  simp only [Option.bind_some]
  rw [if_pos hr.1, if_pos hr.2]
  exact ⟨_, _, _, rfl, c'⟩
theorem Number_f {l : List Int} {i : Int} (h : Int) (c : Cur l i) : ∃ r i' h', spec_l01Number.f l i h = some (r, i', h') := by
  obtain ⟨r, i', h', e, c', _, _⟩ := Below_f h 4 (by omega) c
  unfold spec_l01Number.f
  rw [e]
  simp only [Option.bind_some]
  split
  · obtain ⟨r2, i2, h2, e2, _⟩ := PickInt_f h' c' [(-1), 0, 127, 128, 16383, 16384, 1000000000, 1000000001, 9223372036854775807, (-9223372036854775808)] (by decide) (by decide)
    rw [e2]
    exact ⟨_, _, _, rfl⟩
  · split
    · obtain ⟨r2, i2, h2, e2, _⟩ := Below_f h' 1000000000 (by omega) c'
      rw [e2]
      exact ⟨_, _, _, rfl⟩
    · obtain ⟨r2, i2, h2, e2, _⟩ := Below_f h' 400 (by omega) c'
      rw [e2]
      exact ⟨_, _, _, rfl⟩
theorem DrawVarText_f (l : List Int) (hl : l.length ≤ 140737488351232) : ∃ n, Ev (fun k => spec_DrawVarText.f k l) n := by
  obtain ⟨h, hh⟩ := New_f l hl
  obtain ⟨r, i', h', e⟩ := Number_f h (cur_zero hl)
  exact ⟨r, Ev.bind hh (ev_now e (Ev.now _))⟩
theorem Long_ev (n : Nat) (hn : n ≤ 1000000) (b : Int) : ∀ (d i : Nat) (xs : List Int), xs.length = n → n - i = d → i ≤ n → ∃ v, Ev (fun k => spec_l01Long.l0 k (n : Int) b xs (i : Int)) v := by
  intro d
  induction d with
  | zero =>
    intro i xs hx hd hi
    exact ⟨_, ev_end (fun k => by rw [spec_l01Long.l0, if_neg (by omega)])⟩
  | succ d ih =>
    intro i xs hx hd hi
    obtain ⟨v, hv⟩ := ih (i + 1) (xs.set i b) (by rw [List.length_set, hx]) (by omega) (by omega)
    refine ⟨v, Ev.step (fun k => by rw [spec_l01Long.l0, if_pos (by omega), if_pos (by omega), if_pos (by omega), w64 (x := (i : Int) + 1) (by omega) (by omega), Int.toNat_natCast]; rfl) hv⟩
theorem Long_f (n : Nat) (hn : n ≤ 1000000) (b : Int) : ∃ v, Ev (fun k => spec_l01Long.f k (n : Int) b) v := by
  obtain ⟨v, hv⟩ := Long_ev n hn b n 0 (List.replicate n 0) (by simp) (by omega) (by omega)
  exact ⟨v, evT (by omega) (evT (by omega) (by simpa using hv))⟩
theorem Text_ev {l : List Int} (n : Nat) (hn : n ≤ 5000) : ∀ (d j : Nat) (xs : List Int) (i h : Int), Cur l i → xs.length = j → n - j = d → j ≤ n → ∃ v, Ev (fun k => spec_l01Text.l0 k (n : Int) xs (j : Int) l i h) v := by
  intro d
  induction d with
  | zero =>
    intro j xs i h c hx hd hj
    exact ⟨_, ev_end (fun k => by rw [spec_l01Text.l0, if_neg (by omega)])⟩
  | succ d ih =>
    intro j xs i h c hx hd hj
    obtain ⟨r, i', h', e, c', _, _⟩ := Byte_f h c
    obtain ⟨v, hv⟩ := ih (j + 1) (xs ++ [r % 256]) i' h' c' (by simp [hx]) (by omega) (by omega)
    refine ⟨v, Ev.step (fun k => by rw [spec_l01Text.l0, if_pos (by omega), e, Option.bind_some, if_pos (by omega), w64 (x := (j : Int) + 1) (by omega) (by omega)]; rfl) hv⟩
theorem Text_f {l : List Int} (n : Nat) (hn : n ≤ 5000) (i h : Int) (c : Cur l i) : ∃ v, Ev (fun k => spec_l01Text.f k l i h (n : Int)) v := by
  obtain ⟨v, hv⟩ := Text_ev n hn n 0 [] i h c rfl (by omega) (by omega)
  exact ⟨v, evF (by omega) (Ev.step (fun k => by rw [spec_l01Text.j0]; rfl) hv)⟩
theorem DrawHex_f (l : List Int) (hl : l.length ≤ 140737488351232) : ∃ t, Ev (fun k => spec_DrawHex.f k l) t := by
  obtain ⟨h, hh⟩ := New_f l hl
  obtain ⟨r, i', h', e, c', _, _⟩ := Below_f h 60 (by omega) (cur_zero hl)
  have eo : spec_l01Once.f l 0 h 60 = some ((r == 0), i', h') := by unfold spec_l01Once.f; rw [e]; rfl
  by_cases hr : (r == 0) = true
  · obtain ⟨r2, i2, h2, e2, c2, b2, _⟩ := Below_f h' 2 (by omega) c'
    have hb := b2 (by omega)
    obtain ⟨m, rfl⟩ := Int.eq_ofNat_of_zero_le hb.1
    have ew : wrap64 (20000 + (m : Int)) = ((20000 + m : Nat) : Int) := by rw [w64 (by omega) (by omega)]; omega
    obtain ⟨v, hv⟩ := Long_f (20000 + m) (by omega) 200
    refine ⟨v, Ev.bind hh (ev_now eo (evT hr (ev_now e2 (Ev.bind (a := v) ?_ (Ev.now _)))))⟩
    simp only [ew]
    exact hv
  · obtain ⟨r2, i2, h2, e2, c2, b2, _⟩ := Below_f h' 30 (by omega) c'
    have hb := b2 (by omega)
    obtain ⟨m, rfl⟩ := Int.eq_ofNat_of_zero_le hb.1
    obtain ⟨v, hv⟩ := Text_f m (by omega) i2 h2 c2
    exact ⟨_, Ev.bind hh (ev_now eo (evF hr (ev_now e2 (Ev.bind hv (Ev.now _)))))⟩

theorem impl_within_in {a b c : Int} (h : b ≤ a) (h' : a ≤ c) : impl_within.f a b c = some true := by
  unfold impl_within.f
  rw [if_pos h]
  simp [h']
theorem impl_within_out {a b c : Int} (h : a < b ∨ c < a) : impl_within.f a b c = some false := by
  unfold impl_within.f
  by_cases h0 : a ≥ b
  · rw [if_pos h0]
    have : ¬ a ≤ c := by omega
    simp [this]
  · rw [if_neg h0]

theorem impl_VarText_ev (d : Nat) : ∀ (n : Nat) (acc : List Int), n < 128 ^ (d + 1) → n ≤ 9223372036854775807 → acc.length + d ≤ 1000000 → Ev (fun k => impl_VarText.l0 k (n : Int) acc) (strOfNums (acc ++ varN n), true) := by
  induction d with
  | zero =>
    intro n acc h hb ha
    rw [varN_small (by omega)]
    refine ev_end (fun k => ?_)
    rw [impl_VarText.l0, if_neg (by omega), if_pos (by omega)]
    congr 5
    omega
  | succ d ih =>
    intro n acc h hb ha
    by_cases hn : n > 127
    · rw [varN_big hn]
      refine Ev.step (fun k => by rw [impl_VarText.l0, if_pos (by omega), if_pos (by omega)]) ?_
      have e1 : wrap64 (Int.tdiv (n : Int) 128) = ((n / 128 : Nat) : Int) := by
        rw [Int.tdiv_eq_ediv_of_nonneg (by omega)]
        unfold wrap64
        omega
      have e2 : wrap64 ((Int.tmod (n : Int) 128) + 128) % 256 = ((n % 128 + 128 : Nat) : Int) := by
        rw [Int.tmod_eq_emod_of_nonneg (by omega)]
        unfold wrap64
        omega
      rw [e1, e2]
      refine ev_cast (ih (n / 128) _ (by rw [Nat.div_lt_iff_lt_mul (by omega)]; rw [Nat.pow_succ] at h; exact h) (by omega) (by simp; omega)) ?_
      simp
    · rw [varN_small (by omega)]
      refine ev_end (fun k => ?_)
      rw [impl_VarText.l0, if_neg (by omega), if_pos (by omega)]
      congr 5
      omega
theorem impl_VarText_in {n : Int} (h : 0 ≤ n) (h' : n ≤ 1000000000) : Ev (fun k => impl_VarText.f k n) (strOfNums (varN n.toNat), true) := by
  obtain ⟨m, rfl⟩ := Int.eq_ofNat_of_zero_le h
  exact ev_now (impl_within_in h h') (evT rfl (impl_VarText_ev 9 m [] (by omega) (by omega) (by simp)))
theorem impl_VarText_out {n : Int} (h : n < 0 ∨ 1000000000 < n) : Ev (fun k => impl_VarText.f k n) ((⟨#[]⟩ : ByteArray), false) :=
  ev_now (impl_within_out h) (evF (by simp) (Ev.now _))

/-! the program's ReadVar -/
theorem impl_ReadVar_ev (s : ByteArray) (hs : s.size ≤ 140737488351232) (A : Nat) (hA : A ≤ s.size) : ∀ (d j : Nat) (n : Int), 5 - j = d → j ≤ 5 → 0 ≤ n → n < 128 ^ j →
    (rv 5 ((bytesOf s).drop A) = (rv (5 - j) ((bytesOf s).drop (A + j))).map (fun p => ((n + 128 ^ j * (p.1 : Int)).toNat, j + p.2))) →
    Ev (fun k => impl_ReadVar.l0 k s (A : Int) n (j : Int)) (readVj ((bytesOf s).drop A) ((bytesOf s).drop (A + j)) A j n) := by
  intro d
  induction d with
  | zero =>
    intro j n hd hj h0 h1 hrv
    obtain rfl : j = 5 := by omega
    rw [readVj_end]
    refine Ev.step (fun k => by rw [impl_ReadVar.l0, if_neg (by omega)]) (ev_end (fun k => ?_))
    rw [impl_ReadVar.j1, if_neg (by simp)]
  | succ d ih =>
    intro j n hd hj h0 h1 hrv
    have hj5 : j < 5 := by omega
    have ea : (A : Int) + (j : Int) = ((A + j : Nat) : Int) := by omega
    by_cases hlt : A + j < s.size
    · have hr := bt_range s ((A + j : Nat) : Int)
      rw [bytesOf_drop hlt] at hrv ⊢
      have hp : (0 : Int) < 128 ^ j ∧ (128 : Int) ^ j ≤ 268435456 ∧ (128 : Int) ^ (j + 1) = 128 * 128 ^ j ∧ (2 : Int) ^ (7 * j) = 128 ^ j := by
        have : j = 0 ∨ j = 1 ∨ j = 2 ∨ j = 3 ∨ j = 4 := by omega
        rcases this with rfl | rfl | rfl | rfl | rfl <;> decide
      generalize hP : (128 : Int) ^ j = P at hp h1 hrv
      obtain ⟨hp0, hp1, hp2, hp3⟩ := hp
      refine Ev.step (fun k => by rw [impl_ReadVar.l0, if_pos (by omega), w64 (by omega) (by omega), ea]) ?_
      have e0 : wrap64 (bt s ((A + j : Nat) : Int)) = bt s ((A + j : Nat) : Int) := w64 (by omega) (by omega)
      have em : Int.tmod (bt s ((A + j : Nat) : Int)) 128 = bt s ((A + j : Nat) : Int) % 128 := Int.tmod_eq_emod_of_nonneg (by omega)
      have hc0 : 0 ≤ bt s ((A + j : Nat) : Int) % 128 ∧ bt s ((A + j : Nat) : Int) % 128 ≤ 127 := by omega
      have hm : bt s ((A + j : Nat) : Int) % 128 * P = P * (bt s ((A + j : Nat) : Int) % 128) := Int.mul_comm _ _
      have hb0 : 0 ≤ P * (bt s ((A + j : Nat) : Int) % 128) := Int.mul_nonneg (by omega) hc0.1
      have hb1 : P * (bt s ((A + j : Nat) : Int) % 128) ≤ P * 127 := Int.mul_le_mul_of_nonneg_left hc0.2 (by omega)
      have e7 : wrap64 (7 * (j : Int)) = 7 * (j : Int) := w64 (by omega) (by omega)
      have esh : shl .i64 (bt s ((A + j : Nat) : Int) % 128) (7 * (j : Int)) = P * (bt s ((A + j : Nat) : Int) % 128) := by
        unfold shl
        have : min (7 * (j : Int)).toNat IntKind.i64.bits = 7 * j := by
          simp only [IntKind.bits]
          omega
        rw [this, hp3, hm, IntKind.wrap_i64]
        omega
      by_cases hc : bt s ((A + j : Nat) : Int) > 127
      · refine Ev.step (fun k => by rw [impl_ReadVar.j1, if_pos (by simp only [decide_eq_true_eq]; omega), w64 (x := (A : Int) + (j : Int)) (by omega) (by omega), ea, if_pos (by omega), if_pos (by omega), e7, if_pos (by omega), e0, em, if_pos hc, esh, w64 (x := n + _) (by omega) (by omega), w64 (x := (j : Int) + 1) (by omega) (by omega)]) ?_
        rw [readVj_big _ _ _ _ _ _ hj5 (by omega) (by omega), hP]
        have := ih (j + 1) (n + P * (bt s ((A + j : Nat) : Int) % 128)) (by omega) (by omega) (by omega) (by omega) ?_
        · exact this
        · rw [hrv, show 5 - j = (5 - (j + 1)) + 1 by omega, rv, if_pos (by omega), Option.map_map]
          congr 1
          funext p
          simp only [Function.comp, Prod.mk.injEq]
          constructor
          · congr 1
            rw [hp2, Int.natCast_add, Int.toNat_of_nonneg (by omega), Int.natCast_mul, Int.mul_add, show ((128 : Nat) : Int) = 128 from rfl, Int.mul_comm 128 P, Int.mul_assoc, Int.add_assoc]
          · omega
      · have ec : bt s ((A + j : Nat) : Int) % 128 = bt s ((A + j : Nat) : Int) := by omega
        rw [readVj_small _ _ _ _ _ _ hj5 (by omega) (by omega), hP]
        have hrange : ∀ x ∈ (bytesOf s).drop A, 0 ≤ x ∧ x ≤ 255 := fun x hx => bytesOf_range (List.mem_of_mem_drop hx)
        rw [show 5 - j = (5 - (j + 1)) + 1 by omega, rv, if_neg (by omega)] at hrv
        simp only [Option.map_some, Int.toNat_of_nonneg hr.1] at hrv
        have hcan := rv_canon hrange hrv
        have hget : ((bytesOf s).drop A)[j + 1 - 1]? = some (bt s ((A + j : Nat) : Int)) := by
          rw [Nat.add_sub_cancel, List.getElem?_drop, List.getElem?_eq_getElem (by rw [bytesOf_length]; exact hlt), bytesOf_get hlt]
        rw [hget] at hcan
        rw [ec] at hb0 hb1 esh
        refine Ev.step (fun k => by rw [impl_ReadVar.j1, if_pos (by simp only [decide_eq_true_eq]; omega), w64 (x := (A : Int) + (j : Int)) (by omega) (by omega), ea, if_pos (by omega), if_pos (by omega), e7, if_pos (by omega), e0, em, ec, if_neg hc, esh, w64 (x := n + _) (by omega) (by omega), w64 (x := _ + 1) (by omega) (by omega)]) ?_
        have ee : ((A + j : Nat) : Int) + 1 = (A : Int) + ((j + 1 : Nat) : Int) := by omega
        by_cases hj0 : (j : Int) > 0
        · refine evT hj0 ?_
          by_cases hz : bt s ((A + j : Nat) : Int) = 0
          · refine evT hz ?_
            rw [if_neg]
            · exact Ev.now _
            · intro h
              exact hcan.1 h.2 ⟨by omega, by rw [hz]⟩
          · refine evF hz ?_
            by_cases hbig : n + P * bt s ((A + j : Nat) : Int) > 1000000000
            · refine evT hbig ?_
              rw [if_neg (by omega)]
              exact Ev.now _
            · refine evF hbig ?_
              rw [if_pos ⟨by omega, hcan.2 (fun h => hz (Option.some.inj h.2))⟩, ee]
              exact Ev.now _
        · refine evF hj0 ?_
          by_cases hbig : n + P * bt s ((A + j : Nat) : Int) > 1000000000
          · refine evT hbig ?_
            rw [if_neg (by omega)]
            exact Ev.now _
          · refine evF hbig ?_
            rw [if_pos ⟨by omega, hcan.2 (fun h => by omega)⟩, ee]
            exact Ev.now _
    · rw [bytesOf_all (i := A + j) (by omega), readVj_nil]
      refine Ev.step (fun k => by rw [impl_ReadVar.l0, if_pos (by omega), w64 (by omega) (by omega)]) (ev_end (fun k => ?_))
      rw [impl_ReadVar.j1, if_neg (by simp only [decide_eq_true_eq]; omega)]
theorem impl_ReadVar_f (s : ByteArray) (hs : s.size ≤ 140737488351232) (a : Int) : Ev (fun k => impl_ReadVar.f k s a) (readVar s a) := by
  unfold readVar
  by_cases h : 0 ≤ a ∧ a ≤ s.size
  · rw [if_pos h]
    obtain ⟨A, rfl⟩ := Int.eq_ofNat_of_zero_le h.1
    refine ev_now (impl_within_in h.1 h.2) (evT rfl ?_)
    have := impl_ReadVar_ev s hs A (by omega) 5 0 0 (by omega) (by omega) (by omega) (by simp) (by simp)
    rw [Int.toNat_natCast, ← readVj_zero]
    simpa using this
  · rw [if_neg h]
    exact ev_now (impl_within_out (by omega)) (evF (by simp) (Ev.now _))

theorem impl_ReadShort_f (s : ByteArray) (hs : s.size ≤ 140737488351232) (a : Int) : Ev (fun k => impl_ReadShort.f k s a) (readShort s a) := by
  refine Ev.bind (impl_ReadVar_f s hs a) ?_
  unfold readShort
  by_cases h : (readVar s a).2.2 = true
  · have hr := readVar_ok h
    refine evT h ?_
    refine ev_cast ?_ (if_pos h).symm
    by_cases h1 : (readVar s a).1 > 20000
    · exact ev_cast (evT h1 (Ev.now _)) (if_pos (Or.inl h1)).symm
    · refine evF h1 ?_
      rw [w64 (x := (s.size : Int) - _) (by omega) (by omega), w64 (x := _ + _) (by omega) (by omega)]
      by_cases h2 : (readVar s a).1 > (s.size : Int) - (readVar s a).2.1
      · exact ev_cast (evT h2 (Ev.now _)) (if_pos (Or.inr h2)).symm
      · exact ev_cast (evF h2 (evT (by omega) (evT (by omega) (evT (by omega) (Ev.now _))))) (if_neg (by omega)).symm
  · exact ev_cast (evF h (Ev.now _)) (if_neg h).symm

/-! a number's text read back -/
theorem rv_varN (f : Nat) : ∀ (n : Nat) (rest : List Int), (varN n).length ≤ f → rv f (varN n ++ rest) = some (n, (varN n).length) := by
  induction f with
  | zero =>
    intro n rest h
    by_cases hn : n > 127
    · rw [varN_big hn] at h; simp at h
    · rw [varN_small (by omega)] at h; simp at h
  | succ f ih =>
    intro n rest h
    by_cases hn : n > 127
    · rw [varN_big hn] at h ⊢
      simp only [List.length_cons, List.cons_append] at h ⊢
      rw [rv, if_pos (by omega), ih (n / 128) rest (by omega)]
      simp only [Option.map_some]
      congr 2
      omega
    · rw [varN_small (by omega)]
      simp only [List.cons_append, List.nil_append, List.length_singleton]
      rw [rv, if_neg (by omega)]
      simp
theorem readV_varN {n : Nat} (hn : n ≤ 1000000000) (rest : List Int) (a : Int) : readV (varN n ++ rest) a = ((n : Int), a + ((varN n).length : Int), true) := by
  have hl := (varN_length 4 n (by omega)).2
  unfold readV
  rw [rv_varN 5 n rest hl]
  simp only
  rw [if_pos ⟨by omega, by rw [List.take_left]⟩]
theorem readVar_at (s : ByteArray) (a : Nat) {n : Nat} (hn : n ≤ 1000000000) (rest : List Int) (ha : a ≤ s.size) (h : (bytesOf s).drop a = varN n ++ rest) : readVar s (a : Int) = ((n : Int), (a : Int) + ((varN n).length : Int), true) := by
  unfold readVar
  rw [if_pos ⟨by omega, by omega⟩, Int.toNat_natCast, h, readV_varN hn]

/-! a short text read back -/
theorem readShort_back (t : ByteArray) (ht : t.size ≤ 20000) : readShort (strOfNums (varN t.size) ++ t) 0 = (t, ((strOfNums (varN t.size) ++ t).size : Int), true) := by
  have hb : bytesOf (strOfNums (varN t.size) ++ t) = varN t.size ++ bytesOf t := by rw [bytesOf_append, bytesOf_str (varN_range t.size)]
  have hv := readVar_at (strOfNums (varN t.size) ++ t) 0 (n := t.size) (by omega) (bytesOf t) (by omega) (by rw [List.drop_zero, hb])
  have hs : (strOfNums (varN t.size) ++ t).size = (varN t.size).length + t.size := by rw [ByteArray.size_append, strOfNums_size]
  unfold readShort
  have hv0 : readVar (strOfNums (varN t.size) ++ t) 0 = ((t.size : Int), ((varN t.size).length : Int), true) := by
    have := hv
    simpa using this
  rw [hv0]
  simp only
  rw [if_pos trivial, if_neg (by omega)]
  have e1 : ((varN t.size).length : Int).toNat = (varN t.size).length := by omega
  have e2 : (((varN t.size).length : Int) + (t.size : Int)).toNat = (varN t.size).length + t.size := by omega
  rw [e1, e2]
  have e3 : (strOfNums (varN t.size) ++ t).extract (varN t.size).length ((varN t.size).length + t.size) = t := by
    apply bytesOf_inj
    rw [bytesOf_extract, hb, List.drop_left]
    apply List.take_of_length_le
    rw [bytesOf_length]
    omega
  rw [e3, hs]
  simp

/-! Hex, the program alone (out of SpecHex) -/
theorem impl_Hex_ev (s : ByteArray) (hs : s.size ≤ 20000) : ∀ (d i : Nat) (acc : List Int), s.size - i = d → i ≤ s.size → acc.length = 2 * i → Ev (fun k => impl_Hex.l0 k s acc (i : Int)) (strOfNums (acc ++ hexL ((bytesOf s).drop i)), true) := by
  intro d
  induction d with
  | zero =>
    intro i acc hd hi ha
    rw [bytesOf_all (by omega)]
    exact ev_end (fun k => by rw [impl_Hex.l0, if_neg (by omega)]; simp [hexL])
  | succ d ih =>
    intro i acc hd hi ha
    have hlt : i < s.size := by omega
    have hr := bt_range s (i : Int)
    rw [bytesOf_drop hlt]
    have e1 : Int.tdiv (bt s i) 16 % 256 = bt s i / 16 := by
      rw [Int.tdiv_eq_ediv_of_nonneg (by omega)]
      omega
    have e2 : Int.tmod (bt s i) 16 = bt s i % 16 := Int.tmod_eq_emod_of_nonneg (by omega)
    refine Ev.step (fun k => by rw [impl_Hex.l0, if_pos (by omega), if_pos (by omega), e1, e2, if_pos (by omega), if_pos (by omega), if_pos (by omega), if_pos (by omega), hex_fig (by omega) (by omega), hex_fig (by omega) (by omega)]) ?_
    refine ev_now rfl (evT (by simp; omega) ?_)
    rw [w64 (by omega) (by omega)]
    refine ev_cast (ih (i + 1) _ (by omega) (by omega) (by simp; omega)) ?_
    simp [hexL]

/-! Unhex, the program alone (out of Unhex) -/
theorem idx_at : ∀ c : Fin 256, Go.Lib.indexByte (⟨#[48, 49, 50, 51, 52, 53, 54, 55, 56, 57, 97, 98, 99, 100, 101, 102]⟩ : ByteArray).data.toList ((c : Nat) : Int).toNat.toUInt8 = val ((c : Nat) : Int) := by decide +kernel
theorem impl_Index_f {c : Int} (h0 : 0 ≤ c) (h1 : c ≤ 255) : strings_IndexByte.f (⟨#[48, 49, 50, 51, 52, 53, 54, 55, 56, 57, 97, 98, 99, 100, 101, 102]⟩ : ByteArray) c = some (val c) := by
  obtain ⟨n, rfl⟩ := Int.eq_ofNat_of_zero_le h0
  have := idx_at ⟨n, by omega⟩
  unfold strings_IndexByte.f stringslite_IndexByte.f
  simp only [Option.bind_some]
  exact congrArg some this
def unhexR (acc : List Int) : Option (List Int) → ByteArray × Bool
  | none => ((⟨#[]⟩ : ByteArray), false)
  | some l => (strOfNums (acc ++ l), true)
theorem unhexR_map (acc : List Int) (x : Int) (o : Option (List Int)) : unhexR acc (o.map (fun t => x :: t)) = unhexR (acc ++ [x]) o := by
  cases o with
  | none => rfl
  | some l => simp [unhexR]
theorem byte_pair (v w : Int) (hv : 0 ≤ v ∧ v < 16) (hw : 0 ≤ w ∧ w < 16) : (wrap64 ((wrap64 (16 * v)) + w)) % 256 = 16 * v + w := by
  rw [w64 (x := 16 * v) (by omega) (by omega), w64 (by omega) (by omega)]
  omega
theorem impl_Unhex_ev (s : ByteArray) (hs : s.size ≤ 40000) (he : s.size % 2 = 0) : ∀ (d i : Nat) (acc : List Int), s.size - 2 * i = 2 * d → 2 * i ≤ s.size → acc.length = i → Ev (fun k => impl_Unhex.l0 k s acc ((2 * i : Nat) : Int)) (unhexR acc (unhexL ((bytesOf s).drop (2 * i)))) := by
  intro d
  induction d with
  | zero =>
    intro i acc hd hi ha
    rw [bytesOf_all (i := 2 * i) (by omega)]
    exact ev_end (fun k => by rw [impl_Unhex.l0, if_neg (by omega)]; simp [unhexL, unhexR])
  | succ d ih =>
    intro i acc hd hi ha
    have hlt : 2 * i < s.size := by omega
    have hlt' : 2 * i + 1 < s.size := by omega
    have r0 := bt_range s ((2 * i : Nat) : Int)
    have r1 := bt_range s ((2 * i + 1 : Nat) : Int)
    have e1 : wrap64 (((2 * i : Nat) : Int) + 1) = ((2 * i + 1 : Nat) : Int) := by rw [w64 (by omega) (by omega)]; omega
    have e2 : wrap64 (((2 * i : Nat) : Int) + 2) = ((2 * (i + 1) : Nat) : Int) := by rw [w64 (by omega) (by omega)]; omega
    rw [bytesOf_drop hlt, bytesOf_drop hlt', unhexL]
    refine Ev.step (fun k => by rw [impl_Unhex.l0, if_pos (by omega), if_pos (by omega), e1, e2]) ?_
    refine ev_now (impl_Index_f r0.1 r0.2) (evT (by omega) (evT (by omega) (ev_now (impl_Index_f r1.1 r1.2) ?_)))
    have v0 := val_range (bt s ((2 * i : Nat) : Int))
    have v1 := val_range (bt s ((2 * i + 1 : Nat) : Int))
    by_cases c0 : val (bt s ((2 * i : Nat) : Int)) < 0
    · exact ev_cast (evT c0 (Ev.now _)) (by rw [if_pos (Or.inl c0)]; rfl)
    · refine evF c0 ?_
      by_cases c1 : val (bt s ((2 * i + 1 : Nat) : Int)) < 0
      · exact ev_cast (evT c1 (Ev.now _)) (by rw [if_pos (Or.inr c1)]; rfl)
      · refine evF c1 (evT (by omega) ?_)
        rw [byte_pair _ _ (by omega) (by omega)]
        refine ev_cast (ih (i + 1) _ (by omega) (by omega) (by simp; omega)) ?_
        rw [if_neg (by omega), unhexR_map]
        rfl
theorem impl_Unhex_in (s : ByteArray) (hs : s.size ≤ 40000) (he : s.size % 2 = 0) : Ev (fun k => impl_Unhex.f k s) (unhexR [] (unhexL (bytesOf s))) := by
  refine evT (by omega) ?_
  refine Ev.step (fun k => by rw [impl_Unhex.j0]) ?_
  exact evF (by simp; omega) (impl_Unhex_ev s hs he (s.size / 2) 0 [] (by omega) (by omega) rfl)

theorem hexL_in : ∀ {l : List Int}, (∀ x ∈ l, 0 ≤ x ∧ x ≤ 255) → ∀ x ∈ hexL l, 0 ≤ x ∧ x ≤ 255
  | [], _, x, hx => by cases hx
  | c :: l, h, x, hx => by
    have hc := h c (List.mem_cons_self ..)
    rw [hexL] at hx
    rcases List.mem_cons.1 hx with rfl | hx
    · exact fig_range (by omega) (by omega)
    · rcases List.mem_cons.1 hx with rfl | hx
      · exact fig_range (by omega) (by omega)
      · exact hexL_in (fun y hy => h y (List.mem_cons_of_mem _ hy)) x hx
theorem app3 (x s y : ByteArray) : bytesOf (x ++ s ++ y) = bytesOf x ++ (bytesOf s ++ bytesOf y) := by rw [bytesOf_append, bytesOf_append, List.append_assoc]
theorem numbers_j2 (n : Nat) (s : ByteArray) (m : Int) (hm : m = (s.size : Int) + 1) (hs : s.size ≤ 100) (t : ByteArray) (ht : t.size ≤ 300) : Ev (fun k => laws_FnNumbers.j2 k (n : Int) s true (n : Int) m true (n : Int) true t) true := by
  have hl := (varN_length 4 t.size (by omega)).2
  have hsz : (strOfNums (varN t.size)).size = (varN t.size).length := strOfNums_size _
  have hV := impl_VarText_in (n := (t.size : Int)) (by omega) (by omega)
  rw [Int.toNat_natCast] at hV
  have hS : Ev (fun k => impl_ShortText.f k t) (strOfNums (varN t.size) ++ t, true) := evF (by omega) (Ev.bind hV (evT (by simp only [hsz]; omega) (Ev.now _)))
  have hR := impl_ReadShort_f (strOfNums (varN t.size) ++ t) (by rw [ByteArray.size_append, hsz]; omega) 0
  rw [readShort_back t (by omega)] at hR
  have hH : Ev (fun k => impl_Hex.f k t) (strOfNums (hexL (bytesOf t)), true) := by
    refine evF (by omega) ?_
    have := impl_Hex_ev t (by omega) t.size 0 [] (by omega) (by omega) rfl
    simpa using this
  have hb : ∀ x ∈ bytesOf t, 0 ≤ x ∧ x ≤ 255 := fun x h => bytesOf_range h
  have hx : bytesOf (strOfNums (hexL (bytesOf t))) = hexL (bytesOf t) := bytesOf_str (hexL_in hb)
  have hxs : (strOfNums (hexL (bytesOf t))).size = 2 * t.size := by rw [strOfNums_size, hexL_length, bytesOf_length]
  have hU := impl_Unhex_in (strOfNums (hexL (bytesOf t))) (by omega) (by omega)
  rw [hx, unhex_hex hb] at hU
  have hu : unhexR [] (some (bytesOf t)) = (t, true) := by
    show (strOfNums ([] ++ bytesOf t), true) = (t, true)
    rw [List.nil_append, str_bytesOf]
  rw [hu] at hU
  have hm2 : m = wrap64 ((s.size : Int) + 1) := by rw [hm, w64 (by omega) (by omega)]
  refine Ev.step (fun k => by rw [laws_FnNumbers.j2]) ?_
  refine Ev.bind hS (Ev.bind hR (Ev.bind hH (Ev.bind hU ?_)))
  refine evT rfl (evT rfl (evT rfl (evT rfl (evT rfl (evT rfl (evT rfl (evT rfl (evT rfl (evT hm2 (evT rfl (evT rfl ?_)))))))))))
  refine ev_cast (Ev.now _) ?_
  simp
theorem numbers_j1 (code : List Int) (hc : code.length ≤ 140737488351232) (n : Nat) (hn : n ≤ 1000000000) : Ev (fun k => laws_FnNumbers.j1 k code (n : Int)) true := by
  have hl := (varN_length 4 n (by omega)).2
  have hsz : (strOfNums (varN n)).size = (varN n).length := strOfNums_size _
  have hd : (bytesOf ((⟨#[120]⟩ : ByteArray) ++ strOfNums (varN n) ++ (⟨#[121]⟩ : ByteArray))).drop 1 = varN n ++ [121] := by
    rw [app3, bytesOf_str (varN_range n)]
    rfl
  have hsz3 : ((⟨#[120]⟩ : ByteArray) ++ strOfNums (varN n) ++ (⟨#[121]⟩ : ByteArray)).size = 1 + (varN n).length + 1 := by
    rw [ByteArray.size_append, ByteArray.size_append, hsz]
    rfl
  have hrv : readVar ((⟨#[120]⟩ : ByteArray) ++ strOfNums (varN n) ++ (⟨#[121]⟩ : ByteArray)) 1 = ((n : Int), 1 + ((varN n).length : Int), true) := readVar_at _ 1 hn [121] (by omega) hd
  have hR := impl_ReadVar_f ((⟨#[120]⟩ : ByteArray) ++ strOfNums (varN n) ++ (⟨#[121]⟩ : ByteArray)) (by omega) 1
  rw [hrv] at hR
  have hV := impl_VarText_in (n := (n : Int)) (by omega) (by omega)
  rw [Int.toNat_natCast] at hV
  have hD : impl_Decimal.f (n : Int) = some (itoaB (n : Int)) := by unfold impl_Decimal.f; rw [if_pos ⟨by omega, by omega⟩]
  have hq := itoaB_size hn
  have hRD : impl_ReadDecimal.f (itoaB (n : Int)) = some ((n : Int), true) := by unfold impl_ReadDecimal.f; rw [if_pos (by omega), readDecI_itoa hn]
  obtain ⟨t, hT⟩ := DrawHex_f code hc
  refine Ev.step (fun k => by rw [laws_FnNumbers.j1]) ?_
  refine Ev.bind hV (evT (by simp only [hsz]; omega) (evT (by rw [ByteArray.size_append, hsz]; show 1 + (varN n).length + 1 ≤ 9223372036854775807; omega) ?_))
  refine Ev.bind hR (ev_now hD (ev_now hRD (Ev.bind hT ?_)))
  by_cases h : (t.size : Int) > 300
  · exact evT h (numbers_j2 n _ _ (by simp only [hsz]; omega) (by simp only [hsz]; omega) _ (by decide))
  · exact evF h (numbers_j2 n _ _ (by simp only [hsz]; omega) (by simp only [hsz]; omega) _ (by omega))
theorem FnNumbers (code : List Int) (hc : code.length ≤ 140737488351232) : ∃ k, laws_FnNumbers.f k code = some true := by
  refine Ev.rounds (ev_now rfl ?_)
  by_cases hb : (code.length : Int) > 1048576
  · exact evT (decide_eq_true hb) (Ev.now _)
  refine evF (by simpa using hb) ?_
  obtain ⟨n, hN⟩ := DrawVarText_f code hc
  refine Ev.bind hN ?_
  by_cases h0 : n < 0
  · refine evT h0 (Ev.step (fun k => by rw [laws_FnNumbers.j0]) (evT rfl ?_))
    exact numbers_j1 code hc 12345 (by omega)
  · refine evF h0 (Ev.step (fun k => by rw [laws_FnNumbers.j0]) ?_)
    by_cases h1 : n > 1000000000
    · refine evT (decide_eq_true h1) ?_
      exact numbers_j1 code hc 12345 (by omega)
    · refine evF (by simpa using h1) ?_
      obtain ⟨m, rfl⟩ := Int.eq_ofNat_of_zero_le (show 0 ≤ n by omega)
      exact numbers_j1 code hc m (by omega)

end Go.Proofs.YtdhpcchmhikgeaaDoor.Pure
