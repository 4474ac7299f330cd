/- Proved: at every drawn text, its seal opens, a seal with one byte turned does not open, and SumMore goes on; no condition. -/
import Derived.Test.YtdhpcchmhikgeaaSFnTurnedx2
import Derived.Test.YtdhpcchmhikgeaaBase
import Derived.Laws.BitsAllLaws
namespace Go.Proofs.Ytdhpcchmhikgeaa.Pure
open Go.RowKit Go.Proofs.Ytdhpcchmhikgeaa.SFnTurned Go.Proofs.Ytdhpcchmhikgeaa.Base Go.Proofs.YtdhpcchmhikgeaaW.PrintWords Go.Proofs.YtdhpcchmhikgeaaW.PrintLast Go.Proofs.YtdhpcchmhikgeaaW.PrintMore
set_option linter.unusedVariables false
set_option linter.unusedSimpArgs false

theorem rd_nat {xs : List Int} {i : Nat} (h : i < xs.length) : rd xs (i : Int) = xs[i] := by
  unfold rd
  rw [Int.toNat_natCast, List.getD_eq_getElem?_getD, List.getElem?_eq_getElem h]
  rfl
theorem rdOf_nat {xs : List Bool} {i : Nat} (h : i < xs.length) : rdOf false xs (i : Int) = xs[i] := by
  unfold rdOf
  rw [Int.toNat_natCast, List.getD_eq_getElem?_getD, List.getElem?_eq_getElem h]
  rfl

/-! draws: what they come to lies in its bounds -/
theorem New_ev (l : List Int) (hl : l.length ≤ 140737488351232) : ∀ (d i : Nat) (x : Int), 4000 - i = d → i ≤ l.length → ∃ h, Ev (fun k => spec_l01New.l0 k l x (i : Int)) (l, 0, h) := by
  intro d
  induction d with
  | zero =>
    intro i x hd hi
    by_cases hlt : i < l.length
    · exact ⟨x, ev_end (fun k => by rw [spec_l01New.l0, if_pos (by omega), if_neg (by omega)])⟩
    · exact ⟨x, ev_end (fun k => by rw [spec_l01New.l0, if_neg (by omega)])⟩
  | succ d ih =>
    intro i x hd hi
    by_cases hlt : i < l.length
    · obtain ⟨h, hh⟩ := ih (i + 1) (Go.bits .and .i64 (wrap64 ((wrap64 ((wrap64 (x * 131)) + (wrap64 (rd l i)))) + 7)) 1073741823) (by omega) (by omega)
      exact ⟨h, Ev.step (fun k => by rw [spec_l01New.l0, if_pos (by omega), if_pos (by omega), if_pos (by omega), w64 (x := (i : Int) + 1) (by omega) (by omega)]; rfl) hh⟩
    · exact ⟨x, ev_end (fun k => by rw [spec_l01New.l0, if_neg (by omega)])⟩
theorem New_f (l : List Int) (hl : l.length ≤ 140737488351232) : ∃ h, Ev (fun k => spec_l01New.f k l) (l, 0, h) := New_ev l hl 4000 0 _ rfl (by omega)
theorem cur_zero {l : List Int} (hl : l.length ≤ 140737488351232) : Cur l 0 := ⟨by omega, by omega, hl⟩
theorem Byte_f {l : List Int} {i : Int} (h : Int) (c : Cur l i) : ∃ r i' h', spec_l01Byte.f l i h = some (r, i', h') ∧ Cur l i' ∧ 0 ≤ r ∧ r ≤ 255 := by
  obtain ⟨c0, c1, c2⟩ := c
  unfold spec_l01Byte.f
  by_cases hi : i < (l.length : Int)
  · rw [if_pos hi, if_pos c0, w64 (x := i + 1) (by omega) (by omega)]
    exact ⟨_, _, _, rfl, ⟨by omega, by omega, c2⟩, (and255 _).1, (and255 _).2⟩
  · rw [if_neg hi]
    exact ⟨_, _, _, rfl, ⟨c0, c1, c2⟩, (and255 _).1, (and255 _).2⟩
theorem Below_f {l : List Int} {i : Int} (h n : Int) (hn : n ≤ 4294967296) (c : Cur l i) : ∃ r i' h', spec_l01Below.f l i h n = some (r, i', h') ∧ Cur l i' ∧ (0 < n → 0 ≤ r ∧ r < n) ∧ (n ≤ 0 → r = 0) := by
  unfold spec_l01Below.f
  by_cases h0 : n ≤ 0
  · rw [if_pos h0]
    exact ⟨_, _, _, rfl, c, fun h => by omega, fun _ => rfl⟩
  · rw [if_neg h0]
    by_cases h1 : n ≤ 256
    · rw [if_pos h1]
      obtain ⟨r, i', h', e, c', r0, r1⟩ := Byte_f h c
      rw [e]
      simp only [Option.bind_some]
      rw [if_neg (by omega)]
      exact ⟨_, _, _, rfl, c', fun _ => by rw [Int.tmod_eq_emod_of_nonneg r0]; exact ⟨Int.emod_nonneg _ (by omega), Int.emod_lt_of_pos _ (by omega)⟩, fun h => by omega⟩
    · rw [if_neg h1]
      obtain ⟨ra, ia, ha, ea, ca, a0, a1⟩ := Byte_f h c
      rw [ea]
      simp only [Option.bind_some]
      obtain ⟨rb, ib, hb, eb, cb, b0, b1⟩ := Byte_f ha ca
      rw [eb]
      simp only [Option.bind_some]
      obtain ⟨rc, ic, hc, ec, cc, c0, c1⟩ := Byte_f hb cb
      rw [ec]
      simp only [Option.bind_some]
      obtain ⟨rd, id, hd, ed, cd, d0, d1⟩ := Byte_f hc cc
      rw [ed]
      simp only [Option.bind_some]
      rw [if_neg (by omega)]
      refine ⟨_, _, _, rfl, cd, fun _ => ?_, fun h => by omega⟩
      have e1 : wrap64 (ra * 16777216) = ra * 16777216 := w64 (by omega) (by omega)
      have e2 : wrap64 (rb * 65536) = rb * 65536 := w64 (by omega) (by omega)
      have e3 : wrap64 (rc * 256) = rc * 256 := w64 (by omega) (by omega)
      have e4 : wrap64 (ra * 16777216 + rb * 65536) = ra * 16777216 + rb * 65536 := w64 (by omega) (by omega)
      have e5 : wrap64 (ra * 16777216 + rb * 65536 + rc * 256) = ra * 16777216 + rb * 65536 + rc * 256 := w64 (by omega) (by omega)
      have e6 : wrap64 (ra * 16777216 + rb * 65536 + rc * 256 + rd) = ra * 16777216 + rb * 65536 + rc * 256 + rd := w64 (by omega) (by omega)
      rw [e1, e2, e3, e4, e5, e6, Int.tmod_eq_emod_of_nonneg (by omega)]
      exact ⟨Int.emod_nonneg _ (by omega), Int.emod_lt_of_pos _ (by omega)⟩

theorem Places_ev (l : List Int) : ∀ (d n : Nat) (acc : List Int) (i h : Int), 12 - n = d → n ≤ 12 → acc.length = n → (∀ x ∈ acc, 0 ≤ x ∧ x < 10000) → Cur l i →
    ∃ r, Ev (fun k => spec_DrawPlaces.l0 k acc (n : Int) l i h) r ∧ r.length = 12 ∧ ∀ x ∈ r, 0 ≤ x ∧ x < 10000 := by
  intro d
  induction d with
  | zero =>
    intro n acc i h hd hn ha hx c
    exact ⟨acc, ev_end (fun k => by rw [spec_DrawPlaces.l0, if_neg (by omega)]), by omega, hx⟩
  | succ d ih =>
    intro n acc i h hd hn ha hx c
    obtain ⟨r, i', h', e, c', hr, _⟩ := Below_f h 10000 (by omega) c
    have hr := hr (by omega)
    obtain ⟨q, hq, q1, q2⟩ := ih (n + 1) (acc ++ [r]) i' h' (by omega) (by omega) (by simp; omega) (fun x hm => by
      rcases List.mem_append.1 hm with hm | hm
      · exact hx x hm
      · rw [List.mem_singleton.1 hm]; exact hr) c'
    refine ⟨q, ?_, q1, q2⟩
    refine Ev.step (fun k => by rw [spec_DrawPlaces.l0, if_pos (by omega), e, Option.bind_some, if_pos (by omega), w64 (x := (n : Int) + 1) (by omega) (by omega)]) ?_
    exact hq
theorem Places_f (l : List Int) (hl : l.length ≤ 140737488351232) : ∃ r, Ev (fun k => spec_DrawPlaces.f k l) r ∧ r.length = 12 ∧ ∀ x ∈ r, 0 ≤ x ∧ x < 10000 := by
  obtain ⟨h, hh⟩ := New_f l hl
  obtain ⟨r, i', h', e, c', _⟩ := Byte_f h (cur_zero hl)
  obtain ⟨q, hq, q1⟩ := Places_ev l 12 0 [] i' h' (by omega) (by omega) rfl (by simp) c'
  exact ⟨q, Ev.bind hh (ev_now e hq), q1⟩

/-! SumMore of the program comes to 'sumL' -/
theorem impl_SumMore_ev (s : ByteArray) (hs : s.size ≤ 140737488351232) : ∀ (d i : Nat) (x : Int), s.size - i = d → i ≤ s.size → Ev (fun k => impl_SumMore.l0 k x s (i : Int)) (sumL x ((bytesOf s).drop i)) := by
  intro d
  induction d with
  | zero =>
    intro i x hd hi
    have : (bytesOf s).drop i = [] := bytesOf_all (by omega)
    rw [this]
    exact ev_end (fun k => by rw [impl_SumMore.l0, if_neg (by omega)]; rfl)
  | succ d ih =>
    intro i x hd hi
    have hlt : i < s.size := by omega
    rw [bytesOf_drop hlt]
    refine Ev.step (fun k => by rw [impl_SumMore.l0, if_pos (by omega), if_pos (by omega)]) ?_
    have inner : ∀ (m : Nat) (j : Int) (y : Int), (8 : Int) - j = m → 0 ≤ j → Ev (fun k => impl_SumMore.l1 k y s (i : Int) j) (sumL (sit m y) ((bytesOf s).drop (i + 1))) := by
      intro m
      induction m with
      | zero =>
        intro j y hj h0
        refine Ev.step (fun k => by rw [impl_SumMore.l1, if_neg (by omega), w64 (by omega) (by omega)]) ?_
        exact ih (i + 1) y (by omega) (by omega)
      | succ m ihm =>
        intro j y hj h0
        by_cases ho : Int.tmod y 2 = 1
        · refine Ev.step (fun k => by rw [impl_SumMore.l1, if_pos (by omega), if_pos ho, w64 (by omega) (by omega)]) ?_
          refine ev_cast (ihm (j + 1) _ (by omega) (by omega)) ?_
          rw [sit, sone, if_pos ho]
        · refine Ev.step (fun k => by rw [impl_SumMore.l1, if_pos (by omega), if_neg ho, w64 (by omega) (by omega)]) ?_
          refine ev_cast (ihm (j + 1) _ (by omega) (by omega)) ?_
          rw [sit, sone, if_neg ho]
    exact inner 8 0 _ (by omega) (by omega)
theorem impl_SumMore_f (x : Int) (s : ByteArray) (hs : s.size ≤ 140737488351232) : Ev (fun k => impl_SumMore.f k x s) (sumL x (bytesOf s)) :=
  impl_SumMore_ev s hs s.size 0 x (by omega) (by omega)

/-! Sealed: both put the four bytes of the sum behind the text -/
theorem impl_highFirst_f (x : Int) (h0 : 0 ≤ x) (h1 : x ≤ 4294967295) : Ev (fun k => impl_highFirst.f k x 4) (strOfNums (four x)) := by
  have e : ∀ y : Int, 0 ≤ y → y ≤ 4294967295 → Go.bits .and .i64 y 255 % 256 = y % 256 := fun y h0 h1 => by rw [and_255 h0 (by omega)]; omega
  refine evT (by omega) (evT (by decide) ?_)
  have e4 : List.replicate ((4 : Int)).toNat (0 : Int) = [0, 0, 0, 0] := rfl
  have w3 : wrap64 (4 - 1) = 3 := by unfold wrap64; omega
  have w2 : wrap64 (3 - 1) = 2 := by unfold wrap64; omega
  have w1 : wrap64 (2 - 1) = 1 := by unfold wrap64; omega
  have w0 : wrap64 (1 - 1) = 0 := by unfold wrap64; omega
  have wm : wrap64 (0 - 1) = -1 := by unfold wrap64; omega
  rw [e4, w3]
  refine Ev.step (fun k => by rw [impl_highFirst.l0, if_pos (by omega), if_pos (by omega), if_pos (by simp), w2, e x h0 h1]) ?_
  refine Ev.step (fun k => by rw [impl_highFirst.l0, if_pos (by omega), if_pos (by omega), if_pos (by simp), w1, e _ (by omega) (by omega)]) ?_
  refine Ev.step (fun k => by rw [impl_highFirst.l0, if_pos (by omega), if_pos (by omega), if_pos (by simp), w0, e _ (by omega) (by omega)]) ?_
  refine Ev.step (fun k => by rw [impl_highFirst.l0, if_pos (by omega), if_pos (by omega), if_pos (by simp), wm, e _ (by omega) (by omega)]) ?_
  refine ev_end (fun k => ?_)
  rw [impl_highFirst.l0, if_neg (by omega)]
  congr 2
  simp only [four]
  have a1 : x / 256 / 256 = x / 65536 := by omega
  have a2 : x / 256 / 256 / 256 = x / 16777216 := by omega
  rw [a2, a1]
  rfl
theorem impl_SumOf_f (s : ByteArray) (hs : s.size ≤ 140737488351232) : Ev (fun k => impl_SumOf.f k s) (sumL 4294967295 (bytesOf s)) :=
  Ev.bind (impl_SumMore_f _ s hs) (Ev.now _)
theorem sealed_size (s : ByteArray) (h : s.size ≤ 20000) (x : Int) : s.size + (strOfNums (four x)).size ≤ 9223372036854775807 := by
  rw [strOfNums_size]
  simp only [four, List.length_cons, List.length_nil]
  omega
theorem impl_Sealed_in (s : ByteArray) (h : s.size ≤ 20000) : Ev (fun k => impl_Sealed.f k s) (s ++ strOfNums (four (sumL 4294967295 (bytesOf s))), true) := by
  have hr := sumL_range (l := bytesOf s) (x := 4294967295) (by omega) (by omega)
  refine evF (by omega) (Ev.bind (impl_SumOf_f s (by omega)) ?_)
  rw [w64 (by omega) (by omega)]
  exact Ev.bind (impl_highFirst_f _ hr.1 hr.2) (evT (sealed_size s h _) (Ev.now _))
theorem impl_Sealed_out (s : ByteArray) (h : ¬ s.size ≤ 20000) : Ev (fun k => impl_Sealed.f k s) ((⟨#[]⟩ : ByteArray), false) := evT (by omega) (Ev.now _)

theorem unseal_iff (s : ByteArray) (n : Nat) (hn : n + 4 = s.size) (x : Int) : ((s.extract 0 n ++ strOfNums (four x)).toList = s.toList) ↔ ((s.extract n s.size).toList = (strOfNums (four x)).toList) := by
  rw [toList_iff, toList_iff, bytesOf_append, bytesOf_str (four_range x), bytesOf_extract, bytesOf_extract, Nat.sub_zero, List.drop_zero]
  have hl : ((bytesOf s).drop n).length = s.size - n := by rw [List.length_drop, bytesOf_length]
  rw [show s.size - n = ((bytesOf s).drop n).length from hl.symm, List.take_length]
  constructor
  · intro h
    have : (bytesOf s).take n ++ four x = (bytesOf s).take n ++ (bytesOf s).drop n := by rw [List.take_append_drop]; exact h
    exact (List.append_cancel_left this).symm
  · intro h
    rw [← h, List.take_append_drop]
/-- what Unsealed tells -/
def unsealed (s : ByteArray) : ByteArray × Bool :=
  if 4 ≤ s.size ∧ s.size ≤ 20004 ∧ (s.extract (s.size - 4) s.size).toList = (strOfNums (four (sumL 4294967295 (bytesOf (s.extract 0 (s.size - 4)))))).toList then (s.extract 0 (s.size - 4), true) else ((⟨#[]⟩ : ByteArray), false)
theorem extract_size (s : ByteArray) (n : Nat) (h : n ≤ s.size) : (s.extract 0 n).size = n := by
  have := bytesOf_length (s.extract 0 n)
  rw [bytesOf_extract, Nat.sub_zero, List.drop_zero, List.length_take, bytesOf_length] at this
  omega
theorem impl_Unsealed_f (s : ByteArray) (hs : s.size ≤ 140737488351232) : Ev (fun k => impl_Unsealed.f k s) (unsealed s) := by
  unfold unsealed
  by_cases h4 : 4 ≤ s.size
  · have e : wrap64 ((s.size : Int) - 4) = ((s.size - 4 : Nat) : Int) := by rw [w64 (by omega) (by omega)]; omega
    unfold impl_Unsealed.f
    rw [e, Int.toNat_natCast]
    refine evF (by omega) (evT (by omega) (evT (by omega) ?_))
    have hz := extract_size s (s.size - 4) (by omega)
    by_cases hb : s.size ≤ 20004
    · refine Ev.bind (impl_Sealed_in (s.extract 0 (s.size - 4)) (by omega)) (evT rfl ?_)
      have hi := unseal_iff s (s.size - 4) (by omega) (sumL 4294967295 (bytesOf (s.extract 0 (s.size - 4))))
      by_cases hc : (s.extract (s.size - 4) s.size).toList = (strOfNums (four (sumL 4294967295 (bytesOf (s.extract 0 (s.size - 4)))))).toList
      · exact ev_cast (evT (hi.2 hc) (Ev.now _)) (if_pos ⟨h4, hb, hc⟩).symm
      · exact ev_cast (evF (fun h => hc (hi.1 h)) (Ev.now _)) (if_neg (fun h => hc h.2.2)).symm
    · exact ev_cast (Ev.bind (impl_Sealed_out (s.extract 0 (s.size - 4)) (by omega)) (evF (by simp) (Ev.now _))) (if_neg (fun h => hb h.2.1)).symm
  · have e : wrap64 ((s.size : Int) - 4) = (s.size : Int) - 4 := w64 (by omega) (by omega)
    unfold impl_Unsealed.f
    rw [e]
    exact ev_cast (evT (by omega) (Ev.now _)) (if_neg (fun h => h4 h.1)).symm

-- IMPORT: Derived.Laws.BitsAllLaws
/-! the sum of two texts that differ in one byte -/
theorem xor_cancel {a b c : Nat} (h : a ^^^ c = b ^^^ c) : a = b := by
  have := congrArg (fun x => x ^^^ c) h
  simpa [Nat.xor_assoc] using this
def soneN (n : Nat) : Nat := if n % 2 = 1 then (n / 2) ^^^ 3558460437 else n / 2
theorem soneN_lt {n : Nat} (h : n < 4294967296) : soneN n < 4294967296 := by
  unfold soneN
  split
  · exact Nat.xor_lt_two_pow (n := 32) (by omega) (by omega)
  · omega
theorem soneN_top {m b : Nat} (hm : m < 2147483648) (hb : b < 2147483648) : m ^^^ 3558460437 ≠ b := by
  intro h
  have h1 := congrArg (fun x => Nat.testBit x 31) h
  simp only [Nat.testBit_xor] at h1
  rw [Nat.testBit_lt_two_pow (x := m) (i := 31) (by omega), Nat.testBit_lt_two_pow (x := b) (i := 31) (by omega)] at h1
  revert h1
  decide
theorem soneN_inj {a b : Nat} (ha : a < 4294967296) (hb : b < 4294967296) (h : soneN a = soneN b) : a = b := by
  unfold soneN at h
  by_cases h1 : a % 2 = 1
  · by_cases h2 : b % 2 = 1
    · rw [if_pos h1, if_pos h2] at h
      have := xor_cancel h
      omega
    · rw [if_pos h1, if_neg h2] at h
      exact absurd h (soneN_top (by omega) (by omega))
  · by_cases h2 : b % 2 = 1
    · rw [if_neg h1, if_pos h2] at h
      exact absurd h.symm (soneN_top (by omega) (by omega))
    · rw [if_neg h1, if_neg h2] at h
      omega
theorem sone_nat {n : Nat} (h : n < 4294967296) : sone (n : Int) = (soneN n : Int) := by
  unfold sone soneN
  have e1 : Int.tmod (n : Int) 2 = ((n % 2 : Nat) : Int) := by rw [Int.tmod_eq_emod_of_nonneg (by omega)]; omega
  have e2 : Int.tdiv (n : Int) 2 % 4294967296 = ((n / 2 : Nat) : Int) := by rw [Int.tdiv_eq_ediv_of_nonneg (by omega)]; omega
  rw [e1, e2]
  by_cases h1 : n % 2 = 1
  · rw [if_pos (by omega), if_pos h1]
    exact u32_xor_nat (n / 2) 3558460437 (by omega) (by omega)
  · rw [if_neg (by omega), if_neg h1]
theorem sit_inj (m : Nat) : ∀ {a b : Nat}, a < 4294967296 → b < 4294967296 → sit m (a : Int) = sit m (b : Int) → a = b := by
  induction m with
  | zero => intro a b _ _ h; exact Int.ofNat.inj h
  | succ m ih =>
    intro a b ha hb h
    rw [sit, sit, sone_nat ha, sone_nat hb] at h
    exact soneN_inj ha hb (ih (soneN_lt ha) (soneN_lt hb) h)
theorem sstep_nat {x c : Nat} (hx : x < 4294967296) (hc : c < 4294967296) : sstep (x : Int) (c : Int) = sit 8 ((x ^^^ c : Nat) : Int) := by
  unfold sstep
  rw [show ((c : Int) % 4294967296) = (c : Int) by omega, u32_xor_nat x c hx hc]
theorem sstep_inj {x y c : Int} (hx : 0 ≤ x ∧ x ≤ 4294967295) (hy : 0 ≤ y ∧ y ≤ 4294967295) (hc : 0 ≤ c ∧ c ≤ 255) (h : sstep x c = sstep y c) : x = y := by
  obtain ⟨a, rfl⟩ := Int.eq_ofNat_of_zero_le hx.1
  obtain ⟨b, rfl⟩ := Int.eq_ofNat_of_zero_le hy.1
  obtain ⟨d, rfl⟩ := Int.eq_ofNat_of_zero_le hc.1
  rw [sstep_nat (by omega) (by omega), sstep_nat (by omega) (by omega)] at h
  have := sit_inj 8 (Nat.xor_lt_two_pow (n := 32) (by omega) (by omega)) (Nat.xor_lt_two_pow (n := 32) (by omega) (by omega)) h
  rw [xor_cancel this]
theorem sstep_inj2 {x c d : Int} (hx : 0 ≤ x ∧ x ≤ 4294967295) (hc : 0 ≤ c ∧ c ≤ 255) (hd : 0 ≤ d ∧ d ≤ 255) (h : sstep x c = sstep x d) : c = d := by
  obtain ⟨a, rfl⟩ := Int.eq_ofNat_of_zero_le hx.1
  obtain ⟨b, rfl⟩ := Int.eq_ofNat_of_zero_le hc.1
  obtain ⟨e, rfl⟩ := Int.eq_ofNat_of_zero_le hd.1
  rw [sstep_nat (by omega) (by omega), sstep_nat (by omega) (by omega)] at h
  have := sit_inj 8 (Nat.xor_lt_two_pow (n := 32) (by omega) (by omega)) (Nat.xor_lt_two_pow (n := 32) (by omega) (by omega)) h
  rw [Nat.xor_comm a b, Nat.xor_comm a e] at this
  rw [xor_cancel this]
theorem sumL_inj : ∀ (l : List Int) {x y : Int}, (∀ c ∈ l, 0 ≤ c ∧ c ≤ 255) → (0 ≤ x ∧ x ≤ 4294967295) → (0 ≤ y ∧ y ≤ 4294967295) → sumL x l = sumL y l → x = y := by
  intro l
  induction l with
  | nil => intro x y _ _ _ h; exact h
  | cons c l ih =>
    intro x y hl hx hy h
    exact sstep_inj hx hy (hl c (by simp)) (ih (fun d hd => hl d (by simp [hd])) (sstep_range x c) (sstep_range y c) h)
theorem sumL_set : ∀ (l : List Int) {x v : Int} {i : Nat} (hi : i < l.length), (∀ c ∈ l, 0 ≤ c ∧ c ≤ 255) → (0 ≤ x ∧ x ≤ 4294967295) → (0 ≤ v ∧ v ≤ 255) → v ≠ l[i] → sumL x (l.set i v) ≠ sumL x l := by
  intro l
  induction l with
  | nil => intro x v i hi; simp at hi
  | cons c l ih =>
    intro x v i hi hl hx hv hne h
    cases i with
    | zero =>
      rw [List.set_cons_zero] at h
      have h2 := sumL_inj l (fun d hd => hl d (by simp [hd])) (sstep_range x v) (sstep_range x c) h
      exact hne (sstep_inj2 hx hv (hl c (by simp)) h2)
    | succ i =>
      rw [List.set_cons_succ] at h
      exact ih (by simpa using hi) (fun d hd => hl d (by simp [hd])) (sstep_range x c) hv (by simpa using hne) h
theorem four_inj {x y : Int} (hx : 0 ≤ x ∧ x ≤ 4294967295) (hy : 0 ≤ y ∧ y ≤ 4294967295) (h : four x = four y) : x = y := by
  unfold four at h
  simp only [List.cons.injEq, and_true] at h
  omega
theorem sumL_append (x : Int) (a b : List Int) : sumL x (a ++ b) = sumL (sumL x a) b := List.foldl_append
/-- one byte, turned -/
theorem turned_byte {b p : Int} (hb : 0 ≤ b ∧ b ≤ 255) (hp : 0 ≤ p ∧ p ≤ 10000) : (0 ≤ Go.bits .xor .u8 b (IntKind.u8.wrap (wrap64 (1 + Int.tmod p 255))) ∧ Go.bits .xor .u8 b (IntKind.u8.wrap (wrap64 (1 + Int.tmod p 255))) ≤ 255) ∧ Go.bits .xor .u8 b (IntKind.u8.wrap (wrap64 (1 + Int.tmod p 255))) ≠ b := by
  obtain ⟨n, rfl⟩ := Int.eq_ofNat_of_zero_le hb.1
  obtain ⟨q, rfl⟩ := Int.eq_ofNat_of_zero_le hp.1
  have e : IntKind.u8.wrap (wrap64 (1 + Int.tmod (q : Int) 255)) = ((1 + q % 255 : Nat) : Int) := by
    rw [Int.tmod_eq_emod_of_nonneg (by omega), w64 (by omega) (by omega), IntKind.wrap_u8]
    omega
  rw [e, u8_xor_nat n (1 + q % 255) (by omega) (by omega)]
  have hlt : n ^^^ (1 + q % 255) < 2 ^ 8 := Nat.xor_lt_two_pow (by omega) (by omega)
  refine ⟨by omega, fun h => ?_⟩
  have h1 : n ^^^ (1 + q % 255) = n := by omega
  have h2 := congrArg (fun x => n ^^^ x) h1
  simp only [Nat.xor_self] at h2
  rw [← Nat.xor_assoc, Nat.xor_self, Nat.zero_xor] at h2
  omega

/-! '[]byte(t)', one byte written, and back -/
theorem conv_new (t : ByteArray) (W : World) : ∃ W1 g c, (convert 9 22 (.string t)).run Try.prog W = .ok (.slice (some ⟨g, 0, none⟩) t.size c) W1 ∧ Below W.heap.size W W1 ∧ W.heap.size ≤ g ∧ g < W1.heap.size ∧ (∀ j : Nat, j < t.size → W1.cell? ⟨g, j, none⟩ = some (.int .u8 (rd (bytesOf t) j)) ∧ W1.frozen? ⟨g, j, none⟩ = false) := by
  refine ⟨_, _, _, print_bytes (P := Try.prog) 9 22 5 Try.underlying9 Try.underlying22 Try.underlying5 t W, bytes_below (Below.refl _ _) (Nat.le_refl _) 5 t, Nat.le_refl _, by rw [Lib.bytesWorld_size]; omega, fun j hj => ⟨?_, ?_⟩⟩
  · rw [Lib.bytesWorld_cell W 5 t j hj]
    have h' : j < t.data.toList.length := by rw [data_length]; exact hj
    rw [rd_nat (by rw [bytesOf_length]; exact hj)]
    simp [bytesOf, List.getD_eq_getElem?_getD, List.getElem?_eq_getElem h']
  · have hs : j < (Lib.bytesCells W 5 t).size := by
      unfold Lib.bytesCells
      rw [Array.size_append, Array.size_map]
      have : t.data.size = t.size := rfl
      omega
    unfold World.frozen?
    rw [Lib.bytesWorld_at_new]
    simp
    omega
theorem conv_back (W : World) (g c n : Nat) (xs : List Int) (hn : xs.length = n) (h : ∀ j : Nat, j < n → W.cell? ⟨g, j, none⟩ = some (.int .u8 (rd xs j))) : (convert 22 9 (.slice (some ⟨g, 0, none⟩) n c)).run Try.prog W = .ok (.string (strOfNums xs)) W := by
  refine run_convert_bytes_arg W 22 5 Try.underlying22 Try.underlying5 g 0 n c xs hn (fun i hi => ?_) 9 Try.underlying9
  have ha : (⟨g, 0, none⟩ : Addr).add i = ⟨g, 0 + i, none⟩ := by unfold Addr.add; split <;> simp_all
  have hx := h i (by omega)
  rw [rd_nat (by omega)] at hx
  first
    | (rw [Nat.zero_add]; rw [hx]; simp [List.getD_eq_getElem?_getD, List.getElem?_eq_getElem (show i < xs.length by omega)]; done)
    | (rw [ha, Nat.zero_add, hx]; simp [List.getD_eq_getElem?_getD, List.getElem?_eq_getElem (show i < xs.length by omega)])
theorem set_cells {W : World} {g n i : Nat} {xs : List Int} {v : Int} (hn : xs.length = n) (hi : i < n) (h : ∀ j : Nat, j < n → W.cell? ⟨g, j, none⟩ = some (.int .u8 (rd xs j))) : ∀ j : Nat, j < n → (W.setCell ⟨g, i, none⟩ (.int .u8 v)).cell? ⟨g, j, none⟩ = some (.int .u8 (rd (xs.set i v) j)) := by
  intro j hj
  rw [rd_nat (by rw [List.length_set]; omega)]
  by_cases e : j = i
  · subst e
    rw [World.cell?_setCell_same _ _ _ (h j hj)]
    simp
  · rw [World.cell?_setCell_other _ _ _ _ (by simp [e]), h j hj, rd_nat (by omega), List.getElem_set_ne (by omega)]
set_option maxHeartbeats 8000000 in
set_option maxRecDepth 100000 in
theorem law_turned (A0 : Option Addr) (c0 : Nat) (l0 : List Int) (k : Nat) (s t t2 u : ByteArray) (ps : List Int) (p0 p1 a b : Int) (i : Nat) (v : Int) (w : World) (hr0 : Kd.C (Kd.int .u8) w A0 l0.length l0) (hc0 : l0.length ≤ c0)
    (hbig : (l0.length : Int) ≤ 1048576) (hs : spec_DrawSumOf.f k l0 = some s) (hp : spec_DrawPlaces.f k l0 = some ps) (hlen : ps.length = 12) (h0 : rd ps 0 = p0) (h1 : rd ps 1 = p1) (b0 : 0 ≤ p0 ∧ p0 ≤ 10000) (b1 : 0 ≤ p1 ∧ p1 ≤ 10000)
    (ht : impl_Sealed.f k s = some (t, true)) (hu : impl_Unsealed.f k t = some (s, true)) (hz : t.size = s.size + 4) (hss : s.size ≤ 1000)
    (hv : Go.bits .xor .u8 (rd (bytesOf t) i) (IntKind.u8.wrap (wrap64 (1 + Int.tmod p1 255))) = v) (hi : Int.tmod p0 (t.size : Int) = (i : Int)) (hil : i < t.size) (ht2 : strOfNums ((bytesOf t).set i v) = t2) (hu2 : impl_Unsealed.f k t2 = some (u, false))
    (ha : impl_SumOf.f k s = some a) (hb : impl_SumMore.f k a ⟨#[120]⟩ = some b) (hc : impl_SumOf.f k (s ++ ⟨#[120]⟩) = some b) :
    Calls Try.prog 7 #[.slice A0 l0.length c0] w fun e w' => e = .returned (.bool true) ∧ Below w.heap.size w w' := by
  have HR0 := Aside0.mk hr0
  have HC0 := Aside0.mk hc0
  have HBIG : Aside0 (laws_big.f l0 = some false) := ⟨by unfold laws_big.f; rw [decide_eq_false (by omega)]⟩
  have HS := Aside0.mk hs
  have HP := Aside0.mk hp
  have HLEN := Aside0.mk hlen
  have P0 := Aside0.mk h0
  have P1 := Aside0.mk h1
  have HT := Aside0.mk ht
  have HU := Aside0.mk hu
  have HZ := Aside0.mk hz
  have HSS := Aside0.mk hss
  have HI := Aside0.mk hi
  have HV := Aside0.mk hv
  have HIL := Aside0.mk hil
  have HT2 := Aside0.mk ht2
  have HU2 := Aside0.mk hu2
  have HA := Aside0.mk ha
  have HB := Aside0.mk hb
  have HC := Aside0.mk hc
  have zz : ((t.size : Int) == (wrap64 ((s.size : Int) + 4))) = true := by rw [w64 (by omega) (by omega)]; simpa using (by omega : (t.size : Int) = (s.size : Int) + 4)
  have zn : ((t.size : Int) != (wrap64 ((s.size : Int) + 4))) = false := by simp only [bne, zz, Bool.not_true]
  clear hr0 hc0 hbig hs hp hlen h0 h1 ht hu hz hss hv hi hil ht2 hu2 ha hb hc
  have hbigs : (9223372036854775807 < s.size + 1) = False := eq_false (by have := HSS.out; omega)
  go_enter Try.func7, Try.ntmps7
  go_wp2_with (first
    | (go_at_call 9; ((with_reducible refine (laws_big.calls A0 c0 l0 false _ HR0.out HC0.out HBIG.out).mono ?_); rintro e w2 ⟨rfl, hd⟩); have HB2 := Aside0.mk hd.below; clear hd)
    | (go_at_call 25; ((with_reducible refine (spec_DrawSumOf.calls k A0 c0 l0 s _ (Kd.C_below HR0.out HB2.out) HC0.out HS.out).mono ?_); rintro e w3 ⟨rfl, hd⟩); have HB3 := Aside0.mk (below_step HB2.out hd); clear hd)
    | (go_at_call 10; ((with_reducible refine (spec_DrawPlaces.calls k A0 c0 l0 ps _ (Kd.C_below HR0.out HB3.out) HC0.out HP.out).mono ?_); rintro e w4 ⟨vp, rfl, ho, hd⟩); obtain ⟨Ap, cp, rfl, hcp, hCp⟩ := Kd.R_reads ho; have HPC := Aside0.mk hCp; have HB4 := Aside0.mk (below_step HB3.out hd); clear hd ho hcp hCp)
    | (go_at_call 26; ((with_reducible refine (impl_Sealed.calls k s t true _ HT.out).mono ?_); rintro e w5 ⟨rfl, hd⟩); have HB5 := Aside0.mk (below_step HB4.out hd); have HPD := Aside0.mk (Kd.C_below HPC.out hd); clear hd)
    | (go_at_call 22; ((with_reducible refine (impl_Unsealed.calls k t s true _ HU.out).mono ?_); rintro e w6 ⟨rfl, hd⟩); have HB6 := Aside0.mk (below_step HB5.out hd); have HPE := Aside0.mk (Kd.C_below HPD.out hd); clear hd))
  obtain ⟨w7, g, c, hcv, hb7, hg7, hg8, hcell⟩ := conv_new t w6
  have HB7 := Aside0.mk (below_step HB6.out hb7)
  have HPF := Aside0.mk (Kd.C_below HPE.out hb7)
  have HG := Aside0.mk hg7
  have HCL := Aside0.mk hcell
  clear hb7 hg7 hg8 hcell
  obtain ⟨ad0, e0, x0⟩ := Kd.at_int HPF.out 0 (by omega) (by have := HLEN.out; omega)
  obtain ⟨ad1, e1, x1⟩ := Kd.at_int HPF.out 1 (by omega) (by have := HLEN.out; omega)
  rw [P0.out] at x0
  rw [P1.out] at x1
  cases e0
  cases e1
  have y0 : w7.cell? ad0 = some (.int .i64 p0) := by first | exact x0 | simpa using x0
  have y1 : w7.cell? ⟨ad0.block, ad0.off + 1, none⟩ = some (.int .i64 p1) := x1
  clear x0 x1
  have hq1 : (0 : Int) < (ps.length : Int) := by have := HLEN.out; omega
  have hq2 : 0 < ps.length := by have := HLEN.out; omega
  have hq3 : (1 : Int) < (ps.length : Int) := by have := HLEN.out; omega
  have hq4 : 1 < ps.length := by have := HLEN.out; omega
  have hi := HI.out
  have hil := HIL.out
  have hil2 : ((i : Int) < (t.size : Int)) = True := eq_true (by omega)
  have hil3 : (0 ≤ (i : Int)) = True := eq_true (by omega)
  have htz : ((t.size : Int) = 0) = False := eq_false (by omega)
  have hti := (HCL.out i hil).1
  have hfi := (HCL.out i hil).2
  rw [hcv]
  go_wp2
  -- REGION
  refine start_ (n := 15) (S := fun w' => w'.cell? ⟨g, i, none⟩ = some (.int .u8 (rd (bytesOf t) i)) ∧ w'.cell? ⟨ad0.block, ad0.off + 1, none⟩ = some (.int .i64 p1) ∧ w'.frozen? ⟨g, i, none⟩ = false) (ds := [14]) #[false, false, false, false, false, false, false, false, false, false, false, false, false, false, false] (by kernel_rfl) rfl rfl ⟨hti, y1, hfi⟩ (fun hHeld => ?_)
  refine pure_ (i := 0) (N := some 56) (v := ?_) (a' := ?_) #[true, false, false, false, false, false, false, false, false, false, false, false, false, false, false] rfl rfl (by kernel_rfl) (fun _ _ _ h => h) (Or.inl ⟨by rfl, ?_⟩) ?_ ?_
  rotate_left
  · intro w'
    go_simp
    with_reducible rfl
  rotate_left
  · simp only [Act.put, List.setIfInBounds_toArray, List.set_cons_zero, List.set_cons_succ, i64_w, i32_w]
    rfl
  refine pure_ (i := 1) (N := some 57) (v := ?_) (a' := ?_) #[true, true, false, false, false, false, false, false, false, false, false, false, false, false, false] rfl rfl (by kernel_rfl) (fun _ _ _ h => h) (Or.inl ⟨by rfl, ?_⟩) ?_ ?_
  rotate_left
  · intro w'
    go_simp
    with_reducible rfl
  rotate_left
  · simp only [Act.put, List.setIfInBounds_toArray, List.set_cons_zero, List.set_cons_succ, i64_w, i32_w]
    rfl
  refine pure_ (i := 2) (N := some 58) (v := ?_) (a' := ?_) #[true, true, true, false, false, false, false, false, false, false, false, false, false, false, false] rfl rfl (by kernel_rfl) (fun _ _ _ h => h) (Or.inl ⟨by rfl, ?_⟩) ?_ ?_
  rotate_left
  · intro w'
    go_simp
    with_reducible rfl
  rotate_left
  · simp only [Act.put, List.setIfInBounds_toArray, List.set_cons_zero, List.set_cons_succ, i64_w, i32_w]
    rfl
  refine pure_ (i := 3) (N := some 59) (v := ?_) (a' := ?_) #[true, true, true, true, false, false, false, false, false, false, false, false, false, false, false] rfl rfl (by kernel_rfl) (fun _ _ _ h => h) (Or.inl ⟨by rfl, ?_⟩) ?_ ?_
  rotate_left
  · intro w'
    go_simp
    with_reducible rfl
  rotate_left
  · simp only [Act.put, List.setIfInBounds_toArray, List.set_cons_zero, List.set_cons_succ, i64_w, i32_w]
    rfl
  refine pure_ (i := 4) (N := some 60) (v := ?_) (a' := ?_) #[true, true, true, true, true, false, false, false, false, false, false, false, false, false, false] rfl rfl (by kernel_rfl) (fun _ _ _ h => h) (Or.inl ⟨by rfl, ?_⟩) ?_ ?_
  rotate_left
  · intro w'
    go_simp
    with_reducible rfl
  rotate_left
  · simp only [Act.put, List.setIfInBounds_toArray, List.set_cons_zero, List.set_cons_succ, i64_w, i32_w]
    rfl
  refine pure_ (i := 6) (N := some 62) (v := ?_) (a' := ?_) #[true, true, true, true, true, false, true, false, false, false, false, false, false, false, false] rfl rfl (by kernel_rfl) (fun _ _ _ h => h) (Or.inl ⟨by rfl, ?_⟩) ?_ ?_
  rotate_left
  · intro w'
    go_simp
    with_reducible rfl
  rotate_left
  · simp only [Act.put, List.setIfInBounds_toArray, List.set_cons_zero, List.set_cons_succ, i64_w, i32_w]
    rfl
  refine pure_ (i := 7) (N := some 63) (v := ?_) (a' := ?_) #[true, true, true, true, true, false, true, true, false, false, false, false, false, false, false] rfl rfl (by kernel_rfl) (fun _ _ _ h => h) (Or.inl ⟨by rfl, ?_⟩) ?_ ?_
  rotate_left
  · intro w'
    go_simp
    with_reducible rfl
  rotate_left
  · simp only [Act.put, List.setIfInBounds_toArray, List.set_cons_zero, List.set_cons_succ, i64_w, i32_w]
    rfl
  refine take_ (i := 5) (N := some 61) (v := ?_) (a' := ?_) #[true, true, true, true, true, true, true, true, false, false, false, false, false, false, false] rfl rfl (by kernel_rfl) (fun _ _ _ h => h) (Or.inl ⟨by rfl, ?_⟩) hHeld ?_ ?_
  rotate_left
  · rintro w' ⟨s0, s1, s2⟩
    go_simp
    with_reducible rfl
  rotate_left
  · simp only [Act.put, List.setIfInBounds_toArray, List.set_cons_zero, List.set_cons_succ, i64_w, i32_w]
    rfl
  refine take_ (i := 8) (N := some 64) (v := ?_) (a' := ?_) #[true, true, true, true, true, true, true, true, true, false, false, false, false, false, false] rfl rfl (by kernel_rfl) (fun _ _ _ h => h) (Or.inl ⟨by rfl, ?_⟩) hHeld ?_ ?_
  rotate_left
  · rintro w' ⟨s0, s1, s2⟩
    go_simp
    with_reducible rfl
  rotate_left
  · simp only [Act.put, List.setIfInBounds_toArray, List.set_cons_zero, List.set_cons_succ, i64_w, i32_w]
    rfl
  refine pure_ (i := 9) (N := some 65) (v := ?_) (a' := ?_) #[true, true, true, true, true, true, true, true, true, true, false, false, false, false, false] rfl rfl (by kernel_rfl) (fun _ _ _ h => h) (Or.inl ⟨by rfl, ?_⟩) ?_ ?_
  rotate_left
  · intro w'
    go_simp
    with_reducible rfl
  rotate_left
  · simp only [Act.put, List.setIfInBounds_toArray, List.set_cons_zero, List.set_cons_succ, i64_w, i32_w]
    rfl
  refine pure_ (i := 10) (N := some 66) (v := ?_) (a' := ?_) #[true, true, true, true, true, true, true, true, true, true, true, false, false, false, false] rfl rfl (by kernel_rfl) (fun _ _ _ h => h) (Or.inl ⟨by rfl, ?_⟩) ?_ ?_
  rotate_left
  · intro w'
    go_simp
    with_reducible rfl
  rotate_left
  · simp only [Act.put, List.setIfInBounds_toArray, List.set_cons_zero, List.set_cons_succ, i64_w, i32_w]
    rfl
  refine pure_ (i := 11) (N := some 67) (v := ?_) (a' := ?_) #[true, true, true, true, true, true, true, true, true, true, true, true, false, false, false] rfl rfl (by kernel_rfl) (fun _ _ _ h => h) (Or.inl ⟨by rfl, ?_⟩) ?_ ?_
  rotate_left
  · intro w'
    go_simp
    with_reducible rfl
  rotate_left
  · simp only [Act.put, List.setIfInBounds_toArray, List.set_cons_zero, List.set_cons_succ, i64_w, i32_w]
    rfl
  refine pure_ (i := 12) (N := some 68) (v := ?_) (a' := ?_) #[true, true, true, true, true, true, true, true, true, true, true, true, true, false, false] rfl rfl (by kernel_rfl) (fun _ _ _ h => h) (Or.inl ⟨by rfl, ?_⟩) ?_ ?_
  rotate_left
  · intro w'
    go_simp
    with_reducible rfl
  rotate_left
  · simp only [Act.put, List.setIfInBounds_toArray, List.set_cons_zero, List.set_cons_succ, i64_w, i32_w]
    rfl
  refine pure_ (i := 13) (N := some 69) (v := ?_) (a' := ?_) #[true, true, true, true, true, true, true, true, true, true, true, true, true, true, false] rfl rfl (by kernel_rfl) (fun _ _ _ h => h) (Or.inl ⟨by rfl, ?_⟩) ?_ ?_
  rotate_left
  · intro w'
    go_simp
    with_reducible rfl
  rotate_left
  · simp only [Act.put, List.setIfInBounds_toArray, List.set_cons_zero, List.set_cons_succ, i64_w, i32_w]
    rfl
  refine last_ (i := 14) (N := none) #[true, true, true, true, true, true, true, true, true, true, true, true, true, true, true] rfl rfl (by kernel_rfl) (by decide) (fun K hK => ?_)
  refine skip_ (w1 := ?_) (by rfl) rfl ?_ ?_
  rotate_left
  · go_simp
    rfl
  refine hK.out _ _ ?_
  clear hK K
  refine done_ (by kernel_rfl) ?_
  -- END
  rw [HV.out]
  have HB8 : Aside0 (Below w.heap.size w (w7.setCell ⟨g, i, none⟩ (.int .u8 v)).drew) := ⟨below_drew1 (below_set HB7.out (by have := HB6.out.size; have := HG.out; omega))⟩
  have hcb : (convert 22 9 (.slice (some ⟨g, 0, none⟩) t.size c)).run Try.prog (w7.setCell ⟨g, i, none⟩ (.int .u8 v)).drew = .ok (.string t2) (w7.setCell ⟨g, i, none⟩ (.int .u8 v)).drew := by
    have := conv_back (w7.setCell ⟨g, i, none⟩ (.int .u8 v)).drew g c t.size ((bytesOf t).set i v) (by rw [List.length_set, bytesOf_length]) (set_cells (bytesOf_length t) HIL.out (fun j hj => (HCL.out j hj).1))
    rw [HT2.out] at this
    exact this
  generalize (w7.setCell ⟨g, i, none⟩ (.int .u8 v)).drew = w8 at HB8 hcb ⊢
  clear hti hfi y1 y0 hcv HB7 HPF HCL
  go_wp2_with (first
    | (go_at_call 22; ((with_reducible refine (impl_Unsealed.calls k t2 u false _ HU2.out).mono ?_); rintro e w9 ⟨rfl, hd⟩); have HB9 := Aside0.mk (below_step HB8.out hd); clear hd)
    | (go_at_call 28; ((with_reducible refine (impl_SumOf.calls k s a _ HA.out).mono ?_); rintro e w10 ⟨rfl, hd⟩); have HB10 := Aside0.mk (below_step HB9.out hd.below); clear hd)
    | (go_at_call 27; ((with_reducible refine (impl_SumMore.calls k a ⟨#[120]⟩ b _ HB.out).mono ?_); rintro e w11 ⟨rfl, hd⟩); have HB11 := Aside0.mk (below_step HB10.out hd.below); clear hd)
    | (go_at_call 28; ((with_reducible refine (impl_SumOf.calls k (s ++ ⟨#[120]⟩) b _ HC.out).mono ?_); rintro e w12 ⟨rfl, hd⟩); have HB12 := Aside0.mk (below_step HB11.out hd.below); clear hd))
  go_ret
  exact ⟨by first | rfl | simp, HB12.out⟩

theorem rd_mem {l : List Int} {r : Int} (h0 : 0 ≤ r) (h1 : r < l.length) : rd l r ∈ l := by
  obtain ⟨k, rfl⟩ := Int.eq_ofNat_of_zero_le h0
  rw [rd_nat (by omega)]
  exact List.getElem_mem _
theorem Text_ev {l : List Int} (n : Nat) (hn : n ≤ 5000) : ∀ (d j : Nat) (xs : List Int) (i h : Int), Cur l i → xs.length = j → n - j = d → j ≤ n → ∃ v, Ev (fun k => spec_l01Text.l0 k (n : Int) xs (j : Int) l i h) v ∧ v.1.size = n := by
  intro d
  induction d with
  | zero =>
    intro j xs i h c hx hd hj
    exact ⟨_, ev_end (fun k => by rw [spec_l01Text.l0, if_neg (by omega)]), by simp only [strOfNums_size]; omega⟩
  | succ d ih =>
    intro j xs i h c hx hd hj
    obtain ⟨r, i', h', e, c', _, _⟩ := Byte_f h c
    obtain ⟨v, hv, hz⟩ := ih (j + 1) (xs ++ [r % 256]) i' h' c' (by simp [hx]) (by omega) (by omega)
    refine ⟨v, Ev.step (fun k => by rw [spec_l01Text.l0, if_pos (by omega), e, Option.bind_some, if_pos (by omega), w64 (x := (j : Int) + 1) (by omega) (by omega)]; rfl) hv, hz⟩
theorem Text_f {l : List Int} (n : Nat) (hn : n ≤ 5000) (i h : Int) (c : Cur l i) : ∃ v, Ev (fun k => spec_l01Text.f k l i h (n : Int)) v ∧ v.1.size = n := by
  obtain ⟨v, hv, hz⟩ := Text_ev n hn n 0 [] i h c rfl (by omega) (by omega)
  exact ⟨v, evF (by omega) (Ev.step (fun k => by rw [spec_l01Text.j0]; rfl) hv), hz⟩
theorem DrawSumOf_f (l : List Int) (hl : l.length ≤ 140737488351232) : ∃ s : ByteArray, Ev (fun k => spec_DrawSumOf.f k l) s ∧ s.size ≤ 40 := by
  obtain ⟨h, hh⟩ := New_f l hl
  obtain ⟨r, i', h', e, c', b, _⟩ := Below_f h 40 (by omega) (cur_zero hl)
  have hb := b (by omega)
  obtain ⟨m, rfl⟩ := Int.eq_ofNat_of_zero_le hb.1
  obtain ⟨v, hv, hz⟩ := Text_f m (by omega) i' h' c'
  exact ⟨v.1, Ev.bind hh (ev_now e (Ev.bind hv (Ev.now _))), by omega⟩
/-- the sealed text, as bytes -/
theorem sealed_bytes (s : ByteArray) (x : Int) : bytesOf (s ++ strOfNums (four x)) = bytesOf s ++ four x := by
  rw [bytesOf_append, bytesOf_str (four_range x)]
theorem unsealed_ok (s : ByteArray) (h : s.size ≤ 20000) : unsealed (s ++ strOfNums (four (sumL 4294967295 (bytesOf s)))) = (s, true) := by
  generalize hx : sumL 4294967295 (bytesOf s) = x
  have hz : (s ++ strOfNums (four x)).size = s.size + 4 := by rw [ByteArray.size_append, strOfNums_size]; rfl
  have hb := sealed_bytes s x
  have hlen : (bytesOf s).length = s.size := bytesOf_length s
  have e1 : (s ++ strOfNums (four x)).extract 0 ((s ++ strOfNums (four x)).size - 4) = s := by
    apply bytesOf_inj
    rw [bytesOf_extract, hb, hz, List.drop_zero, Nat.sub_zero, Nat.add_sub_cancel, ← hlen, List.take_left]
  unfold unsealed
  rw [e1, hx, if_pos]
  refine ⟨by omega, by omega, ?_⟩
  rw [toList_iff, bytesOf_extract, hb, hz, bytesOf_str (four_range x), Nat.add_sub_cancel, ← hlen, List.drop_left]
  have : (bytesOf s).length + 4 - (bytesOf s).length = (four x).length := by unfold four; simp
  rw [this, List.take_length]
theorem unsealed_bad (s : ByteArray) (h : s.size ≤ 20000) (i : Nat) (hi : i < s.size + 4) (v : Int) (hv : 0 ≤ v ∧ v ≤ 255) (hne : v ≠ rd (bytesOf (s ++ strOfNums (four (sumL 4294967295 (bytesOf s))))) i) : (unsealed (strOfNums ((bytesOf (s ++ strOfNums (four (sumL 4294967295 (bytesOf s))))).set i v))).2 = false := by
  generalize hx : sumL 4294967295 (bytesOf s) = x at hne
  have hxr := sumL_range (l := bytesOf s) (x := 4294967295) (by omega) (by omega)
  rw [hx] at hxr
  have hlen : (bytesOf s).length = s.size := bytesOf_length s
  have hf : (four x).length = 4 := rfl
  have hsr : ∀ c ∈ bytesOf s, 0 ≤ c ∧ c ≤ 255 := fun c hc => bytesOf_range hc
  rw [sealed_bytes] at hne ⊢
  have hr : ∀ y ∈ (bytesOf s ++ four x).set i v, 0 ≤ y ∧ y ≤ 255 := by
    intro y hy
    rcases List.mem_or_eq_of_mem_set hy with hy | hy
    · rcases List.mem_append.1 hy with hy | hy
      · exact hsr y hy
      · exact four_range x y hy
    · rw [hy]; exact hv
  have hz : (strOfNums ((bytesOf s ++ four x).set i v)).size = s.size + 4 := by rw [strOfNums_size, List.length_set, List.length_append, hlen, hf]
  unfold unsealed
  rw [if_neg]
  rintro ⟨_, _, hc⟩
  rw [toList_iff, bytesOf_extract, bytesOf_str hr, hz, Nat.add_sub_cancel, bytesOf_str (four_range _), bytesOf_extract, bytesOf_str hr, List.drop_zero, Nat.sub_zero, show s.size + 4 - s.size = 4 by omega] at hc
  rw [rd_nat (by rw [List.length_append, hlen, hf]; exact hi)] at hne
  by_cases hl : i < s.size
  · have e : (bytesOf s ++ four x).set i v = (bytesOf s).set i v ++ four x := List.set_append_left _ _ (by omega)
    have hl2 : ((bytesOf s).set i v).length = s.size := by rw [List.length_set, hlen]
    rw [e, ← hl2, List.drop_left, List.take_left, ← hf, List.take_length] at hc
    rw [List.getElem_append_left (by omega)] at hne
    have h1 := four_inj hxr (sumL_range (l := (bytesOf s).set i v) (x := 4294967295) (by omega) (by omega)) hc
    exact sumL_set (bytesOf s) (x := 4294967295) (by omega) hsr (by omega) hv hne (by rw [hx]; exact h1.symm)
  · have e : (bytesOf s ++ four x).set i v = bytesOf s ++ (four x).set (i - s.size) v := by rw [← hlen]; exact List.set_append_right _ _ (by omega)
    rw [e, ← hlen, List.drop_left, List.take_left, hx] at hc
    have hl4 : ((four x).set (i - (bytesOf s).length) v).length = 4 := by rw [List.length_set, hf]
    rw [← hl4, List.take_length] at hc
    rw [List.getElem_append_right (by omega)] at hne
    refine hne ?_
    have h2 := congrArg (fun l => l[i - (bytesOf s).length]?) hc
    simp only [List.getElem?_set_self (show i - (bytesOf s).length < (four x).length by rw [hf]; omega)] at h2
    rw [List.getElem?_eq_getElem (by rw [hf]; omega)] at h2
    exact Option.some.inj h2
theorem walk (A0 : Option Addr) (c0 : Nat) (l0 : List Int) (w : World) (hr0 : Kd.C (Kd.int .u8) w A0 l0.length l0) (hc0 : l0.length ≤ c0) (hl : l0.length * 1 ≤ 140737488351232) :
    Calls Try.prog 7 #[.slice A0 l0.length c0] w fun e w' => e = .returned (.bool true) ∧ Below w.heap.size w w' := by
  by_cases hbig : (l0.length : Int) ≤ 1048576
  · obtain ⟨ps, ⟨K1, f1⟩, hlen, hall⟩ := Places_f l0 (by omega)
    obtain ⟨s, ⟨K2, f2⟩, hs⟩ := DrawSumOf_f l0 (by omega)
    obtain ⟨K3, f3⟩ := impl_Sealed_in s (by omega)
    generalize ht : s ++ strOfNums (four (sumL 4294967295 (bytesOf s))) = t at f3
    have hz : t.size = s.size + 4 := by rw [← ht, ByteArray.size_append, strOfNums_size]; rfl
    obtain ⟨K4, f4⟩ := impl_Unsealed_f t (by omega)
    rw [← ht, unsealed_ok s (by omega), ht] at f4
    have b0 := hall _ (rd_mem (r := 0) (by omega) (by omega))
    have b1 := hall _ (rd_mem (r := 1) (by omega) (by omega))
    have hi : Int.tmod (rd ps 0) (t.size : Int) = (((rd ps 0).toNat % t.size : Nat) : Int) := by
      rw [Int.tmod_eq_emod_of_nonneg b0.1]
      obtain ⟨q, hq⟩ := Int.eq_ofNat_of_zero_le b0.1
      rw [hq]
      simp
    have hil : (rd ps 0).toNat % t.size < t.size := Nat.mod_lt _ (by omega)
    generalize hin : (rd ps 0).toNat % t.size = i at hi hil
    have hb : 0 ≤ rd (bytesOf t) i ∧ rd (bytesOf t) i ≤ 255 := bytesOf_range (rd_mem (by omega) (by rw [bytesOf_length]; omega))
    have hv := turned_byte (b := rd (bytesOf t) i) (p := rd ps 1) hb ⟨b1.1, by omega⟩
    generalize hve : Go.bits .xor .u8 (rd (bytesOf t) i) (IntKind.u8.wrap (wrap64 (1 + Int.tmod (rd ps 1) 255))) = v at hv
    obtain ⟨K5, f5⟩ := impl_Unsealed_f (strOfNums ((bytesOf t).set i v)) (by rw [strOfNums_size, List.length_set, bytesOf_length]; omega)
    have hbad : (unsealed (strOfNums ((bytesOf t).set i v))).2 = false := by
      have := unsealed_bad s (by omega) i (by omega) v hv.1 (by rw [ht]; exact hv.2)
      rw [ht] at this
      exact this
    have hx : bytesOf (⟨#[120]⟩ : ByteArray) = [120] := by rfl
    obtain ⟨K6, f6⟩ := impl_SumOf_f s (by omega)
    obtain ⟨K7, f7⟩ := impl_SumMore_f (sumL 4294967295 (bytesOf s)) (⟨#[120]⟩ : ByteArray) (by show (1 : Nat) ≤ _; omega)
    obtain ⟨K8, f8⟩ := impl_SumOf_f (s ++ (⟨#[120]⟩ : ByteArray)) (by rw [ByteArray.size_append]; show s.size + 1 ≤ _; omega)
    rw [bytesOf_append, sumL_append] at f8
    have hu : unsealed (strOfNums ((bytesOf t).set i v)) = ((unsealed (strOfNums ((bytesOf t).set i v))).1, false) := by rw [← hbad]
    rw [hu] at f5
    exact law_turned A0 c0 l0 (K1 + K2 + K3 + K4 + K5 + K6 + K7 + K8) s t (strOfNums ((bytesOf t).set i v)) _ ps _ _ _ _ i v w hr0 hc0 hbig (f2 _ (by omega)) (f1 _ (by omega)) hlen rfl rfl ⟨b0.1, by omega⟩ ⟨b1.1, by omega⟩
      (f3 _ (by omega)) (f4 _ (by omega)) hz (by omega) hve hi hil rfl (f5 _ (by omega)) (f6 _ (by omega)) (f7 _ (by omega)) (f8 _ (by omega))
  · have HBIG : Aside0 (laws_big.f l0 = some true) := ⟨by unfold laws_big.f; rw [decide_eq_true (by omega)]⟩
    have HR0 := Aside0.mk hr0
    have HC0 := Aside0.mk hc0
    clear hr0 hc0 hbig hl
    go_enter Try.func7, Try.ntmps7
    go_wp2_with (go_at_call 9; ((with_reducible refine (laws_big.calls A0 c0 l0 true _ HR0.out HC0.out HBIG.out).mono ?_); rintro e w2 ⟨rfl, hd⟩); have HB2 := Aside0.mk hd.below; clear hd)
    go_ret
    exact ⟨rfl, HB2.out⟩

end Go.Proofs.Ytdhpcchmhikgeaa.Pure
