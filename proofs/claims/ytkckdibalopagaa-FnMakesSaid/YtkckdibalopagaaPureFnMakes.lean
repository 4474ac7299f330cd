/- Proved: at every drawn arena, what is made has what it was made of, what is sealed opens with its key alone, and both ends of a dh make the same; no condition. -/
import Derived.Test.YtkckdibalopagaaSFnMakesx0
import Derived.Test.YtkckdibalopagaaSFnMakesx1
import Derived.Test.YtkckdibalopagaaSFnMakesx2
import Derived.Test.YtkckdibalopagaaSFnMakesx3
import Derived.Test.YtkckdibalopagaaSFnMakesx4
import Derived.Test.YtkckdibalopagaaSFnMakesx5
import Derived.Test.YtkckdibalopagaaSFnMakesx6
import Derived.Test.YtkckdibalopagaaSFnMakesx7
import Derived.Test.YtkckdibalopagaaSFnMakesx8
import Derived.Test.YtkckdibalopagaaSFnMakesx9
import Derived.Test.YtkckdibalopagaaQBase
namespace Go.Proofs.Ytkckdibalopagaa.Pure
open Go.RowKit Go.Proofs.Ytkckdibalopagaa.SFnMakes Go.Proofs.Ytkckdibalopagaa.Base Go.Proofs.YtkckdibalopagaaW.PrintWords Go.Proofs.YtkckdibalopagaaW.PrintLast Go.Proofs.YtkckdibalopagaaW.PrintMore
open Go.Proofs.Ytkckdibalopagaa.SFnMakes.Hand
set_option linter.unusedVariables false
set_option linter.unusedSimpArgs false

attribute [local go_sem] max2_int min2_int max_two min_two max_three min_three max_four min_four
theorem rd_nat {xs : List Int} {i : Nat} (h : i < xs.length) : rd xs (i : Int) = xs[i] := by
  unfold rd
  rw [Int.toNat_natCast, List.getD_eq_getElem?_getD, List.getElem?_eq_getElem h]
  rfl
theorem rdOf_nat {xs : List Bool} {i : Nat} (h : i < xs.length) : rdOf false xs (i : Int) = xs[i] := by
  unfold rdOf
  rw [Int.toNat_natCast, List.getD_eq_getElem?_getD, List.getElem?_eq_getElem h]
  rfl

theorem impl_hasNode_f (l : List S34) (k : Int) (hl : l.length ≤ 9223372036854775807) : impl_hasNode.f l k = some (decide (0 ≤ k) && decide (k ≤ (l.length : Int) - 1)) := by
  unfold impl_hasNode.f
  rw [w64 (by omega) (by omega), impl_within_b]
  rfl

/-! a right node's parts -/
def oneKind (k : Int) : Bool := decide (k = 3 ∨ k = 6)
theorem node_parts {f0 f1 f2 f3 k : Int} (h : nodeB f0 f1 f2 f3 k = true) : (1 ≤ f0 ∧ f0 ≤ 9) ∧ (f0 = 1 → 0 ≤ f1 ∧ f1 ≤ 999999 ∧ f2 = 0 ∧ f3 = 0) ∧ (f0 ≠ 1 → f1 = 0 ∧ 0 ≤ f2 ∧ f2 < k) ∧ ((f0 = 3 ∨ f0 = 6) → f3 = 0) ∧ (f0 ≠ 1 → ¬ (f0 = 3 ∨ f0 = 6) → 0 ≤ f3 ∧ f3 < k) := by
  unfold nodeB at h
  by_cases h1 : f0 = 1
  · rw [if_pos h1] at h
    simp only [Bool.and_eq_true, decide_eq_true_eq] at h
    omega
  · rw [if_neg h1] at h
    by_cases h3 : f0 = 3 ∨ f0 = 6
    · rw [if_pos h3] at h
      simp only [Bool.and_eq_true, decide_eq_true_eq] at h
      omega
    · rw [if_neg h3] at h
      simp only [Bool.and_eq_true, decide_eq_true_eq] at h
      omega
/-- the node's parts, as places -/
theorem right_parts {l : List S34} {i : Nat} (h : rightAt l i = true) : (1 ≤ (nodeOf l i).f0 ∧ (nodeOf l i).f0 ≤ 9) ∧ ((nodeOf l i).f0 = 1 → 0 ≤ (nodeOf l i).f1 ∧ (nodeOf l i).f1 ≤ 999999) ∧
    ((nodeOf l i).f0 ≠ 1 → ∃ a : Nat, (nodeOf l i).f2 = (a : Int) ∧ a < i) ∧ ((nodeOf l i).f0 ≠ 1 → oneKind (nodeOf l i).f0 = false → ∃ b : Nat, (nodeOf l i).f3 = (b : Int) ∧ b < i) := by
  obtain ⟨h0, h1, h2, _, h4⟩ := node_parts h
  refine ⟨h0, fun e => ⟨(h1 e).1, (h1 e).2.1⟩, fun e => ?_, fun e e2 => ?_⟩
  · obtain ⟨a, ha⟩ := Int.eq_ofNat_of_zero_le (h2 e).2.1
    exact ⟨a, ha, by have := (h2 e).2.2; omega⟩
  · have := h4 e (by simpa [oneKind] using e2)
    obtain ⟨b, hb⟩ := Int.eq_ofNat_of_zero_le this.1
    exact ⟨b, hb, by omega⟩

/-! sizes -/
def size1 (l : List S34) (S : List Int) (i : Nat) : Int :=
  if rightAt l i = true ∧ (i = 0 ∨ rd S ((i : Int) - 1) ≠ 0) then
    mn (if (nodeOf l i).f0 = 1 then 1 else if oneKind (nodeOf l i).f0 = true then 1 + rd S (nodeOf l i).f2 else 1 + rd S (nodeOf l i).f2 + rd S (nodeOf l i).f3) 100000
  else 0
def sizes (l : List S34) : Nat → List Int
  | 0 => []
  | n + 1 => sizes l n ++ [size1 l (sizes l n) n]
theorem sizes_length (l : List S34) (n : Nat) : (sizes l n).length = n := by
  induction n with
  | zero => rfl
  | succ n ih => simp [sizes, ih]
def szAt (l : List S34) (i : Nat) : Int := size1 l (sizes l i) i
theorem sizes_rd (l : List S34) : ∀ {n i : Nat}, i < n → rd (sizes l n) (i : Int) = szAt l i
  | n + 1, i, h => by
    rw [sizes]
    unfold rd
    rw [Int.toNat_natCast]
    by_cases hi : i < n
    · have := sizes_rd l hi
      unfold rd at this
      rw [Int.toNat_natCast] at this
      rw [List.getD_eq_getElem?_getD, List.getElem?_append_left (by rw [sizes_length]; exact hi), ← List.getD_eq_getElem?_getD, this]
    · have : i = n := by omega
      subst this
      rw [List.getD_eq_getElem?_getD, List.getElem?_append_right (by rw [sizes_length]; omega), sizes_length, Nat.sub_self]
      rfl
theorem size1_eq (l : List S34) (i : Nat) : szAt l i = if rightAt l i = true ∧ (i = 0 ∨ szAt l (i - 1) ≠ 0) then
    mn (if (nodeOf l i).f0 = 1 then 1 else if oneKind (nodeOf l i).f0 = true then 1 + szAt l (nodeOf l i).f2.toNat else 1 + szAt l (nodeOf l i).f2.toNat + szAt l (nodeOf l i).f3.toNat) 100000 else 0 := by
  have hprev : ∀ h : i ≠ 0, rd (sizes l i) ((i : Int) - 1) = szAt l (i - 1) := fun h => by
    rw [show (i : Int) - 1 = ((i - 1 : Nat) : Int) by omega]
    exact sizes_rd l (by omega)
  have hc : (rightAt l i = true ∧ (i = 0 ∨ rd (sizes l i) ((i : Int) - 1) ≠ 0)) ↔ (rightAt l i = true ∧ (i = 0 ∨ szAt l (i - 1) ≠ 0)) := by
    by_cases h0 : i = 0
    · simp [h0]
    · rw [hprev h0]
  have e : szAt l i = size1 l (sizes l i) i := rfl
  rw [e]
  unfold size1
  by_cases h : rightAt l i = true ∧ (i = 0 ∨ rd (sizes l i) ((i : Int) - 1) ≠ 0)
  · rw [if_pos h, if_pos (hc.1 h)]
    obtain ⟨_, _, h2, h3⟩ := right_parts h.1
    congr 1
    by_cases h1 : (nodeOf l i).f0 = 1
    · rw [if_pos h1, if_pos h1]
    · rw [if_neg h1, if_neg h1]
      obtain ⟨a, ha, hai⟩ := h2 h1
      rw [ha, Int.toNat_natCast, sizes_rd l hai]
      by_cases ho : oneKind (nodeOf l i).f0 = true
      · rw [if_pos ho, if_pos ho]
      · rw [if_neg ho, if_neg ho]
        obtain ⟨b, hb, hbi⟩ := h3 h1 (by simpa using ho)
        rw [hb, Int.toNat_natCast, sizes_rd l hbi]
  · rw [if_neg h, if_neg (fun hh => h (hc.2 hh))]
theorem mn_le (a b : Int) : mn a b ≤ a ∧ mn a b ≤ b ∧ (mn a b = a ∨ mn a b = b) := by unfold mn; split <;> omega
theorem sz_bound (l : List S34) (i : Nat) : 0 ≤ szAt l i ∧ szAt l i ≤ 100000 := by
  induction i using Nat.strongRecOn with
  | _ i ih =>
    rw [size1_eq]
    by_cases h : rightAt l i = true ∧ (i = 0 ∨ szAt l (i - 1) ≠ 0)
    · rw [if_pos h]
      obtain ⟨_, _, h2, h3⟩ := right_parts h.1
      have hm := mn_le (if (nodeOf l i).f0 = 1 then 1 else if oneKind (nodeOf l i).f0 = true then 1 + szAt l (nodeOf l i).f2.toNat else 1 + szAt l (nodeOf l i).f2.toNat + szAt l (nodeOf l i).f3.toNat) 100000
      refine ⟨?_, hm.2.1⟩
      rcases hm.2.2 with he | he
      · rw [he]
        by_cases h1 : (nodeOf l i).f0 = 1
        · rw [if_pos h1]; omega
        · rw [if_neg h1]
          obtain ⟨a, ha, hai⟩ := h2 h1
          have hA := ih a hai
          rw [ha, Int.toNat_natCast]
          by_cases ho : oneKind (nodeOf l i).f0 = true
          · rw [if_pos ho]; omega
          · rw [if_neg ho]
            obtain ⟨b, hb, hbi⟩ := h3 h1 (by simpa using ho)
            have hB := ih b hbi
            rw [hb, Int.toNat_natCast]
            omega
      · rw [he]; omega
    · rw [if_neg h]; omega
theorem sz_pos_of (l : List S34) (i : Nat) (h : rightAt l i = true ∧ (i = 0 ∨ szAt l (i - 1) ≠ 0)) : 0 < szAt l i := by
  rw [size1_eq, if_pos h]
  obtain ⟨_, _, h2, h3⟩ := right_parts h.1
  have hm := mn_le (if (nodeOf l i).f0 = 1 then 1 else if oneKind (nodeOf l i).f0 = true then 1 + szAt l (nodeOf l i).f2.toNat else 1 + szAt l (nodeOf l i).f2.toNat + szAt l (nodeOf l i).f3.toNat) 100000
  rcases hm.2.2 with he | he
  · rw [he]
    by_cases h1 : (nodeOf l i).f0 = 1
    · rw [if_pos h1]; omega
    · rw [if_neg h1]
      have hA := sz_bound l (nodeOf l i).f2.toNat
      have hB := sz_bound l (nodeOf l i).f3.toNat
      split <;> omega
  · rw [he]; omega
/-- a size above nought: all nodes up to it are right, and have one -/
theorem sz_pos_back (l : List S34) : ∀ (i : Nat), 0 < szAt l i → ∀ j, j ≤ i → rightAt l j = true ∧ 0 < szAt l j := by
  intro i
  induction i with
  | zero =>
    intro h j hj
    obtain rfl : j = 0 := by omega
    rw [size1_eq] at h
    by_cases hc : rightAt l 0 = true ∧ ((0 : Nat) = 0 ∨ szAt l (0 - 1) ≠ 0)
    · exact ⟨hc.1, sz_pos_of l 0 hc⟩
    · rw [if_neg hc] at h; omega
  | succ i ih =>
    intro h j hj
    have hc : rightAt l (i + 1) = true ∧ (i + 1 = 0 ∨ szAt l (i + 1 - 1) ≠ 0) := by
      rw [size1_eq] at h
      by_cases hc : rightAt l (i + 1) = true ∧ (i + 1 = 0 ∨ szAt l (i + 1 - 1) ≠ 0)
      · exact hc
      · rw [if_neg hc] at h; omega
    by_cases he : j = i + 1
    · subst he
      exact ⟨hc.1, h⟩
    · have hb := sz_bound l i
      rcases hc.2 with h0 | h0
      · omega
      · rw [Nat.add_sub_cancel] at h0
        exact ih (by omega) j (by omega)
theorem sz_all (l : List S34) : ∀ (i : Nat), (∀ j, j ≤ i → rightAt l j = true) → 0 < szAt l i := by
  intro i
  induction i with
  | zero => intro h; exact sz_pos_of l 0 ⟨h 0 (by omega), .inl rfl⟩
  | succ i ih =>
    intro h
    have := ih (fun j hj => h j (by omega))
    refine sz_pos_of l (i + 1) ⟨h (i + 1) (by omega), .inr ?_⟩
    rw [Nat.add_sub_cancel]
    omega
/-- what SizeOf tells -/
def sizeOf (l : List S34) (a : Int) : Int := if 0 ≤ a ∧ a < (l.length : Int) then szAt l a.toNat else 0

theorem impl_hasB_f (k : Int) : impl_hasB.f k = some (!decide (k = 1) && !oneKind k) := by
  unfold impl_hasB.f oneKind
  by_cases h1 : k = 1
  · rw [if_pos h1]; simp [h1]
  · rw [if_neg h1]
    by_cases h3 : k = 3
    · rw [if_pos h3]; simp [h3]
    · rw [if_neg h3]
      by_cases h6 : k = 6
      · simp [h6]
      · simp [h1, h3, h6]
theorem take_node (l : List S34) (K i : Nat) (hi : i < K) (hK : K ≤ l.length) : rd_T34 (l.take K) (i : Int) = nodeOf l i := by
  unfold nodeOf
  rw [rdI (by rw [List.length_take]; omega), rdI (by omega), List.getElem_take]
theorem impl_Size_ev (l : List S34) (hl : l.length ≤ 1048576) (K : Nat) (hK : K < l.length) : ∀ (d i : Nat), K + 1 - i = d → i ≤ K + 1 → (∀ j, j < i → rightAt l j = true) →
    Ev (fun k => impl_SizeOf.l0 k (K : Int) (sizes l i) (l.take (K + 1)) ((l.take (K + 1)).length : Int) (i : Int)) (szAt l K) := by
  have hT : (l.take (K + 1)).length = K + 1 := by rw [List.length_take]; omega
  intro d
  induction d with
  | zero =>
    intro i hd hi hall
    have e : i = K + 1 := by omega
    subst e
    refine ev_end (fun k => ?_)
    rw [impl_SizeOf.l0, if_neg (by omega), if_pos (by omega), if_pos (by rw [sizes_length]; omega), sizes_rd l (by omega)]
  | succ d ih =>
    intro i hd hi hall
    have hlt : i < l.length := by omega
    refine Ev.step (fun k => by rw [impl_SizeOf.l0, if_pos (by omega), if_pos (by omega), if_pos (by omega), take_node l (K + 1) i (by omega) (by omega)]) ?_
    refine Ev.bind (impl_nodeRight_f _ _ _ _ (i : Int) (by omega)) ?_
    by_cases hr : rightAt l i = true
    · refine evT hr ?_
      have hp : i = 0 ∨ rd (sizes l i) ((i : Int) - 1) ≠ 0 := by
        by_cases h0 : i = 0
        · exact .inl h0
        · right
          rw [show (i : Int) - 1 = ((i - 1 : Nat) : Int) by omega, sizes_rd l (by omega)]
          have := sz_all l (i - 1) (fun j hj => hall j (by omega))
          omega
      have hnext : ∀ x, size1 l (sizes l i) i = x → Ev (fun k => impl_SizeOf.l0 k (K : Int) (sizes l i ++ [x]) (l.take (K + 1)) ((l.take (K + 1)).length : Int) (wrap64 ((i : Int) + 1))) (szAt l K) := by
        intro x hx
        rw [w64 (by omega) (by omega), ← hx]
        refine ih (i + 1) (by omega) (by omega) (fun j hj => ?_)
        by_cases he : j = i
        · rw [he]; exact hr
        · exact hall j (by omega)
      have hlen : (sizes l i).length < 17592186044416 := by rw [sizes_length]; omega
      obtain ⟨_, _, h2, h3⟩ := right_parts hr
      have hs : size1 l (sizes l i) i = mn (if (nodeOf l i).f0 = 1 then 1 else if oneKind (nodeOf l i).f0 = true then 1 + rd (sizes l i) (nodeOf l i).f2 else 1 + rd (sizes l i) (nodeOf l i).f2 + rd (sizes l i) (nodeOf l i).f3) 100000 := by
        unfold size1
        rw [if_pos ⟨hr, hp⟩]
      by_cases h1 : (nodeOf l i).f0 = 1
      · refine evT h1 (ev_now (impl_hasB_f _) (evF (by simp [h1]) (evT hlen (hnext _ ?_))))
        rw [hs, if_pos h1]
      · refine evF h1 ?_
        rw [if_neg h1] at hs
        obtain ⟨a, ha, hai⟩ := h2 h1
        have hA := sz_bound l a
        rw [ha] at hs ⊢
        rw [sizes_rd l hai] at hs ⊢
        refine evT (by omega) (evT (by rw [sizes_length]; omega) (ev_now (impl_hasB_f _) ?_))
        rw [w64 (x := 1 + szAt l a) (by omega) (by omega)]
        by_cases ho : oneKind (nodeOf l i).f0 = true
        · rw [if_pos ho] at hs
          exact evF (by simp [ho]) (evT hlen (hnext _ hs))
        · rw [if_neg ho] at hs
          refine evT (by simp [ho, h1]) ?_
          obtain ⟨b, hb, hbi⟩ := h3 h1 (by simpa using ho)
          have hB := sz_bound l b
          rw [hb] at hs ⊢
          rw [sizes_rd l hbi] at hs ⊢
          rw [w64 (x := 1 + szAt l a + szAt l b) (by omega) (by omega)]
          exact evT (by omega) (evT (by rw [sizes_length]; omega) (evT hlen (hnext _ hs)))
    · refine ev_cast (evF hr (Ev.now _)) ?_
      have hb := sz_bound l K
      by_cases hz : szAt l K = 0
      · exact hz.symm
      · exact absurd (sz_pos_back l K (by omega) i (by omega)).1 hr
theorem impl_SizeOf_f (l : List S34) (hl : l.length ≤ 1048576) (a : Int) : Ev (fun k => impl_SizeOf.f k l a) (sizeOf l a) := by
  unfold impl_SizeOf.f sizeOf
  simp only [impl_hasNode_f l a (by omega), Option.bind_some]
  by_cases h : 0 ≤ a ∧ a < (l.length : Int)
  · obtain ⟨K, rfl⟩ := Int.eq_ofNat_of_zero_le h.1
    rw [w64 (by omega) (by omega)]
    refine evT (by simp; omega) (evT (by omega) (evT (by omega) ?_))
    refine ev_cast (impl_Size_ev l hl K (by omega) (K + 1) 0 (by omega) (by omega) (fun j hj => by omega)) ?_
    rw [if_pos h, Int.toNat_natCast]
  · exact ev_cast (evF (by simp; omega) (Ev.now _)) (if_neg h).symm

theorem impl_within_in {a b c : Int} (h : b ≤ a) (h' : a ≤ c) : impl_within.f a b c = some true := by
  unfold impl_within.f
  rw [if_pos h]
  simp [h']
theorem impl_within_out {a b c : Int} (h : a < b ∨ c < a) : impl_within.f a b c = some false := by
  unfold impl_within.f
  by_cases h0 : a ≥ b
  · rw [if_pos h0]
    have : ¬ a ≤ c := by omega
    simp [this]
  · rw [if_neg h0]

theorem impl_VarText_ev (d : Nat) : ∀ (n : Nat) (acc : List Int), n < 128 ^ (d + 1) → n ≤ 9223372036854775807 → acc.length + d ≤ 1000000 → Ev (fun k => impl_VarText.l0 k (n : Int) acc) (strOfNums (acc ++ varN n), true) := by
  induction d with
  | zero =>
    intro n acc h hb ha
    rw [varN_small (by omega)]
    refine ev_end (fun k => ?_)
    rw [impl_VarText.l0, if_neg (by omega), if_pos (by omega)]
    congr 5
    omega
  | succ d ih =>
    intro n acc h hb ha
    by_cases hn : n > 127
    · rw [varN_big hn]
      refine Ev.step (fun k => by rw [impl_VarText.l0, if_pos (by omega), if_pos (by omega)]) ?_
      have e1 : wrap64 (Int.tdiv (n : Int) 128) = ((n / 128 : Nat) : Int) := by
        rw [Int.tdiv_eq_ediv_of_nonneg (by omega)]
        unfold wrap64
        omega
      have e2 : wrap64 ((Int.tmod (n : Int) 128) + 128) % 256 = ((n % 128 + 128 : Nat) : Int) := by
        rw [Int.tmod_eq_emod_of_nonneg (by omega)]
        unfold wrap64
        omega
      rw [e1, e2]
      refine ev_cast (ih (n / 128) _ (by rw [Nat.div_lt_iff_lt_mul (by omega)]; rw [Nat.pow_succ] at h; exact h) (by omega) (by simp; omega)) ?_
      simp
    · rw [varN_small (by omega)]
      refine ev_end (fun k => ?_)
      rw [impl_VarText.l0, if_neg (by omega), if_pos (by omega)]
      congr 5
      omega
theorem impl_VarText_in {n : Int} (h : 0 ≤ n) (h' : n ≤ 1000000000) : Ev (fun k => impl_VarText.f k n) (strOfNums (varN n.toNat), true) := by
  obtain ⟨m, rfl⟩ := Int.eq_ofNat_of_zero_le h
  exact ev_now (impl_within_in h h') (evT rfl (impl_VarText_ev 9 m [] (by omega) (by omega) (by simp)))
theorem impl_VarText_out {n : Int} (h : n < 0 ∨ 1000000000 < n) : Ev (fun k => impl_VarText.f k n) ((⟨#[]⟩ : ByteArray), false) :=
  ev_now (impl_within_out h) (evF (by simp) (Ev.now _))

/-! the text of a term -/
def termL (l : List S34) : Nat → Nat → List Int
  | 0, _ => []
  | n + 1, k => varN (nodeOf l k).f0.toNat ++ (if (nodeOf l k).f0 = 1 then varN (nodeOf l k).f1.toNat else termL l n (nodeOf l k).f2.toNat ++ (if oneKind (nodeOf l k).f0 = true then [] else termL l n (nodeOf l k).f3.toNat))
/-- a term whose size is below the cap: the sum of its parts', and one -/
theorem sz_split {l : List S34} {k : Nat} (h : 0 < szAt l k) (hc : szAt l k ≤ 2000) : rightAt l k = true ∧
    ((nodeOf l k).f0 = 1 → szAt l k = 1) ∧
    ((nodeOf l k).f0 ≠ 1 → oneKind (nodeOf l k).f0 = true → ∃ a : Nat, (nodeOf l k).f2 = (a : Int) ∧ a < k ∧ 0 < szAt l a ∧ szAt l k = 1 + szAt l a) ∧
    ((nodeOf l k).f0 ≠ 1 → oneKind (nodeOf l k).f0 = false → ∃ a b : Nat, (nodeOf l k).f2 = (a : Int) ∧ a < k ∧ 0 < szAt l a ∧ (nodeOf l k).f3 = (b : Int) ∧ b < k ∧ 0 < szAt l b ∧ szAt l k = 1 + szAt l a + szAt l b) := by
  have hback := sz_pos_back l k h
  have hr := (hback k (Nat.le_refl _)).1
  have e := size1_eq l k
  have hcond : rightAt l k = true ∧ (k = 0 ∨ szAt l (k - 1) ≠ 0) := by
    refine ⟨hr, ?_⟩
    by_cases h0 : k = 0
    · exact .inl h0
    · right
      have := (hback (k - 1) (by omega)).2
      omega
  rw [if_pos hcond] at e
  obtain ⟨_, _, h2, h3⟩ := right_parts hr
  refine ⟨hr, fun h1 => ?_, fun h1 ho => ?_, fun h1 ho => ?_⟩
  · rw [if_pos h1] at e
    rw [e]
    rfl
  · rw [if_neg h1, if_pos ho] at e
    obtain ⟨a, ha, hai⟩ := h2 h1
    rw [ha, Int.toNat_natCast] at e
    refine ⟨a, ha, hai, (hback a (by omega)).2, ?_⟩
    have := mn_le (1 + szAt l a) 100000
    omega
  · rw [if_neg h1, if_neg (by simp [ho])] at e
    obtain ⟨a, ha, hai⟩ := h2 h1
    obtain ⟨b, hb, hbi⟩ := h3 h1 ho
    rw [ha, hb, Int.toNat_natCast, Int.toNat_natCast] at e
    refine ⟨a, b, ha, hai, (hback a (by omega)).2, hb, hbi, (hback b (by omega)).2, ?_⟩
    have := mn_le (1 + szAt l a + szAt l b) 100000
    omega
theorem varN_kind {x : Int} (h0 : 1 ≤ x) (h1 : x ≤ 9) : (varN x.toNat).length = 1 := by
  rw [varN_small (by omega)]
  rfl
theorem varN_num {x : Int} (h0 : 0 ≤ x) (h1 : x ≤ 999999) : (varN x.toNat).length ≤ 3 := (varN_length 2 x.toNat (by omega)).2
theorem termL_length (l : List S34) : ∀ (n k : Nat), k < n → 0 < szAt l k → szAt l k ≤ 2000 → ((termL l n k).length : Int) ≤ 4 * szAt l k := by
  intro n
  induction n with
  | zero => intro k h; omega
  | succ n ih =>
    intro k hk hp hc
    obtain ⟨hr, h1, h2, h3⟩ := sz_split hp hc
    obtain ⟨g0, g1, _, _⟩ := right_parts hr
    have hv := varN_kind g0.1 g0.2
    rw [termL, List.length_append, hv]
    by_cases e1 : (nodeOf l k).f0 = 1
    · rw [if_pos e1]
      have hz := h1 e1
      have hn := varN_num (g1 e1).1 (g1 e1).2
      omega
    · rw [if_neg e1, List.length_append]
      by_cases ho : oneKind (nodeOf l k).f0 = true
      · rw [if_pos ho]
        obtain ⟨a, ha, hak, hpa, hs⟩ := h2 e1 ho
        rw [ha, Int.toNat_natCast]
        have := ih a (by omega) hpa (by omega)
        simp only [List.length_nil]
        omega
      · rw [if_neg ho]
        obtain ⟨a, b, ha, hak, hpa, hb, hbk, hpb, hs⟩ := h3 e1 (by simpa using ho)
        rw [ha, hb, Int.toNat_natCast, Int.toNat_natCast]
        have hA := ih a (by omega) hpa (by omega)
        have hB := ih b (by omega) hpb (by omega)
        omega
theorem termL_range (l : List S34) : ∀ (n k : Nat), ∀ x ∈ termL l n k, 0 ≤ x ∧ x ≤ 255 := by
  intro n
  induction n with
  | zero => intro k x hx; simp [termL] at hx
  | succ n ih =>
    intro k x hx
    rw [termL] at hx
    rcases List.mem_append.1 hx with hx | hx
    · exact varN_range _ x hx
    · split at hx
      · exact varN_range _ x hx
      · rcases List.mem_append.1 hx with hx | hx
        · exact ih _ x hx
        · split at hx
          · simp at hx
          · exact ih _ x hx
theorem str_app (xs ys : List Int) : strOfNums xs ++ strOfNums ys = strOfNums (xs ++ ys) := by
  unfold strOfNums
  rw [List.map_append]
  apply bytesOf_inj
  simp [bytesOf, ByteArray.data_append]
/-- what TermText tells -/
def termText (l : List S34) (a : Int) : ByteArray × Bool := if 1 ≤ sizeOf l a ∧ sizeOf l a ≤ 2000 then (strOfNums (termL l (a.toNat + 1) a.toNat), true) else ((⟨#[]⟩ : ByteArray), false)

theorem impl_Term_ev (l : List S34) : ∀ (n k : Nat), k < n → k < l.length → 0 < szAt l k → szAt l k ≤ 2000 → ∀ out : List Int, (out.length : Int) + 4 * szAt l k ≤ 1000000 → Ev (fun m => impl_termBytes.f m out l (k : Int)) (out ++ termL l n k) := by
  intro n
  induction n with
  | zero => intro k h; omega
  | succ n ih =>
    intro k hk hl hp hc out hout
    obtain ⟨hr, h1, h2, h3⟩ := sz_split hp hc
    obtain ⟨g0, g1, _, _⟩ := right_parts hr
    have hv := varN_kind g0.1 g0.2
    refine Ev.step (fun m => by rw [impl_termBytes.f]) ?_
    refine evT (by omega) (evT (by omega) (Ev.bind (impl_VarText_in (n := (nodeOf l k).f0) (by omega) (by omega)) (evT (by rw [strOfNums_size]; omega) (ev_now rfl ?_))))
    rw [bytesOf_str (varN_range _)]
    by_cases e1 : (nodeOf l k).f0 = 1
    · have hn := varN_num (g1 e1).1 (g1 e1).2
      refine evT e1 (Ev.bind (impl_VarText_in (n := (nodeOf l k).f1) (g1 e1).1 (by have := (g1 e1).2; omega)) (evT (by rw [strOfNums_size, List.length_append]; omega) (ev_cast (Ev.now _) ?_)))
      rw [bytesOf_str (varN_range _), termL, if_pos e1, List.append_assoc]
    · refine evF e1 ?_
      by_cases ho : oneKind (nodeOf l k).f0 = true
      · obtain ⟨a, ha, hak, hpa, hs⟩ := h2 e1 ho
        have hA := ih a (by omega) (by omega) hpa (by omega) (out ++ varN (nodeOf l k).f0.toNat) (by rw [List.length_append]; omega)
        rw [← ha] at hA
        refine Ev.bind hA (ev_now (impl_hasB_f _) (evF (by show ¬ ((!decide ((nodeOf l k).f0 = 1) && !oneKind (nodeOf l k).f0) = true); simp [ho]) (ev_cast (Ev.now _) ?_)))
        rw [termL, if_neg e1, if_pos ho, ha, Int.toNat_natCast, List.append_nil, List.append_assoc]
      · obtain ⟨a, b, ha, hak, hpa, hb, hbk, hpb, hs⟩ := h3 e1 (by simpa using ho)
        have hl1 := termL_length l n a (by omega) hpa (by omega)
        have hA := ih a (by omega) (by omega) hpa (by omega) (out ++ varN (nodeOf l k).f0.toNat) (by rw [List.length_append]; omega)
        rw [← ha] at hA
        have hB := ih b (by omega) (by omega) hpb (by omega) (out ++ varN (nodeOf l k).f0.toNat ++ termL l n a) (by rw [List.length_append, List.length_append]; omega)
        rw [← hb] at hB
        refine Ev.bind hA (ev_now (impl_hasB_f _) (evT (by show (!decide ((nodeOf l k).f0 = 1) && !oneKind (nodeOf l k).f0) = true; simp [ho, e1]) (Ev.bind hB (ev_cast (Ev.now _) ?_))))
        rw [termL, if_neg e1, if_neg ho, ha, hb, Int.toNat_natCast, Int.toNat_natCast, List.append_assoc, List.append_assoc]
theorem impl_TermText_f (l : List S34) (hl : l.length ≤ 1048576) (a : Int) : Ev (fun k => impl_TermText.f k l a) (termText l a) := by
  unfold termText
  refine Ev.bind (impl_SizeOf_f l hl a) ?_
  simp only [impl_within_b, Option.bind_some]
  by_cases h : 1 ≤ sizeOf l a ∧ sizeOf l a ≤ 2000
  · have hin : 0 ≤ a ∧ a < (l.length : Int) := by
      by_cases hi : 0 ≤ a ∧ a < (l.length : Int)
      · exact hi
      · unfold sizeOf at h; rw [if_neg hi] at h; omega
    have hs : sizeOf l a = szAt l a.toNat := by unfold sizeOf; rw [if_pos hin]
    rw [hs] at h ⊢
    have ht := impl_Term_ev l (a.toNat + 1) a.toNat (by omega) (by omega) (by omega) h.2 [] (by simp only [List.length_nil]; omega)
    rw [Int.toNat_of_nonneg hin.1] at ht
    exact ev_cast (evT (by simp [h]) (Ev.bind ht (Ev.now _))) (if_pos h).symm
  · exact ev_cast (evF (by simpa using h) (Ev.now _)) (if_neg h).symm

theorem spec_AOk_ev (l : List S34) (hl : l.length ≤ 3000) : ∀ (d i : Nat), l.length - i = d → i ≤ l.length → (∀ j, j < i → rightAt l j = true ∧ dupAt l j = false) → Ev (fun k => spec_ArenaOk.l0 k (i : Int) l) (aok l) := by
  intro d
  induction d with
  | zero =>
    intro i hd hi hall
    rw [aok_true hl (fun j hj => hall j (by omega))]
    exact ev_end (fun k => by rw [spec_ArenaOk.l0, if_neg (by omega)])
  | succ d ih =>
    intro i hd hi hall
    have hlt : i < l.length := by omega
    refine Ev.step (fun k => by rw [spec_ArenaOk.l0, if_pos (by omega), if_pos (by omega), w64 (x := (i : Int) + 1) (by omega) (by omega)]) ?_
    refine Ev.bind (spec_l03Node_f _ _ _ _ (i : Int) (by omega)) ?_
    by_cases hr : rightAt l i = true
    · refine evT hr (Ev.bind (spec_At_f l (by omega) (nodeOf l i)) ?_)
      by_cases hd2 : dupAt l i = false
      · refine evT ((atV_self hlt).2 hd2) ?_
        refine ih (i + 1) (by omega) (by omega) (fun j hj => ?_)
        by_cases e : j = i
        · rw [e]; exact ⟨hr, hd2⟩
        · exact hall j (by omega)
      · refine ev_cast (evF (fun h => hd2 ((atV_self hlt).1 h)) (Ev.now _)) ?_
        rw [aok_false hlt (.inr (by simpa using hd2))]
    · refine ev_cast (evF hr (Ev.now _)) ?_
      rw [aok_false hlt (.inl (by simpa using hr))]
theorem spec_ArenaOk_f (l : List S34) (hl : l.length ≤ 1048576) : Ev (fun k => spec_ArenaOk.f k l) (aok l) := by
  by_cases h : (l.length : Int) > 3000
  · refine ev_cast (evT h (Ev.now _)) ?_
    rw [aok_big (by omega)]
  · exact evF h (spec_AOk_ev l (by omega) l.length 0 (by omega) (by omega) (fun j hj => by omega))

/-! NodeOk, as both tell it -/
def nodeOkB (l : List S34) (a : Int) : Bool := if 0 ≤ a ∧ a < (l.length : Int) then nodeB (rd_T34 l a).f0 (rd_T34 l a).f1 (rd_T34 l a).f2 (rd_T34 l a).f3 a else false
theorem impl_NodeOk_f (l : List S34) (a : Int) (hl : l.length ≤ 1048576) : Ev (fun k => impl_NodeOk.f k l a) (nodeOkB l a) := by
  unfold impl_NodeOk.f nodeOkB
  simp only [impl_hasNode_f l a (by omega), Option.bind_some]
  by_cases h : 0 ≤ a ∧ a < (l.length : Int)
  · refine evT (by simp; omega) (evT h.1 (evT h.2 ?_))
    refine ev_cast (Ev.bind (impl_nodeRight_f _ _ _ _ a (by omega)) (Ev.now _)) ?_
    rw [if_pos h]
  · exact ev_cast (evF (by simp; omega) (Ev.now _)) (if_neg h).symm

/-! draws: what they come to lies in its bounds -/
theorem New_ev (l : List Int) (hl : l.length ≤ 140737488351232) : ∀ (d i : Nat) (x : Int), 4000 - i = d → i ≤ l.length → ∃ h, Ev (fun k => spec_l01New.l0 k l x (i : Int)) (l, 0, h) := by
  intro d
  induction d with
  | zero =>
    intro i x hd hi
    by_cases hlt : i < l.length
    · exact ⟨x, ev_end (fun k => by rw [spec_l01New.l0, if_pos (by omega), if_neg (by omega)])⟩
    · exact ⟨x, ev_end (fun k => by rw [spec_l01New.l0, if_neg (by omega)])⟩
  | succ d ih =>
    intro i x hd hi
    by_cases hlt : i < l.length
    · obtain ⟨h, hh⟩ := ih (i + 1) (Go.bits .and .i64 (wrap64 ((wrap64 ((wrap64 (x * 131)) + (wrap64 (rd l i)))) + 7)) 1073741823) (by omega) (by omega)
      exact ⟨h, Ev.step (fun k => by rw [spec_l01New.l0, if_pos (by omega), if_pos (by omega), if_pos (by omega), w64 (x := (i : Int) + 1) (by omega) (by omega)]; rfl) hh⟩
    · exact ⟨x, ev_end (fun k => by rw [spec_l01New.l0, if_neg (by omega)])⟩
theorem New_f (l : List Int) (hl : l.length ≤ 140737488351232) : ∃ h, Ev (fun k => spec_l01New.f k l) (l, 0, h) := New_ev l hl 4000 0 _ rfl (by omega)
theorem cur_zero {l : List Int} (hl : l.length ≤ 140737488351232) : Cur l 0 := ⟨by omega, by omega, hl⟩
theorem Byte_f {l : List Int} {i : Int} (h : Int) (c : Cur l i) : ∃ r i' h', spec_l01Byte.f l i h = some (r, i', h') ∧ Cur l i' ∧ 0 ≤ r ∧ r ≤ 255 := by
  obtain ⟨c0, c1, c2⟩ := c
  unfold spec_l01Byte.f
  by_cases hi : i < (l.length : Int)
  · rw [if_pos hi, if_pos c0, w64 (x := i + 1) (by omega) (by omega)]
    exact ⟨_, _, _, rfl, ⟨by omega, by omega, c2⟩, (and255 _).1, (and255 _).2⟩
  · rw [if_neg hi]
    exact ⟨_, _, _, rfl, ⟨c0, c1, c2⟩, (and255 _).1, (and255 _).2⟩
theorem Below_f {l : List Int} {i : Int} (h n : Int) (hn : n ≤ 4294967296) (c : Cur l i) : ∃ r i' h', spec_l01Below.f l i h n = some (r, i', h') ∧ Cur l i' ∧ (0 < n → 0 ≤ r ∧ r < n) ∧ (n ≤ 0 → r = 0) := by
  unfold spec_l01Below.f
  by_cases h0 : n ≤ 0
  · rw [if_pos h0]
    exact ⟨_, _, _, rfl, c, fun h => by omega, fun _ => rfl⟩
  · rw [if_neg h0]
    by_cases h1 : n ≤ 256
    · rw [if_pos h1]
      obtain ⟨r, i', h', e, c', r0, r1⟩ := Byte_f h c
      rw [e]
      simp only [Option.bind_some]
      rw [if_neg (by omega)]
      exact ⟨_, _, _, rfl, c', fun _ => by rw [Int.tmod_eq_emod_of_nonneg r0]; exact ⟨Int.emod_nonneg _ (by omega), Int.emod_lt_of_pos _ (by omega)⟩, fun h => by omega⟩
    · rw [if_neg h1]
      obtain ⟨ra, ia, ha, ea, ca, a0, a1⟩ := Byte_f h c
      rw [ea]
      simp only [Option.bind_some]
      obtain ⟨rb, ib, hb, eb, cb, b0, b1⟩ := Byte_f ha ca
      rw [eb]
      simp only [Option.bind_some]
      obtain ⟨rc, ic, hc, ec, cc, c0, c1⟩ := Byte_f hb cb
      rw [ec]
      simp only [Option.bind_some]
      obtain ⟨rd, id, hd, ed, cd, d0, d1⟩ := Byte_f hc cc
      rw [ed]
      simp only [Option.bind_some]
      rw [if_neg (by omega)]
      refine ⟨_, _, _, rfl, cd, fun _ => ?_, fun h => by omega⟩
      have e1 : wrap64 (ra * 16777216) = ra * 16777216 := w64 (by omega) (by omega)
      have e2 : wrap64 (rb * 65536) = rb * 65536 := w64 (by omega) (by omega)
      have e3 : wrap64 (rc * 256) = rc * 256 := w64 (by omega) (by omega)
      have e4 : wrap64 (ra * 16777216 + rb * 65536) = ra * 16777216 + rb * 65536 := w64 (by omega) (by omega)
      have e5 : wrap64 (ra * 16777216 + rb * 65536 + rc * 256) = ra * 16777216 + rb * 65536 + rc * 256 := w64 (by omega) (by omega)
      have e6 : wrap64 (ra * 16777216 + rb * 65536 + rc * 256 + rd) = ra * 16777216 + rb * 65536 + rc * 256 + rd := w64 (by omega) (by omega)
      rw [e1, e2, e3, e4, e5, e6, Int.tmod_eq_emod_of_nonneg (by omega)]
      exact ⟨Int.emod_nonneg _ (by omega), Int.emod_lt_of_pos _ (by omega)⟩

theorem Places_ev (l : List Int) : ∀ (d n : Nat) (acc : List Int) (i h : Int), 12 - n = d → n ≤ 12 → acc.length = n → (∀ x ∈ acc, 0 ≤ x ∧ x < 10000) → Cur l i →
    ∃ r, Ev (fun k => spec_DrawPlaces.l0 k acc (n : Int) l i h) r ∧ r.length = 12 ∧ ∀ x ∈ r, 0 ≤ x ∧ x < 10000 := by
  intro d
  induction d with
  | zero =>
    intro n acc i h hd hn ha hx c
    exact ⟨acc, ev_end (fun k => by rw [spec_DrawPlaces.l0, if_neg (by omega)]), by omega, hx⟩
  | succ d ih =>
    intro n acc i h hd hn ha hx c
    obtain ⟨r, i', h', e, c', hr, _⟩ := Below_f h 10000 (by omega) c
    have hr := hr (by omega)
    obtain ⟨q, hq, q1, q2⟩ := ih (n + 1) (acc ++ [r]) i' h' (by omega) (by omega) (by simp; omega) (fun x hm => by
      rcases List.mem_append.1 hm with hm | hm
      · exact hx x hm
      · rw [List.mem_singleton.1 hm]; exact hr) c'
    refine ⟨q, ?_, q1, q2⟩
    refine Ev.step (fun k => by rw [spec_DrawPlaces.l0, if_pos (by omega), e, Option.bind_some, if_pos (by omega), w64 (x := (n : Int) + 1) (by omega) (by omega)]) ?_
    exact hq
theorem Places_f (l : List Int) (hl : l.length ≤ 140737488351232) : ∃ r, Ev (fun k => spec_DrawPlaces.f k l) r ∧ r.length = 12 ∧ ∀ x ∈ r, 0 ≤ x ∧ x < 10000 := by
  obtain ⟨h, hh⟩ := New_f l hl
  obtain ⟨r, i', h', e, c', _⟩ := Byte_f h (cur_zero hl)
  obtain ⟨q, hq, q1⟩ := Places_ev l 12 0 [] i' h' (by omega) (by omega) rfl (by simp) c'
  exact ⟨q, Ev.bind hh (ev_now e hq), q1⟩

/-! a drawn arena is right, and small -/
def smallN (x : S34) : Prop := (-1 ≤ x.f0 ∧ x.f0 ≤ 1000000) ∧ (-1 ≤ x.f1 ∧ x.f1 ≤ 1000000) ∧ (-1 ≤ x.f2 ∧ x.f2 ≤ 1000000) ∧ (-1 ≤ x.f3 ∧ x.f3 ≤ 1000000)
theorem small_int {n : Int} (h : -1 ≤ n ∧ n ≤ 1000000) : (Lit.int .i64 n).wf = true := by
  simp [Lit.wf, IntKind.min, IntKind.max, IntKind.signed, IntKind.bits]
  omega
theorem small_wf {x : S34} (h : smallN x) : wf1 x = true := by
  unfold wf1
  rw [small_int h.1, small_int h.2.1, small_int h.2.2.1, small_int h.2.2.2]
  rfl
theorem pick_in {l : List Int} {i : Int} (h : Int) (c : Cur l i) (xs : List Int) (h0 : 0 < xs.length) (h1 : xs.length ≤ 1000) : ∃ r i' h', spec_l01PickInt.f l i h xs = some (r, i', h') ∧ Cur l i' ∧ r ∈ xs := by
  obtain ⟨r, i', h', e, c', r0, _⟩ := Below_f h (xs.length : Int) (by omega) c
  have hr := r0 (by omega)
  unfold spec_l01PickInt.f
  rw [e]
  simp only [Option.bind_some]
  rw [if_pos hr.1, if_pos hr.2]
  refine ⟨_, _, _, rfl, c', ?_⟩
  obtain ⟨n, hn⟩ := Int.eq_ofNat_of_zero_le hr.1
  rw [hn, rd_nat (by omega)]
  exact List.getElem_mem _
theorem nodeOf_app {l : List S34} {x : S34} {j : Nat} (h : j < l.length) : nodeOf (l ++ [x]) j = nodeOf l j := by
  rw [nodeOf_get (by simp; omega), nodeOf_get h, List.getElem_append_left h]
theorem nodeOf_last (l : List S34) (x : S34) : nodeOf (l ++ [x]) l.length = x := by
  rw [nodeOf_get (by simp)]
  simp
theorem atV_none {l : List S34} {x : S34} (h : atV l x = -1) : ∀ y ∈ l, sameN y x = false := by
  unfold atV at h
  cases hf : l.findIdx? (fun y => sameN y x) with
  | none =>
    intro y hy
    have := List.findIdx?_eq_none_iff.1 hf y hy
    simpa using this
  | some m =>
    rw [hf] at h
    exfalso
    have h2 : (m : Int) = -1 := h
    omega
theorem aok_app {l : List S34} {x : S34} (h : aok l = true) (hl : l.length < 3000) (hb : nodeB x.f0 x.f1 x.f2 x.f3 (l.length : Int) = true) (ha : atV l x = -1) : aok (l ++ [x]) = true := by
  have hp := (aok_parts h).2
  refine aok_true (by simp; omega) (fun j hj => ?_)
  rcases Nat.lt_or_ge j l.length with hlt | hge
  · have hj' := hp j hlt
    refine ⟨?_, ?_⟩
    · unfold rightAt
      rw [nodeOf_app hlt]
      exact hj'.1
    · unfold dupAt
      rw [nodeOf_app hlt, List.take_append_of_le_length (by omega)]
      exact hj'.2
  · have e : j = l.length := by simp at hj; omega
    subst e
    refine ⟨?_, ?_⟩
    · unfold rightAt
      rw [nodeOf_last]
      exact hb
    · unfold dupAt
      rw [nodeOf_last, List.take_left, List.any_eq_false]
      intro y hy
      rw [atV_none ha y hy]
      simp
theorem aok_put {l : List S34} (x : S34) (h : aok l = true) : aok (putN l x).1 = true := by
  rcases putN_cases l x with ⟨e, _⟩ | ⟨hb, _, ⟨e, _⟩ | ⟨ha, hl, e, _⟩⟩
  · rw [e]; exact h
  · rw [e]; exact h
  · rw [e]; exact aok_app h hl hb ha
theorem put_length (l : List S34) (x : S34) : l.length ≤ (putN l x).1.length ∧ (putN l x).1.length ≤ l.length + 1 := by
  rcases putN_cases l x with ⟨e, _⟩ | ⟨hb, _, ⟨e, _⟩ | ⟨ha, hl, e, _⟩⟩
  · rw [e]; omega
  · rw [e]; omega
  · rw [e]; simp
theorem put_first {p : Int} (h : 0 ≤ p ∧ p ≤ 999999) : (putN ([] : List S34) ⟨1, p, 0, 0⟩).1 = [⟨1, p, 0, 0⟩] := by
  unfold putN
  have h1 : nodeB 1 p 0 0 (([] : List S34).length : Int) = true := by
    unfold nodeB
    rw [if_pos rfl]
    simp [h.1, h.2]
  rw [if_pos h1]
  rfl
theorem nums_in {p : Int} (h : p ∈ ([0, 1, 5, 1000, 5000, 10000, 10001] : List Int)) : 0 ≤ p ∧ p ≤ 999999 := by
  simp at h
  omega
theorem once_f {l : List Int} {i : Int} (h : Int) (c : Cur l i) (n : Int) (hn : n ≤ 4294967296) : ∃ r i' h', spec_l01Once.f l i h n = some (r, i', h') ∧ Cur l i' := by
  obtain ⟨r, i', h', e, c', _, _⟩ := Below_f h n hn c
  unfold spec_l01Once.f
  rw [e]
  exact ⟨_, _, _, rfl, c'⟩
theorem body_f {l : List Int} {i : Int} (h : Int) (c : Cur l i) (ns : List S34) (ha : aok ns = true) (hl : ns.length ≤ 2000) : ∃ r i' h', arenaBody l i h ns = some (r, i', h') ∧ Cur l i' ∧ aok r = true ∧ ns.length ≤ r.length ∧ r.length ≤ ns.length + 1 ∧ 1 ≤ r.length := by
  have atom : ∀ (i h : Int), Cur l i → ∃ r i' h', ((spec_l01PickInt.f l i h ([0, 1, 5, 1000, 5000, 10000, 10001] : List Int)).bind fun p => some ((putN ns ⟨1, p.1, 0, 0⟩).1, p.2.1, p.2.2)) = some (r, i', h') ∧ Cur l i' ∧ aok r = true ∧ ns.length ≤ r.length ∧ r.length ≤ ns.length + 1 ∧ 1 ≤ r.length := by
    intro i h c
    obtain ⟨p, i1, h1, e, c1, hp⟩ := pick_in h c [0, 1, 5, 1000, 5000, 10000, 10001] (by decide) (by decide)
    rw [e, Option.bind_some]
    refine ⟨_, _, _, rfl, c1, aok_put _ ha, (put_length _ _).1, (put_length _ _).2, ?_⟩
    by_cases hz : ns = []
    · subst hz
      show 1 ≤ (putN [] (⟨1, p, 0, 0⟩ : S34)).1.length
      rw [put_first (nums_in hp)]
      simp
    · have h1 := (put_length ns (⟨1, p, 0, 0⟩ : S34)).1
      have h2 : 0 < ns.length := List.length_pos_iff.2 hz
      simp only
      omega
  unfold arenaBody
  by_cases h2 : ns.length < 2
  · rw [if_pos h2, Option.bind_some, if_pos rfl]
    exact atom i h c
  · rw [if_neg h2]
    obtain ⟨r, i1, h1, e, c1⟩ := once_f h c 3 (by omega)
    rw [e, Option.bind_some]
    by_cases hr : r = true
    · rw [if_pos hr]
      exact atom i1 h1 c1
    · rw [if_neg hr]
      obtain ⟨q, i2, h2', e2, c2, b2, _⟩ := Below_f h1 8 (by omega) c1
      have hq := b2 (by omega)
      rw [e2, Option.bind_some, if_pos ⟨hq.1, by omega⟩]
      obtain ⟨x, i3, h3, e3, c3, _, _⟩ := Below_f h2' (ns.length : Int) (by omega) c2
      rw [e3, Option.bind_some]
      obtain ⟨y, i4, h4, e4, c4, _, _⟩ := Below_f h3 (ns.length : Int) (by omega) c3
      rw [e4, Option.bind_some]
      exact ⟨_, _, _, rfl, c4, aok_put _ ha, (put_length _ _).1, (put_length _ _).2, by have := (put_length ns (⟨2 + q, 0, x, if 2 + q = 3 ∨ 2 + q = 6 then 0 else y⟩ : S34)).1; simp only; omega⟩
theorem loop_f {l : List Int} : ∀ (d j : Nat) (ns : List S34) (i h : Int), j + d = 13 → j ≤ 12 → Cur l i → aok ns = true → ns.length ≤ j → (0 < j → 1 ≤ ns.length) → ∃ r i' h', arenaLoop d l i h (j : Int) ns = some (r, i', h') ∧ Cur l i' ∧ aok r = true ∧ 1 ≤ r.length ∧ r.length ≤ 12 := by
  intro d
  induction d with
  | zero => intro j ns i h hd hj; omega
  | succ d ih =>
    intro j ns i h hd hj c ha hn h1
    rw [arenaLoop]
    obtain ⟨b, i1, h1', e, c1, b1, _⟩ := Below_f h 10 (by omega) c
    have hb := b1 (by omega)
    rw [e, Option.bind_some, if_pos ⟨hb.1, by omega⟩]
    by_cases hlt : (j : Int) < 3 + b
    · rw [if_pos hlt]
      obtain ⟨r, i2, h2, e2, c2, a2, l1, l2, l3⟩ := body_f h1' c1 ns ha (by omega)
      rw [e2, Option.bind_some]
      obtain ⟨q, i3, h3, e3, c3, a3, m1, m2⟩ := ih (j + 1) r i2 h2 (by omega) (by omega) c2 a2 (by omega) (fun _ => l3)
      refine ⟨q, i3, h3, ?_, c3, a3, m1, m2⟩
      rw [← e3]
      rfl
    · rw [if_neg hlt]
      exact ⟨_, _, _, rfl, c1, ha, h1 (by omega), by omega⟩
theorem Arena_f {l : List Int} {i : Int} (h : Int) (c : Cur l i) : ∃ r i' h', spec_l03Arena.f l i h = some (r, i', h') ∧ Cur l i' ∧ aok r = true ∧ 1 ≤ r.length ∧ r.length ≤ 12 :=
  loop_f 13 0 [] i h (by omega) (by omega) c (by rfl) (by simp) (fun h => by omega)
theorem right_small {x : S34} {k : Int} (h : nodeB x.f0 x.f1 x.f2 x.f3 k = true) (hk : k ≤ 3000) : smallN x := by
  unfold nodeB at h
  unfold smallN
  by_cases h1 : x.f0 = 1
  · rw [if_pos h1] at h
    simp only [Bool.and_eq_true, decide_eq_true_eq] at h
    omega
  · rw [if_neg h1] at h
    by_cases h3 : x.f0 = 3 ∨ x.f0 = 6
    · rw [if_pos h3] at h
      simp only [Bool.and_eq_true, decide_eq_true_eq] at h
      omega
    · rw [if_neg h3] at h
      simp only [Bool.and_eq_true, decide_eq_true_eq] at h
      omega
theorem aok_small {l : List S34} (h : aok l = true) : ∀ x ∈ l, smallN x := by
  intro x hx
  obtain ⟨j, hj, rfl⟩ := List.mem_iff_getElem.1 hx
  obtain ⟨h1, h2⟩ := aok_parts h
  have := (h2 j hj).1
  unfold rightAt at this
  rw [nodeOf_get hj] at this
  exact right_small this (by omega)
theorem small_all {l : List S34} (h : ∀ x ∈ l, smallN x) : l.all wf1 = true := List.all_eq_true.2 (fun x hx => small_wf (h x hx))

/-! a right node is put: where it lies -/
theorem sameN_refl (x : S34) : sameN x x = true := by simp [sameN]
theorem put_ok {l : List S34} {x : S34} (h : aok l = true) (hl : l.length < 3000) (hb : nodeB x.f0 x.f1 x.f2 x.f3 (l.length : Int) = true) :
    ∃ (L : List S34) (m : Nat), putN l x = (L, (m : Int)) ∧ aok L = true ∧ m < L.length ∧ nodeOf L m = x ∧ l.length ≤ L.length ∧ L.length ≤ l.length + 1 ∧ ∀ j, j < l.length → nodeOf L j = nodeOf l j := by
  have hok := aok_put x h
  have hlen := put_length l x
  rcases atV_cases l x with ha | ⟨h0, h1, h2⟩
  · have e : putN l x = (l ++ [x], (l.length : Int)) := by
      unfold putN
      rw [if_pos hb, if_neg (by omega), if_neg (by omega)]
    rw [e] at hok hlen
    exact ⟨_, l.length, e, hok, by simp, nodeOf_last l x, hlen.1, hlen.2, fun j hj => nodeOf_app hj⟩
  · have e : putN l x = (l, ((atV l x).toNat : Int)) := by
      unfold putN
      rw [if_pos hb, if_pos h0]
      congr 1
      omega
    exact ⟨l, (atV l x).toNat, e, h, by omega, h2, Nat.le_refl _, by omega, fun j hj => rfl⟩
theorem put_ok4 {l : List S34} (a b c d : Int) (h : aok l = true) (hl : l.length < 3000) (hb : nodeB a b c d (l.length : Int) = true) :
    ∃ (L : List S34) (m : Nat), putN l ⟨a, b, c, d⟩ = (L, (m : Int)) ∧ aok L = true ∧ m < L.length ∧ nodeOf L m = ⟨a, b, c, d⟩ ∧ l.length ≤ L.length ∧ L.length ≤ l.length + 1 ∧ ∀ j, j < l.length → nodeOf L j = nodeOf l j := put_ok (x := ⟨a, b, c, d⟩) h hl hb
theorem putB_ok {l L : List S34} {x : S34} {m : Nat} (h : putN l x = (L, (m : Int))) : putB l false x = (L, false, (m : Int)) := by
  unfold putB
  rw [if_neg (by simp), h, if_neg (by simp only; omega)]
theorem end_ok {l L : List S34} {m : Nat} : endN l (L, false, (m : Int)) = (L, (m : Int)) := by
  unfold endN
  rw [if_neg (by simp)]
/-- what is there is found where it is -/
theorem put_there {l : List S34} {m : Nat} (h : aok l = true) (hm : m < l.length) : putN l (nodeOf l m) = (l, (m : Int)) := by
  have hp := (aok_parts h).2 m hm
  have ha := (atV_self hm).2 hp.2
  have hb := hp.1
  unfold rightAt at hb
  have hb2 : nodeB (nodeOf l m).f0 (nodeOf l m).f1 (nodeOf l m).f2 (nodeOf l m).f3 (l.length : Int) = true := by
    obtain ⟨a, b, c, d, e⟩ := node_parts hb
    unfold nodeB
    by_cases h1 : (nodeOf l m).f0 = 1
    · rw [if_pos h1]; have := b h1; simp; omega
    · rw [if_neg h1]
      have hc := c h1
      by_cases h3 : (nodeOf l m).f0 = 3 ∨ (nodeOf l m).f0 = 6
      · rw [if_pos h3]; have := d h3; simp; omega
      · rw [if_neg h3]; have := e h1 h3; simp; omega
  unfold putN
  rw [if_pos hb2, ha, if_pos (by omega)]

/-! a term's size and text are the same in an arena that has more -/
theorem sizes_app {l L : List S34} : ∀ {k : Nat}, (∀ j, j < k → nodeOf L j = nodeOf l j) → sizes L k = sizes l k := by
  intro k
  induction k with
  | zero => intro _; rfl
  | succ k ih =>
    intro h
    have hk := h k (by omega)
    rw [sizes, sizes, ih (fun j hj => h j (by omega))]
    congr 2
    unfold size1 rightAt
    rw [hk]
theorem szAt_app {l L : List S34} {k : Nat} (h : ∀ j, j ≤ k → nodeOf L j = nodeOf l j) : szAt L k = szAt l k := by
  unfold szAt
  rw [sizes_app (fun j hj => h j (by omega))]
  unfold size1 rightAt
  rw [h k (by omega)]
theorem termL_app {l L : List S34} : ∀ (n k : Nat), (∀ j, j ≤ k → nodeOf L j = nodeOf l j) → 0 < szAt l k → termL L n k = termL l n k := by
  intro n
  induction n with
  | zero => intro k _ _; rfl
  | succ n ih =>
    intro k h hp
    have hback := sz_pos_back l k hp
    have hr := (hback k (by omega)).1
    obtain ⟨_, _, h2, h3⟩ := right_parts hr
    rw [termL, termL, h k (by omega)]
    congr 1
    by_cases h1 : (nodeOf l k).f0 = 1
    · rw [if_pos h1, if_pos h1]
    · rw [if_neg h1, if_neg h1]
      obtain ⟨a, ha, hak⟩ := h2 h1
      rw [ha, Int.toNat_natCast, ih a (fun j hj => h j (by omega)) (hback a (by omega)).2]
      congr 1
      by_cases ho : oneKind (nodeOf l k).f0 = true
      · rw [if_pos ho, if_pos ho]
      · rw [if_neg ho, if_neg ho]
        obtain ⟨b, hb, hbk⟩ := h3 h1 (by simpa using ho)
        rw [hb, Int.toNat_natCast, ih b (fun j hj => h j (by omega)) (hback b (by omega)).2]
theorem sizeOf_app {l L : List S34} (hle : l.length ≤ L.length) (h : ∀ j, j < l.length → nodeOf L j = nodeOf l j) {k : Nat} (hk : k < l.length) : sizeOf L (k : Int) = sizeOf l (k : Int) := by
  unfold sizeOf
  rw [if_pos (by omega), if_pos (by omega), Int.toNat_natCast, szAt_app (fun j hj => h j (by omega))]
theorem termText_app {l L : List S34} (hle : l.length ≤ L.length) (h : ∀ j, j < l.length → nodeOf L j = nodeOf l j) {k : Nat} (hk : k < l.length) : termText L (k : Int) = termText l (k : Int) := by
  have hs := sizeOf_app hle h hk
  unfold termText
  rw [hs]
  by_cases hc : 1 ≤ sizeOf l (k : Int) ∧ sizeOf l (k : Int) ≤ 2000
  · have hz : sizeOf l (k : Int) = szAt l k := by unfold sizeOf; rw [if_pos (by omega), Int.toNat_natCast]
    rw [if_pos hc, if_pos hc, Int.toNat_natCast, termL_app (k + 1) k (fun j hj => h j (by omega)) (by omega)]
  · rw [if_neg hc, if_neg hc]

/-! the order of two texts -/
theorem less_asym : ∀ (a b : List UInt8), Op.bytesLess a b = true → Op.bytesLess b a = false
  | _, [], h => by simp [Op.bytesLess] at h
  | [], _ :: _, _ => by simp [Op.bytesLess]
  | a :: x, b :: y, h => by
    rw [Op.bytesLess] at h ⊢
    simp only [Bool.or_eq_true, decide_eq_true_eq, Bool.and_eq_true, beq_iff_eq, Bool.or_eq_false_iff, decide_eq_false_iff_not, Bool.and_eq_false_iff] at h ⊢
    rcases h with h | ⟨rfl, h⟩
    · refine ⟨fun h2 => ?_, .inl ?_⟩
      · have h3 := UInt8.lt_iff_toNat_lt.1 h; have h4 := UInt8.lt_iff_toNat_lt.1 h2; omega
      · have h3 := UInt8.lt_iff_toNat_lt.1 h
        cases hq : (b == a)
        · rfl
        · rw [beq_iff_eq.1 hq] at h3; omega
    · refine ⟨fun h2 => by have h4 := UInt8.lt_iff_toNat_lt.1 h2; omega, .inr (less_asym x y h)⟩
theorem less_total : ∀ (a b : List UInt8), Op.bytesLess a b = false → Op.bytesLess b a = false → a = b
  | [], [], _, _ => rfl
  | _ :: _, [], _, h => by simp [Op.bytesLess] at h
  | [], _ :: _, h, _ => by simp [Op.bytesLess] at h
  | a :: x, b :: y, h1, h2 => by
    rw [Op.bytesLess] at h1 h2
    simp only [Bool.or_eq_false_iff, decide_eq_false_iff_not, Bool.and_eq_false_iff] at h1 h2
    have e : a = b := by
      apply UInt8.toNat_inj.1
      have h3 := h1.1
      have h4 := h2.1
      rw [UInt8.lt_iff_toNat_lt] at h3 h4
      omega
    subst e
    have h5 := h1.2.resolve_left (by simp)
    have h6 := h2.2.resolve_left (by simp)
    rw [less_total x y h5 h6]
theorem dhPick_swap (t1 t2 : ByteArray) (x y : Int) : dhPick t2 t1 y x = dhPick t1 t2 x y := by
  unfold dhPick
  cases h1 : Op.bytesLess t1.toList t2.toList with
  | true =>
    have h2 := less_asym _ _ h1
    rw [h2]
    have hne : (t2.toList == t1.toList) = false := by
      cases hq : (t2.toList == t1.toList)
      · rfl
      · rw [beq_iff_eq.1 hq] at h1
        have := less_asym _ _ h1
        rw [h1] at this
        cases this
    rw [hne]
    simp
  | false =>
    cases h2 : Op.bytesLess t2.toList t1.toList with
    | true =>
      have hne : (t1.toList == t2.toList) = false := by
        cases hq : (t1.toList == t2.toList)
        · rfl
        · rw [beq_iff_eq.1 hq] at h1
          rw [beq_iff_eq.1 hq] at h2
          rw [h1] at h2
          cases h2
      rw [hne]
      simp
    | false =>
      have e := less_total _ _ h1 h2
      rw [e]
      simp only [beq_self_eq_true, Bool.true_and, Bool.false_or, decide_eq_true_eq]
      by_cases h3 : x < y
      · rw [if_pos h3, if_neg (by omega)]
      · rw [if_neg h3]
        by_cases h4 : y < x
        · rw [if_pos h4]
        · rw [if_neg h4]
          have : x = y := by omega
          rw [this]
theorem dhPick_cases (t1 t2 : ByteArray) (x y : Int) : dhPick t1 t2 x y = (x, y) ∨ dhPick t1 t2 x y = (y, x) := by
  unfold dhPick
  split
  · exact .inr rfl
  · exact .inl rfl

/-! a law's own arena, in a block of the call's own -/
def LA (w wr : World) (ga : Nat) (A : Option Addr) (c : Nat) (L : List S34) : Prop := wr.heap[ga]? = some (.cells #[.slice A L.length c] 26 (0, 0)) ∧ Kd.R k34 34 wr w.heap.size (fun k => k ≠ ga) (.slice A L.length c) L ∧ L.length ≤ c ∧ w.heap.size ≤ ga ∧ Below w.heap.size w wr
theorem LA.blk {w wr : World} {ga : Nat} {A : Option Addr} {c : Nat} {L : List S34} (h : LA w wr ga A c L) : wr.heap[ga]? = some (.cells #[.slice A L.length c] 26 (0, 0)) := h.1
theorem LA.row {w wr : World} {ga : Nat} {A : Option Addr} {c : Nat} {L : List S34} (h : LA w wr ga A c L) : Kd.C k34 wr A L.length L := (Kd.R_reads' h.2.1).2.2
theorem LA.cap {w wr : World} {ga : Nat} {A : Option Addr} {c : Nat} {L : List S34} (h : LA w wr ga A c L) : L.length ≤ c := h.2.2.1
theorem LA.bel {w wr : World} {ga : Nat} {A : Option Addr} {c : Nat} {L : List S34} (h : LA w wr ga A c L) : Below w.heap.size w wr := h.2.2.2.2
theorem LA.below {w wr w1 : World} {ga : Nat} {A : Option Addr} {c : Nat} {L : List S34} (h : LA w wr ga A c L) (hb : Below wr.heap.size wr w1) : LA w w1 ga A c L :=
  ⟨blk_below h.1 hb, Kd.R_below h.2.1 hb, h.2.2.1, h.2.2.2.1, below_step h.2.2.2.2 hb⟩
theorem LA.cell {w wr : World} {ga : Nat} {A : Option Addr} {c : Nat} {L : List S34} (h : LA w wr ga A c L) : wr.cell? ⟨ga, 0, none⟩ = some (.slice A L.length c) := (blk_cell h.1 0).trans rfl
theorem LA.frozen {w wr : World} {ga : Nat} {A : Option Addr} {c : Nat} {L : List S34} (h : LA w wr ga A c L) : wr.frozen? ⟨ga, 0, none⟩ = false := blk_frozen h.1 0
/-- a call's arena, stored in the law's own -/
theorem LA.put {w wr w1 : World} {ga : Nat} {A A1 : Option Addr} {c c1 : Nat} {L L1 : List S34} (h : LA w wr ga A c L) (ho : Kd.R k34 34 w1 wr.heap.size (fun _ => True) (.slice A1 L1.length c1) L1) (hb : Below wr.heap.size wr w1) : LA w (w1.setCell ⟨ga, 0, none⟩ (.slice A1 L1.length c1)) ga A1 c1 L1 := by
  have hlt : ga < wr.heap.size := blk_lt h.1
  have ho2 : Kd.R k34 34 w1 w.heap.size (fun k => k ≠ ga) (.slice A1 L1.length c1) L1 := Kd.R_lower (Kd.R_mono (Kd.R_bound ho) (fun k hk e => by have := hk.2.1; omega)) h.2.2.2.2.size
  exact ⟨blk_put (blk_below h.1 hb) 0 _ rfl, Kd.R_far (p := ⟨ga, 0, none⟩) ho2 (fun k hk => hk) _, (Kd.R_reads' ho).2.1, h.2.2.2.1, below_set (below_step h.2.2.2.2 hb) h.2.2.2.1⟩
theorem LA.new {w w3 : World} {ga : Nat} (hb : w3.heap[ga]? = some (.cells #[.slice none 0 0] 26 (0, 0))) (hg : w.heap.size ≤ ga) (h3 : Below w.heap.size w w3) : LA w w3 ga none 0 [] :=
  ⟨hb, Kd.R_nil _ _ _ _ _, by simp, hg, h3⟩
/-- a literal of whole numbers, just made -/
theorem lit_C (W : World) (xs : List Int) (hx : xs.length ≤ 1000) : Kd.C (Kd.int .i64) (W.alloc (.cells (encs (Value.int .i64) xs).toArray 3)) (some ⟨W.heap.size, 0, none⟩) xs.length xs := by
  have h : Kd.R (Kd.int .i64) 3 (W.alloc (.cells (encs (Value.int .i64) xs).toArray 3)) W.heap.size (fun _ => True) (.slice (some ⟨W.heap.size, 0, none⟩) xs.length xs.length) xs := by
    refine ⟨fun _ _ => trivial, encs (Value.int .i64) xs, ?_, Kd.reps_scalar xs⟩
    have h2 := World.ownsRow_lit (base := W.heap.size) (e := 3) (size := 1) W (encs (Value.int .i64) xs).toArray xs.length (Nat.le_refl _) (by unfold maxLen; omega) (by simp [encs])
    exact h2
  exact (Kd.R_reads' h).2.2

theorem LA.first {w w2 w3 w4 : World} {ga : Nat} {A : Option Addr} {c : Nat} {L : List S34} (ho : Kd.R k34 34 w3 w2.heap.size (fun _ => True) (.slice A L.length c) L) (h2 : Below w.heap.size w w2) (h3 : Below w2.heap.size w2 w3) (hb : w4.heap[ga]? = some (.cells #[.slice none 0 0] 26 (0, 0))) (hg : ga = w3.heap.size) (h4 : Below w3.heap.size w3 w4) :
    LA w (w4.setCell ⟨ga, 0, none⟩ (.slice A L.length c)) ga A c L := by
  have hs : w.heap.size ≤ ga := by rw [hg]; exact Nat.le_trans h2.size h3.size
  have hw := Kd.R_lower (Kd.R_mono (Kd.R_bound ho) (fun k hk => (show k ≠ ga by have := hk.2.2; omega))) h2.size
  exact ⟨blk_put hb 0 _ rfl, Kd.R_far (p := ⟨ga, 0, none⟩) (Kd.R_below hw h4) (fun k hk => hk) _, (Kd.R_reads' ho).2.1, hs, below_set (below_step (below_step h2 h3) h4) hs⟩
def LP (w wr : World) (ga : Nat) (A : Option Addr) (c : Nat) (L : List S34) (cs : List (Addr × Value)) : Prop := LA w wr ga A c L ∧ ∀ p ∈ cs, wr.cell? p.1 = some p.2 ∧ p.1.block ≠ ga
theorem LP.la {w wr : World} {ga : Nat} {A : Option Addr} {c : Nat} {L : List S34} {cs : List (Addr × Value)} (h : LP w wr ga A c L cs) : LA w wr ga A c L := h.1
theorem LP.below {w wr w1 : World} {ga : Nat} {A : Option Addr} {c : Nat} {L : List S34} {cs : List (Addr × Value)} (h : LP w wr ga A c L cs) (hb : Below wr.heap.size wr w1) : LP w w1 ga A c L cs :=
  ⟨h.1.below hb, fun p hp => ⟨(hb.cell (World.block_lt_of_cell? wr _ (h.2 p hp).1)).trans (h.2 p hp).1, (h.2 p hp).2⟩⟩
theorem LP.put {w wr w1 : World} {ga : Nat} {A A1 : Option Addr} {c c1 : Nat} {L L1 : List S34} {cs : List (Addr × Value)} (h : LP w wr ga A c L cs) (ho : Kd.R k34 34 w1 wr.heap.size (fun _ => True) (.slice A1 L1.length c1) L1) (hb : Below wr.heap.size wr w1) : LP w (w1.setCell ⟨ga, 0, none⟩ (.slice A1 L1.length c1)) ga A1 c1 L1 cs := by
  have h2 := h.below hb
  refine ⟨h.1.put ho hb, fun p hp => ⟨?_, (h2.2 p hp).2⟩⟩
  rw [World.cell?_setCell_other _ _ _ _ (by intro e; exact (h2.2 p hp).2 (by first | exact congrArg Addr.block e | exact (congrArg Addr.block e).symm | exact e.1 | exact e.1.symm))]
  exact (h2.2 p hp).1
theorem LP.at_ {w wr : World} {ga : Nat} {A : Option Addr} {c : Nat} {L : List S34} {cs : List (Addr × Value)} (h : LP w wr ga A c L cs) (i : Nat) {ad : Addr} {v : Value} (hi : cs[i]? = some (ad, v)) : wr.cell? ad = some v := (h.2 _ (List.mem_of_getElem? hi)).1
theorem LP.add {w wr : World} {ga : Nat} {A : Option Addr} {c : Nat} {L : List S34} {cs : List (Addr × Value)} (h : LP w wr ga A c L cs) {ad : Addr} {v : Value} (hc : wr.cell? ad = some v) (hn : ad.block ≠ ga) : LP w wr ga A c L ((ad, v) :: cs) :=
  ⟨h.1, fun p hp => by rcases List.mem_cons.1 hp with rfl | hp; exact ⟨hc, hn⟩; exact h.2 p hp⟩
theorem impl_list3 (A : Option Addr) (c : Nat) (L : List S34) (x y s : Int) (r1 : List S34) (r2 : Int) (q : World) (n : Nat) (hn : n = q.heap.size) (hC : Kd.C k34 q A L.length L) (hc : L.length ≤ c) (h : impl_List.f L [x, y, s] = some (r1, r2)) :
    Calls Try.prog 35 #[.agg #[.slice A L.length c], .slice (some ⟨n, 0, none⟩) 3 3] (q.alloc (.cells #[.int .i64 x, .int .i64 y, .int .i64 s] 3)) fun e w' => ∃ v0_ : Value, e = .returned (.tuple #[.agg #[v0_], .int .i64 r2]) ∧ Kd.R k34 34 w' q.heap.size (fun _ => True) v0_ r1 ∧ Below q.heap.size q w' := by
  subst hn
  exact (impl_List.calls A c L (some ⟨q.heap.size, 0, none⟩) 3 [x, y, s] r1 r2 _ (Kd.C_below hC (below_alloc (Below.refl _ _) _)) hc (lit_C q [x, y, s] (by simp)) (Nat.le_refl _) h).mono fun e w' ⟨v, h1, h2, h3⟩ => ⟨v, h1, Kd.R_lower h2 (by show q.heap.size ≤ (q.heap.push _).size; simp), below_step (below_alloc (Below.refl _ _) _) h3⟩

set_option maxHeartbeats 8000000 in
set_option maxRecDepth 100000 in
theorem law_makes (A0 : Option Addr) (c0 : Nat) (l0 : List Int) (k : Nat) (ps q13 : List Int) (p0 p1 p2 x y z x1 s g u v d li c o3 o8 : Int) (bad : Bool) (L0 L1 L2 L3 L4 L5 L6 L7 L8 : List S34) (w : World) (hr0 : Kd.C (Kd.int .u8) w A0 l0.length l0) (hc0 : l0.length ≤ c0)
    (hbig : (l0.length : Int) ≤ 1048576) (h0 : spec_DrawArena.f k l0 = some L0) (hp : spec_DrawPlaces.f k l0 = some ps) (hlen : ps.length = 12) (e0 : rd ps 0 = p0) (e1 : rd ps 1 = p1) (e2 : rd ps 2 = p2) (hx : Int.tmod p0 (L0.length : Int) = x) (hy : Int.tmod p1 (L0.length : Int) = y) (hz : Int.tmod p2 1000 = z) (hn0 : (L0.length : Int) ≠ 0) (hxx : wrap64 (x + 1) = x1)
    (h1 : impl_MakeTwo.f L0 5 x y = some (L1, s)) (h2 : impl_Open.f L1 x s = some (y, true)) (h3 : impl_Open.f L1 x1 s = some (o3, false))
    (h4 : impl_MakeTwo.f L1 8 x y = some (L2, g)) (h5 : impl_MakePub.f L2 x = some (L3, u)) (h6 : impl_MakePub.f L3 y = some (L4, v)) (h7 : impl_Signed.f L4 u g = some (y, true)) (h8 : impl_Signed.f L4 v g = some (o8, bad)) (hbad : bad = false ∨ x = y)
    (h9 : impl_DhOf.f k L4 x v = some (L5, d)) (h10 : impl_DhOf.f k L5 y u = some (L6, d)) (hd : 0 ≤ d) (h11 : impl_List.f L6 [x, y, s] = some (L7, li)) (h12 : impl_Parts.f k L7 li 3 = some ([x, y, s], true)) (h13 : impl_Parts.f k L7 li 2 = some (q13, false)) (h14 : impl_Atom.f L7 z = some (L8, c)) (h15 : impl_NumOf.f L8 c = some (z, true)) (h16 : spec_ArenaOk.f k L8 = some true) :
    Calls Try.prog 9 #[.slice A0 l0.length c0] w fun e w' => e = .returned (.bool true) ∧ Below w.heap.size w w' := by
  have hu26 := Try.underlying26
  have HR0 := Aside0.mk hr0
  have HC0 := Aside0.mk hc0
  have HBIG : Aside0 (laws_big.f l0 = some false) := ⟨by unfold laws_big.f; rw [decide_eq_false (by omega)]⟩
  have H0 := Aside0.mk h0
  have H1 := Aside0.mk h1
  have H2 := Aside0.mk h2
  have H3 := Aside0.mk h3
  have H4 := Aside0.mk h4
  have H5 := Aside0.mk h5
  have H6 := Aside0.mk h6
  have H7 := Aside0.mk h7
  have H8 := Aside0.mk h8
  have H9 := Aside0.mk h9
  have H10 := Aside0.mk h10
  have H11 := Aside0.mk h11
  have H12 := Aside0.mk h12
  have H13 := Aside0.mk h13
  have H14 := Aside0.mk h14
  have H15 := Aside0.mk h15
  have H16 := Aside0.mk h16
  have HP := Aside0.mk hp
  have HLEN := Aside0.mk hlen
  have HBAD := Aside0.mk hbad
  have HD0 := Aside0.mk hd
  have P0 := Aside0.mk e0
  have P1 := Aside0.mk e1
  have P2 := Aside0.mk e2
  have hn0f : ((L0.length : Int) = 0) = False := eq_false hn0
  have hn0g : (L0 = []) = False := eq_false (by intro e; rw [e] at hn0; exact hn0 rfl)
  clear hr0 hc0 hbig h0 h1 h2 h3 h4 h5 h6 h7 h8 h9 h10 h11 h12 h13 h14 h15 h16 hp hlen e0 e1 e2 hn0 hbad hd
  go_enter Try.func9, Try.ntmps9
  go_wp2_with (first
    | (go_at_call 14; ((with_reducible refine (laws_big.calls A0 c0 l0 false _ HR0.out HC0.out HBIG.out).mono ?_); rintro e w2 ⟨rfl, hd_⟩); have HB2 := Aside0.mk hd_.below; clear hd_)
    | (go_at_call 46; ((with_reducible refine (spec_DrawArena.calls k A0 c0 l0 L0 _ (Kd.C_below HR0.out HB2.out) HC0.out H0.out).mono ?_); rintro e w3 ⟨v0, rfl, ho, hb⟩); obtain ⟨B0, b0, rfl, _, _⟩ := Kd.R_reads ho; have HO3 := Aside0.mk ho; have HB3 := Aside0.mk hb; clear ho hb)
    | ((with_reducible refine gate_dst (N := 3) rfl ?_); refine box_event ?hg (N := 3) ?hd (cs := #[.slice none 0 0]) (t := 26) ?hr ?_; (case hd => rfl); (case hg => rfl); (case hr => first | (go_simp; done) | (go_simp; rfl)); intro ga hg1 w4 hbox hb; have BKa := Aside0.mk hbox; have HB4 := Aside0.mk hb; have GA := Aside0.mk hg1; clear hg1 hbox hb; have LA0 := Aside0.mk (LA.first HO3.out HB2.out HB3.out BKa.out GA.out HB4.out); have hca4 : w4.cell? ⟨ga, 0, none⟩ = some (.slice none 0 0) := (blk_cell BKa.out 0).trans rfl; have hfa4 := blk_frozen BKa.out 0; have hci0 : (w4.setCell ⟨ga, 0, none⟩ (.slice B0 L0.length b0)).cell? ⟨ga, 0, none⟩ = some (.slice B0 L0.length b0) := LA0.out.cell)
    | (go_at_call 17; ((with_reducible refine (spec_DrawPlaces.calls k A0 c0 l0 ps _ (Kd.C_below HR0.out LA0.out.bel) HC0.out HP.out).mono ?_); rintro e w5 ⟨vp, rfl, ho, hb⟩); obtain ⟨Ap, cp, rfl, hcp, hCp⟩ := Kd.R_reads ho; obtain ⟨adp, ea0, y0⟩ := Kd.at_int hCp 0 (by omega) (by have := HLEN.out; omega); obtain ⟨adq, ea1, y1⟩ := Kd.at_int hCp 1 (by omega) (by have := HLEN.out; omega); obtain ⟨adr, ea2, y2⟩ := Kd.at_int hCp 2 (by omega) (by have := HLEN.out; omega); rw [P0.out] at y0; rw [P1.out] at y1; rw [P2.out] at y2; cases ea0; cases ea1; cases ea2; have hgap : adp.block ≠ ga := (by have h1 := Kd.R_base ho adp.block (by simp [Value.ownBlock]); have h2 := blk_lt LA0.out.blk; omega); have z0 : w5.cell? adp = some (.int .i64 p0) := (by first | exact y0 | simpa using y0); have z1 : w5.cell? ⟨adp.block, adp.off + 1, none⟩ = some (.int .i64 p1) := y1; have z2 : w5.cell? ⟨adp.block, adp.off + 2, none⟩ = some (.int .i64 p2) := y2; have LB0 := Aside0.mk (LP.add (cs := []) ⟨LA0.out.below hb, by simp⟩ z2 hgap); have hl1 : (0 : Int) < (ps.length : Int) := (by have := HLEN.out; omega); have hl2 : (1 : Int) < (ps.length : Int) := (by have := HLEN.out; omega); have hl3 : (2 : Int) < (ps.length : Int) := (by have := HLEN.out; omega); have hl4 : 0 < ps.length := (by have := HLEN.out; omega); have hl5 : 1 < ps.length := (by have := HLEN.out; omega); have hl6 : 2 < ps.length := (by have := HLEN.out; omega); have hci5 : w5.cell? ⟨ga, 0, none⟩ = some (.slice B0 L0.length b0) := LB0.out.la.cell; have hfi5 := LB0.out.la.frozen; clear ho hb hcp hCp y0 y1 y2)
    | (go_at_call 47; ((with_reducible refine (impl_MakeTwo.calls B0 b0 L0 5 x y L1 s _ LB0.out.la.row LB0.out.la.cap H1.out).mono ?_); rintro e u1 ⟨v_, rfl, ho, hb⟩); obtain ⟨B1, b1, rfl, _, _⟩ := Kd.R_reads ho; have LC := Aside0.mk (LB0.out.below hb); have LB1 := Aside0.mk (LP.put LB0.out ho hb); have hca1 : u1.cell? ⟨ga, 0, none⟩ = some (.slice B0 L0.length b0) := LC.out.la.cell; have hfa1 := LC.out.la.frozen; clear ho hb LC)
    | (go_at_call 48; ((with_reducible refine (impl_Open.calls B1 b1 L1 x s y true _ LB1.out.la.row LB1.out.la.cap H2.out).mono ?_); rintro e u2 ⟨rfl, hb⟩); have LT2 := Aside0.mk (LB1.out.below hb); have hct2 : u2.cell? ⟨ga, 0, none⟩ = some (.slice B1 L1.length b1) := LT2.out.la.cell; have hft2 := LT2.out.la.frozen; clear hb)
    | (go_at_call 48; ((with_reducible refine (impl_Open.calls B1 b1 L1 x1 s o3 false _ LT2.out.la.row LT2.out.la.cap H3.out).mono ?_); rintro e u3 ⟨rfl, hb⟩); have LT3 := Aside0.mk (LT2.out.below hb); have hct3 : u3.cell? ⟨ga, 0, none⟩ = some (.slice B1 L1.length b1) := LT3.out.la.cell; have hft3 := LT3.out.la.frozen; clear hb)
    | (go_at_call 47; ((with_reducible refine (impl_MakeTwo.calls B1 b1 L1 8 x y L2 g _ LT3.out.la.row LT3.out.la.cap H4.out).mono ?_); rintro e u4 ⟨v_, rfl, ho, hb⟩); obtain ⟨B2, b2, rfl, _, _⟩ := Kd.R_reads ho; have LC := Aside0.mk (LT3.out.below hb); have LB2 := Aside0.mk (LP.put LT3.out ho hb); have hca4 : u4.cell? ⟨ga, 0, none⟩ = some (.slice B1 L1.length b1) := LC.out.la.cell; have hfa4 := LC.out.la.frozen; clear ho hb LC)
    | (go_at_call 47; ((with_reducible refine (impl_MakePub.calls B2 b2 L2 x L3 u _ LB2.out.la.row LB2.out.la.cap H5.out).mono ?_); rintro e u5 ⟨v_, rfl, ho, hb⟩); obtain ⟨B3, b3, rfl, _, _⟩ := Kd.R_reads ho; have LC := Aside0.mk (LB2.out.below hb); have LB3 := Aside0.mk (LP.put LB2.out ho hb); have hca5 : u5.cell? ⟨ga, 0, none⟩ = some (.slice B2 L2.length b2) := LC.out.la.cell; have hfa5 := LC.out.la.frozen; clear ho hb LC)
    | (go_at_call 47; ((with_reducible refine (impl_MakePub.calls B3 b3 L3 y L4 v _ LB3.out.la.row LB3.out.la.cap H6.out).mono ?_); rintro e u6 ⟨v_, rfl, ho, hb⟩); obtain ⟨B4, b4, rfl, _, _⟩ := Kd.R_reads ho; have LC := Aside0.mk (LB3.out.below hb); have LB4 := Aside0.mk (LP.put LB3.out ho hb); have hca6 : u6.cell? ⟨ga, 0, none⟩ = some (.slice B3 L3.length b3) := LC.out.la.cell; have hfa6 := LC.out.la.frozen; clear ho hb LC)
    | (go_at_call 49; ((with_reducible refine (impl_Signed.calls B4 b4 L4 u g y true _ LB4.out.la.row LB4.out.la.cap H7.out).mono ?_); rintro e u7 ⟨rfl, hb⟩); have LT7 := Aside0.mk (LB4.out.below hb); have hct7 : u7.cell? ⟨ga, 0, none⟩ = some (.slice B4 L4.length b4) := LT7.out.la.cell; have hft7 := LT7.out.la.frozen; clear hb)
    | (go_at_call 49; ((with_reducible refine (impl_Signed.calls B4 b4 L4 v g o8 bad _ LT7.out.la.row LT7.out.la.cap H8.out).mono ?_); rintro e u8 ⟨rfl, hb⟩); have LT8 := Aside0.mk (LT7.out.below hb); have hct8 : u8.cell? ⟨ga, 0, none⟩ = some (.slice B4 L4.length b4) := LT8.out.la.cell; have hft8 := LT8.out.la.frozen; clear hb)
    | (go_at_call 50; ((with_reducible refine (impl_DhOf.calls B4 b4 L4 x v L5 d k _ LT8.out.la.row LT8.out.la.cap H9.out).mono ?_); rintro e u9 ⟨v_, rfl, ho, hb⟩); obtain ⟨B5, b5, rfl, _, _⟩ := Kd.R_reads ho; have LC := Aside0.mk (LT8.out.below hb); have LB5 := Aside0.mk (LP.put LT8.out ho hb); have hca9 : u9.cell? ⟨ga, 0, none⟩ = some (.slice B4 L4.length b4) := LC.out.la.cell; have hfa9 := LC.out.la.frozen; clear ho hb LC)
    | (go_at_call 50; ((with_reducible refine (impl_DhOf.calls B5 b5 L5 y u L6 d k _ LB5.out.la.row LB5.out.la.cap H10.out).mono ?_); rintro e u10 ⟨v_, rfl, ho, hb⟩); obtain ⟨B6, b6, rfl, _, _⟩ := Kd.R_reads ho; have LC := Aside0.mk (LB5.out.below hb); have LB6 := Aside0.mk (LP.put LB5.out ho hb); have hca10 : u10.cell? ⟨ga, 0, none⟩ = some (.slice B5 L5.length b5) := LC.out.la.cell; have hfa10 := LC.out.la.frozen; clear ho hb LC)
    | (go_at_call 35; ((with_reducible refine (impl_list3 B6 b6 L6 x y s L7 li _ _ (by first | rfl | simp [World.setCell]) LB6.out.la.row LB6.out.la.cap H11.out).mono ?_); rintro e u11 ⟨v_, rfl, ho, hb⟩); obtain ⟨B7, b7, rfl, _, _⟩ := Kd.R_reads ho; have LC := Aside0.mk (LB6.out.below hb); have LB7 := Aside0.mk (LP.put LB6.out ho hb); have hca11 : u11.cell? ⟨ga, 0, none⟩ = some (.slice B6 L6.length b6) := LC.out.la.cell; have hfa11 := LC.out.la.frozen; clear ho hb LC)
    | (go_at_call 51; ((with_reducible refine (impl_Parts.calls k B7 b7 L7 li 3 [x, y, s] true _ LB7.out.la.row LB7.out.la.cap H12.out).mono ?_); rintro e u12 ⟨v_, rfl, ho, hb⟩); obtain ⟨Aq, cq, rfl, hcq, hCq⟩ := Kd.R_reads ho; obtain ⟨adz, eb0, yb0⟩ := Kd.at_int hCq 0 (by omega) (by simp); obtain ⟨ady, eb2, yb2⟩ := Kd.at_int hCq 2 (by omega) (by simp); cases eb0; cases eb2; have hgz : adz.block ≠ ga := (by have h1 := Kd.R_base ho adz.block (by simp [Value.ownBlock]); have h2 := blk_lt LB7.out.la.blk; omega); have LT12 := Aside0.mk (LP.add (LP.add (LB7.out.below hb) (show u12.cell? ⟨adz.block, adz.off + 2, none⟩ = some (.int .i64 s) from yb2) hgz) (show u12.cell? adz = some (.int .i64 x) from (by first | exact yb0 | simpa using yb0)) hgz); have hct12 : u12.cell? ⟨ga, 0, none⟩ = some (.slice B7 L7.length b7) := LT12.out.la.cell; clear ho hb hcq hCq yb0 yb2)
    | (go_at_call 51; ((with_reducible refine (impl_Parts.calls k B7 b7 L7 li 2 q13 false _ LT12.out.la.row LT12.out.la.cap H13.out).mono ?_); rintro e u13 ⟨v13, rfl, ho, hb⟩); have LT13 := Aside0.mk (LT12.out.below hb); clear ho hb))
  have HD := Aside0.mk (below_drew (Below.refl u13.heap.size u13))
  have LTd := Aside0.mk (LT13.out.below HD.out)
  clear hct12 HD
  refine start_ (n := 11) (S := fun w' => w'.cell? ⟨ga, 0, none⟩ = some (.slice B7 L7.length b7) ∧ w'.cell? ⟨adp.block, adp.off + 2, none⟩ = some (.int .i64 p2) ∧ w'.frozen? ⟨ga, 0, none⟩ = false) (ds := [9]) #[false, false, false, false, false, false, false, false, false, false, false] (by kernel_rfl) rfl rfl ⟨LTd.out.la.cell, LTd.out.at_ 2 rfl, LTd.out.la.frozen⟩ (fun hHeld => ?_)
  refine pure_ (i := 1) (N := some 141) (v := ?_) (a' := ?_) #[false, true, false, false, false, false, false, false, false, false, false] rfl rfl (by kernel_rfl) (fun _ _ _ h => h) (Or.inl ⟨by rfl, ?_⟩) ?_ ?_
  rotate_left
  · intro w'
    go_simp
    with_reducible rfl
  rotate_left
  · simp only [Act.put, List.setIfInBounds_toArray, List.set_cons_zero, List.set_cons_succ, i64_w, i32_w]
    rfl
  refine pure_ (i := 2) (N := some 142) (v := ?_) (a' := ?_) #[false, true, true, false, false, false, false, false, false, false, false] rfl rfl (by kernel_rfl) (fun _ _ _ h => h) (Or.inl ⟨by rfl, ?_⟩) ?_ ?_
  rotate_left
  · intro w'
    go_simp
    with_reducible rfl
  rotate_left
  · simp only [Act.put, List.setIfInBounds_toArray, List.set_cons_zero, List.set_cons_succ, i64_w, i32_w]
    rfl
  refine take_ (i := 0) (N := some 140) (v := ?_) (a' := ?_) #[true, true, true, false, false, false, false, false, false, false, false] rfl rfl (by kernel_rfl) (fun _ _ _ h => h) (Or.inl ⟨by rfl, ?_⟩) hHeld ?_ ?_
  rotate_left
  · rintro w' ⟨s0, s1, s2⟩
    go_simp
    with_reducible rfl
  rotate_left
  · simp only [Act.put, List.setIfInBounds_toArray, List.set_cons_zero, List.set_cons_succ, i64_w, i32_w]
    rfl
  refine take_ (i := 3) (N := some 143) (v := ?_) (a' := ?_) #[true, true, true, true, false, false, false, false, false, false, false] rfl rfl (by kernel_rfl) (fun _ _ _ h => h) (Or.inl ⟨by rfl, ?_⟩) hHeld ?_ ?_
  rotate_left
  · rintro w' ⟨s0, s1, s2⟩
    go_simp
    with_reducible rfl
  rotate_left
  · simp only [Act.put, List.setIfInBounds_toArray, List.set_cons_zero, List.set_cons_succ, i64_w, i32_w]
    rfl
  refine pure_ (i := 4) (N := some 144) (v := ?_) (a' := ?_) #[true, true, true, true, true, false, false, false, false, false, false] rfl rfl (by kernel_rfl) (fun _ _ _ h => h) (Or.inl ⟨by rfl, ?_⟩) ?_ ?_
  rotate_left
  · intro w'
    go_simp
    with_reducible rfl
  rotate_left
  · simp only [Act.put, List.setIfInBounds_toArray, List.set_cons_zero, List.set_cons_succ, i64_w, i32_w]
    rfl
  refine one_ (i := 5) (N := some 145) #[true, true, true, true, true, true, false, false, false, false, false] rfl rfl (by kernel_rfl) (by decide) (fun K hK => ?_)
  refine goes_ Try.func52 (by kernel_rfl) rfl #[.agg #[.slice B7 L7.length b7], .int .i64 z] (by rfl) rfl rfl (by simp only [List.map_toArray, List.map_cons, List.map_nil]; rfl) ?_
  with_reducible refine (impl_Atom.calls B7 b7 L7 z L8 c _ LTd.out.la.row LTd.out.la.cap H14.out).mono ?_
  rintro e u14 ⟨v14, rfl, ho, hb⟩
  refine ⟨_, rfl, ?_⟩
  obtain ⟨B8, b8, rfl, _, _⟩ := Kd.R_reads ho
  have LB8 := Aside0.mk (LP.put LTd.out ho hb)
  have LC := Aside0.mk (LTd.out.below hb)
  have hca14 : u14.cell? ⟨ga, 0, none⟩ = some (.slice B7 L7.length b7) := LC.out.la.cell
  have hfa14 := LC.out.la.frozen
  clear ho hb
  refine hK.out _ _ ⟨LC.out.la.cell, LC.out.at_ 2 rfl, LC.out.la.frozen⟩ (fun hHeld => ?_)
  clear hK K
  refine norm_ (a' := ?_) ?_ ?_
  rotate_left
  · show Act.put _ (some 145) _ = _
    simp only [Act.put, List.setIfInBounds_toArray, List.set_cons_zero, List.set_cons_succ, i64_w, i32_w]
    rfl
  refine pure_ (i := 6) (N := some 139) (v := ?_) (a' := ?_) #[true, true, true, true, true, true, true, false, false, false, false] rfl rfl (by kernel_rfl) (fun _ _ _ h => h) (Or.inl ⟨by rfl, ?_⟩) ?_ ?_
  rotate_left
  · intro w'
    go_simp
    with_reducible rfl
  rotate_left
  · simp only [Act.put, List.setIfInBounds_toArray, List.set_cons_zero, List.set_cons_succ, i64_w, i32_w]
    rfl
  refine pure_ (i := 7) (N := some 146) (v := ?_) (a' := ?_) #[true, true, true, true, true, true, true, true, false, false, false] rfl rfl (by kernel_rfl) (fun _ _ _ h => h) (Or.inl ⟨by rfl, ?_⟩) ?_ ?_
  rotate_left
  · intro w'
    go_simp
    with_reducible rfl
  rotate_left
  · simp only [Act.put, List.setIfInBounds_toArray, List.set_cons_zero, List.set_cons_succ, i64_w, i32_w]
    rfl
  refine pure_ (i := 8) (N := some 147) (v := ?_) (a' := ?_) #[true, true, true, true, true, true, true, true, true, false, false] rfl rfl (by kernel_rfl) (fun _ _ _ h => h) (Or.inl ⟨by rfl, ?_⟩) ?_ ?_
  rotate_left
  · intro w'
    go_simp
    with_reducible rfl
  rotate_left
  · simp only [Act.put, List.setIfInBounds_toArray, List.set_cons_zero, List.set_cons_succ, i64_w, i32_w]
    rfl
  refine last_ (i := 9) (N := none) #[true, true, true, true, true, true, true, true, true, true, false] rfl rfl (by kernel_rfl) (by decide) (fun K hK => ?_)
  refine skip_ (w1 := ?_) (by rfl) rfl ?_ ?_
  rotate_left
  · go_simp
    rfl
  refine hK.out _ _ ?_
  clear hK K
  refine pure_ (i := 10) (N := some 27) (v := ?_) (a' := ?_) #[true, true, true, true, true, true, true, true, true, true, true] rfl rfl (by kernel_rfl) (fun _ _ _ h => h) (Or.inl ⟨by rfl, ?_⟩) ?_ ?_
  rotate_left
  · intro w'
    go_simp
    with_reducible rfl
  rotate_left
  · simp only [Act.put, List.setIfInBounds_toArray, List.set_cons_zero, List.set_cons_succ, i64_w, i32_w]
    rfl
  refine done_ (by kernel_rfl) ?_
  have g1 : (y == y) = true := by simp
  have g2 : (d == d) = true := by simp
  have g3 : decide (0 ≤ d) = true := decide_eq_true HD0.out
  have g4 : (x == x) = true := by simp
  have g5 : (s == s) = true := by simp
  have g6 : (z == z) = true := by simp
  have HBAD2 : Aside0 (bad = false ∨ (x == y) = true) := ⟨by rcases HBAD.out with h | h; exact .inl h; exact .inr (by simpa using h)⟩
  have ARM : bad = false ∨ (bad = true ∧ (x == y) = true) := by
    rcases HBAD2.out with h | h
    · exact .inl h
    · cases bad
      · exact .inl rfl
      · exact .inr ⟨rfl, h⟩
  have hq0 : (0 : Int) < (([x, y, s] : List Int).length : Int) := by simp
  have hq2 : (2 : Int) < (([x, y, s] : List Int).length : Int) := by simp
  clear HBAD HBAD2
  rcases ARM with hbb | ⟨hbb, hxy⟩
  all_goals
    subst hbb
    go_wp2_with (first
      | (go_at_call 53; ((with_reducible refine (impl_NumOf.calls B8 b8 L8 c z true _ LB8.out.la.row LB8.out.la.cap H15.out).mono ?_); rintro e u15 ⟨rfl, hb⟩); have LT15 := Aside0.mk (LB8.out.below hb); have hct15 : u15.cell? ⟨ga, 0, none⟩ = some (.slice B8 L8.length b8) := LT15.out.la.cell; have hr0 : u15.cell? adz = some (.int .i64 x) := LT15.out.at_ 0 rfl; have hr1 : u15.cell? ⟨adz.block, adz.off + 2, none⟩ = some (.int .i64 s) := LT15.out.at_ 1 rfl; have hr2 : u15.cell? ⟨adp.block, adp.off + 2, none⟩ = some (.int .i64 p2) := LT15.out.at_ 2 rfl; clear hb)
      | (go_at_call 25; ((with_reducible refine (spec_ArenaOk.calls k B8 b8 L8 true _ LT15.out.la.row LT15.out.la.cap H16.out).mono ?_); rintro e u16 ⟨rfl, hb⟩); have LT16 := Aside0.mk (LT15.out.below hb); clear hb))
    go_ret
    exact ⟨by first | rfl | simp, LT16.out.la.bel⟩

-- ALLX
theorem rd_mem {l : List Int} {r : Int} (h0 : 0 ≤ r) (h1 : r < l.length) : rd l r ∈ l := by
  obtain ⟨k, rfl⟩ := Int.eq_ofNat_of_zero_le h0
  rw [rd_nat (by omega)]
  exact List.getElem_mem _
theorem DrawArena_f (l : List Int) (hl : l.length ≤ 140737488351232) : ∃ r : List S34, Ev (fun k => spec_DrawArena.f k l) r ∧ aok r = true ∧ 1 ≤ r.length ∧ r.length ≤ 12 := by
  obtain ⟨h, hh⟩ := New_f l hl
  obtain ⟨ns, i2, h2, e2, c2, ha, n1, n2⟩ := Arena_f h (cur_zero hl)
  exact ⟨ns, Ev.bind hh (ev_now e2 (Ev.now _)), ha, n1, n2⟩
theorem isKind_f {l : List S34} {m : Nat} (hm : m < l.length) (hl : l.length ≤ 1048576) (kind : Int) : impl_isKind.f l (m : Int) kind = some ((nodeOf l m).f0 == kind) := by
  unfold impl_isKind.f
  rw [impl_hasNode_f l _ (by omega), Option.bind_some, if_pos (by simp; omega), if_pos (by omega), if_pos (by omega)]
  rfl
theorem isAtom_f {l : List S34} {m : Nat} (hm : m < l.length) (hl : l.length ≤ 1048576) (n : Int) : impl_isAtom.f l (m : Int) n = some ((nodeOf l m).f0 == 1 && ((nodeOf l m).f1 == n && ((nodeOf l m).f2 == 0 && ((nodeOf l m).f3 == 0)))) := by
  unfold impl_isAtom.f
  rw [impl_hasNode_f l _ (by omega), Option.bind_some, if_pos (by simp; omega), if_pos (by omega), if_pos (by omega)]
  rfl
theorem open_f {l : List S34} {m : Nat} (hm : m < l.length) (hl : l.length ≤ 1048576) {x y : Int} (h : nodeOf l m = ⟨5, 0, x, y⟩) (k : Int) : impl_Open.f l k (m : Int) = if x = k then some (y, true) else some (-1, false) := by
  unfold impl_Open.f
  rw [isKind_f hm hl, h, Option.bind_some, if_pos (by rfl), if_pos (by omega), if_pos (by omega)]
  show (if (nodeOf l m).f2 = k then some ((nodeOf l m).f3, true) else some (-1, false)) = _
  rw [h]
theorem signed_f {l : List S34} {u g : Nat} (hu : u < l.length) (hg : g < l.length) (hl : l.length ≤ 1048576) {x y z : Int} (h1 : nodeOf l u = ⟨6, 0, z, 0⟩) (h2 : nodeOf l g = ⟨8, 0, x, y⟩) : impl_Signed.f l (u : Int) (g : Int) = if x = z then some (y, true) else some (-1, false) := by
  unfold impl_Signed.f
  rw [isKind_f hu hl, h1, Option.bind_some, if_pos (by rfl), isKind_f hg hl, h2, Option.bind_some, if_pos (by rfl), if_pos (by omega), if_pos (by omega), if_pos (by omega), if_pos (by omega)]
  show (if (nodeOf l g).f2 = (nodeOf l u).f2 then some ((nodeOf l g).f3, true) else some (-1, false)) = _
  rw [h1, h2]
theorem node_two {kind x y k : Int} (hk : (2 ≤ kind ∧ kind ≤ 9) ∧ kind ≠ 3 ∧ kind ≠ 6) (hx : 0 ≤ x ∧ x < k) (hy : 0 ≤ y ∧ y < k) : nodeB kind 0 x y k = true := by
  unfold nodeB
  rw [if_neg (by omega), if_neg (by omega)]
  simp
  omega
theorem node_pub {x k : Int} (hx : 0 ≤ x ∧ x < k) : nodeB 6 0 x 0 k = true := by
  unfold nodeB
  rw [if_neg (by omega), if_pos (by omega)]
  simp
  omega
theorem node_atom {n k : Int} (hx : 0 ≤ n ∧ n ≤ 999999) : nodeB 1 n 0 0 k = true := by
  unfold nodeB
  rw [if_pos rfl]
  simp
  omega
theorem parts3 {l : List S34} {m0 m1 m2 m3 : Nat} {x y s : Int} (hl : l.length ≤ 1048576) (hm0 : m0 < l.length) (hm1 : m1 < l.length) (hm2 : m2 < l.length) (hm3 : m3 < l.length) (hlen : 4 ≤ l.length) (h0 : nodeOf l m0 = ⟨1, 0, 0, 0⟩) (h1 : nodeOf l m1 = ⟨2, 0, s, (m0 : Int)⟩) (h2 : nodeOf l m2 = ⟨2, 0, y, (m1 : Int)⟩) (h3 : nodeOf l m3 = ⟨2, 0, x, (m2 : Int)⟩) :
    Ev (fun k => impl_Parts.f k l (m3 : Int) 3) ([x, y, s], true) ∧ Ev (fun k => impl_Parts.f k l (m3 : Int) 2) (([] : List Int), false) := by
  have step : ∀ {m : Nat} {a b : Int} (n : Int) (acc : List Int), m < l.length → nodeOf l m = ⟨2, 0, a, b⟩ → (acc.length : Int) < n → acc.length ≤ 100 → ∀ r, Ev (fun k => impl_Parts.l0 k b n (acc ++ [a]) l) r → Ev (fun k => impl_Parts.l0 k (m : Int) n acc l) r := by
    intro m a b n acc hm hn hlt hac r hr
    have ea : (rd_T34 l (m : Int)).f2 = a := by show (nodeOf l m).f2 = a; rw [hn]
    have eb : (rd_T34 l (m : Int)).f3 = b := by show (nodeOf l m).f3 = b; rw [hn]
    refine Ev.step (fun k => by rw [impl_Parts.l0, if_pos hlt, isKind_f hm hl, hn, Option.bind_some, if_pos (by rfl), if_pos (by omega), if_pos (by omega), if_pos (by omega), ea, eb]) hr
  have start : ∀ (n : Int), 0 ≤ n → n ≤ 4 → ∀ r, Ev (fun k => impl_Parts.l0 k (m3 : Int) n [] l) r → Ev (fun k => impl_Parts.f k l (m3 : Int) n) r := by
    intro n hn0 hn4 r hr
    refine evF (by omega) (Ev.step (fun k => by rw [impl_Parts.j0, if_neg (by simp; omega)]) hr)
  constructor
  · refine start 3 (by omega) (by omega) _ (step 3 [] hm3 h3 (by simp) (by simp) _ (step 3 [x] hm2 h2 (by simp) (by simp) _ (step 3 [x, y] hm1 h1 (by simp) (by simp) _ ?_)))
    refine ev_end (fun k => ?_)
    rw [impl_Parts.l0, if_neg (by simp), isAtom_f hm0 hl, h0]
    rfl
  · refine start 2 (by omega) (by omega) _ (step 2 [] hm3 h3 (by simp) (by simp) _ (step 2 [x] hm2 h2 (by simp) (by simp) _ ?_))
    refine ev_end (fun k => ?_)
    rw [impl_Parts.l0, if_neg (by simp), isAtom_f hm1 hl, h1]
    rfl
set_option maxRecDepth 100000 in
theorem walk (A0 : Option Addr) (c0 : Nat) (l0 : List Int) (w : World) (hr0 : Kd.C (Kd.int .u8) w A0 l0.length l0) (hc0 : l0.length ≤ c0) (hl : l0.length * 1 ≤ 140737488351232) :
    Calls Try.prog 9 #[.slice A0 l0.length c0] w fun e w' => e = .returned (.bool true) ∧ Below w.heap.size w w' := by
  by_cases hbig : (l0.length : Int) ≤ 1048576
  · obtain ⟨ps, ⟨K1, f1⟩, hlen, hall⟩ := Places_f l0 (by omega)
    obtain ⟨L0, ⟨K2, f2⟩, a0, n1, n2⟩ := DrawArena_f l0 (by omega)
    have b0 := hall _ (rd_mem (r := 0) (by omega) (by omega))
    have b1 := hall _ (rd_mem (r := 1) (by omega) (by omega))
    have b2 := hall _ (rd_mem (r := 2) (by omega) (by omega))
    have hplace : ∀ p : Int, 0 ≤ p → ∃ x : Nat, Int.tmod p (L0.length : Int) = (x : Int) ∧ x < L0.length := by
      intro p hp
      have h0 : 0 ≤ Int.tmod p (L0.length : Int) := by rw [Int.tmod_eq_emod_of_nonneg hp]; exact Int.emod_nonneg _ (by omega)
      have h1 : Int.tmod p (L0.length : Int) < (L0.length : Int) := by rw [Int.tmod_eq_emod_of_nonneg hp]; exact Int.emod_lt_of_pos _ (by omega)
      obtain ⟨x, hx⟩ := Int.eq_ofNat_of_zero_le h0
      exact ⟨x, hx, by omega⟩
    obtain ⟨x, hx, hxl⟩ := hplace _ b0.1
    obtain ⟨y, hy, hyl⟩ := hplace _ b1.1
    have hz : 0 ≤ Int.tmod (rd ps 2) 1000 ∧ Int.tmod (rd ps 2) 1000 ≤ 999 := by rw [Int.tmod_eq_emod_of_nonneg b2.1]; omega
    obtain ⟨L1, s, e1, a1, s1, v1, q1, r1, k1⟩ := put_ok4 (5) (0) ((x : Int)) ((y : Int)) a0 (by omega) (node_two (by omega) (by omega) (by omega))
    obtain ⟨L2, g, e2, a2, s2, v2, q2, r2, k2⟩ := put_ok4 (8) (0) ((x : Int)) ((y : Int)) a1 (by omega) (node_two (by omega) (by omega) (by omega))
    obtain ⟨L3, u, e3, a3, s3, v3, q3, r3, k3⟩ := put_ok4 (6) (0) ((x : Int)) (0) a2 (by omega) (node_pub (by omega))
    obtain ⟨L4, v, e4, a4, s4, v4, q4, r4, k4⟩ := put_ok4 (6) (0) ((y : Int)) (0) a3 (by omega) (node_pub (by omega))
    have vg4 : nodeOf L4 g = ⟨8, 0, (x : Int), (y : Int)⟩ := by rw [k4 g (by omega), k3 g (by omega)]; exact v2
    have vu4 : nodeOf L4 u = ⟨6, 0, (x : Int), 0⟩ := by rw [k4 u (by omega)]; exact v3
    obtain ⟨tx, htx⟩ : ∃ t, termText L4 (x : Int) = t := ⟨_, rfl⟩
    obtain ⟨ty, hty⟩ : ∃ t, termText L4 (y : Int) = t := ⟨_, rfl⟩
    obtain ⟨⟨da, db⟩, hd⟩ : ∃ d, dhPick tx.1 ty.1 (x : Int) (y : Int) = d := ⟨_, rfl⟩
    have hdab : (0 ≤ da ∧ da < (L4.length : Int)) ∧ (0 ≤ db ∧ db < (L4.length : Int)) := by
      rcases dhPick_cases tx.1 ty.1 (x : Int) (y : Int) with h | h <;> (rw [hd] at h; cases h; omega)
    obtain ⟨L5, d, e5, a5, s5, v5, q5, r5, k5⟩ := put_ok4 (7) (0) (da) (db) a4 (by omega) (node_two (by omega) hdab.1 hdab.2)
    have e6 : putN L5 (⟨7, 0, da, db⟩ : S34) = (L5, (d : Int)) := by rw [← v5]; exact put_there a5 s5
    obtain ⟨M0, m0, g0, c0a, s00, w0, qq0, rr0, kk0⟩ := put_ok4 (1) (0) (0) (0) a5 (by omega) (node_atom (by omega))
    obtain ⟨M1, m1, g1, c1a, s10, w1, qq1, rr1, kk1⟩ := put_ok4 (2) (0) ((s : Int)) ((m0 : Int)) c0a (by omega) (node_two (by omega) (by omega) (by omega))
    obtain ⟨M2, m2, g2, c2a, s20, w2, qq2, rr2, kk2⟩ := put_ok4 (2) (0) ((y : Int)) ((m1 : Int)) c1a (by omega) (node_two (by omega) (by omega) (by omega))
    obtain ⟨L7, li, g3, c3a, s30, w3, qq3, rr3, kk3⟩ := put_ok4 (2) (0) ((x : Int)) ((m2 : Int)) c2a (by omega) (node_two (by omega) (by omega) (by omega))
    obtain ⟨L8, c, e8, a8, s8, v8, q8, r8, k8⟩ := put_ok4 (1) (Int.tmod (rd ps 2) 1000) (0) (0) c3a (by omega) (node_atom (by omega))
    have z0 : nodeOf L7 m0 = ⟨1, 0, 0, 0⟩ := by rw [kk3 m0 (by omega), kk2 m0 (by omega), kk1 m0 (by omega)]; exact w0
    have z1 : nodeOf L7 m1 = ⟨2, 0, (s : Int), (m0 : Int)⟩ := by rw [kk3 m1 (by omega), kk2 m1 (by omega)]; exact w1
    have z2 : nodeOf L7 m2 = ⟨2, 0, (y : Int), (m1 : Int)⟩ := by rw [kk3 m2 (by omega)]; exact w2
    have hlen4 : 4 ≤ L7.length := by
      have ord : ∀ {m : Nat} {a b : Int}, m < L7.length → nodeOf L7 m = ⟨2, 0, a, b⟩ → b < (m : Int) := by
        intro m a b hm hn
        have hr := ((aok_parts c3a).2 m hm).1
        unfold rightAt at hr
        rw [hn] at hr
        have h4 : (0 : Int) ≤ b ∧ b < (m : Int) := (node_parts hr).2.2.2.2 (show (2 : Int) ≠ 1 by decide) (show ¬ ((2 : Int) = 3 ∨ (2 : Int) = 6) by decide)
        exact h4.2
      have o1 := ord (by omega) z1
      have o2 := ord (by omega) z2
      have o3 := ord s30 w3
      omega
    obtain ⟨⟨K3, f3⟩, ⟨K4, f4⟩⟩ := parts3 (l := L7) (by omega) (by omega) (by omega) (by omega) s30 hlen4 z0 z1 z2 w3
    obtain ⟨K5, f5⟩ := spec_ArenaOk_f L8 (by omega)
    rw [a8] at f5
    obtain ⟨K6, f6⟩ := impl_TermText_f L4 (by omega) (x : Int)
    obtain ⟨K7, f7⟩ := impl_TermText_f L4 (by omega) (y : Int)
    obtain ⟨K8, f8⟩ := impl_TermText_f L5 (by omega) (x : Int)
    obtain ⟨K9, f9⟩ := impl_TermText_f L5 (by omega) (y : Int)
    obtain ⟨K10, f10⟩ := impl_NodeOk_f L4 (x : Int) (by omega)
    obtain ⟨K11, f11⟩ := impl_NodeOk_f L5 (y : Int) (by omega)
    rw [termText_app q5 k5 (by omega), htx] at f8
    rw [termText_app q5 k5 (by omega), hty] at f9
    rw [htx] at f6
    rw [hty] at f7
    have nok : ∀ {l : List S34} {m : Nat}, aok l = true → m < l.length → nodeOkB l (m : Int) = true := by
      intro l m h hm
      unfold nodeOkB
      rw [if_pos (by omega)]
      exact ((aok_parts h).2 m hm).1
    rw [nok a4 (by omega)] at f10
    rw [nok a5 (by omega)] at f11
    have vv5 : nodeOf L5 v = ⟨6, 0, (y : Int), 0⟩ := by rw [k5 v (by omega)]; exact v4
    have vu5 : nodeOf L5 u = ⟨6, 0, (x : Int), 0⟩ := by rw [k5 u (by omega)]; exact vu4
    have h1 : impl_MakeTwo.f L0 5 (x : Int) (y : Int) = some (L1, (s : Int)) := by
      unfold impl_MakeTwo.f ofB
      rw [if_pos ⟨by omega, by decide, by decide, by decide, by decide⟩]
      show some (endN L0 (putB L0 false ⟨5, 0, (x : Int), (y : Int)⟩)) = _
      rw [putB_ok e1, end_ok]
    have h4 : impl_MakeTwo.f L1 8 (x : Int) (y : Int) = some (L2, (g : Int)) := by
      unfold impl_MakeTwo.f ofB
      rw [if_pos ⟨by omega, by decide, by decide, by decide, by decide⟩]
      show some (endN L1 (putB L1 false ⟨8, 0, (x : Int), (y : Int)⟩)) = _
      rw [putB_ok e2, end_ok]
    have h5 : impl_MakePub.f L2 (x : Int) = some (L3, (u : Int)) := by
      unfold impl_MakePub.f ofB
      rw [if_pos (by omega)]
      show some (endN L2 (putB L2 false ⟨6, 0, (x : Int), 0⟩)) = _
      rw [putB_ok e3, end_ok]
    have h6 : impl_MakePub.f L3 (y : Int) = some (L4, (v : Int)) := by
      unfold impl_MakePub.f ofB
      rw [if_pos (by omega)]
      show some (endN L3 (putB L3 false ⟨6, 0, (y : Int), 0⟩)) = _
      rw [putB_ok e4, end_ok]
    have h2 : impl_Open.f L1 (x : Int) (s : Int) = some ((y : Int), true) := by rw [open_f s1 (by omega) v1, if_pos rfl]
    have h3 : impl_Open.f L1 ((x : Int) + 1) (s : Int) = some (-1, false) := by rw [open_f s1 (by omega) v1, if_neg (by omega)]
    have h7 : impl_Signed.f L4 (u : Int) (g : Int) = some ((y : Int), true) := by rw [signed_f (by omega) (by omega) (by omega) vu4 vg4, if_pos rfl]
    obtain ⟨o8, bad, h8, hbad⟩ : ∃ o8 bad, impl_Signed.f L4 (v : Int) (g : Int) = some (o8, bad) ∧ (bad = false ∨ (x : Int) = (y : Int)) := by
      rw [signed_f s4 (by omega) (by omega) v4 vg4]
      by_cases hxy : (x : Int) = (y : Int)
      · rw [if_pos hxy]; exact ⟨_, _, rfl, .inr hxy⟩
      · rw [if_neg hxy]; exact ⟨_, _, rfl, .inl rfl⟩
    have fv : (rd_T34 L4 (v : Int)).f2 = (y : Int) := by show (nodeOf L4 v).f2 = _; rw [v4]
    have fu : (rd_T34 L5 (u : Int)).f2 = (x : Int) := by show (nodeOf L5 u).f2 = _; rw [vu5]
    have h9 : ∀ k, K6 + K7 + K10 ≤ k → impl_DhOf.f k L4 (x : Int) (v : Int) = some (L5, (d : Int)) := by
      intro k hk
      have t6 : impl_TermText.f k L4 (x : Int) = some tx := f6 k (by omega)
      have t7 : impl_TermText.f k L4 (y : Int) = some ty := f7 k (by omega)
      unfold impl_DhOf.f
      rw [fv, if_pos ⟨by omega, by omega, by rw [isKind_f s4 (by omega), v4]; rfl, f10 _ (by omega)⟩, t6, Option.bind_some, t7, Option.bind_some]
      unfold dhB ofB
      rw [hd]
      show some (endN L4 (putB L4 false ⟨7, 0, da, db⟩)) = _
      rw [putB_ok e5, end_ok]
    have h10 : ∀ k, K8 + K9 + K11 ≤ k → impl_DhOf.f k L5 (y : Int) (u : Int) = some (L5, (d : Int)) := by
      intro k hk
      have t8 : impl_TermText.f k L5 (x : Int) = some tx := f8 k (by omega)
      have t9 : impl_TermText.f k L5 (y : Int) = some ty := f9 k (by omega)
      unfold impl_DhOf.f
      rw [fu, if_pos ⟨by omega, by omega, by rw [isKind_f (by omega) (by omega), vu5]; rfl, f11 _ (by omega)⟩, t9, Option.bind_some, t8, Option.bind_some]
      unfold dhB ofB
      rw [dhPick_swap, hd]
      show some (endN L5 (putB L5 false ⟨7, 0, da, db⟩)) = _
      rw [putB_ok e6, end_ok]
    have h11 : impl_List.f L5 [(x : Int), (y : Int), (s : Int)] = some (L7, (li : Int)) := by
      unfold impl_List.f listB
      rw [if_pos (by omega)]
      simp only [List.foldr_cons, List.foldr_nil]
      unfold ofB
      rw [putB_ok g0]
      simp only
      rw [putB_ok g1]
      simp only
      rw [putB_ok g2]
      simp only
      rw [putB_ok g3, end_ok]
    have h14 : impl_Atom.f L7 (Int.tmod (rd ps 2) 1000) = some (L8, (c : Int)) := by
      unfold impl_Atom.f
      rw [if_pos (by omega), putB_ok e8, end_ok]
    have h15 : impl_NumOf.f L8 (c : Int) = some (Int.tmod (rd ps 2) 1000, true) := by
      unfold impl_NumOf.f
      rw [isKind_f s8 (by omega), v8, Option.bind_some, if_pos (by rfl), if_pos (by omega), if_pos (by omega)]
      show some ((nodeOf L8 c).f1, true) = _
      rw [v8]
    exact law_makes A0 c0 l0 (K1 + K2 + K3 + K4 + K5 + K6 + K7 + K8 + K9 + K10 + K11) ps [] (rd ps 0) (rd ps 1) (rd ps 2) (x : Int) (y : Int) (Int.tmod (rd ps 2) 1000) ((x : Int) + 1) (s : Int) (g : Int) (u : Int) (v : Int) (d : Int) (li : Int) (c : Int) (-1) o8 bad L0 L1 L2 L3 L4 L5 L5 L7 L8 w hr0 hc0 hbig
      (f2 _ (by omega)) (f1 _ (by omega)) hlen rfl rfl rfl hx hy rfl (by omega) (w64 (by omega) (by omega)) h1 h2 h3 h4 h5 h6 h7 h8 hbad (h9 _ (by omega)) (h10 _ (by omega)) (by omega) h11 (f3 _ (by omega)) (f4 _ (by omega)) h14 h15 (f5 _ (by omega))
  · have HBIG : Aside0 (laws_big.f l0 = some true) := ⟨by unfold laws_big.f; rw [decide_eq_true (by omega)]⟩
    have HR0 := Aside0.mk hr0
    have HC0 := Aside0.mk hc0
    clear hr0 hc0 hbig hl
    go_enter Try.func9, Try.ntmps9
    go_wp2_with (go_at_call 14; ((with_reducible refine (laws_big.calls A0 c0 l0 true _ HR0.out HC0.out HBIG.out).mono ?_); rintro e w2 ⟨rfl, hd⟩); have HB2 := Aside0.mk hd.below; clear hd)
    go_ret
    exact ⟨rfl, HB2.out⟩

end Go.Proofs.Ytkckdibalopagaa.Pure
