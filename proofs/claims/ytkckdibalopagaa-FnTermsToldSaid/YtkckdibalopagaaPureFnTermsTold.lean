/- Proved: what is told of drawn arenas, right or not, is what the reference tells; no condition. -/
import Derived.Test.YtkckdibalopagaaSFnTermsToldx0
import Derived.Test.YtkckdibalopagaaSFnTermsToldx1
import Derived.Test.YtkckdibalopagaaSFnTermsToldx2
import Derived.Test.YtkckdibalopagaaSFnTermsToldx3
import Derived.Test.YtkckdibalopagaaSFnTermsToldx4
import Derived.Test.YtkckdibalopagaaSFnTermsToldx5
import Derived.Test.YtkckdibalopagaaSFnTermsToldx6
import Derived.Test.YtkckdibalopagaaSFnTermsToldx7
import Derived.Test.YtkckdibalopagaaSFnTermsToldx8
import Derived.Test.YtkckdibalopagaaSFnTermsToldx9
import Derived.Test.YtkckdibalopagaaSFnTermsToldx10
import Derived.Test.YtkckdibalopagaaRBase
namespace Go.Proofs.Ytkckdibalopagaa.Pure
open Go.RowKit Go.Proofs.Ytkckdibalopagaa.SFnTermsTold Go.Proofs.Ytkckdibalopagaa.Base Go.Proofs.YtkckdibalopagaaW.PrintWords Go.Proofs.YtkckdibalopagaaW.PrintLast Go.Proofs.YtkckdibalopagaaW.PrintMore
open Go.Proofs.Ytkckdibalopagaa.SFnTermsTold.Hand
set_option linter.unusedVariables false
set_option linter.unusedSimpArgs false

attribute [local go_sem] max2_int min2_int max_two min_two max_three min_three max_four min_four
theorem rd_nat {xs : List Int} {i : Nat} (h : i < xs.length) : rd xs (i : Int) = xs[i] := by
  unfold rd
  rw [Int.toNat_natCast, List.getD_eq_getElem?_getD, List.getElem?_eq_getElem h]
  rfl
theorem rdOf_nat {xs : List Bool} {i : Nat} (h : i < xs.length) : rdOf false xs (i : Int) = xs[i] := by
  unfold rdOf
  rw [Int.toNat_natCast, List.getD_eq_getElem?_getD, List.getElem?_eq_getElem h]
  rfl

theorem impl_hasNode_f (l : List S34) (k : Int) (hl : l.length ≤ 9223372036854775807) : impl_hasNode.f l k = some (decide (0 ≤ k) && decide (k ≤ (l.length : Int) - 1)) := by
  unfold impl_hasNode.f
  rw [w64 (by omega) (by omega), impl_within_b]
  rfl

/-! a right node's parts -/
def oneKind (k : Int) : Bool := decide (k = 3 ∨ k = 6)
theorem node_parts {f0 f1 f2 f3 k : Int} (h : nodeB f0 f1 f2 f3 k = true) : (1 ≤ f0 ∧ f0 ≤ 9) ∧ (f0 = 1 → 0 ≤ f1 ∧ f1 ≤ 999999 ∧ f2 = 0 ∧ f3 = 0) ∧ (f0 ≠ 1 → f1 = 0 ∧ 0 ≤ f2 ∧ f2 < k) ∧ ((f0 = 3 ∨ f0 = 6) → f3 = 0) ∧ (f0 ≠ 1 → ¬ (f0 = 3 ∨ f0 = 6) → 0 ≤ f3 ∧ f3 < k) := by
  unfold nodeB at h
  by_cases h1 : f0 = 1
  · rw [if_pos h1] at h
    simp only [Bool.and_eq_true, decide_eq_true_eq] at h
    omega
  · rw [if_neg h1] at h
    by_cases h3 : f0 = 3 ∨ f0 = 6
    · rw [if_pos h3] at h
      simp only [Bool.and_eq_true, decide_eq_true_eq] at h
      omega
    · rw [if_neg h3] at h
      simp only [Bool.and_eq_true, decide_eq_true_eq] at h
      omega
/-- the node's parts, as places -/
theorem right_parts {l : List S34} {i : Nat} (h : rightAt l i = true) : (1 ≤ (nodeOf l i).f0 ∧ (nodeOf l i).f0 ≤ 9) ∧ ((nodeOf l i).f0 = 1 → 0 ≤ (nodeOf l i).f1 ∧ (nodeOf l i).f1 ≤ 999999) ∧
    ((nodeOf l i).f0 ≠ 1 → ∃ a : Nat, (nodeOf l i).f2 = (a : Int) ∧ a < i) ∧ ((nodeOf l i).f0 ≠ 1 → oneKind (nodeOf l i).f0 = false → ∃ b : Nat, (nodeOf l i).f3 = (b : Int) ∧ b < i) := by
  obtain ⟨h0, h1, h2, _, h4⟩ := node_parts h
  refine ⟨h0, fun e => ⟨(h1 e).1, (h1 e).2.1⟩, fun e => ?_, fun e e2 => ?_⟩
  · obtain ⟨a, ha⟩ := Int.eq_ofNat_of_zero_le (h2 e).2.1
    exact ⟨a, ha, by have := (h2 e).2.2; omega⟩
  · have := h4 e (by simpa [oneKind] using e2)
    obtain ⟨b, hb⟩ := Int.eq_ofNat_of_zero_le this.1
    exact ⟨b, hb, by omega⟩

/-! sizes -/
def size1 (l : List S34) (S : List Int) (i : Nat) : Int :=
  if rightAt l i = true ∧ (i = 0 ∨ rd S ((i : Int) - 1) ≠ 0) then
    mn (if (nodeOf l i).f0 = 1 then 1 else if oneKind (nodeOf l i).f0 = true then 1 + rd S (nodeOf l i).f2 else 1 + rd S (nodeOf l i).f2 + rd S (nodeOf l i).f3) 100000
  else 0
def sizes (l : List S34) : Nat → List Int
  | 0 => []
  | n + 1 => sizes l n ++ [size1 l (sizes l n) n]
theorem sizes_length (l : List S34) (n : Nat) : (sizes l n).length = n := by
  induction n with
  | zero => rfl
  | succ n ih => simp [sizes, ih]
def szAt (l : List S34) (i : Nat) : Int := size1 l (sizes l i) i
theorem sizes_rd (l : List S34) : ∀ {n i : Nat}, i < n → rd (sizes l n) (i : Int) = szAt l i
  | n + 1, i, h => by
    rw [sizes]
    unfold rd
    rw [Int.toNat_natCast]
    by_cases hi : i < n
    · have := sizes_rd l hi
      unfold rd at this
      rw [Int.toNat_natCast] at this
      rw [List.getD_eq_getElem?_getD, List.getElem?_append_left (by rw [sizes_length]; exact hi), ← List.getD_eq_getElem?_getD, this]
    · have : i = n := by omega
      subst this
      rw [List.getD_eq_getElem?_getD, List.getElem?_append_right (by rw [sizes_length]; omega), sizes_length, Nat.sub_self]
      rfl
theorem size1_eq (l : List S34) (i : Nat) : szAt l i = if rightAt l i = true ∧ (i = 0 ∨ szAt l (i - 1) ≠ 0) then
    mn (if (nodeOf l i).f0 = 1 then 1 else if oneKind (nodeOf l i).f0 = true then 1 + szAt l (nodeOf l i).f2.toNat else 1 + szAt l (nodeOf l i).f2.toNat + szAt l (nodeOf l i).f3.toNat) 100000 else 0 := by
  have hprev : ∀ h : i ≠ 0, rd (sizes l i) ((i : Int) - 1) = szAt l (i - 1) := fun h => by
    rw [show (i : Int) - 1 = ((i - 1 : Nat) : Int) by omega]
    exact sizes_rd l (by omega)
  have hc : (rightAt l i = true ∧ (i = 0 ∨ rd (sizes l i) ((i : Int) - 1) ≠ 0)) ↔ (rightAt l i = true ∧ (i = 0 ∨ szAt l (i - 1) ≠ 0)) := by
    by_cases h0 : i = 0
    · simp [h0]
    · rw [hprev h0]
  have e : szAt l i = size1 l (sizes l i) i := rfl
  rw [e]
  unfold size1
  by_cases h : rightAt l i = true ∧ (i = 0 ∨ rd (sizes l i) ((i : Int) - 1) ≠ 0)
  · rw [if_pos h, if_pos (hc.1 h)]
    obtain ⟨_, _, h2, h3⟩ := right_parts h.1
    congr 1
    by_cases h1 : (nodeOf l i).f0 = 1
    · rw [if_pos h1, if_pos h1]
    · rw [if_neg h1, if_neg h1]
      obtain ⟨a, ha, hai⟩ := h2 h1
      rw [ha, Int.toNat_natCast, sizes_rd l hai]
      by_cases ho : oneKind (nodeOf l i).f0 = true
      · rw [if_pos ho, if_pos ho]
      · rw [if_neg ho, if_neg ho]
        obtain ⟨b, hb, hbi⟩ := h3 h1 (by simpa using ho)
        rw [hb, Int.toNat_natCast, sizes_rd l hbi]
  · rw [if_neg h, if_neg (fun hh => h (hc.2 hh))]
theorem mn_le (a b : Int) : mn a b ≤ a ∧ mn a b ≤ b ∧ (mn a b = a ∨ mn a b = b) := by unfold mn; split <;> omega
theorem sz_bound (l : List S34) (i : Nat) : 0 ≤ szAt l i ∧ szAt l i ≤ 100000 := by
  induction i using Nat.strongRecOn with
  | _ i ih =>
    rw [size1_eq]
    by_cases h : rightAt l i = true ∧ (i = 0 ∨ szAt l (i - 1) ≠ 0)
    · rw [if_pos h]
      obtain ⟨_, _, h2, h3⟩ := right_parts h.1
      have hm := mn_le (if (nodeOf l i).f0 = 1 then 1 else if oneKind (nodeOf l i).f0 = true then 1 + szAt l (nodeOf l i).f2.toNat else 1 + szAt l (nodeOf l i).f2.toNat + szAt l (nodeOf l i).f3.toNat) 100000
      refine ⟨?_, hm.2.1⟩
      rcases hm.2.2 with he | he
      · rw [he]
        by_cases h1 : (nodeOf l i).f0 = 1
        · rw [if_pos h1]; omega
        · rw [if_neg h1]
          obtain ⟨a, ha, hai⟩ := h2 h1
          have hA := ih a hai
          rw [ha, Int.toNat_natCast]
          by_cases ho : oneKind (nodeOf l i).f0 = true
          · rw [if_pos ho]; omega
          · rw [if_neg ho]
            obtain ⟨b, hb, hbi⟩ := h3 h1 (by simpa using ho)
            have hB := ih b hbi
            rw [hb, Int.toNat_natCast]
            omega
      · rw [he]; omega
    · rw [if_neg h]; omega
theorem sz_pos_of (l : List S34) (i : Nat) (h : rightAt l i = true ∧ (i = 0 ∨ szAt l (i - 1) ≠ 0)) : 0 < szAt l i := by
  rw [size1_eq, if_pos h]
  obtain ⟨_, _, h2, h3⟩ := right_parts h.1
  have hm := mn_le (if (nodeOf l i).f0 = 1 then 1 else if oneKind (nodeOf l i).f0 = true then 1 + szAt l (nodeOf l i).f2.toNat else 1 + szAt l (nodeOf l i).f2.toNat + szAt l (nodeOf l i).f3.toNat) 100000
  rcases hm.2.2 with he | he
  · rw [he]
    by_cases h1 : (nodeOf l i).f0 = 1
    · rw [if_pos h1]; omega
    · rw [if_neg h1]
      have hA := sz_bound l (nodeOf l i).f2.toNat
      have hB := sz_bound l (nodeOf l i).f3.toNat
      split <;> omega
  · rw [he]; omega
/-- a size above nought: all nodes up to it are right, and have one -/
theorem sz_pos_back (l : List S34) : ∀ (i : Nat), 0 < szAt l i → ∀ j, j ≤ i → rightAt l j = true ∧ 0 < szAt l j := by
  intro i
  induction i with
  | zero =>
    intro h j hj
    obtain rfl : j = 0 := by omega
    rw [size1_eq] at h
    by_cases hc : rightAt l 0 = true ∧ ((0 : Nat) = 0 ∨ szAt l (0 - 1) ≠ 0)
    · exact ⟨hc.1, sz_pos_of l 0 hc⟩
    · rw [if_neg hc] at h; omega
  | succ i ih =>
    intro h j hj
    have hc : rightAt l (i + 1) = true ∧ (i + 1 = 0 ∨ szAt l (i + 1 - 1) ≠ 0) := by
      rw [size1_eq] at h
      by_cases hc : rightAt l (i + 1) = true ∧ (i + 1 = 0 ∨ szAt l (i + 1 - 1) ≠ 0)
      · exact hc
      · rw [if_neg hc] at h; omega
    by_cases he : j = i + 1
    · subst he
      exact ⟨hc.1, h⟩
    · have hb := sz_bound l i
      rcases hc.2 with h0 | h0
      · omega
      · rw [Nat.add_sub_cancel] at h0
        exact ih (by omega) j (by omega)
theorem sz_all (l : List S34) : ∀ (i : Nat), (∀ j, j ≤ i → rightAt l j = true) → 0 < szAt l i := by
  intro i
  induction i with
  | zero => intro h; exact sz_pos_of l 0 ⟨h 0 (by omega), .inl rfl⟩
  | succ i ih =>
    intro h
    have := ih (fun j hj => h j (by omega))
    refine sz_pos_of l (i + 1) ⟨h (i + 1) (by omega), .inr ?_⟩
    rw [Nat.add_sub_cancel]
    omega
/-- what SizeOf tells -/
def sizeOf (l : List S34) (a : Int) : Int := if 0 ≤ a ∧ a < (l.length : Int) then szAt l a.toNat else 0

theorem spec_Sizes_ev (l : List S34) (hl : l.length ≤ 1048576) (K : Nat) (hK : K < l.length) : ∀ (d i : Nat), K + 1 - i = d → i ≤ K + 1 → Ev (fun k => spec_l03Sizes.l0 k (K : Int) (sizes l i) (i : Int) l) (sizes l (K + 1)) := by
  intro d
  induction d with
  | zero =>
    intro i hd hi
    have e : i = K + 1 := by omega
    subst e
    refine Ev.step (fun k => by rw [spec_l03Sizes.l0, if_neg (by omega)]) ?_
    exact ev_end (fun k => by rw [spec_l03Sizes.j1, if_neg (by simp)])
  | succ d ih =>
    intro i hd hi
    have hlt : i < l.length := by omega
    refine Ev.step (fun k => by rw [spec_l03Sizes.l0, if_pos (by omega)]) ?_
    refine Ev.step (fun k => by rw [spec_l03Sizes.j1]) ?_
    refine evT (by simpa using hlt) (evT (by omega) (evT (by omega) (Ev.bind (spec_l03Node_f _ _ _ _ (i : Int) (by omega)) ?_)))
    have hnext : ∀ x, size1 l (sizes l i) i = x → Ev (fun k => spec_l03Sizes.l0 k (K : Int) (sizes l i ++ [x]) (wrap64 ((i : Int) + 1)) l) (sizes l (K + 1)) := by
      intro x hx
      rw [w64 (by omega) (by omega), ← hx]
      exact ih (i + 1) (by omega) (by omega)
    have hlen : (sizes l i).length < 17592186044416 := by rw [sizes_length]; omega
    have hbad : ∀ c, (rightAt l i = false ∨ (i ≠ 0 ∧ rd (sizes l i) ((i : Int) - 1) = 0)) → c = true → Ev (fun k => spec_l03Sizes.j2 k (K : Int) (sizes l i) (i : Int) c l (nodeOf l i).f0 (nodeOf l i).f1 (nodeOf l i).f2 (nodeOf l i).f3) (sizes l (K + 1)) := by
      intro c h hc
      subst hc
      refine Ev.step (fun k => by rw [spec_l03Sizes.j2]) ?_
      refine evT rfl (evT hlen (hnext 0 ?_))
      unfold size1
      rw [if_neg]
      rcases h with h | h
      · rw [h]; simp
      · rintro ⟨_, h2⟩
        rcases h2 with h2 | h2
        · exact h.1 h2
        · exact h2 h.2
    have hgood : ∀ c, rightAt l i = true → (i = 0 ∨ rd (sizes l i) ((i : Int) - 1) ≠ 0) → c = false → Ev (fun k => spec_l03Sizes.j2 k (K : Int) (sizes l i) (i : Int) c l (nodeOf l i).f0 (nodeOf l i).f1 (nodeOf l i).f2 (nodeOf l i).f3) (sizes l (K + 1)) := by
      intro c hr hp hc
      subst hc
      obtain ⟨_, _, h2, h3⟩ := right_parts hr
      have hs : size1 l (sizes l i) i = mn (if (nodeOf l i).f0 = 1 then 1 else if oneKind (nodeOf l i).f0 = true then 1 + rd (sizes l i) (nodeOf l i).f2 else 1 + rd (sizes l i) (nodeOf l i).f2 + rd (sizes l i) (nodeOf l i).f3) 100000 := by
        unfold size1
        rw [if_pos ⟨hr, hp⟩]
      refine Ev.step (fun k => by rw [spec_l03Sizes.j2]) ?_
      refine evF (by simp) ?_
      by_cases h1 : (nodeOf l i).f0 = 1
      · refine evT h1 (evF (by omega) (evT hlen (hnext 1 ?_)))
        rw [hs, if_pos h1]
        rfl
      · refine evF h1 ?_
        rw [if_neg h1] at hs
        obtain ⟨a, ha, hai⟩ := h2 h1
        have hA := sz_bound l a
        rw [ha] at hs ⊢
        rw [sizes_rd l hai] at hs ⊢
        refine evT (by omega) (evT (by rw [sizes_length]; omega) (ev_now (spec_One_f _) ?_))
        by_cases ho : oneKind (nodeOf l i).f0 = true
        · rw [if_pos ho] at hs
          refine evT ho ?_
          rw [w64 (x := 1 + szAt l a) (by omega) (by omega)]
          by_cases hc : 1 + szAt l a > 100000
          · exact evT hc (evT hlen (hnext _ (by rw [hs]; unfold mn; rw [if_pos (by omega)])))
          · exact evF hc (evT hlen (hnext _ (by rw [hs]; unfold mn; rw [if_neg (by omega)])))
        · rw [if_neg ho] at hs
          refine evF ho ?_
          obtain ⟨b, hb, hbi⟩ := h3 h1 (by simpa using ho)
          have hB := sz_bound l b
          rw [hb] at hs ⊢
          rw [sizes_rd l hbi] at hs ⊢
          rw [w64 (x := 1 + szAt l a) (by omega) (by omega), w64 (x := 1 + szAt l a + szAt l b) (by omega) (by omega)]
          refine evT (by omega) (evT (by rw [sizes_length]; omega) ?_)
          by_cases hc : 1 + szAt l a + szAt l b > 100000
          · exact evT hc (evT hlen (hnext _ (by rw [hs]; unfold mn; rw [if_pos (by omega)])))
          · exact evF hc (evT hlen (hnext _ (by rw [hs]; unfold mn; rw [if_neg (by omega)])))
    by_cases hr : rightAt l i = true
    · refine evT hr ?_
      by_cases h0 : i = 0
      · refine evF (by omega) (hgood _ hr (.inl h0) rfl)
      · have ew : wrap64 ((i : Int) - 1) = (i : Int) - 1 := w64 (by omega) (by omega)
        rw [ew]
        refine evT (by omega) (evT (by omega) (evT (by rw [sizes_length]; omega) ?_))
        by_cases hz : rd (sizes l i) ((i : Int) - 1) = 0
        · exact hbad _ (.inr ⟨h0, hz⟩) (by simp [hz])
        · exact hgood _ hr (.inr hz) (by simp [hz])
    · exact evF hr (hbad _ (.inl (by simpa using hr)) rfl)
theorem spec_SizeOf_f (l : List S34) (hl : l.length ≤ 1048576) (a : Int) : Ev (fun k => spec_SizeOf.f k l a) (sizeOf l a) := by
  unfold spec_SizeOf.f sizeOf
  rw [w64 (by omega) (by omega)]
  simp only [spec_In_b, Option.bind_some]
  by_cases h : 0 ≤ a ∧ a < (l.length : Int)
  · obtain ⟨K, rfl⟩ := Int.eq_ofNat_of_zero_le h.1
    refine ev_cast (evT (by simp; omega) (Ev.bind (spec_Sizes_ev l hl K (by omega) (K + 1) 0 (by omega) (by omega)) (evT h.1 (evT (by rw [sizes_length]; omega) (Ev.now _))))) ?_
    rw [if_pos h, sizes_rd l (by omega), Int.toNat_natCast]
  · exact ev_cast (evF (by simp; omega) (Ev.now _)) (if_neg h).symm

theorem impl_hasB_f (k : Int) : impl_hasB.f k = some (!decide (k = 1) && !oneKind k) := by
  unfold impl_hasB.f oneKind
  by_cases h1 : k = 1
  · rw [if_pos h1]; simp [h1]
  · rw [if_neg h1]
    by_cases h3 : k = 3
    · rw [if_pos h3]; simp [h3]
    · rw [if_neg h3]
      by_cases h6 : k = 6
      · simp [h6]
      · simp [h1, h3, h6]
theorem take_node (l : List S34) (K i : Nat) (hi : i < K) (hK : K ≤ l.length) : rd_T34 (l.take K) (i : Int) = nodeOf l i := by
  unfold nodeOf
  rw [rdI (by rw [List.length_take]; omega), rdI (by omega), List.getElem_take]
theorem impl_Size_ev (l : List S34) (hl : l.length ≤ 1048576) (K : Nat) (hK : K < l.length) : ∀ (d i : Nat), K + 1 - i = d → i ≤ K + 1 → (∀ j, j < i → rightAt l j = true) →
    Ev (fun k => impl_SizeOf.l0 k (K : Int) (sizes l i) (l.take (K + 1)) ((l.take (K + 1)).length : Int) (i : Int)) (szAt l K) := by
  have hT : (l.take (K + 1)).length = K + 1 := by rw [List.length_take]; omega
  intro d
  induction d with
  | zero =>
    intro i hd hi hall
    have e : i = K + 1 := by omega
    subst e
    refine ev_end (fun k => ?_)
    rw [impl_SizeOf.l0, if_neg (by omega), if_pos (by omega), if_pos (by rw [sizes_length]; omega), sizes_rd l (by omega)]
  | succ d ih =>
    intro i hd hi hall
    have hlt : i < l.length := by omega
    refine Ev.step (fun k => by rw [impl_SizeOf.l0, if_pos (by omega), if_pos (by omega), if_pos (by omega), take_node l (K + 1) i (by omega) (by omega)]) ?_
    refine Ev.bind (impl_nodeRight_f _ _ _ _ (i : Int) (by omega)) ?_
    by_cases hr : rightAt l i = true
    · refine evT hr ?_
      have hp : i = 0 ∨ rd (sizes l i) ((i : Int) - 1) ≠ 0 := by
        by_cases h0 : i = 0
        · exact .inl h0
        · right
          rw [show (i : Int) - 1 = ((i - 1 : Nat) : Int) by omega, sizes_rd l (by omega)]
          have := sz_all l (i - 1) (fun j hj => hall j (by omega))
          omega
      have hnext : ∀ x, size1 l (sizes l i) i = x → Ev (fun k => impl_SizeOf.l0 k (K : Int) (sizes l i ++ [x]) (l.take (K + 1)) ((l.take (K + 1)).length : Int) (wrap64 ((i : Int) + 1))) (szAt l K) := by
        intro x hx
        rw [w64 (by omega) (by omega), ← hx]
        refine ih (i + 1) (by omega) (by omega) (fun j hj => ?_)
        by_cases he : j = i
        · rw [he]; exact hr
        · exact hall j (by omega)
      have hlen : (sizes l i).length < 17592186044416 := by rw [sizes_length]; omega
      obtain ⟨_, _, h2, h3⟩ := right_parts hr
      have hs : size1 l (sizes l i) i = mn (if (nodeOf l i).f0 = 1 then 1 else if oneKind (nodeOf l i).f0 = true then 1 + rd (sizes l i) (nodeOf l i).f2 else 1 + rd (sizes l i) (nodeOf l i).f2 + rd (sizes l i) (nodeOf l i).f3) 100000 := by
        unfold size1
        rw [if_pos ⟨hr, hp⟩]
      by_cases h1 : (nodeOf l i).f0 = 1
      · refine evT h1 (ev_now (impl_hasB_f _) (evF (by simp [h1]) (evT hlen (hnext _ ?_))))
        rw [hs, if_pos h1]
      · refine evF h1 ?_
        rw [if_neg h1] at hs
        obtain ⟨a, ha, hai⟩ := h2 h1
        have hA := sz_bound l a
        rw [ha] at hs ⊢
        rw [sizes_rd l hai] at hs ⊢
        refine evT (by omega) (evT (by rw [sizes_length]; omega) (ev_now (impl_hasB_f _) ?_))
        rw [w64 (x := 1 + szAt l a) (by omega) (by omega)]
        by_cases ho : oneKind (nodeOf l i).f0 = true
        · rw [if_pos ho] at hs
          exact evF (by simp [ho]) (evT hlen (hnext _ hs))
        · rw [if_neg ho] at hs
          refine evT (by simp [ho, h1]) ?_
          obtain ⟨b, hb, hbi⟩ := h3 h1 (by simpa using ho)
          have hB := sz_bound l b
          rw [hb] at hs ⊢
          rw [sizes_rd l hbi] at hs ⊢
          rw [w64 (x := 1 + szAt l a + szAt l b) (by omega) (by omega)]
          exact evT (by omega) (evT (by rw [sizes_length]; omega) (evT hlen (hnext _ hs)))
    · refine ev_cast (evF hr (Ev.now _)) ?_
      have hb := sz_bound l K
      by_cases hz : szAt l K = 0
      · exact hz.symm
      · exact absurd (sz_pos_back l K (by omega) i (by omega)).1 hr
theorem impl_SizeOf_f (l : List S34) (hl : l.length ≤ 1048576) (a : Int) : Ev (fun k => impl_SizeOf.f k l a) (sizeOf l a) := by
  unfold impl_SizeOf.f sizeOf
  simp only [impl_hasNode_f l a (by omega), Option.bind_some]
  by_cases h : 0 ≤ a ∧ a < (l.length : Int)
  · obtain ⟨K, rfl⟩ := Int.eq_ofNat_of_zero_le h.1
    rw [w64 (by omega) (by omega)]
    refine evT (by simp; omega) (evT (by omega) (evT (by omega) ?_))
    refine ev_cast (impl_Size_ev l hl K (by omega) (K + 1) 0 (by omega) (by omega) (fun j hj => by omega)) ?_
    rw [if_pos h, Int.toNat_natCast]
  · exact ev_cast (evF (by simp; omega) (Ev.now _)) (if_neg h).symm

/-! numbers as texts -/
theorem spec_l01Var_ev (d : Nat) : ∀ (n : Nat) (acc : List Int), n < 128 ^ (d + 1) → n ≤ 9223372036854775807 → acc.length + d ≤ 1000000 → Ev (fun k => spec_l01Var.l0 k (n : Int) acc) (strOfNums (acc ++ varN n)) := by
  induction d with
  | zero =>
    intro n acc h hb ha
    rw [varN_small (by omega)]
    refine ev_end (fun k => ?_)
    rw [spec_l01Var.l0, if_neg (by omega), if_pos (by omega)]
    congr 4
    omega
  | succ d ih =>
    intro n acc h hb ha
    by_cases hn : n > 127
    · rw [varN_big hn]
      refine Ev.step (fun k => by rw [spec_l01Var.l0, if_pos (by omega), if_pos (by omega)]) ?_
      have e1 : wrap64 (Int.tdiv (n : Int) 128) = ((n / 128 : Nat) : Int) := by
        rw [Int.tdiv_eq_ediv_of_nonneg (by omega)]
        unfold wrap64
        omega
      have e2 : wrap64 ((Int.tmod (n : Int) 128) + 128) % 256 = ((n % 128 + 128 : Nat) : Int) := by
        rw [Int.tmod_eq_emod_of_nonneg (by omega)]
        unfold wrap64
        omega
      rw [e1, e2]
      refine ev_cast (ih (n / 128) _ (by rw [Nat.div_lt_iff_lt_mul (by omega)]; rw [Nat.pow_succ] at h; exact h) (by omega) (by simp; omega)) ?_
      simp
    · rw [varN_small (by omega)]
      refine ev_end (fun k => ?_)
      rw [spec_l01Var.l0, if_neg (by omega), if_pos (by omega)]
      congr 4
      omega
theorem spec_l01Var_f (n : Nat) (h : n ≤ 9223372036854775807) : Ev (fun k => spec_l01Var.f k (n : Int)) (strOfNums (varN n)) :=
  spec_l01Var_ev 9 n [] (by omega) h (by simp)

theorem impl_within_in {a b c : Int} (h : b ≤ a) (h' : a ≤ c) : impl_within.f a b c = some true := by
  unfold impl_within.f
  rw [if_pos h]
  simp [h']
theorem impl_within_out {a b c : Int} (h : a < b ∨ c < a) : impl_within.f a b c = some false := by
  unfold impl_within.f
  by_cases h0 : a ≥ b
  · rw [if_pos h0]
    have : ¬ a ≤ c := by omega
    simp [this]
  · rw [if_neg h0]

theorem impl_VarText_ev (d : Nat) : ∀ (n : Nat) (acc : List Int), n < 128 ^ (d + 1) → n ≤ 9223372036854775807 → acc.length + d ≤ 1000000 → Ev (fun k => impl_VarText.l0 k (n : Int) acc) (strOfNums (acc ++ varN n), true) := by
  induction d with
  | zero =>
    intro n acc h hb ha
    rw [varN_small (by omega)]
    refine ev_end (fun k => ?_)
    rw [impl_VarText.l0, if_neg (by omega), if_pos (by omega)]
    congr 5
    omega
  | succ d ih =>
    intro n acc h hb ha
    by_cases hn : n > 127
    · rw [varN_big hn]
      refine Ev.step (fun k => by rw [impl_VarText.l0, if_pos (by omega), if_pos (by omega)]) ?_
      have e1 : wrap64 (Int.tdiv (n : Int) 128) = ((n / 128 : Nat) : Int) := by
        rw [Int.tdiv_eq_ediv_of_nonneg (by omega)]
        unfold wrap64
        omega
      have e2 : wrap64 ((Int.tmod (n : Int) 128) + 128) % 256 = ((n % 128 + 128 : Nat) : Int) := by
        rw [Int.tmod_eq_emod_of_nonneg (by omega)]
        unfold wrap64
        omega
      rw [e1, e2]
      refine ev_cast (ih (n / 128) _ (by rw [Nat.div_lt_iff_lt_mul (by omega)]; rw [Nat.pow_succ] at h; exact h) (by omega) (by simp; omega)) ?_
      simp
    · rw [varN_small (by omega)]
      refine ev_end (fun k => ?_)
      rw [impl_VarText.l0, if_neg (by omega), if_pos (by omega)]
      congr 5
      omega
theorem impl_VarText_in {n : Int} (h : 0 ≤ n) (h' : n ≤ 1000000000) : Ev (fun k => impl_VarText.f k n) (strOfNums (varN n.toNat), true) := by
  obtain ⟨m, rfl⟩ := Int.eq_ofNat_of_zero_le h
  exact ev_now (impl_within_in h h') (evT rfl (impl_VarText_ev 9 m [] (by omega) (by omega) (by simp)))
theorem impl_VarText_out {n : Int} (h : n < 0 ∨ 1000000000 < n) : Ev (fun k => impl_VarText.f k n) ((⟨#[]⟩ : ByteArray), false) :=
  ev_now (impl_within_out h) (evF (by simp) (Ev.now _))

/-! the text of a term -/
def termL (l : List S34) : Nat → Nat → List Int
  | 0, _ => []
  | n + 1, k => varN (nodeOf l k).f0.toNat ++ (if (nodeOf l k).f0 = 1 then varN (nodeOf l k).f1.toNat else termL l n (nodeOf l k).f2.toNat ++ (if oneKind (nodeOf l k).f0 = true then [] else termL l n (nodeOf l k).f3.toNat))
/-- a term whose size is below the cap: the sum of its parts', and one -/
theorem sz_split {l : List S34} {k : Nat} (h : 0 < szAt l k) (hc : szAt l k ≤ 2000) : rightAt l k = true ∧
    ((nodeOf l k).f0 = 1 → szAt l k = 1) ∧
    ((nodeOf l k).f0 ≠ 1 → oneKind (nodeOf l k).f0 = true → ∃ a : Nat, (nodeOf l k).f2 = (a : Int) ∧ a < k ∧ 0 < szAt l a ∧ szAt l k = 1 + szAt l a) ∧
    ((nodeOf l k).f0 ≠ 1 → oneKind (nodeOf l k).f0 = false → ∃ a b : Nat, (nodeOf l k).f2 = (a : Int) ∧ a < k ∧ 0 < szAt l a ∧ (nodeOf l k).f3 = (b : Int) ∧ b < k ∧ 0 < szAt l b ∧ szAt l k = 1 + szAt l a + szAt l b) := by
  have hback := sz_pos_back l k h
  have hr := (hback k (Nat.le_refl _)).1
  have e := size1_eq l k
  have hcond : rightAt l k = true ∧ (k = 0 ∨ szAt l (k - 1) ≠ 0) := by
    refine ⟨hr, ?_⟩
    by_cases h0 : k = 0
    · exact .inl h0
    · right
      have := (hback (k - 1) (by omega)).2
      omega
  rw [if_pos hcond] at e
  obtain ⟨_, _, h2, h3⟩ := right_parts hr
  refine ⟨hr, fun h1 => ?_, fun h1 ho => ?_, fun h1 ho => ?_⟩
  · rw [if_pos h1] at e
    rw [e]
    rfl
  · rw [if_neg h1, if_pos ho] at e
    obtain ⟨a, ha, hai⟩ := h2 h1
    rw [ha, Int.toNat_natCast] at e
    refine ⟨a, ha, hai, (hback a (by omega)).2, ?_⟩
    have := mn_le (1 + szAt l a) 100000
    omega
  · rw [if_neg h1, if_neg (by simp [ho])] at e
    obtain ⟨a, ha, hai⟩ := h2 h1
    obtain ⟨b, hb, hbi⟩ := h3 h1 ho
    rw [ha, hb, Int.toNat_natCast, Int.toNat_natCast] at e
    refine ⟨a, b, ha, hai, (hback a (by omega)).2, hb, hbi, (hback b (by omega)).2, ?_⟩
    have := mn_le (1 + szAt l a + szAt l b) 100000
    omega
theorem varN_kind {x : Int} (h0 : 1 ≤ x) (h1 : x ≤ 9) : (varN x.toNat).length = 1 := by
  rw [varN_small (by omega)]
  rfl
theorem varN_num {x : Int} (h0 : 0 ≤ x) (h1 : x ≤ 999999) : (varN x.toNat).length ≤ 3 := (varN_length 2 x.toNat (by omega)).2
theorem termL_length (l : List S34) : ∀ (n k : Nat), k < n → 0 < szAt l k → szAt l k ≤ 2000 → ((termL l n k).length : Int) ≤ 4 * szAt l k := by
  intro n
  induction n with
  | zero => intro k h; omega
  | succ n ih =>
    intro k hk hp hc
    obtain ⟨hr, h1, h2, h3⟩ := sz_split hp hc
    obtain ⟨g0, g1, _, _⟩ := right_parts hr
    have hv := varN_kind g0.1 g0.2
    rw [termL, List.length_append, hv]
    by_cases e1 : (nodeOf l k).f0 = 1
    · rw [if_pos e1]
      have hz := h1 e1
      have hn := varN_num (g1 e1).1 (g1 e1).2
      omega
    · rw [if_neg e1, List.length_append]
      by_cases ho : oneKind (nodeOf l k).f0 = true
      · rw [if_pos ho]
        obtain ⟨a, ha, hak, hpa, hs⟩ := h2 e1 ho
        rw [ha, Int.toNat_natCast]
        have := ih a (by omega) hpa (by omega)
        simp only [List.length_nil]
        omega
      · rw [if_neg ho]
        obtain ⟨a, b, ha, hak, hpa, hb, hbk, hpb, hs⟩ := h3 e1 (by simpa using ho)
        rw [ha, hb, Int.toNat_natCast, Int.toNat_natCast]
        have hA := ih a (by omega) hpa (by omega)
        have hB := ih b (by omega) hpb (by omega)
        omega
theorem termL_range (l : List S34) : ∀ (n k : Nat), ∀ x ∈ termL l n k, 0 ≤ x ∧ x ≤ 255 := by
  intro n
  induction n with
  | zero => intro k x hx; simp [termL] at hx
  | succ n ih =>
    intro k x hx
    rw [termL] at hx
    rcases List.mem_append.1 hx with hx | hx
    · exact varN_range _ x hx
    · split at hx
      · exact varN_range _ x hx
      · rcases List.mem_append.1 hx with hx | hx
        · exact ih _ x hx
        · split at hx
          · simp at hx
          · exact ih _ x hx
theorem str_app (xs ys : List Int) : strOfNums xs ++ strOfNums ys = strOfNums (xs ++ ys) := by
  unfold strOfNums
  rw [List.map_append]
  apply bytesOf_inj
  simp [bytesOf, ByteArray.data_append]
/-- what TermText tells -/
def termText (l : List S34) (a : Int) : ByteArray × Bool := if 1 ≤ sizeOf l a ∧ sizeOf l a ≤ 2000 then (strOfNums (termL l (a.toNat + 1) a.toNat), true) else ((⟨#[]⟩ : ByteArray), false)

theorem spec_Var_i {x : Int} (h0 : 0 ≤ x) (h1 : x ≤ 9223372036854775807) : Ev (fun k => spec_l01Var.f k x) (strOfNums (varN x.toNat)) := by
  have := spec_l01Var_f x.toNat (by omega)
  rwa [Int.toNat_of_nonneg h0] at this
theorem spec_Text_ev (l : List S34) : ∀ (n k : Nat), k < n → k < l.length → 0 < szAt l k → szAt l k ≤ 2000 → Ev (fun m => spec_l03Text.f m l (k : Int)) (strOfNums (termL l n k)) := by
  intro n
  induction n with
  | zero => intro k h; omega
  | succ n ih =>
    intro k hk hl hp hc
    obtain ⟨hr, h1, h2, h3⟩ := sz_split hp hc
    obtain ⟨g0, g1, _, _⟩ := right_parts hr
    have hv := varN_kind g0.1 g0.2
    refine Ev.step (fun m => by rw [spec_l03Text.f]) ?_
    refine evT (by omega) (evT (by omega) (Ev.bind (spec_Var_i (x := (nodeOf l k).f0) (by omega) (by omega)) ?_))
    by_cases e1 : (nodeOf l k).f0 = 1
    · have hn := varN_num (g1 e1).1 (g1 e1).2
      refine evT e1 (Ev.bind (spec_Var_i (x := (nodeOf l k).f1) (g1 e1).1 (by have := (g1 e1).2; omega)) (evT (by rw [strOfNums_size, strOfNums_size]; omega) (ev_cast (Ev.now _) ?_)))
      rw [termL, if_pos e1, str_app]
    · refine evF e1 ?_
      by_cases ho : oneKind (nodeOf l k).f0 = true
      · obtain ⟨a, ha, hak, hpa, hs⟩ := h2 e1 ho
        have hl1 := termL_length l n a (by omega) hpa (by omega)
        have hA := ih a (by omega) (by omega) hpa (by omega)
        rw [← ha] at hA
        refine Ev.bind hA (evT (by rw [strOfNums_size, strOfNums_size]; omega) (ev_now (spec_One_f _) (evT ho (ev_cast (Ev.now _) ?_))))
        rw [termL, if_neg e1, if_pos ho, ha, Int.toNat_natCast, List.append_nil, str_app]
      · obtain ⟨a, b, ha, hak, hpa, hb, hbk, hpb, hs⟩ := h3 e1 (by simpa using ho)
        have hl1 := termL_length l n a (by omega) hpa (by omega)
        have hl2 := termL_length l n b (by omega) hpb (by omega)
        have hA := ih a (by omega) (by omega) hpa (by omega)
        have hB := ih b (by omega) (by omega) hpb (by omega)
        rw [← ha] at hA
        rw [← hb] at hB
        refine Ev.bind hA (evT (by rw [strOfNums_size, strOfNums_size]; omega) (ev_now (spec_One_f _) (evF ho (Ev.bind hB (evT ?_ (ev_cast (Ev.now _) ?_))))))
        · rw [str_app, strOfNums_size, strOfNums_size, List.length_append]
          omega
        · rw [termL, if_neg e1, if_neg ho, ha, hb, Int.toNat_natCast, Int.toNat_natCast, str_app, str_app, List.append_assoc]
theorem spec_TermText_f (l : List S34) (hl : l.length ≤ 1048576) (a : Int) : Ev (fun k => spec_TermText.f k l a) (termText l a) := by
  unfold termText
  refine Ev.bind (spec_SizeOf_f l hl a) ?_
  simp only [spec_In_b, Option.bind_some]
  by_cases h : 1 ≤ sizeOf l a ∧ sizeOf l a ≤ 2000
  · have hin : 0 ≤ a ∧ a < (l.length : Int) := by
      by_cases hi : 0 ≤ a ∧ a < (l.length : Int)
      · exact hi
      · unfold sizeOf at h; rw [if_neg hi] at h; omega
    have hs : sizeOf l a = szAt l a.toNat := by unfold sizeOf; rw [if_pos hin]
    rw [hs] at h ⊢
    have ht := spec_Text_ev l (a.toNat + 1) a.toNat (by omega) (by omega) (by omega) h.2
    rw [Int.toNat_of_nonneg hin.1] at ht
    exact ev_cast (evT (by simp [h]) (Ev.bind ht (Ev.now _))) (if_pos h).symm
  · exact ev_cast (evF (by simpa using h) (Ev.now _)) (if_neg h).symm

theorem impl_Term_ev (l : List S34) : ∀ (n k : Nat), k < n → k < l.length → 0 < szAt l k → szAt l k ≤ 2000 → ∀ out : List Int, (out.length : Int) + 4 * szAt l k ≤ 1000000 → Ev (fun m => impl_termBytes.f m out l (k : Int)) (out ++ termL l n k) := by
  intro n
  induction n with
  | zero => intro k h; omega
  | succ n ih =>
    intro k hk hl hp hc out hout
    obtain ⟨hr, h1, h2, h3⟩ := sz_split hp hc
    obtain ⟨g0, g1, _, _⟩ := right_parts hr
    have hv := varN_kind g0.1 g0.2
    refine Ev.step (fun m => by rw [impl_termBytes.f]) ?_
    refine evT (by omega) (evT (by omega) (Ev.bind (impl_VarText_in (n := (nodeOf l k).f0) (by omega) (by omega)) (evT (by rw [strOfNums_size]; omega) (ev_now rfl ?_))))
    rw [bytesOf_str (varN_range _)]
    by_cases e1 : (nodeOf l k).f0 = 1
    · have hn := varN_num (g1 e1).1 (g1 e1).2
      refine evT e1 (Ev.bind (impl_VarText_in (n := (nodeOf l k).f1) (g1 e1).1 (by have := (g1 e1).2; omega)) (evT (by rw [strOfNums_size, List.length_append]; omega) (ev_cast (Ev.now _) ?_)))
      rw [bytesOf_str (varN_range _), termL, if_pos e1, List.append_assoc]
    · refine evF e1 ?_
      by_cases ho : oneKind (nodeOf l k).f0 = true
      · obtain ⟨a, ha, hak, hpa, hs⟩ := h2 e1 ho
        have hA := ih a (by omega) (by omega) hpa (by omega) (out ++ varN (nodeOf l k).f0.toNat) (by rw [List.length_append]; omega)
        rw [← ha] at hA
        refine Ev.bind hA (ev_now (impl_hasB_f _) (evF (by show ¬ ((!decide ((nodeOf l k).f0 = 1) && !oneKind (nodeOf l k).f0) = true); simp [ho]) (ev_cast (Ev.now _) ?_)))
        rw [termL, if_neg e1, if_pos ho, ha, Int.toNat_natCast, List.append_nil, List.append_assoc]
      · obtain ⟨a, b, ha, hak, hpa, hb, hbk, hpb, hs⟩ := h3 e1 (by simpa using ho)
        have hl1 := termL_length l n a (by omega) hpa (by omega)
        have hA := ih a (by omega) (by omega) hpa (by omega) (out ++ varN (nodeOf l k).f0.toNat) (by rw [List.length_append]; omega)
        rw [← ha] at hA
        have hB := ih b (by omega) (by omega) hpb (by omega) (out ++ varN (nodeOf l k).f0.toNat ++ termL l n a) (by rw [List.length_append, List.length_append]; omega)
        rw [← hb] at hB
        refine Ev.bind hA (ev_now (impl_hasB_f _) (evT (by show (!decide ((nodeOf l k).f0 = 1) && !oneKind (nodeOf l k).f0) = true; simp [ho, e1]) (Ev.bind hB (ev_cast (Ev.now _) ?_))))
        rw [termL, if_neg e1, if_neg ho, ha, hb, Int.toNat_natCast, Int.toNat_natCast, List.append_assoc, List.append_assoc]
theorem impl_TermText_f (l : List S34) (hl : l.length ≤ 1048576) (a : Int) : Ev (fun k => impl_TermText.f k l a) (termText l a) := by
  unfold termText
  refine Ev.bind (impl_SizeOf_f l hl a) ?_
  simp only [impl_within_b, Option.bind_some]
  by_cases h : 1 ≤ sizeOf l a ∧ sizeOf l a ≤ 2000
  · have hin : 0 ≤ a ∧ a < (l.length : Int) := by
      by_cases hi : 0 ≤ a ∧ a < (l.length : Int)
      · exact hi
      · unfold sizeOf at h; rw [if_neg hi] at h; omega
    have hs : sizeOf l a = szAt l a.toNat := by unfold sizeOf; rw [if_pos hin]
    rw [hs] at h ⊢
    have ht := impl_Term_ev l (a.toNat + 1) a.toNat (by omega) (by omega) (by omega) h.2 [] (by simp only [List.length_nil]; omega)
    rw [Int.toNat_of_nonneg hin.1] at ht
    exact ev_cast (evT (by simp [h]) (Ev.bind ht (Ev.now _))) (if_pos h).symm
  · exact ev_cast (evF (by simpa using h) (Ev.now _)) (if_neg h).symm

theorem spec_AOk_ev (l : List S34) (hl : l.length ≤ 3000) : ∀ (d i : Nat), l.length - i = d → i ≤ l.length → (∀ j, j < i → rightAt l j = true ∧ dupAt l j = false) → Ev (fun k => spec_ArenaOk.l0 k (i : Int) l) (aok l) := by
  intro d
  induction d with
  | zero =>
    intro i hd hi hall
    rw [aok_true hl (fun j hj => hall j (by omega))]
    exact ev_end (fun k => by rw [spec_ArenaOk.l0, if_neg (by omega)])
  | succ d ih =>
    intro i hd hi hall
    have hlt : i < l.length := by omega
    refine Ev.step (fun k => by rw [spec_ArenaOk.l0, if_pos (by omega), if_pos (by omega), w64 (x := (i : Int) + 1) (by omega) (by omega)]) ?_
    refine Ev.bind (spec_l03Node_f _ _ _ _ (i : Int) (by omega)) ?_
    by_cases hr : rightAt l i = true
    · refine evT hr (Ev.bind (spec_At_f l (by omega) (nodeOf l i)) ?_)
      by_cases hd2 : dupAt l i = false
      · refine evT ((atV_self hlt).2 hd2) ?_
        refine ih (i + 1) (by omega) (by omega) (fun j hj => ?_)
        by_cases e : j = i
        · rw [e]; exact ⟨hr, hd2⟩
        · exact hall j (by omega)
      · refine ev_cast (evF (fun h => hd2 ((atV_self hlt).1 h)) (Ev.now _)) ?_
        rw [aok_false hlt (.inr (by simpa using hd2))]
    · refine ev_cast (evF hr (Ev.now _)) ?_
      rw [aok_false hlt (.inl (by simpa using hr))]
theorem spec_ArenaOk_f (l : List S34) (hl : l.length ≤ 1048576) : Ev (fun k => spec_ArenaOk.f k l) (aok l) := by
  by_cases h : (l.length : Int) > 3000
  · refine ev_cast (evT h (Ev.now _)) ?_
    rw [aok_big (by omega)]
  · exact evF h (spec_AOk_ev l (by omega) l.length 0 (by omega) (by omega) (fun j hj => by omega))

theorem node_neg {f0 f1 f2 f3 k : Int} (h : nodeB f0 f1 f2 f3 k = true) : f0 = 1 ∨ 0 ≤ f2 := by
  unfold nodeB at h
  by_cases h1 : f0 = 1
  · exact .inl h1
  · rw [if_neg h1] at h
    right
    by_cases h3 : f0 = 3 ∨ f0 = 6
    · rw [if_pos h3] at h
      simp only [Bool.and_eq_true, decide_eq_true_eq] at h
      omega
    · rw [if_neg h3] at h
      simp only [Bool.and_eq_true, decide_eq_true_eq] at h
      omega

/-! a bench and an arena that are made alike -/
def Alike (s : List S34 × Bool × Int) (t : List S34 × Int) : Prop := (s.2.1 = false ∧ s.1 = t.1 ∧ s.2.2 = t.2 ∧ 0 ≤ t.2) ∨ (s.2.1 = true ∧ t.2 < 0)
theorem alike_put (l : List S34) (x : S34) : Alike (putB l false x) (putN l x) := by
  unfold putB
  rw [if_neg (by simp)]
  by_cases h : (putN l x).2 < 0
  · rw [if_pos h]; exact .inr ⟨rfl, h⟩
  · rw [if_neg h]; exact .inl ⟨rfl, rfl, rfl, by omega⟩
theorem putN_neg2 (l : List S34) (kind x k : Int) (h2 : 2 ≤ kind) (h : x < 0) : (putN l ⟨kind, 0, x, k⟩).2 < 0 := by
  have hn : ¬ nodeB kind 0 x k (l.length : Int) = true := by
    intro hb
    have := node_neg hb
    omega
  unfold putN
  rw [if_neg hn]
  simp
theorem alike_pair (s : List S34 × Bool × Int) (t : List S34 × Int) (h : Alike s t) (x : Int) : Alike (ofB s 2 x s.2.2) (pairN t.1 x t.2) := by
  unfold ofB pairN
  rcases h with ⟨h1, h2, h3, h4⟩ | ⟨h1, h2⟩
  · rw [h1, h2, h3]
    by_cases hx : x < 0
    · rw [if_pos (.inl hx)]
      have hn := putN_neg2 t.1 2 x t.2 (by omega) hx
      unfold putB
      rw [if_neg (by simp), if_pos hn]
      exact .inr ⟨rfl, by simp⟩
    · rw [if_neg (by omega)]
      exact alike_put _ _
  · rw [h1, if_pos (.inr h2)]
    exact .inr ⟨rfl, by simp⟩
theorem alike_list (l : List S34) (xs : List Int) : Alike (listB l false xs) (listN l xs) := by
  induction xs with
  | nil => exact alike_put l _
  | cons x xs ih => exact alike_pair _ _ ih x
theorem alike_end {l : List S34} {s : List S34 × Bool × Int} {t : List S34 × Int} (h : Alike s t) : endN l s = if t.2 < 0 then (l, -1) else t := by
  unfold endN
  rcases h with ⟨h1, h2, h3, h4⟩ | ⟨h1, h2⟩
  · rw [if_neg (by rw [h1, h3]; simp; omega), if_neg (by omega), h2, h3]
  · rw [if_pos (.inl h1), if_pos h2]

/-! NodeOk, as both tell it -/
def nodeOkB (l : List S34) (a : Int) : Bool := if 0 ≤ a ∧ a < (l.length : Int) then nodeB (rd_T34 l a).f0 (rd_T34 l a).f1 (rd_T34 l a).f2 (rd_T34 l a).f3 a else false
theorem impl_NodeOk_f (l : List S34) (a : Int) (hl : l.length ≤ 1048576) : Ev (fun k => impl_NodeOk.f k l a) (nodeOkB l a) := by
  unfold impl_NodeOk.f nodeOkB
  simp only [impl_hasNode_f l a (by omega), Option.bind_some]
  by_cases h : 0 ≤ a ∧ a < (l.length : Int)
  · refine evT (by simp; omega) (evT h.1 (evT h.2 ?_))
    refine ev_cast (Ev.bind (impl_nodeRight_f _ _ _ _ a (by omega)) (Ev.now _)) ?_
    rw [if_pos h]
  · exact ev_cast (evF (by simp; omega) (Ev.now _)) (if_neg h).symm

theorem same_ev (L : List S34) (hl : L.length ≤ 1048576) : ∀ (d i : Nat), L.length - i = d → i ≤ L.length → Ev (fun k => laws_sameArena.l0 k (i : Int) L L) true := by
  intro d
  induction d with
  | zero =>
    intro i hd hi
    exact ev_end (fun k => by rw [laws_sameArena.l0, if_neg (by omega)])
  | succ d ih =>
    intro i hd hi
    refine Ev.step (fun k => by rw [laws_sameArena.l0, if_pos (by omega), if_pos (by omega), if_pos (by omega), if_neg (by simp), w64 (x := (i : Int) + 1) (by omega) (by omega)]) ?_
    exact ih (i + 1) (by omega) (by omega)
theorem same_f (L : List S34) (hl : L.length ≤ 1048576) : Ev (fun k => laws_sameArena.f k L L) true := evT rfl (same_ev L hl L.length 0 (by omega) (by omega))

/-! draws: what they come to lies in its bounds -/
theorem New_ev (l : List Int) (hl : l.length ≤ 140737488351232) : ∀ (d i : Nat) (x : Int), 4000 - i = d → i ≤ l.length → ∃ h, Ev (fun k => spec_l01New.l0 k l x (i : Int)) (l, 0, h) := by
  intro d
  induction d with
  | zero =>
    intro i x hd hi
    by_cases hlt : i < l.length
    · exact ⟨x, ev_end (fun k => by rw [spec_l01New.l0, if_pos (by omega), if_neg (by omega)])⟩
    · exact ⟨x, ev_end (fun k => by rw [spec_l01New.l0, if_neg (by omega)])⟩
  | succ d ih =>
    intro i x hd hi
    by_cases hlt : i < l.length
    · obtain ⟨h, hh⟩ := ih (i + 1) (Go.bits .and .i64 (wrap64 ((wrap64 ((wrap64 (x * 131)) + (wrap64 (rd l i)))) + 7)) 1073741823) (by omega) (by omega)
      exact ⟨h, Ev.step (fun k => by rw [spec_l01New.l0, if_pos (by omega), if_pos (by omega), if_pos (by omega), w64 (x := (i : Int) + 1) (by omega) (by omega)]; rfl) hh⟩
    · exact ⟨x, ev_end (fun k => by rw [spec_l01New.l0, if_neg (by omega)])⟩
theorem New_f (l : List Int) (hl : l.length ≤ 140737488351232) : ∃ h, Ev (fun k => spec_l01New.f k l) (l, 0, h) := New_ev l hl 4000 0 _ rfl (by omega)
theorem cur_zero {l : List Int} (hl : l.length ≤ 140737488351232) : Cur l 0 := ⟨by omega, by omega, hl⟩
theorem Byte_f {l : List Int} {i : Int} (h : Int) (c : Cur l i) : ∃ r i' h', spec_l01Byte.f l i h = some (r, i', h') ∧ Cur l i' ∧ 0 ≤ r ∧ r ≤ 255 := by
  obtain ⟨c0, c1, c2⟩ := c
  unfold spec_l01Byte.f
  by_cases hi : i < (l.length : Int)
  · rw [if_pos hi, if_pos c0, w64 (x := i + 1) (by omega) (by omega)]
    exact ⟨_, _, _, rfl, ⟨by omega, by omega, c2⟩, (and255 _).1, (and255 _).2⟩
  · rw [if_neg hi]
    exact ⟨_, _, _, rfl, ⟨c0, c1, c2⟩, (and255 _).1, (and255 _).2⟩
theorem Below_f {l : List Int} {i : Int} (h n : Int) (hn : n ≤ 4294967296) (c : Cur l i) : ∃ r i' h', spec_l01Below.f l i h n = some (r, i', h') ∧ Cur l i' ∧ (0 < n → 0 ≤ r ∧ r < n) ∧ (n ≤ 0 → r = 0) := by
  unfold spec_l01Below.f
  by_cases h0 : n ≤ 0
  · rw [if_pos h0]
    exact ⟨_, _, _, rfl, c, fun h => by omega, fun _ => rfl⟩
  · rw [if_neg h0]
    by_cases h1 : n ≤ 256
    · rw [if_pos h1]
      obtain ⟨r, i', h', e, c', r0, r1⟩ := Byte_f h c
      rw [e]
      simp only [Option.bind_some]
      rw [if_neg (by omega)]
      exact ⟨_, _, _, rfl, c', fun _ => by rw [Int.tmod_eq_emod_of_nonneg r0]; exact ⟨Int.emod_nonneg _ (by omega), Int.emod_lt_of_pos _ (by omega)⟩, fun h => by omega⟩
    · rw [if_neg h1]
      obtain ⟨ra, ia, ha, ea, ca, a0, a1⟩ := Byte_f h c
      rw [ea]
      simp only [Option.bind_some]
      obtain ⟨rb, ib, hb, eb, cb, b0, b1⟩ := Byte_f ha ca
      rw [eb]
      simp only [Option.bind_some]
      obtain ⟨rc, ic, hc, ec, cc, c0, c1⟩ := Byte_f hb cb
      rw [ec]
      simp only [Option.bind_some]
      obtain ⟨rd, id, hd, ed, cd, d0, d1⟩ := Byte_f hc cc
      rw [ed]
      simp only [Option.bind_some]
      rw [if_neg (by omega)]
      refine ⟨_, _, _, rfl, cd, fun _ => ?_, fun h => by omega⟩
      have e1 : wrap64 (ra * 16777216) = ra * 16777216 := w64 (by omega) (by omega)
      have e2 : wrap64 (rb * 65536) = rb * 65536 := w64 (by omega) (by omega)
      have e3 : wrap64 (rc * 256) = rc * 256 := w64 (by omega) (by omega)
      have e4 : wrap64 (ra * 16777216 + rb * 65536) = ra * 16777216 + rb * 65536 := w64 (by omega) (by omega)
      have e5 : wrap64 (ra * 16777216 + rb * 65536 + rc * 256) = ra * 16777216 + rb * 65536 + rc * 256 := w64 (by omega) (by omega)
      have e6 : wrap64 (ra * 16777216 + rb * 65536 + rc * 256 + rd) = ra * 16777216 + rb * 65536 + rc * 256 + rd := w64 (by omega) (by omega)
      rw [e1, e2, e3, e4, e5, e6, Int.tmod_eq_emod_of_nonneg (by omega)]
      exact ⟨Int.emod_nonneg _ (by omega), Int.emod_lt_of_pos _ (by omega)⟩

/-! a drawn arena is right, and small -/
def smallN (x : S34) : Prop := (-1 ≤ x.f0 ∧ x.f0 ≤ 1000000) ∧ (-1 ≤ x.f1 ∧ x.f1 ≤ 1000000) ∧ (-1 ≤ x.f2 ∧ x.f2 ≤ 1000000) ∧ (-1 ≤ x.f3 ∧ x.f3 ≤ 1000000)
theorem small_int {n : Int} (h : -1 ≤ n ∧ n ≤ 1000000) : (Lit.int .i64 n).wf = true := by
  simp [Lit.wf, IntKind.min, IntKind.max, IntKind.signed, IntKind.bits]
  omega
theorem small_wf {x : S34} (h : smallN x) : wf1 x = true := by
  unfold wf1
  rw [small_int h.1, small_int h.2.1, small_int h.2.2.1, small_int h.2.2.2]
  rfl
theorem pick_in {l : List Int} {i : Int} (h : Int) (c : Cur l i) (xs : List Int) (h0 : 0 < xs.length) (h1 : xs.length ≤ 1000) : ∃ r i' h', spec_l01PickInt.f l i h xs = some (r, i', h') ∧ Cur l i' ∧ r ∈ xs := by
  obtain ⟨r, i', h', e, c', r0, _⟩ := Below_f h (xs.length : Int) (by omega) c
  have hr := r0 (by omega)
  unfold spec_l01PickInt.f
  rw [e]
  simp only [Option.bind_some]
  rw [if_pos hr.1, if_pos hr.2]
  refine ⟨_, _, _, rfl, c', ?_⟩
  obtain ⟨n, hn⟩ := Int.eq_ofNat_of_zero_le hr.1
  rw [hn, rd_nat (by omega)]
  exact List.getElem_mem _
theorem nodeOf_app {l : List S34} {x : S34} {j : Nat} (h : j < l.length) : nodeOf (l ++ [x]) j = nodeOf l j := by
  rw [nodeOf_get (by simp; omega), nodeOf_get h, List.getElem_append_left h]
theorem nodeOf_last (l : List S34) (x : S34) : nodeOf (l ++ [x]) l.length = x := by
  rw [nodeOf_get (by simp)]
  simp
theorem atV_none {l : List S34} {x : S34} (h : atV l x = -1) : ∀ y ∈ l, sameN y x = false := by
  unfold atV at h
  cases hf : l.findIdx? (fun y => sameN y x) with
  | none =>
    intro y hy
    have := List.findIdx?_eq_none_iff.1 hf y hy
    simpa using this
  | some m =>
    rw [hf] at h
    exfalso
    have h2 : (m : Int) = -1 := h
    omega
theorem aok_app {l : List S34} {x : S34} (h : aok l = true) (hl : l.length < 3000) (hb : nodeB x.f0 x.f1 x.f2 x.f3 (l.length : Int) = true) (ha : atV l x = -1) : aok (l ++ [x]) = true := by
  have hp := (aok_parts h).2
  refine aok_true (by simp; omega) (fun j hj => ?_)
  rcases Nat.lt_or_ge j l.length with hlt | hge
  · have hj' := hp j hlt
    refine ⟨?_, ?_⟩
    · unfold rightAt
      rw [nodeOf_app hlt]
      exact hj'.1
    · unfold dupAt
      rw [nodeOf_app hlt, List.take_append_of_le_length (by omega)]
      exact hj'.2
  · have e : j = l.length := by simp at hj; omega
    subst e
    refine ⟨?_, ?_⟩
    · unfold rightAt
      rw [nodeOf_last]
      exact hb
    · unfold dupAt
      rw [nodeOf_last, List.take_left, List.any_eq_false]
      intro y hy
      rw [atV_none ha y hy]
      simp
theorem aok_put {l : List S34} (x : S34) (h : aok l = true) : aok (putN l x).1 = true := by
  rcases putN_cases l x with ⟨e, _⟩ | ⟨hb, _, ⟨e, _⟩ | ⟨ha, hl, e, _⟩⟩
  · rw [e]; exact h
  · rw [e]; exact h
  · rw [e]; exact aok_app h hl hb ha
theorem put_length (l : List S34) (x : S34) : l.length ≤ (putN l x).1.length ∧ (putN l x).1.length ≤ l.length + 1 := by
  rcases putN_cases l x with ⟨e, _⟩ | ⟨hb, _, ⟨e, _⟩ | ⟨ha, hl, e, _⟩⟩
  · rw [e]; omega
  · rw [e]; omega
  · rw [e]; simp
theorem put_first {p : Int} (h : 0 ≤ p ∧ p ≤ 999999) : (putN ([] : List S34) ⟨1, p, 0, 0⟩).1 = [⟨1, p, 0, 0⟩] := by
  unfold putN
  have h1 : nodeB 1 p 0 0 (([] : List S34).length : Int) = true := by
    unfold nodeB
    rw [if_pos rfl]
    simp [h.1, h.2]
  rw [if_pos h1]
  rfl
theorem nums_in {p : Int} (h : p ∈ ([0, 1, 5, 1000, 5000, 10000, 10001] : List Int)) : 0 ≤ p ∧ p ≤ 999999 := by
  simp at h
  omega
theorem once_f {l : List Int} {i : Int} (h : Int) (c : Cur l i) (n : Int) (hn : n ≤ 4294967296) : ∃ r i' h', spec_l01Once.f l i h n = some (r, i', h') ∧ Cur l i' := by
  obtain ⟨r, i', h', e, c', _, _⟩ := Below_f h n hn c
  unfold spec_l01Once.f
  rw [e]
  exact ⟨_, _, _, rfl, c'⟩
theorem body_f {l : List Int} {i : Int} (h : Int) (c : Cur l i) (ns : List S34) (ha : aok ns = true) (hl : ns.length ≤ 2000) : ∃ r i' h', arenaBody l i h ns = some (r, i', h') ∧ Cur l i' ∧ aok r = true ∧ ns.length ≤ r.length ∧ r.length ≤ ns.length + 1 ∧ 1 ≤ r.length := by
  have atom : ∀ (i h : Int), Cur l i → ∃ r i' h', ((spec_l01PickInt.f l i h ([0, 1, 5, 1000, 5000, 10000, 10001] : List Int)).bind fun p => some ((putN ns ⟨1, p.1, 0, 0⟩).1, p.2.1, p.2.2)) = some (r, i', h') ∧ Cur l i' ∧ aok r = true ∧ ns.length ≤ r.length ∧ r.length ≤ ns.length + 1 ∧ 1 ≤ r.length := by
    intro i h c
    obtain ⟨p, i1, h1, e, c1, hp⟩ := pick_in h c [0, 1, 5, 1000, 5000, 10000, 10001] (by decide) (by decide)
    rw [e, Option.bind_some]
    refine ⟨_, _, _, rfl, c1, aok_put _ ha, (put_length _ _).1, (put_length _ _).2, ?_⟩
    by_cases hz : ns = []
    · subst hz
      show 1 ≤ (putN [] (⟨1, p, 0, 0⟩ : S34)).1.length
      rw [put_first (nums_in hp)]
      simp
    · have h1 := (put_length ns (⟨1, p, 0, 0⟩ : S34)).1
      have h2 : 0 < ns.length := List.length_pos_iff.2 hz
      simp only
      omega
  unfold arenaBody
  by_cases h2 : ns.length < 2
  · rw [if_pos h2, Option.bind_some, if_pos rfl]
    exact atom i h c
  · rw [if_neg h2]
    obtain ⟨r, i1, h1, e, c1⟩ := once_f h c 3 (by omega)
    rw [e, Option.bind_some]
    by_cases hr : r = true
    · rw [if_pos hr]
      exact atom i1 h1 c1
    · rw [if_neg hr]
      obtain ⟨q, i2, h2', e2, c2, b2, _⟩ := Below_f h1 8 (by omega) c1
      have hq := b2 (by omega)
      rw [e2, Option.bind_some, if_pos ⟨hq.1, by omega⟩]
      obtain ⟨x, i3, h3, e3, c3, _, _⟩ := Below_f h2' (ns.length : Int) (by omega) c2
      rw [e3, Option.bind_some]
      obtain ⟨y, i4, h4, e4, c4, _, _⟩ := Below_f h3 (ns.length : Int) (by omega) c3
      rw [e4, Option.bind_some]
      exact ⟨_, _, _, rfl, c4, aok_put _ ha, (put_length _ _).1, (put_length _ _).2, by have := (put_length ns (⟨2 + q, 0, x, if 2 + q = 3 ∨ 2 + q = 6 then 0 else y⟩ : S34)).1; simp only; omega⟩
theorem loop_f {l : List Int} : ∀ (d j : Nat) (ns : List S34) (i h : Int), j + d = 13 → j ≤ 12 → Cur l i → aok ns = true → ns.length ≤ j → (0 < j → 1 ≤ ns.length) → ∃ r i' h', arenaLoop d l i h (j : Int) ns = some (r, i', h') ∧ Cur l i' ∧ aok r = true ∧ 1 ≤ r.length ∧ r.length ≤ 12 := by
  intro d
  induction d with
  | zero => intro j ns i h hd hj; omega
  | succ d ih =>
    intro j ns i h hd hj c ha hn h1
    rw [arenaLoop]
    obtain ⟨b, i1, h1', e, c1, b1, _⟩ := Below_f h 10 (by omega) c
    have hb := b1 (by omega)
    rw [e, Option.bind_some, if_pos ⟨hb.1, by omega⟩]
    by_cases hlt : (j : Int) < 3 + b
    · rw [if_pos hlt]
      obtain ⟨r, i2, h2, e2, c2, a2, l1, l2, l3⟩ := body_f h1' c1 ns ha (by omega)
      rw [e2, Option.bind_some]
      obtain ⟨q, i3, h3, e3, c3, a3, m1, m2⟩ := ih (j + 1) r i2 h2 (by omega) (by omega) c2 a2 (by omega) (fun _ => l3)
      refine ⟨q, i3, h3, ?_, c3, a3, m1, m2⟩
      rw [← e3]
      rfl
    · rw [if_neg hlt]
      exact ⟨_, _, _, rfl, c1, ha, h1 (by omega), by omega⟩
theorem Arena_f {l : List Int} {i : Int} (h : Int) (c : Cur l i) : ∃ r i' h', spec_l03Arena.f l i h = some (r, i', h') ∧ Cur l i' ∧ aok r = true ∧ 1 ≤ r.length ∧ r.length ≤ 12 :=
  loop_f 13 0 [] i h (by omega) (by omega) c (by rfl) (by simp) (fun h => by omega)
theorem right_small {x : S34} {k : Int} (h : nodeB x.f0 x.f1 x.f2 x.f3 k = true) (hk : k ≤ 3000) : smallN x := by
  unfold nodeB at h
  unfold smallN
  by_cases h1 : x.f0 = 1
  · rw [if_pos h1] at h
    simp only [Bool.and_eq_true, decide_eq_true_eq] at h
    omega
  · rw [if_neg h1] at h
    by_cases h3 : x.f0 = 3 ∨ x.f0 = 6
    · rw [if_pos h3] at h
      simp only [Bool.and_eq_true, decide_eq_true_eq] at h
      omega
    · rw [if_neg h3] at h
      simp only [Bool.and_eq_true, decide_eq_true_eq] at h
      omega
theorem aok_small {l : List S34} (h : aok l = true) : ∀ x ∈ l, smallN x := by
  intro x hx
  obtain ⟨j, hj, rfl⟩ := List.mem_iff_getElem.1 hx
  obtain ⟨h1, h2⟩ := aok_parts h
  have := (h2 j hj).1
  unfold rightAt at this
  rw [nodeOf_get hj] at this
  exact right_small this (by omega)
theorem small_all {l : List S34} (h : ∀ x ∈ l, smallN x) : l.all wf1 = true := List.all_eq_true.2 (fun x hx => small_wf (h x hx))

/-! a drawn arena, right or not -/
theorem copyD_f {l : List S34} (h : l.length ≤ 1048576) : spec_l03Copy.f l = some l := by
  unfold spec_l03Copy.f
  simp only [Option.bind_some, List.length_nil, List.nil_append]
  rw [if_pos (by omega)]
theorem Any_f {l : List Int} {i : Int} (h : Int) (c : Cur l i) : ∃ r i' h', spec_l03Any.f l i h = some (r, i', h') ∧ Cur l i' ∧ 1 ≤ r.length ∧ r.length ≤ 13 ∧ ∀ x ∈ r, smallN x := by
  obtain ⟨k, i1, h1, e1, c1, b1, _⟩ := Below_f h 12 (by omega) c
  obtain ⟨y, i2, h2, e2, c2, b2, _⟩ := Below_f h1 60 (by omega) c1
  obtain ⟨ns, i3, h3, e3, c3, ha, n1, n2⟩ := Arena_f h2 c2
  have hy := b2 (by omega)
  have hs := aok_small ha
  unfold spec_l03Any.f
  rw [e1, Option.bind_some, e2, Option.bind_some, e3, Option.bind_some, copyD_f (show ns.length ≤ 1048576 by omega), Option.bind_some]
  simp only [Option.bind_some]
  have hn0 : ¬ (ns.length : Int) = 0 := by omega
  rw [if_neg hn0]
  have t0 : 0 ≤ Int.tmod y (ns.length : Int) := by rw [Int.tmod_eq_emod_of_nonneg hy.1]; exact Int.emod_nonneg _ (by omega)
  have t1 : Int.tmod y (ns.length : Int) < (ns.length : Int) := by rw [Int.tmod_eq_emod_of_nonneg hy.1]; exact Int.emod_lt_of_pos _ (by omega)
  have hat : smallN (rd_T34 ns (Int.tmod y (ns.length : Int))) := by
    obtain ⟨m, hm⟩ := Int.eq_ofNat_of_zero_le t0
    rw [hm, rdI (by omega)]
    exact hs _ (List.getElem_mem _)
  have hset : ∀ x : S34, smallN x → ∀ z ∈ ns.set (Int.tmod y (ns.length : Int)).toNat x, smallN z := by
    intro x hx z hz
    rcases List.mem_or_eq_of_mem_set hz with hz | hz
    · exact hs z hz
    · rw [hz]; exact hx
  by_cases k0 : k = 0
  · rw [if_pos k0, if_pos t0, if_pos t1]
    refine ⟨_, _, _, rfl, c3, by simp; omega, by simp; omega, hset _ ?_⟩
    have m0 : 0 ≤ Int.tmod y 11 ∧ Int.tmod y 11 < 11 := by rw [Int.tmod_eq_emod_of_nonneg hy.1]; omega
    exact ⟨by simp only; omega, hat.2.1, hat.2.2.1, hat.2.2.2⟩
  · rw [if_neg k0]
    by_cases k1 : k = 1
    · rw [if_pos k1, if_pos t0, if_pos t1]
      refine ⟨_, _, _, rfl, c3, by simp; omega, by simp; omega, hset _ ?_⟩
      have m0 : 0 ≤ Int.tmod y 9 ∧ Int.tmod y 9 < 9 := by rw [Int.tmod_eq_emod_of_nonneg hy.1]; omega
      exact ⟨hat.1, hat.2.1, by simp only; rw [w64 (by omega) (by omega)]; omega, hat.2.2.2⟩
    · rw [if_neg k1]
      by_cases k2 : k = 2
      · have m0 : 0 ≤ Int.tmod y 3 ∧ Int.tmod y 3 < 3 := by rw [Int.tmod_eq_emod_of_nonneg hy.1]; omega
        rw [if_pos k2, if_pos m0.1, if_pos (show Int.tmod y 3 < ((([(-1), 5, 1000000] : List Int).length : Nat) : Int) from m0.2), if_pos t0, if_pos t1]
        refine ⟨_, _, _, rfl, c3, by simp; omega, by simp; omega, hset _ ⟨hat.1, ?_, hat.2.2.1, hat.2.2.2⟩⟩
        simp only
        generalize Int.tmod y 3 = q at m0
        obtain ⟨m, rfl⟩ := Int.eq_ofNat_of_zero_le m0.1
        have hm : m = 0 ∨ m = 1 ∨ m = 2 := by omega
        rcases hm with rfl | rfl | rfl <;> decide
      · rw [if_neg k2]
        by_cases k3 : k = 3
        · rw [if_pos k3, if_pos (by omega), if_pos (by omega)]
          refine ⟨_, _, _, rfl, c3, by simp, by simp; omega, ?_⟩
          intro z hz
          rcases List.mem_append.1 hz with hz | hz
          · exact hs z hz
          · rw [List.mem_singleton.1 hz]
            have h0 : smallN (rd_T34 ns 0) := by
              have := rdI (l := ns) (i := 0) (by omega)
              simp only [Int.ofNat_eq_natCast, Int.natCast_zero] at this
              rw [show (0 : Int) = ((0 : Nat) : Int) from rfl, rdI (by omega)]
              exact hs _ (List.getElem_mem _)
            exact ⟨h0.1, h0.2.1, h0.2.2.1, h0.2.2.2⟩
        · rw [if_neg k3]
          exact ⟨_, _, _, rfl, c3, n1, by omega, hs⟩

/-! an arena in a block that stays as it is -/
def AB (wr : World) (g : Nat) (A : Option Addr) (c : Nat) (L : List S34) : Prop := wr.heap[g]? = some (.cells #[.slice A L.length c] 26 (0, 0)) ∧ Kd.C k34 wr A L.length L ∧ L.length ≤ c
theorem AB.below {wr w1 : World} {g : Nat} {A : Option Addr} {c : Nat} {L : List S34} (h : AB wr g A c L) (hb : Below wr.heap.size wr w1) : AB w1 g A c L := ⟨blk_below h.1 hb, Kd.C_below h.2.1 hb, h.2.2⟩
theorem AB.cell {wr : World} {g : Nat} {A : Option Addr} {c : Nat} {L : List S34} (h : AB wr g A c L) : wr.cell? ⟨g, 0, none⟩ = some (.slice A L.length c) := (blk_cell h.1 0).trans rfl
theorem AB.row {wr : World} {g : Nat} {A : Option Addr} {c : Nat} {L : List S34} (h : AB wr g A c L) : Kd.C k34 wr A L.length L := h.2.1
theorem AB.cap {wr : World} {g : Nat} {A : Option Addr} {c : Nat} {L : List S34} (h : AB wr g A c L) : L.length ≤ c := h.2.2
theorem AB.first {w3 w4 : World} {base ga : Nat} {ok : Nat → Prop} {A : Option Addr} {c : Nat} {L : List S34} (ho : Kd.R k34 34 w3 base ok (.slice A L.length c) L) (hb : w4.heap[ga]? = some (.cells #[.slice none 0 0] 26 (0, 0))) (hg : ga = w3.heap.size) (h4 : Below w3.heap.size w3 w4) : AB (w4.setCell ⟨ga, 0, none⟩ (.slice A L.length c)) ga A c L := by
  obtain ⟨_, hc, hC⟩ := Kd.R_reads' ho
  exact ⟨blk_put hb 0 _ rfl, Kd.C_below hC (below_set h4 (by show w3.heap.size ≤ ga; omega)), hc⟩
theorem AB.keepB {w3 w4 : World} {ga : Nat} {u : Value} (hg : ga = w3.heap.size) (h4 : Below w3.heap.size w3 w4) : Below w3.heap.size w3 (w4.setCell ⟨ga, 0, none⟩ u) := below_set h4 (by show w3.heap.size ≤ ga; omega)
/-! two blocks made, then both stored -/
theorem AB.firstTwo {w3 w4 w5 : World} {base ga gn : Nat} {ok : Nat → Prop} {A : Option Addr} {c : Nat} {L : List S34} {n0 n1 n2 n3 : Int} (ho : Kd.R k34 34 w3 base ok (.slice A L.length c) L) (hb : w4.heap[ga]? = some (.cells #[.slice none 0 0] 26 (0, 0))) (hg : ga = w3.heap.size) (h4 : Below w3.heap.size w3 w4) (hgn : gn = w4.heap.size) (h5 : Below w4.heap.size w4 w5) (hN : w5.heap[gn]? = some (.cells #[.int .i64 0, .int .i64 0, .int .i64 0, .int .i64 0] 34 (0, 0))) :
    AB (((((w5.setCell ⟨ga, 0, none⟩ (.slice A L.length c)).setCell ⟨gn, 0, none⟩ (.int .i64 n0)).setCell ⟨gn, 1, none⟩ (.int .i64 n1)).setCell ⟨gn, 2, none⟩ (.int .i64 n2)).setCell ⟨gn, 3, none⟩ (.int .i64 n3)) ga A c L ∧ (((((w5.setCell ⟨ga, 0, none⟩ (.slice A L.length c)).setCell ⟨gn, 0, none⟩ (.int .i64 n0)).setCell ⟨gn, 1, none⟩ (.int .i64 n1)).setCell ⟨gn, 2, none⟩ (.int .i64 n2)).setCell ⟨gn, 3, none⟩ (.int .i64 n3)).heap[gn]? = some (.cells #[.int .i64 n0, .int .i64 n1, .int .i64 n2, .int .i64 n3] 34 (0, 0)) ∧ Below w3.heap.size w3 (((((w5.setCell ⟨ga, 0, none⟩ (.slice A L.length c)).setCell ⟨gn, 0, none⟩ (.int .i64 n0)).setCell ⟨gn, 1, none⟩ (.int .i64 n1)).setCell ⟨gn, 2, none⟩ (.int .i64 n2)).setCell ⟨gn, 3, none⟩ (.int .i64 n3)) := by
  obtain ⟨_, hc, hC⟩ := Kd.R_reads' ho
  have hlt : ga < w4.heap.size := blk_lt hb
  have hs : w3.heap.size ≤ gn := by have := h4.size; omega
  have hB : Below w3.heap.size w3 (((((w5.setCell ⟨ga, 0, none⟩ (.slice A L.length c)).setCell ⟨gn, 0, none⟩ (.int .i64 n0)).setCell ⟨gn, 1, none⟩ (.int .i64 n1)).setCell ⟨gn, 2, none⟩ (.int .i64 n2)).setCell ⟨gn, 3, none⟩ (.int .i64 n3)) := below_set (below_set (below_set (below_set (below_set (below_step h4 h5) (by show w3.heap.size ≤ ga; omega)) hs) hs) hs) hs
  refine ⟨⟨?_, Kd.C_below hC hB, hc⟩, ?_, hB⟩
  · exact blk_far (p := ⟨gn, 3, none⟩) (blk_far (p := ⟨gn, 2, none⟩) (blk_far (p := ⟨gn, 1, none⟩) (blk_far (p := ⟨gn, 0, none⟩) (blk_put (blk_below hb h5) 0 _ rfl) (show ga ≠ gn by omega) _) (show ga ≠ gn by omega) _) (show ga ≠ gn by omega) _) (show ga ≠ gn by omega) _
  · exact blk_put (blk_put (blk_put (blk_put (blk_far (p := ⟨ga, 0, none⟩) hN (show gn ≠ ga by omega) _) 0 _ rfl) 1 _ rfl) 2 _ rfl) 3 _ rfl
theorem arenaOk_nil (w : World) (h : impl_ArenaOk.f [] = some true) : Calls Try.prog 27 #[.agg #[.slice none 0 0]] w fun e w' => e = .returned (.bool true) ∧ Below w.heap.size w w' := impl_ArenaOk.calls none 0 [] true w (Kd.C_nil k34 _) (Nat.le_refl _) h
set_option maxHeartbeats 8000000 in
set_option maxRecDepth 100000 in
theorem law_told (A0 : Option Addr) (c0 : Nat) (l0 : List Int) (k : Nat) (L0 L1 L2 L3 : List S34) (a n0 n1 n2 n3 i z : Int) (t : ByteArray) (b1 b2 b3 : Bool) (w : World) (hr0 : Kd.C (Kd.int .u8) w A0 l0.length l0) (hc0 : l0.length ≤ c0)
    (hbig : (l0.length : Int) ≤ 1048576) (h0 : spec_DrawTermText.f k l0 = some (L0, a)) (h1 : impl_TermText.f k L0 a = some (t, b1)) (h2 : spec_TermText.f k L0 a = some (t, b1)) (h3 : spec_DrawPut.f k l0 = some (L1, n0, n1, n2, n3)) (h4 : impl_Put.f L1 n0 n1 n2 n3 = some (L2, i)) (h5 : spec_Put.f L1 n0 n1 n2 n3 = some (L2, i)) (h6 : spec_DrawArenaOk.f k l0 = some L3)
    (h7 : impl_SizeOf.f k L0 a = some z) (h8 : spec_SizeOf.f k L0 a = some z) (h9 : impl_NodeOk.f k L0 a = some b2) (h10 : spec_NodeOk.f k L0 a = some b2) (h11 : laws_sameArena.f k L2 L2 = some true) (h12 : impl_ArenaOk.f L3 = some b3) (h13 : spec_ArenaOk.f k L3 = some b3) (h14 : impl_ArenaOk.f [] = some true) :
    Calls Try.prog 10 #[.slice A0 l0.length c0] w fun e w' => e = .returned (.bool true) ∧ Below w.heap.size w w' := by
  have hu26 := Try.underlying26
  have HR0 := Aside0.mk hr0
  have HC0 := Aside0.mk hc0
  have HBIG : Aside0 (laws_big.f l0 = some false) := ⟨by unfold laws_big.f; rw [decide_eq_false (by omega)]⟩
  have H0 := Aside0.mk h0
  have H1 := Aside0.mk h1
  have H2 := Aside0.mk h2
  have H3 := Aside0.mk h3
  have H4 := Aside0.mk h4
  have H5 := Aside0.mk h5
  have H6 := Aside0.mk h6
  have H7 := Aside0.mk h7
  have H8 := Aside0.mk h8
  have H9 := Aside0.mk h9
  have H10 := Aside0.mk h10
  have H11 := Aside0.mk h11
  have H12 := Aside0.mk h12
  have H13 := Aside0.mk h13
  have H14 := Aside0.mk h14
  clear hr0 hc0 hbig h0 h1 h2 h3 h4 h5 h6 h7 h8 h9 h10 h11 h12 h13 h14
  go_enter Try.func10, Try.ntmps10
  go_wp2_with (first
    | (go_at_call 14; ((with_reducible refine (laws_big.calls A0 c0 l0 false _ HR0.out HC0.out HBIG.out).mono ?_); rintro e w2 ⟨rfl, hd_⟩); have HB2 := Aside0.mk hd_.below; clear hd_)
    | (go_at_call 54; ((with_reducible refine (spec_DrawTermText.calls k A0 c0 l0 L0 a _ (Kd.C_below HR0.out HB2.out) HC0.out H0.out).mono ?_); rintro e w3 ⟨v0, rfl, ho, hb⟩); obtain ⟨A3, c3, rfl, _, _⟩ := Kd.R_reads ho; have HO3 := Aside0.mk ho; have HB3 := Aside0.mk (below_step HB2.out hb); clear ho hb)
    | ((with_reducible refine gate_dst (N := 3) rfl ?_); refine box_event ?hg (N := 3) ?hd (cs := #[.slice none 0 0]) (t := 26) ?hr ?_; (case hd => rfl); (case hg => rfl); (case hr => first | (go_simp; done) | (go_simp; rfl)); intro g3 hg1 w4 hbox hb; have BK3 := Aside0.mk hbox; have HC3 := Aside0.mk hb; have G3 := Aside0.mk hg1; clear hg1 hbox hb; have X30 := Aside0.mk (AB.first HO3.out BK3.out G3.out HC3.out); have HB4 := Aside0.mk (below_step HB3.out (AB.keepB (u := .slice A3 L0.length c3) G3.out HC3.out)); have hca4 : w4.cell? ⟨g3, 0, none⟩ = some (.slice none 0 0) := (blk_cell BK3.out 0).trans rfl; have hfa4 := blk_frozen BK3.out 0; have hci4 : (w4.setCell ⟨g3, 0, none⟩ (.slice A3 L0.length c3)).cell? ⟨g3, 0, none⟩ = some (.slice A3 L0.length c3) := X30.out.cell)
    | (go_at_call 32; ((with_reducible refine (impl_TermText.calls k A3 c3 L0 a t b1 _ X30.out.row X30.out.cap H1.out).mono ?_); rintro e w5 ⟨rfl, hb⟩); have X31 := Aside0.mk (X30.out.below hb); have HB5 := Aside0.mk (below_step HB4.out hb); have hci5 : w5.cell? ⟨g3, 0, none⟩ = some (.slice A3 L0.length c3) := X31.out.cell; clear hb)
    | (go_at_call 31; ((with_reducible refine (spec_TermText.calls k A3 c3 L0 a t b1 _ X31.out.row X31.out.cap H2.out).mono ?_); rintro e w6 ⟨rfl, hb⟩); have X32 := Aside0.mk (X31.out.below hb); have HB6 := Aside0.mk (below_step HB5.out hb); clear hb)
    | (go_at_call 55; ((with_reducible refine (spec_DrawPut.calls k A0 c0 l0 L1 n0 n1 n2 n3 _ (Kd.C_below HR0.out HB6.out) HC0.out H3.out).mono ?_); rintro e w7 ⟨v0, rfl, ho, hb⟩); obtain ⟨A9, c9, rfl, _, _⟩ := Kd.R_reads ho; have HO9 := Aside0.mk ho; have X33 := Aside0.mk (X32.out.below hb); have HB7 := Aside0.mk (below_step HB6.out hb); clear ho hb)
    | ((with_reducible refine gate_dst (N := 9) rfl ?_); refine box_event ?hg (N := 9) ?hd (cs := #[.slice none 0 0]) (t := 26) ?hr ?_; (case hd => rfl); (case hg => rfl); (case hr => first | (go_simp; done) | (go_simp; rfl)); intro g9 hg1 w8 hbox hb; have BK9 := Aside0.mk hbox; have HC9 := Aside0.mk hb; have G9 := Aside0.mk hg1; clear hg1 hbox hb; have hca8 : w8.cell? ⟨g9, 0, none⟩ = some (.slice none 0 0) := (blk_cell BK9.out 0).trans rfl; have hfa8 := blk_frozen BK9.out 0)
    | ((with_reducible refine gate_dst (N := 10) rfl ?_); refine box_event ?hg (N := 10) ?hd (cs := #[.int .i64 0, .int .i64 0, .int .i64 0, .int .i64 0]) (t := 34) ?hr ?_; (case hd => rfl); (case hg => rfl); (case hr => first | (go_simp; done) | (go_simp; rfl)); intro g10 hg1 w9 hbox hb; have BK10 := Aside0.mk hbox; have HC10 := Aside0.mk hb; have G10 := Aside0.mk hg1; clear hg1 hbox hb; have HT := Aside0.mk (AB.firstTwo (n0 := n0) (n1 := n1) (n2 := n2) (n3 := n3) HO9.out BK9.out G9.out HC9.out G10.out HC10.out BK10.out); have hca9 : w9.cell? ⟨g9, 0, none⟩ = some (.slice none 0 0) := (blk_cell (blk_below BK9.out HC10.out) 0).trans rfl; have hfa9 := blk_frozen (blk_below BK9.out HC10.out) 0; have hfn := blk_frozen BK10.out; have hcn0 : w9.cell? ⟨g10, 0, none⟩ = some (.int .i64 0) := (blk_cell BK10.out 0).trans rfl; have hcn1 : w9.cell? ⟨g10, 1, none⟩ = some (.int .i64 0) := (blk_cell BK10.out 1).trans rfl; have hcn2 : w9.cell? ⟨g10, 2, none⟩ = some (.int .i64 0) := (blk_cell BK10.out 2).trans rfl; have hcn3 : w9.cell? ⟨g10, 3, none⟩ = some (.int .i64 0) := (blk_cell BK10.out 3).trans rfl; have hne1 : g9 ≠ g10 := (by have h1 := blk_lt BK9.out; have h2 := G10.out; omega); have hne2 : g10 ≠ g9 := Ne.symm hne1))
  have X90 := Aside0.mk HT.out.1
  have N90 := Aside0.mk HT.out.2.1
  have X34 := Aside0.mk (X33.out.below HT.out.2.2)
  have HB10 := Aside0.mk (below_step HB7.out HT.out.2.2)
  clear HT hca8 hfa8 hca9 hfa9 hfn hcn0 hcn1 hcn2 hcn3 hne1 hne2 BK9 BK10 HC9 HC10
  generalize ((((w9.setCell ⟨g9, 0, none⟩ (.slice A9 L1.length c9)).setCell ⟨g10, 0, none⟩ (.int .i64 n0)).setCell ⟨g10, 1, none⟩ (.int .i64 n1)).setCell ⟨g10, 2, none⟩ (.int .i64 n2)).setCell ⟨g10, 3, none⟩ (.int .i64 n3) = w10 at X90 N90 X34 HB10 ⊢
  go_wp2_with (first
    | (go_at_call 56; ((with_reducible refine (impl_Put.calls A9 c9 L1 n0 n1 n2 n3 L2 i _ X90.out.row X90.out.cap H4.out).mono ?_); rintro e w11 ⟨v0, rfl, ho, hb⟩); obtain ⟨A11, c11, rfl, _, _⟩ := Kd.R_reads ho; have HO11 := Aside0.mk ho; have HB11 := Aside0.mk (below_step HB10.out hb); have X91 := Aside0.mk (X90.out.below hb); have N91 := Aside0.mk (blk_below N90.out hb); have X35 := Aside0.mk (X34.out.below hb); clear ho hb)
    | ((with_reducible refine gate_dst (N := 11) rfl ?_); refine box_event ?hg (N := 11) ?hd (cs := #[.slice none 0 0]) (t := 26) ?hr ?_; (case hd => rfl); (case hg => rfl); (case hr => first | (go_simp; done) | (go_simp; rfl)); intro g11 hg1 w12 hbox hb; have BK11 := Aside0.mk hbox; have HC11 := Aside0.mk hb; have G11 := Aside0.mk hg1; clear hg1 hbox hb; have KB := Aside0.mk (AB.keepB (u := .slice A11 L2.length c11) G11.out HC11.out); have X110 := Aside0.mk (AB.first HO11.out BK11.out G11.out HC11.out); have X92 := Aside0.mk (X91.out.below KB.out); have N92 := Aside0.mk (blk_below N91.out KB.out); have X36 := Aside0.mk (X35.out.below KB.out); have HB12 := Aside0.mk (below_step HB11.out KB.out); have hca12 : w12.cell? ⟨g11, 0, none⟩ = some (.slice none 0 0) := (blk_cell BK11.out 0).trans rfl; have hfa12 := blk_frozen BK11.out 0; have hcb12 : (w12.setCell ⟨g11, 0, none⟩ (.slice A11 L2.length c11)).cell? ⟨g9, 0, none⟩ = some (.slice A9 L1.length c9) := X92.out.cell; have hn0 : (w12.setCell ⟨g11, 0, none⟩ (.slice A11 L2.length c11)).cell? ⟨g10, 0, none⟩ = some (.int .i64 n0) := (blk_cell N92.out 0).trans rfl; have hn1 : (w12.setCell ⟨g11, 0, none⟩ (.slice A11 L2.length c11)).cell? ⟨g10, 1, none⟩ = some (.int .i64 n1) := (blk_cell N92.out 1).trans rfl; have hn2 : (w12.setCell ⟨g11, 0, none⟩ (.slice A11 L2.length c11)).cell? ⟨g10, 2, none⟩ = some (.int .i64 n2) := (blk_cell N92.out 2).trans rfl; have hn3 : (w12.setCell ⟨g11, 0, none⟩ (.slice A11 L2.length c11)).cell? ⟨g10, 3, none⟩ = some (.int .i64 n3) := (blk_cell N92.out 3).trans rfl; clear KB)
    | (go_at_call 57; ((with_reducible refine (spec_Put.calls A9 c9 L1 n0 n1 n2 n3 L2 i _ X92.out.row X92.out.cap H5.out).mono ?_); rintro e w13 ⟨v0, rfl, ho, hb⟩); obtain ⟨A13, c13, rfl, _, _⟩ := Kd.R_reads ho; have HO13 := Aside0.mk ho; have HB13 := Aside0.mk (below_step HB12.out hb); have X111 := Aside0.mk (X110.out.below hb); have X37 := Aside0.mk (X36.out.below hb); clear ho hb)
    | ((with_reducible refine gate_dst (N := 13) rfl ?_); refine box_event ?hg (N := 13) ?hd (cs := #[.slice none 0 0]) (t := 26) ?hr ?_; (case hd => rfl); (case hg => rfl); (case hr => first | (go_simp; done) | (go_simp; rfl)); intro g13 hg1 w14 hbox hb; have BK13 := Aside0.mk hbox; have HC13 := Aside0.mk hb; have G13 := Aside0.mk hg1; clear hg1 hbox hb; have KB := Aside0.mk (AB.keepB (u := .slice A13 L2.length c13) G13.out HC13.out); have X130 := Aside0.mk (AB.first HO13.out BK13.out G13.out HC13.out); have X112 := Aside0.mk (X111.out.below KB.out); have X38 := Aside0.mk (X37.out.below KB.out); have HB14 := Aside0.mk (below_step HB13.out KB.out); have hca14 : w14.cell? ⟨g13, 0, none⟩ = some (.slice none 0 0) := (blk_cell BK13.out 0).trans rfl; have hfa14 := blk_frozen BK13.out 0; clear KB)
    | (go_at_call 58; ((with_reducible refine (spec_DrawArenaOk.calls k A0 c0 l0 L3 _ (Kd.C_below HR0.out HB14.out) HC0.out H6.out).mono ?_); rintro e w15 ⟨v0, rfl, ho, hb⟩); obtain ⟨A15, c15, rfl, _, _⟩ := Kd.R_reads ho; have HO15 := Aside0.mk ho; have HB15 := Aside0.mk (below_step HB14.out hb); have X131 := Aside0.mk (X130.out.below hb); have X113 := Aside0.mk (X112.out.below hb); have X39 := Aside0.mk (X38.out.below hb); clear ho hb)
    | ((with_reducible refine gate_dst (N := 15) rfl ?_); refine box_event ?hg (N := 15) ?hd (cs := #[.slice none 0 0]) (t := 26) ?hr ?_; (case hd => rfl); (case hg => rfl); (case hr => first | (go_simp; done) | (go_simp; rfl)); intro g15 hg1 w16 hbox hb; have BK15 := Aside0.mk hbox; have HC15 := Aside0.mk hb; have G15 := Aside0.mk hg1; clear hg1 hbox hb; have KB := Aside0.mk (AB.keepB (u := .slice A15 L3.length c15) G15.out HC15.out); have X15s := Aside0.mk (AB.first HO15.out BK15.out G15.out HC15.out); have X13s := Aside0.mk (X131.out.below KB.out); have X11s := Aside0.mk (X113.out.below KB.out); have X3s := Aside0.mk (X39.out.below KB.out); have HBs := Aside0.mk (below_step HB15.out KB.out); have hca16 : w16.cell? ⟨g15, 0, none⟩ = some (.slice none 0 0) := (blk_cell BK15.out 0).trans rfl; have hfa16 := blk_frozen BK15.out 0; clear KB))
  generalize w16.setCell ⟨g15, 0, none⟩ (.slice A15 L3.length c15) = ws at X15s X13s X11s X3s HBs ⊢
  clear hca16 hfa16 hca14 hfa14 hca12 hfa12 hcb12 hn0 hn1 hn2 hn3 BK11 BK13 BK15 HC11 HC13 HC15 HO11 HO13 HO15
  have HD := Aside0.mk (below_drew (Below.refl ws.heap.size ws))
  have HBd := Aside0.mk (below_step HBs.out HD.out)
  have X3d := Aside0.mk (X3s.out.below HD.out)
  have X11d := Aside0.mk (X11s.out.below HD.out)
  have X13d := Aside0.mk (X13s.out.below HD.out)
  have X15d := Aside0.mk (X15s.out.below HD.out)
  have q1 : (b1 == b1) = true := by simp
  have q2 : (t.toList == t.toList) = true := by simp
  have q3 : (z == z) = true := by simp
  have q4 : (b2 == b2) = true := by simp
  have q5 : (i == i) = true := by simp
  have q6 : (b3 == b3) = true := by simp
  refine start_ (n := 48) (S := fun w' => w'.cell? ⟨g3, 0, none⟩ = some (.slice A3 L0.length c3) ∧ w'.cell? ⟨g11, 0, none⟩ = some (.slice A11 L2.length c11) ∧ w'.cell? ⟨g13, 0, none⟩ = some (.slice A13 L2.length c13) ∧ w'.cell? ⟨g15, 0, none⟩ = some (.slice A15 L3.length c15)) (ds := []) #[false, false, false, false, false, false, false, false, false, false, false, false, false, false, false, false, false, false, false, false, false, false, false, false, false, false, false, false, false, false, false, false, false, false, false, false, false, false, false, false, false, false, false, false, false, false, false, false] (by kernel_rfl) rfl rfl ⟨X3d.out.cell, X11d.out.cell, X13d.out.cell, X15d.out.cell⟩ (fun hHeld => ?_)
  refine pure_ (i := 0) (N := some 54) (v := ?_) (a' := ?_) #[true, false, false, false, false, false, false, false, false, false, false, false, false, false, false, false, false, false, false, false, false, false, false, false, false, false, false, false, false, false, false, false, false, false, false, false, false, false, false, false, false, false, false, false, false, false, false, false] rfl rfl (by kernel_rfl) (fun _ _ _ h => h) (Or.inl ⟨by rfl, ?_⟩) ?_ ?_
  rotate_left
  · intro w'
    go_simp
    with_reducible rfl
  rotate_left
  · simp only [Act.put, List.setIfInBounds_toArray, List.set_cons_zero, List.set_cons_succ, i64_w, i32_w]
    rfl
  refine pure_ (i := 1) (N := some 55) (v := ?_) (a' := ?_) #[true, true, false, false, false, false, false, false, false, false, false, false, false, false, false, false, false, false, false, false, false, false, false, false, false, false, false, false, false, false, false, false, false, false, false, false, false, false, false, false, false, false, false, false, false, false, false, false] rfl rfl (by kernel_rfl) (fun _ _ _ h => h) (Or.inl ⟨by rfl, ?_⟩) ?_ ?_
  rotate_left
  · intro w'
    go_simp
    with_reducible rfl
  rotate_left
  · simp only [Act.put, List.setIfInBounds_toArray, List.set_cons_zero, List.set_cons_succ, i64_w, i32_w]
    rfl
  refine pure_ (i := 2) (N := some 56) (v := ?_) (a' := ?_) #[true, true, true, false, false, false, false, false, false, false, false, false, false, false, false, false, false, false, false, false, false, false, false, false, false, false, false, false, false, false, false, false, false, false, false, false, false, false, false, false, false, false, false, false, false, false, false, false] rfl rfl (by kernel_rfl) (fun _ _ _ h => h) (Or.inl ⟨by rfl, ?_⟩) ?_ ?_
  rotate_left
  · intro w'
    go_simp
    with_reducible rfl
  rotate_left
  · simp only [Act.put, List.setIfInBounds_toArray, List.set_cons_zero, List.set_cons_succ, i64_w, i32_w]
    rfl
  refine pure_ (i := 3) (N := some 57) (v := ?_) (a' := ?_) #[true, true, true, true, false, false, false, false, false, false, false, false, false, false, false, false, false, false, false, false, false, false, false, false, false, false, false, false, false, false, false, false, false, false, false, false, false, false, false, false, false, false, false, false, false, false, false, false] rfl rfl (by kernel_rfl) (fun _ _ _ h => h) (Or.inl ⟨by rfl, ?_⟩) ?_ ?_
  rotate_left
  · intro w'
    go_simp
    with_reducible rfl
  rotate_left
  · simp only [Act.put, List.setIfInBounds_toArray, List.set_cons_zero, List.set_cons_succ, i64_w, i32_w]
    rfl
  refine pure_ (i := 4) (N := some 58) (v := ?_) (a' := ?_) #[true, true, true, true, true, false, false, false, false, false, false, false, false, false, false, false, false, false, false, false, false, false, false, false, false, false, false, false, false, false, false, false, false, false, false, false, false, false, false, false, false, false, false, false, false, false, false, false] rfl rfl (by kernel_rfl) (fun _ _ _ h => h) (Or.inl ⟨by rfl, ?_⟩) ?_ ?_
  rotate_left
  · intro w'
    go_simp
    with_reducible rfl
  rotate_left
  · simp only [Act.put, List.setIfInBounds_toArray, List.set_cons_zero, List.set_cons_succ, i64_w, i32_w]
    rfl
  refine pure_ (i := 5) (N := some 59) (v := ?_) (a' := ?_) #[true, true, true, true, true, true, false, false, false, false, false, false, false, false, false, false, false, false, false, false, false, false, false, false, false, false, false, false, false, false, false, false, false, false, false, false, false, false, false, false, false, false, false, false, false, false, false, false] rfl rfl (by kernel_rfl) (fun _ _ _ h => h) (Or.inl ⟨by rfl, ?_⟩) ?_ ?_
  rotate_left
  · intro w'
    go_simp
    with_reducible rfl
  rotate_left
  · simp only [Act.put, List.setIfInBounds_toArray, List.set_cons_zero, List.set_cons_succ, i64_w, i32_w]
    rfl
  refine pure_ (i := 6) (N := some 60) (v := ?_) (a' := ?_) #[true, true, true, true, true, true, true, false, false, false, false, false, false, false, false, false, false, false, false, false, false, false, false, false, false, false, false, false, false, false, false, false, false, false, false, false, false, false, false, false, false, false, false, false, false, false, false, false] rfl rfl (by kernel_rfl) (fun _ _ _ h => h) (Or.inl ⟨by rfl, ?_⟩) ?_ ?_
  rotate_left
  · intro w'
    go_simp
    with_reducible rfl
  rotate_left
  · simp only [Act.put, List.setIfInBounds_toArray, List.set_cons_zero, List.set_cons_succ, i64_w, i32_w]
    rfl
  refine pure_ (i := 7) (N := some 61) (v := ?_) (a' := ?_) #[true, true, true, true, true, true, true, true, false, false, false, false, false, false, false, false, false, false, false, false, false, false, false, false, false, false, false, false, false, false, false, false, false, false, false, false, false, false, false, false, false, false, false, false, false, false, false, false] rfl rfl (by kernel_rfl) (fun _ _ _ h => h) (Or.inl ⟨by rfl, ?_⟩) ?_ ?_
  rotate_left
  · intro w'
    go_simp
    with_reducible rfl
  rotate_left
  · simp only [Act.put, List.setIfInBounds_toArray, List.set_cons_zero, List.set_cons_succ, i64_w, i32_w]
    rfl
  refine pure_ (i := 8) (N := some 62) (v := ?_) (a' := ?_) #[true, true, true, true, true, true, true, true, true, false, false, false, false, false, false, false, false, false, false, false, false, false, false, false, false, false, false, false, false, false, false, false, false, false, false, false, false, false, false, false, false, false, false, false, false, false, false, false] rfl rfl (by kernel_rfl) (fun _ _ _ h => h) (Or.inl ⟨by rfl, ?_⟩) ?_ ?_
  rotate_left
  · intro w'
    go_simp
    with_reducible rfl
  rotate_left
  · simp only [Act.put, List.setIfInBounds_toArray, List.set_cons_zero, List.set_cons_succ, i64_w, i32_w]
    rfl
  refine pure_ (i := 10) (N := some 64) (v := ?_) (a' := ?_) #[true, true, true, true, true, true, true, true, true, false, true, false, false, false, false, false, false, false, false, false, false, false, false, false, false, false, false, false, false, false, false, false, false, false, false, false, false, false, false, false, false, false, false, false, false, false, false, false] rfl rfl (by kernel_rfl) (fun _ _ _ h => h) (Or.inl ⟨by rfl, ?_⟩) ?_ ?_
  rotate_left
  · intro w'
    go_simp
    with_reducible rfl
  rotate_left
  · simp only [Act.put, List.setIfInBounds_toArray, List.set_cons_zero, List.set_cons_succ, i64_w, i32_w]
    rfl
  refine pure_ (i := 13) (N := some 67) (v := ?_) (a' := ?_) #[true, true, true, true, true, true, true, true, true, false, true, false, false, true, false, false, false, false, false, false, false, false, false, false, false, false, false, false, false, false, false, false, false, false, false, false, false, false, false, false, false, false, false, false, false, false, false, false] rfl rfl (by kernel_rfl) (fun _ _ _ h => h) (Or.inl ⟨by rfl, ?_⟩) ?_ ?_
  rotate_left
  · intro w'
    go_simp
    with_reducible rfl
  rotate_left
  · simp only [Act.put, List.setIfInBounds_toArray, List.set_cons_zero, List.set_cons_succ, i64_w, i32_w]
    rfl
  refine take_ (i := 9) (N := some 63) (v := ?_) (a' := ?_) #[true, true, true, true, true, true, true, true, true, true, true, false, false, true, false, false, false, false, false, false, false, false, false, false, false, false, false, false, false, false, false, false, false, false, false, false, false, false, false, false, false, false, false, false, false, false, false, false] rfl rfl (by kernel_rfl) (fun _ _ _ h => h) (Or.inl ⟨by rfl, ?_⟩) hHeld ?_ ?_
  rotate_left
  · rintro w' ⟨s0, s1, s2, s3⟩
    go_simp
    with_reducible rfl
  rotate_left
  · simp only [Act.put, List.setIfInBounds_toArray, List.set_cons_zero, List.set_cons_succ, i64_w, i32_w]
    rfl
  refine take_ (i := 12) (N := some 66) (v := ?_) (a' := ?_) #[true, true, true, true, true, true, true, true, true, true, true, false, true, true, false, false, false, false, false, false, false, false, false, false, false, false, false, false, false, false, false, false, false, false, false, false, false, false, false, false, false, false, false, false, false, false, false, false] rfl rfl (by kernel_rfl) (fun _ _ _ h => h) (Or.inl ⟨by rfl, ?_⟩) hHeld ?_ ?_
  rotate_left
  · rintro w' ⟨s0, s1, s2, s3⟩
    go_simp
    with_reducible rfl
  rotate_left
  · simp only [Act.put, List.setIfInBounds_toArray, List.set_cons_zero, List.set_cons_succ, i64_w, i32_w]
    rfl
  refine one_ (i := 11) (N := some 65) #[true, true, true, true, true, true, true, true, true, true, true, true, true, true, false, false, false, false, false, false, false, false, false, false, false, false, false, false, false, false, false, false, false, false, false, false, false, false, false, false, false, false, false, false, false, false, false, false] rfl rfl (by kernel_rfl) (by decide) (fun K hK => ?_)
  refine goes_ Try.func30 (by kernel_rfl) rfl #[.agg #[.slice A3 L0.length c3], .int .i64 a] (by rfl) rfl rfl (by simp only [List.map_toArray, List.map_cons, List.map_nil]; rfl) ?_
  with_reducible refine (impl_SizeOf.calls k A3 c3 L0 a z _ X3d.out.row X3d.out.cap H7.out).mono ?_
  rintro e wq0 ⟨rfl, hb⟩
  refine ⟨_, rfl, ?_⟩
  have HBq0 := Aside0.mk (below_step HBd.out hb)
  have X3q0 := Aside0.mk (X3d.out.below hb)
  have X11q0 := Aside0.mk (X11d.out.below hb)
  have X13q0 := Aside0.mk (X13d.out.below hb)
  have X15q0 := Aside0.mk (X15d.out.below hb)
  clear hb
  refine hK.out _ _ ⟨X3q0.out.cell, X11q0.out.cell, X13q0.out.cell, X15q0.out.cell⟩ (fun hHeld => ?_)
  clear hK K
  refine norm_ (a' := ?_) ?_ ?_
  rotate_left
  · show Act.put _ (some 65) _ = _
    simp only [Act.put, List.setIfInBounds_toArray, List.set_cons_zero, List.set_cons_succ, i64_w, i32_w]
    rfl
  refine one_ (i := 14) (N := some 68) #[true, true, true, true, true, true, true, true, true, true, true, true, true, true, true, false, false, false, false, false, false, false, false, false, false, false, false, false, false, false, false, false, false, false, false, false, false, false, false, false, false, false, false, false, false, false, false, false] rfl rfl (by kernel_rfl) (by decide) (fun K hK => ?_)
  refine goes_ Try.func29 (by kernel_rfl) rfl #[.agg #[.slice A3 L0.length c3], .int .i64 a] (by rfl) rfl rfl (by simp only [List.map_toArray, List.map_cons, List.map_nil]; rfl) ?_
  with_reducible refine (spec_SizeOf.calls k A3 c3 L0 a z _ X3q0.out.row X3q0.out.cap H8.out).mono ?_
  rintro e wq1 ⟨rfl, hb⟩
  refine ⟨_, rfl, ?_⟩
  have HBq1 := Aside0.mk (below_step HBq0.out hb)
  have X3q1 := Aside0.mk (X3q0.out.below hb)
  have X11q1 := Aside0.mk (X11q0.out.below hb)
  have X13q1 := Aside0.mk (X13q0.out.below hb)
  have X15q1 := Aside0.mk (X15q0.out.below hb)
  clear hb
  refine hK.out _ _ ⟨X3q1.out.cell, X11q1.out.cell, X13q1.out.cell, X15q1.out.cell⟩ (fun hHeld => ?_)
  clear hK K
  refine norm_ (a' := ?_) ?_ ?_
  rotate_left
  · show Act.put _ (some 68) _ = _
    simp only [Act.put, List.setIfInBounds_toArray, List.set_cons_zero, List.set_cons_succ, i64_w, i32_w]
    rfl
  refine pure_ (i := 15) (N := some 69) (v := ?_) (a' := ?_) #[true, true, true, true, true, true, true, true, true, true, true, true, true, true, true, true, false, false, false, false, false, false, false, false, false, false, false, false, false, false, false, false, false, false, false, false, false, false, false, false, false, false, false, false, false, false, false, false] rfl rfl (by kernel_rfl) (fun _ _ _ h => h) (Or.inl ⟨by rfl, ?_⟩) ?_ ?_
  rotate_left
  · intro w'
    go_simp
    with_reducible rfl
  rotate_left
  · simp only [Act.put, List.setIfInBounds_toArray, List.set_cons_zero, List.set_cons_succ, i64_w, i32_w]
    rfl
  refine pure_ (i := 16) (N := some 70) (v := ?_) (a' := ?_) #[true, true, true, true, true, true, true, true, true, true, true, true, true, true, true, true, true, false, false, false, false, false, false, false, false, false, false, false, false, false, false, false, false, false, false, false, false, false, false, false, false, false, false, false, false, false, false, false] rfl rfl (by kernel_rfl) (fun _ _ _ h => h) (Or.inl ⟨by rfl, ?_⟩) ?_ ?_
  rotate_left
  · intro w'
    go_simp
    with_reducible rfl
  rotate_left
  · simp only [Act.put, List.setIfInBounds_toArray, List.set_cons_zero, List.set_cons_succ, i64_w, i32_w]
    rfl
  refine pure_ (i := 17) (N := some 71) (v := ?_) (a' := ?_) #[true, true, true, true, true, true, true, true, true, true, true, true, true, true, true, true, true, true, false, false, false, false, false, false, false, false, false, false, false, false, false, false, false, false, false, false, false, false, false, false, false, false, false, false, false, false, false, false] rfl rfl (by kernel_rfl) (fun _ _ _ h => h) (Or.inl ⟨by rfl, ?_⟩) ?_ ?_
  rotate_left
  · intro w'
    go_simp
    with_reducible rfl
  rotate_left
  · simp only [Act.put, List.setIfInBounds_toArray, List.set_cons_zero, List.set_cons_succ, i64_w, i32_w]
    rfl
  refine pure_ (i := 19) (N := some 73) (v := ?_) (a' := ?_) #[true, true, true, true, true, true, true, true, true, true, true, true, true, true, true, true, true, true, false, true, false, false, false, false, false, false, false, false, false, false, false, false, false, false, false, false, false, false, false, false, false, false, false, false, false, false, false, false] rfl rfl (by kernel_rfl) (fun _ _ _ h => h) (Or.inl ⟨by rfl, ?_⟩) ?_ ?_
  rotate_left
  · intro w'
    go_simp
    with_reducible rfl
  rotate_left
  · simp only [Act.put, List.setIfInBounds_toArray, List.set_cons_zero, List.set_cons_succ, i64_w, i32_w]
    rfl
  refine pure_ (i := 22) (N := some 76) (v := ?_) (a' := ?_) #[true, true, true, true, true, true, true, true, true, true, true, true, true, true, true, true, true, true, false, true, false, false, true, false, false, false, false, false, false, false, false, false, false, false, false, false, false, false, false, false, false, false, false, false, false, false, false, false] rfl rfl (by kernel_rfl) (fun _ _ _ h => h) (Or.inl ⟨by rfl, ?_⟩) ?_ ?_
  rotate_left
  · intro w'
    go_simp
    with_reducible rfl
  rotate_left
  · simp only [Act.put, List.setIfInBounds_toArray, List.set_cons_zero, List.set_cons_succ, i64_w, i32_w]
    rfl
  refine take_ (i := 18) (N := some 72) (v := ?_) (a' := ?_) #[true, true, true, true, true, true, true, true, true, true, true, true, true, true, true, true, true, true, true, true, false, false, true, false, false, false, false, false, false, false, false, false, false, false, false, false, false, false, false, false, false, false, false, false, false, false, false, false] rfl rfl (by kernel_rfl) (fun _ _ _ h => h) (Or.inl ⟨by rfl, ?_⟩) hHeld ?_ ?_
  rotate_left
  · rintro w' ⟨s0, s1, s2, s3⟩
    go_simp
    with_reducible rfl
  rotate_left
  · simp only [Act.put, List.setIfInBounds_toArray, List.set_cons_zero, List.set_cons_succ, i64_w, i32_w]
    rfl
  refine take_ (i := 21) (N := some 75) (v := ?_) (a' := ?_) #[true, true, true, true, true, true, true, true, true, true, true, true, true, true, true, true, true, true, true, true, false, true, true, false, false, false, false, false, false, false, false, false, false, false, false, false, false, false, false, false, false, false, false, false, false, false, false, false] rfl rfl (by kernel_rfl) (fun _ _ _ h => h) (Or.inl ⟨by rfl, ?_⟩) hHeld ?_ ?_
  rotate_left
  · rintro w' ⟨s0, s1, s2, s3⟩
    go_simp
    with_reducible rfl
  rotate_left
  · simp only [Act.put, List.setIfInBounds_toArray, List.set_cons_zero, List.set_cons_succ, i64_w, i32_w]
    rfl
  refine one_ (i := 20) (N := some 74) #[true, true, true, true, true, true, true, true, true, true, true, true, true, true, true, true, true, true, true, true, true, true, true, false, false, false, false, false, false, false, false, false, false, false, false, false, false, false, false, false, false, false, false, false, false, false, false, false] rfl rfl (by kernel_rfl) (by decide) (fun K hK => ?_)
  refine goes_ Try.func59 (by kernel_rfl) rfl #[.agg #[.slice A3 L0.length c3], .int .i64 a] (by rfl) rfl rfl (by simp only [List.map_toArray, List.map_cons, List.map_nil]; rfl) ?_
  with_reducible refine (impl_NodeOk.calls k A3 c3 L0 a b2 _ X3q1.out.row X3q1.out.cap H9.out).mono ?_
  rintro e wq2 ⟨rfl, hb⟩
  refine ⟨_, rfl, ?_⟩
  have HBq2 := Aside0.mk (below_step HBq1.out hb)
  have X3q2 := Aside0.mk (X3q1.out.below hb)
  have X11q2 := Aside0.mk (X11q1.out.below hb)
  have X13q2 := Aside0.mk (X13q1.out.below hb)
  have X15q2 := Aside0.mk (X15q1.out.below hb)
  clear hb
  refine hK.out _ _ ⟨X3q2.out.cell, X11q2.out.cell, X13q2.out.cell, X15q2.out.cell⟩ (fun hHeld => ?_)
  clear hK K
  refine norm_ (a' := ?_) ?_ ?_
  rotate_left
  · show Act.put _ (some 74) _ = _
    simp only [Act.put, List.setIfInBounds_toArray, List.set_cons_zero, List.set_cons_succ, i64_w, i32_w]
    rfl
  refine one_ (i := 23) (N := some 77) #[true, true, true, true, true, true, true, true, true, true, true, true, true, true, true, true, true, true, true, true, true, true, true, true, false, false, false, false, false, false, false, false, false, false, false, false, false, false, false, false, false, false, false, false, false, false, false, false] rfl rfl (by kernel_rfl) (by decide) (fun K hK => ?_)
  refine goes_ Try.func60 (by kernel_rfl) rfl #[.agg #[.slice A3 L0.length c3], .int .i64 a] (by rfl) rfl rfl (by simp only [List.map_toArray, List.map_cons, List.map_nil]; rfl) ?_
  with_reducible refine (spec_NodeOk.calls k A3 c3 L0 a b2 _ X3q2.out.row X3q2.out.cap H10.out).mono ?_
  rintro e wq3 ⟨rfl, hb⟩
  refine ⟨_, rfl, ?_⟩
  have HBq3 := Aside0.mk (below_step HBq2.out hb)
  have X3q3 := Aside0.mk (X3q2.out.below hb)
  have X11q3 := Aside0.mk (X11q2.out.below hb)
  have X13q3 := Aside0.mk (X13q2.out.below hb)
  have X15q3 := Aside0.mk (X15q2.out.below hb)
  clear hb
  refine hK.out _ _ ⟨X3q3.out.cell, X11q3.out.cell, X13q3.out.cell, X15q3.out.cell⟩ (fun hHeld => ?_)
  clear hK K
  refine norm_ (a' := ?_) ?_ ?_
  rotate_left
  · show Act.put _ (some 77) _ = _
    simp only [Act.put, List.setIfInBounds_toArray, List.set_cons_zero, List.set_cons_succ, i64_w, i32_w]
    rfl
  refine pure_ (i := 24) (N := some 78) (v := ?_) (a' := ?_) #[true, true, true, true, true, true, true, true, true, true, true, true, true, true, true, true, true, true, true, true, true, true, true, true, true, false, false, false, false, false, false, false, false, false, false, false, false, false, false, false, false, false, false, false, false, false, false, false] rfl rfl (by kernel_rfl) (fun _ _ _ h => h) (Or.inl ⟨by rfl, ?_⟩) ?_ ?_
  rotate_left
  · intro w'
    go_simp
    with_reducible rfl
  rotate_left
  · simp only [Act.put, List.setIfInBounds_toArray, List.set_cons_zero, List.set_cons_succ, i64_w, i32_w]
    rfl
  refine pure_ (i := 25) (N := some 79) (v := ?_) (a' := ?_) #[true, true, true, true, true, true, true, true, true, true, true, true, true, true, true, true, true, true, true, true, true, true, true, true, true, true, false, false, false, false, false, false, false, false, false, false, false, false, false, false, false, false, false, false, false, false, false, false] rfl rfl (by kernel_rfl) (fun _ _ _ h => h) (Or.inl ⟨by rfl, ?_⟩) ?_ ?_
  rotate_left
  · intro w'
    go_simp
    with_reducible rfl
  rotate_left
  · simp only [Act.put, List.setIfInBounds_toArray, List.set_cons_zero, List.set_cons_succ, i64_w, i32_w]
    rfl
  refine pure_ (i := 26) (N := some 80) (v := ?_) (a' := ?_) #[true, true, true, true, true, true, true, true, true, true, true, true, true, true, true, true, true, true, true, true, true, true, true, true, true, true, true, false, false, false, false, false, false, false, false, false, false, false, false, false, false, false, false, false, false, false, false, false] rfl rfl (by kernel_rfl) (fun _ _ _ h => h) (Or.inl ⟨by rfl, ?_⟩) ?_ ?_
  rotate_left
  · intro w'
    go_simp
    with_reducible rfl
  rotate_left
  · simp only [Act.put, List.setIfInBounds_toArray, List.set_cons_zero, List.set_cons_succ, i64_w, i32_w]
    rfl
  refine pure_ (i := 27) (N := some 81) (v := ?_) (a' := ?_) #[true, true, true, true, true, true, true, true, true, true, true, true, true, true, true, true, true, true, true, true, true, true, true, true, true, true, true, true, false, false, false, false, false, false, false, false, false, false, false, false, false, false, false, false, false, false, false, false] rfl rfl (by kernel_rfl) (fun _ _ _ h => h) (Or.inl ⟨by rfl, ?_⟩) ?_ ?_
  rotate_left
  · intro w'
    go_simp
    with_reducible rfl
  rotate_left
  · simp only [Act.put, List.setIfInBounds_toArray, List.set_cons_zero, List.set_cons_succ, i64_w, i32_w]
    rfl
  refine pure_ (i := 28) (N := some 82) (v := ?_) (a' := ?_) #[true, true, true, true, true, true, true, true, true, true, true, true, true, true, true, true, true, true, true, true, true, true, true, true, true, true, true, true, true, false, false, false, false, false, false, false, false, false, false, false, false, false, false, false, false, false, false, false] rfl rfl (by kernel_rfl) (fun _ _ _ h => h) (Or.inl ⟨by rfl, ?_⟩) ?_ ?_
  rotate_left
  · intro w'
    go_simp
    with_reducible rfl
  rotate_left
  · simp only [Act.put, List.setIfInBounds_toArray, List.set_cons_zero, List.set_cons_succ, i64_w, i32_w]
    rfl
  refine pure_ (i := 29) (N := some 83) (v := ?_) (a' := ?_) #[true, true, true, true, true, true, true, true, true, true, true, true, true, true, true, true, true, true, true, true, true, true, true, true, true, true, true, true, true, true, false, false, false, false, false, false, false, false, false, false, false, false, false, false, false, false, false, false] rfl rfl (by kernel_rfl) (fun _ _ _ h => h) (Or.inl ⟨by rfl, ?_⟩) ?_ ?_
  rotate_left
  · intro w'
    go_simp
    with_reducible rfl
  rotate_left
  · simp only [Act.put, List.setIfInBounds_toArray, List.set_cons_zero, List.set_cons_succ, i64_w, i32_w]
    rfl
  refine pure_ (i := 30) (N := some 84) (v := ?_) (a' := ?_) #[true, true, true, true, true, true, true, true, true, true, true, true, true, true, true, true, true, true, true, true, true, true, true, true, true, true, true, true, true, true, true, false, false, false, false, false, false, false, false, false, false, false, false, false, false, false, false, false] rfl rfl (by kernel_rfl) (fun _ _ _ h => h) (Or.inl ⟨by rfl, ?_⟩) ?_ ?_
  rotate_left
  · intro w'
    go_simp
    with_reducible rfl
  rotate_left
  · simp only [Act.put, List.setIfInBounds_toArray, List.set_cons_zero, List.set_cons_succ, i64_w, i32_w]
    rfl
  refine pure_ (i := 31) (N := some 85) (v := ?_) (a' := ?_) #[true, true, true, true, true, true, true, true, true, true, true, true, true, true, true, true, true, true, true, true, true, true, true, true, true, true, true, true, true, true, true, true, false, false, false, false, false, false, false, false, false, false, false, false, false, false, false, false] rfl rfl (by kernel_rfl) (fun _ _ _ h => h) (Or.inl ⟨by rfl, ?_⟩) ?_ ?_
  rotate_left
  · intro w'
    go_simp
    with_reducible rfl
  rotate_left
  · simp only [Act.put, List.setIfInBounds_toArray, List.set_cons_zero, List.set_cons_succ, i64_w, i32_w]
    rfl
  refine take_ (i := 32) (N := some 86) (v := ?_) (a' := ?_) #[true, true, true, true, true, true, true, true, true, true, true, true, true, true, true, true, true, true, true, true, true, true, true, true, true, true, true, true, true, true, true, true, true, false, false, false, false, false, false, false, false, false, false, false, false, false, false, false] rfl rfl (by kernel_rfl) (fun _ _ _ h => h) (Or.inl ⟨by rfl, ?_⟩) hHeld ?_ ?_
  rotate_left
  · rintro w' ⟨s0, s1, s2, s3⟩
    go_simp
    with_reducible rfl
  rotate_left
  · simp only [Act.put, List.setIfInBounds_toArray, List.set_cons_zero, List.set_cons_succ, i64_w, i32_w]
    rfl
  refine take_ (i := 33) (N := some 87) (v := ?_) (a' := ?_) #[true, true, true, true, true, true, true, true, true, true, true, true, true, true, true, true, true, true, true, true, true, true, true, true, true, true, true, true, true, true, true, true, true, true, false, false, false, false, false, false, false, false, false, false, false, false, false, false] rfl rfl (by kernel_rfl) (fun _ _ _ h => h) (Or.inl ⟨by rfl, ?_⟩) hHeld ?_ ?_
  rotate_left
  · rintro w' ⟨s0, s1, s2, s3⟩
    go_simp
    with_reducible rfl
  rotate_left
  · simp only [Act.put, List.setIfInBounds_toArray, List.set_cons_zero, List.set_cons_succ, i64_w, i32_w]
    rfl
  refine one_ (i := 34) (N := some 88) #[true, true, true, true, true, true, true, true, true, true, true, true, true, true, true, true, true, true, true, true, true, true, true, true, true, true, true, true, true, true, true, true, true, true, true, false, false, false, false, false, false, false, false, false, false, false, false, false] rfl rfl (by kernel_rfl) (by decide) (fun K hK => ?_)
  refine goes_ Try.func61 (by kernel_rfl) rfl #[.agg #[.slice A11 L2.length c11], .agg #[.slice A13 L2.length c13]] (by rfl) rfl rfl (by simp only [List.map_toArray, List.map_cons, List.map_nil]; rfl) ?_
  with_reducible refine (laws_sameArena.calls k A11 c11 L2 A13 c13 L2 true _ X11q3.out.row X11q3.out.cap X13q3.out.row X13q3.out.cap H11.out).mono ?_
  rintro e wq4 ⟨rfl, hb⟩
  refine ⟨_, rfl, ?_⟩
  have HBq4 := Aside0.mk (below_step HBq3.out hb)
  have X3q4 := Aside0.mk (X3q3.out.below hb)
  have X11q4 := Aside0.mk (X11q3.out.below hb)
  have X13q4 := Aside0.mk (X13q3.out.below hb)
  have X15q4 := Aside0.mk (X15q3.out.below hb)
  clear hb
  refine hK.out _ _ ⟨X3q4.out.cell, X11q4.out.cell, X13q4.out.cell, X15q4.out.cell⟩ (fun hHeld => ?_)
  clear hK K
  refine norm_ (a' := ?_) ?_ ?_
  rotate_left
  · show Act.put _ (some 88) _ = _
    simp only [Act.put, List.setIfInBounds_toArray, List.set_cons_zero, List.set_cons_succ, i64_w, i32_w]
    rfl
  refine pure_ (i := 35) (N := some 89) (v := ?_) (a' := ?_) #[true, true, true, true, true, true, true, true, true, true, true, true, true, true, true, true, true, true, true, true, true, true, true, true, true, true, true, true, true, true, true, true, true, true, true, true, false, false, false, false, false, false, false, false, false, false, false, false] rfl rfl (by kernel_rfl) (fun _ _ _ h => h) (Or.inl ⟨by rfl, ?_⟩) ?_ ?_
  rotate_left
  · intro w'
    go_simp
    with_reducible rfl
  rotate_left
  · simp only [Act.put, List.setIfInBounds_toArray, List.set_cons_zero, List.set_cons_succ, i64_w, i32_w]
    rfl
  refine pure_ (i := 36) (N := some 90) (v := ?_) (a' := ?_) #[true, true, true, true, true, true, true, true, true, true, true, true, true, true, true, true, true, true, true, true, true, true, true, true, true, true, true, true, true, true, true, true, true, true, true, true, true, false, false, false, false, false, false, false, false, false, false, false] rfl rfl (by kernel_rfl) (fun _ _ _ h => h) (Or.inl ⟨by rfl, ?_⟩) ?_ ?_
  rotate_left
  · intro w'
    go_simp
    with_reducible rfl
  rotate_left
  · simp only [Act.put, List.setIfInBounds_toArray, List.set_cons_zero, List.set_cons_succ, i64_w, i32_w]
    rfl
  refine take_ (i := 37) (N := some 91) (v := ?_) (a' := ?_) #[true, true, true, true, true, true, true, true, true, true, true, true, true, true, true, true, true, true, true, true, true, true, true, true, true, true, true, true, true, true, true, true, true, true, true, true, true, true, false, false, false, false, false, false, false, false, false, false] rfl rfl (by kernel_rfl) (fun _ _ _ h => h) (Or.inl ⟨by rfl, ?_⟩) hHeld ?_ ?_
  rotate_left
  · rintro w' ⟨s0, s1, s2, s3⟩
    go_simp
    with_reducible rfl
  rotate_left
  · simp only [Act.put, List.setIfInBounds_toArray, List.set_cons_zero, List.set_cons_succ, i64_w, i32_w]
    rfl
  refine take_ (i := 39) (N := some 93) (v := ?_) (a' := ?_) #[true, true, true, true, true, true, true, true, true, true, true, true, true, true, true, true, true, true, true, true, true, true, true, true, true, true, true, true, true, true, true, true, true, true, true, true, true, true, false, true, false, false, false, false, false, false, false, false] rfl rfl (by kernel_rfl) (fun _ _ _ h => h) (Or.inl ⟨by rfl, ?_⟩) hHeld ?_ ?_
  rotate_left
  · rintro w' ⟨s0, s1, s2, s3⟩
    go_simp
    with_reducible rfl
  rotate_left
  · simp only [Act.put, List.setIfInBounds_toArray, List.set_cons_zero, List.set_cons_succ, i64_w, i32_w]
    rfl
  refine one_ (i := 38) (N := some 92) #[true, true, true, true, true, true, true, true, true, true, true, true, true, true, true, true, true, true, true, true, true, true, true, true, true, true, true, true, true, true, true, true, true, true, true, true, true, true, true, true, false, false, false, false, false, false, false, false] rfl rfl (by kernel_rfl) (by decide) (fun K hK => ?_)
  refine goes_ Try.func27 (by kernel_rfl) rfl #[.agg #[.slice A15 L3.length c15]] (by rfl) rfl rfl (by simp only [List.map_toArray, List.map_cons, List.map_nil]; rfl) ?_
  with_reducible refine (impl_ArenaOk.calls A15 c15 L3 b3 _ X15q4.out.row X15q4.out.cap H12.out).mono ?_
  rintro e wq5 ⟨rfl, hb⟩
  refine ⟨_, rfl, ?_⟩
  have HBq5 := Aside0.mk (below_step HBq4.out hb)
  have X3q5 := Aside0.mk (X3q4.out.below hb)
  have X11q5 := Aside0.mk (X11q4.out.below hb)
  have X13q5 := Aside0.mk (X13q4.out.below hb)
  have X15q5 := Aside0.mk (X15q4.out.below hb)
  clear hb
  refine hK.out _ _ ⟨X3q5.out.cell, X11q5.out.cell, X13q5.out.cell, X15q5.out.cell⟩ (fun hHeld => ?_)
  clear hK K
  refine norm_ (a' := ?_) ?_ ?_
  rotate_left
  · show Act.put _ (some 92) _ = _
    simp only [Act.put, List.setIfInBounds_toArray, List.set_cons_zero, List.set_cons_succ, i64_w, i32_w]
    rfl
  refine one_ (i := 40) (N := some 94) #[true, true, true, true, true, true, true, true, true, true, true, true, true, true, true, true, true, true, true, true, true, true, true, true, true, true, true, true, true, true, true, true, true, true, true, true, true, true, true, true, true, false, false, false, false, false, false, false] rfl rfl (by kernel_rfl) (by decide) (fun K hK => ?_)
  refine goes_ Try.func25 (by kernel_rfl) rfl #[.agg #[.slice A15 L3.length c15]] (by rfl) rfl rfl (by simp only [List.map_toArray, List.map_cons, List.map_nil]; rfl) ?_
  with_reducible refine (spec_ArenaOk.calls k A15 c15 L3 b3 _ X15q5.out.row X15q5.out.cap H13.out).mono ?_
  rintro e wq6 ⟨rfl, hb⟩
  refine ⟨_, rfl, ?_⟩
  have HBq6 := Aside0.mk (below_step HBq5.out hb)
  have X3q6 := Aside0.mk (X3q5.out.below hb)
  have X11q6 := Aside0.mk (X11q5.out.below hb)
  have X13q6 := Aside0.mk (X13q5.out.below hb)
  have X15q6 := Aside0.mk (X15q5.out.below hb)
  clear hb
  refine hK.out _ _ ⟨X3q6.out.cell, X11q6.out.cell, X13q6.out.cell, X15q6.out.cell⟩ (fun hHeld => ?_)
  clear hK K
  refine norm_ (a' := ?_) ?_ ?_
  rotate_left
  · show Act.put _ (some 94) _ = _
    simp only [Act.put, List.setIfInBounds_toArray, List.set_cons_zero, List.set_cons_succ, i64_w, i32_w]
    rfl
  refine pure_ (i := 41) (N := some 95) (v := ?_) (a' := ?_) #[true, true, true, true, true, true, true, true, true, true, true, true, true, true, true, true, true, true, true, true, true, true, true, true, true, true, true, true, true, true, true, true, true, true, true, true, true, true, true, true, true, true, false, false, false, false, false, false] rfl rfl (by kernel_rfl) (fun _ _ _ h => h) (Or.inl ⟨by rfl, ?_⟩) ?_ ?_
  rotate_left
  · intro w'
    go_simp
    with_reducible rfl
  rotate_left
  · simp only [Act.put, List.setIfInBounds_toArray, List.set_cons_zero, List.set_cons_succ, i64_w, i32_w]
    rfl
  refine pure_ (i := 42) (N := some 96) (v := ?_) (a' := ?_) #[true, true, true, true, true, true, true, true, true, true, true, true, true, true, true, true, true, true, true, true, true, true, true, true, true, true, true, true, true, true, true, true, true, true, true, true, true, true, true, true, true, true, true, false, false, false, false, false] rfl rfl (by kernel_rfl) (fun _ _ _ h => h) (Or.inl ⟨by rfl, ?_⟩) ?_ ?_
  rotate_left
  · intro w'
    go_simp
    with_reducible rfl
  rotate_left
  · simp only [Act.put, List.setIfInBounds_toArray, List.set_cons_zero, List.set_cons_succ, i64_w, i32_w]
    rfl
  refine pure_ (i := 43) (N := some 97) (v := ?_) (a' := ?_) #[true, true, true, true, true, true, true, true, true, true, true, true, true, true, true, true, true, true, true, true, true, true, true, true, true, true, true, true, true, true, true, true, true, true, true, true, true, true, true, true, true, true, true, true, false, false, false, false] rfl rfl (by kernel_rfl) (fun _ _ _ h => h) (Or.inl ⟨by rfl, ?_⟩) ?_ ?_
  rotate_left
  · intro w'
    go_simp
    with_reducible rfl
  rotate_left
  · simp only [Act.put, List.setIfInBounds_toArray, List.set_cons_zero, List.set_cons_succ, i64_w, i32_w]
    rfl
  refine pure_ (i := 44) (N := some 98) (v := ?_) (a' := ?_) #[true, true, true, true, true, true, true, true, true, true, true, true, true, true, true, true, true, true, true, true, true, true, true, true, true, true, true, true, true, true, true, true, true, true, true, true, true, true, true, true, true, true, true, true, true, false, false, false] rfl rfl (by kernel_rfl) (fun _ _ _ h => h) (Or.inl ⟨by rfl, ?_⟩) ?_ ?_
  rotate_left
  · intro w'
    go_simp
    with_reducible rfl
  rotate_left
  · simp only [Act.put, List.setIfInBounds_toArray, List.set_cons_zero, List.set_cons_succ, i64_w, i32_w]
    rfl
  refine one_ (i := 45) (N := some 99) #[true, true, true, true, true, true, true, true, true, true, true, true, true, true, true, true, true, true, true, true, true, true, true, true, true, true, true, true, true, true, true, true, true, true, true, true, true, true, true, true, true, true, true, true, true, true, false, false] rfl rfl (by kernel_rfl) (by decide) (fun K hK => ?_)
  refine goes_ Try.func27 (by kernel_rfl) rfl #[.agg #[.slice none 0 0]] (by rfl) rfl rfl (by simp only [List.map_toArray, List.map_cons, List.map_nil]; rfl) ?_
  with_reducible refine (arenaOk_nil _ H14.out).mono ?_
  rintro e wq7 ⟨rfl, hb⟩
  refine ⟨_, rfl, ?_⟩
  have HBq7 := Aside0.mk (below_step HBq6.out hb)
  have X3q7 := Aside0.mk (X3q6.out.below hb)
  have X11q7 := Aside0.mk (X11q6.out.below hb)
  have X13q7 := Aside0.mk (X13q6.out.below hb)
  have X15q7 := Aside0.mk (X15q6.out.below hb)
  clear hb
  refine hK.out _ _ ⟨X3q7.out.cell, X11q7.out.cell, X13q7.out.cell, X15q7.out.cell⟩ (fun hHeld => ?_)
  clear hK K
  refine norm_ (a' := ?_) ?_ ?_
  rotate_left
  · show Act.put _ (some 99) _ = _
    simp only [Act.put, List.setIfInBounds_toArray, List.set_cons_zero, List.set_cons_succ, i64_w, i32_w]
    rfl
  refine pure_ (i := 46) (N := some 100) (v := ?_) (a' := ?_) #[true, true, true, true, true, true, true, true, true, true, true, true, true, true, true, true, true, true, true, true, true, true, true, true, true, true, true, true, true, true, true, true, true, true, true, true, true, true, true, true, true, true, true, true, true, true, true, false] rfl rfl (by kernel_rfl) (fun _ _ _ h => h) (Or.inl ⟨by rfl, ?_⟩) ?_ ?_
  rotate_left
  · intro w'
    go_simp
    with_reducible rfl
  rotate_left
  · simp only [Act.put, List.setIfInBounds_toArray, List.set_cons_zero, List.set_cons_succ, i64_w, i32_w]
    rfl
  refine pure_ (i := 47) (N := some 2) (v := ?_) (a' := ?_) #[true, true, true, true, true, true, true, true, true, true, true, true, true, true, true, true, true, true, true, true, true, true, true, true, true, true, true, true, true, true, true, true, true, true, true, true, true, true, true, true, true, true, true, true, true, true, true, true] rfl rfl (by kernel_rfl) (fun _ _ _ h => h) (Or.inl ⟨by rfl, ?_⟩) ?_ ?_
  rotate_left
  · intro w'
    go_simp
    with_reducible rfl
  rotate_left
  · simp only [Act.put, List.setIfInBounds_toArray, List.set_cons_zero, List.set_cons_succ, i64_w, i32_w]
    rfl
  refine done_ (by kernel_rfl) ?_
  go_wp2
  go_ret
  exact ⟨by first | rfl | simp, HBq7.out⟩

-- ALLX
theorem spec_NodeOk_f (l : List S34) (a : Int) (hl : l.length ≤ 1048576) : Ev (fun k => spec_NodeOk.f k l a) (nodeOkB l a) := by
  unfold spec_NodeOk.f nodeOkB
  rw [w64 (by omega) (by omega)]
  simp only [spec_In_b, Option.bind_some]
  by_cases h : 0 ≤ a ∧ a < (l.length : Int)
  · refine evT (by simp; omega) (evT h.1 (evT h.2 ?_))
    refine ev_cast (Ev.bind (spec_l03Node_f _ _ _ _ a (by omega)) (Ev.now _)) ?_
    rw [if_pos h]
  · exact ev_cast (evF (by simp; omega) (Ev.now _)) (if_neg h).symm
theorem TermDraw_f (l : List Int) (hl : l.length ≤ 140737488351232) : ∃ r : List S34 × Int, Ev (fun k => spec_DrawTermText.f k l) r ∧ r.1.length ≤ 13 := by
  obtain ⟨h, hh⟩ := New_f l hl
  obtain ⟨q, i1, h1, e1, c1, _, _⟩ := Below_f h 40 (by omega) (cur_zero hl)
  obtain ⟨ns, i2, h2, e2, c2, n1, n2, _⟩ := Any_f h1 c1
  refine ⟨(ns, wrap64 ((Int.tmod q (wrap64 ((ns.length : Int) + 2))) - 1)), Ev.bind (Ev.bind hh (ev_now e1 (ev_now e2 (evF (by simp only; rw [w64 (by omega) (by omega)]; omega) (Ev.now _))))) (Ev.now _), n2⟩
theorem ArenaDraw_f (l : List Int) (hl : l.length ≤ 140737488351232) : ∃ r : List S34, Ev (fun k => spec_DrawArenaOk.f k l) r ∧ r.length ≤ 13 ∧ ∀ x ∈ r, smallN x := by
  obtain ⟨h, hh⟩ := New_f l hl
  obtain ⟨ns, i2, h2, e2, c2, n1, n2, hs⟩ := Any_f h (cur_zero hl)
  exact ⟨ns, Ev.bind hh (ev_now e2 (Ev.now _)), n2, hs⟩
theorem one_b (k : Int) : ∃ b, spec_l03One.f k = some b := by
  unfold spec_l03One.f
  split <;> exact ⟨_, rfl⟩
theorem PutDraw_f (l : List Int) (hl : l.length ≤ 140737488351232) : ∃ r : List S34 × Int × Int × Int × Int, Ev (fun k => spec_DrawPut.f k l) r ∧ r.1.length ≤ 13 := by
  obtain ⟨h, hh⟩ := New_f l hl
  obtain ⟨q0, i0, h0, e0, c0, _, _⟩ := Below_f h 3 (by omega) (cur_zero hl)
  obtain ⟨q1, i1, h1, e1, c1, _, _⟩ := Below_f h0 9 (by omega) c0
  obtain ⟨q2, i2, h2, e2, c2, _, _⟩ := Below_f h1 6 (by omega) c1
  obtain ⟨q3, i3, h3, e3, c3, _, _⟩ := Below_f h2 6 (by omega) c2
  obtain ⟨ns, i4, h4, e4, c4, n1, n2, _⟩ := Any_f h3 c3
  have main : ∃ r : List S34 × Int × Int × Int × Int, (if q0 = 0 then ((spec_l01Below.f l i4 h4 (ns.length : Int)).bind fun bt366 => (if 0 ≤ bt366.1 then (if bt366.1 < (ns.length : Int) then (some (ns, (rd_T34 ns bt366.1).f0, (rd_T34 ns bt366.1).f1, (rd_T34 ns bt366.1).f2, (rd_T34 ns bt366.1).f3)) else (none)) else (none))) else (if (wrap64 (1 + q1)) = 1 then ((spec_l01PickInt.f l i4 h4 (([0, 7, 999999, 1000000] : List Int))).bind fun bt373 => ((spec_l03One.f (wrap64 (1 + q1))).bind fun t376 => (if t376 = true then (some (ns, wrap64 (1 + q1), bt373.1, 0, 0)) else (some (ns, wrap64 (1 + q1), bt373.1, 0, 0))))) else ((spec_l03One.f (wrap64 (1 + q1))).bind fun t377 => (if t377 = true then (some (ns, wrap64 (1 + q1), 0, q2, 0)) else (some (ns, wrap64 (1 + q1), 0, q2, q3)))))) = some r ∧ r.1.length ≤ 13 := by
    by_cases k0 : q0 = 0
    · obtain ⟨p, i5, h5, e5, c5, b5, _⟩ := Below_f h4 (ns.length : Int) (by omega) c4
      have hp := b5 (by omega)
      rw [if_pos k0, e5, Option.bind_some, if_pos hp.1, if_pos hp.2]
      exact ⟨_, rfl, n2⟩
    · rw [if_neg k0]
      obtain ⟨b, hb⟩ := one_b (wrap64 (1 + q1))
      by_cases k1 : wrap64 (1 + q1) = 1
      · obtain ⟨p, i5, h5, e5, c5, _⟩ := pick_in h4 c4 [0, 7, 999999, 1000000] (by decide) (by decide)
        rw [if_pos k1, e5, Option.bind_some, hb, Option.bind_some]
        split <;> exact ⟨_, rfl, n2⟩
      · rw [if_neg k1, hb, Option.bind_some]
        split <;> exact ⟨_, rfl, n2⟩
  obtain ⟨r, hr, hl⟩ := main
  refine ⟨r, Ev.bind hh (ev_now e0 (ev_now e1 (ev_now e2 (ev_now e3 (ev_now e4 (ev_some hr)))))), hl⟩
theorem spec_Put_eq (l : List S34) (hl : l.length ≤ 1048576) (a b c d : Int) : spec_Put.f l a b c d = some (putN l ⟨a, b, c, d⟩) := by
  unfold spec_Put.f
  rw [if_pos hl]
theorem impl_Put_eq (l : List S34) (hl : l.length ≤ 1048576) (a b c d : Int) : impl_Put.f l a b c d = some (putN l ⟨a, b, c, d⟩) := by
  unfold impl_Put.f
  rw [if_pos hl, alike_end (alike_put l ⟨a, b, c, d⟩)]
  by_cases h : (putN l (⟨a, b, c, d⟩ : S34)).2 < 0
  · rw [if_pos h]
    rcases putN_cases l (⟨a, b, c, d⟩ : S34) with ⟨e1, e2⟩ | ⟨_, h0, _⟩
    · exact congrArg some (Prod.ext e1.symm e2.symm)
    · omega
  · rw [if_neg h]
theorem impl_ArenaOk_eq (l : List S34) (h : l.all wf1 = true) : impl_ArenaOk.f l = some (aok l) := by
  unfold impl_ArenaOk.f
  rw [if_pos h]
theorem walk (A0 : Option Addr) (c0 : Nat) (l0 : List Int) (w : World) (hr0 : Kd.C (Kd.int .u8) w A0 l0.length l0) (hc0 : l0.length ≤ c0) (hl : l0.length * 1 ≤ 140737488351232) :
    Calls Try.prog 10 #[.slice A0 l0.length c0] w fun e w' => e = .returned (.bool true) ∧ Below w.heap.size w w' := by
  by_cases hbig : (l0.length : Int) ≤ 1048576
  · obtain ⟨⟨L0, a⟩, ⟨K0, f0⟩, hL0⟩ := TermDraw_f l0 (by omega)
    obtain ⟨⟨L1, n0, n1, n2, n3⟩, ⟨K1, f1⟩, hL1⟩ := PutDraw_f l0 (by omega)
    obtain ⟨L3, ⟨K2, f2⟩, hL3, hs3⟩ := ArenaDraw_f l0 (by omega)
    simp only at hL0 hL1
    obtain ⟨K3, f3⟩ := impl_TermText_f L0 (by omega) a
    obtain ⟨K4, f4⟩ := spec_TermText_f L0 (by omega) a
    obtain ⟨K5, f5⟩ := impl_SizeOf_f L0 (by omega) a
    obtain ⟨K6, f6⟩ := spec_SizeOf_f L0 (by omega) a
    obtain ⟨K7, f7⟩ := impl_NodeOk_f L0 a (by omega)
    obtain ⟨K8, f8⟩ := spec_NodeOk_f L0 a (by omega)
    have hp : (putN L1 (⟨n0, n1, n2, n3⟩ : S34)).1.length ≤ 1048576 := by have := (put_length L1 (⟨n0, n1, n2, n3⟩ : S34)).2; omega
    obtain ⟨K9, f9⟩ := same_f (putN L1 (⟨n0, n1, n2, n3⟩ : S34)).1 hp
    obtain ⟨K10, f10⟩ := spec_ArenaOk_f L3 (by omega)
    exact law_told A0 c0 l0 (K0 + K1 + K2 + K3 + K4 + K5 + K6 + K7 + K8 + K9 + K10) L0 L1 (putN L1 (⟨n0, n1, n2, n3⟩ : S34)).1 L3 a n0 n1 n2 n3 (putN L1 (⟨n0, n1, n2, n3⟩ : S34)).2 _ (termText L0 a).1 (termText L0 a).2 _ _ w hr0 hc0 hbig
      (f0 _ (by omega)) (f3 _ (by omega)) (f4 _ (by omega)) (f1 _ (by omega)) (impl_Put_eq L1 (by omega) _ _ _ _) (spec_Put_eq L1 (by omega) _ _ _ _) (f2 _ (by omega)) (f5 _ (by omega)) (f6 _ (by omega)) (f7 _ (by omega)) (f8 _ (by omega)) (f9 _ (by omega)) (impl_ArenaOk_eq L3 (small_all hs3)) (f10 _ (by omega)) (impl_ArenaOk_eq [] rfl)
  · have HBIG : Aside0 (laws_big.f l0 = some true) := ⟨by unfold laws_big.f; rw [decide_eq_true (by omega)]⟩
    have HR0 := Aside0.mk hr0
    have HC0 := Aside0.mk hc0
    clear hr0 hc0 hbig hl
    go_enter Try.func10, Try.ntmps10
    go_wp2_with (go_at_call 14; ((with_reducible refine (laws_big.calls A0 c0 l0 true _ HR0.out HC0.out HBIG.out).mono ?_); rintro e w2 ⟨rfl, hd⟩); have HB2 := Aside0.mk hd.below; clear hd)
    go_ret
    exact ⟨rfl, HB2.out⟩

end Go.Proofs.Ytkckdibalopagaa.Pure
