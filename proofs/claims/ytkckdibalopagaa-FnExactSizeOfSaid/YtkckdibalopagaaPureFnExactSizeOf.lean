/- Proved: the program's SizeOf returns what the reference's SizeOf returns, for every arena and every place, and leaves the arena as it was; no condition. -/
import Derived.Test.YtkckdibalopagaaSFnExactSizeOfx5
import Derived.Test.YtkckdibalopagaaBase
namespace Go.Proofs.Ytkckdibalopagaa.Pure
open Go.RowKit Go.Proofs.Ytkckdibalopagaa.SFnExactSizeOf Go.Proofs.Ytkckdibalopagaa.Base Go.Proofs.YtkckdibalopagaaW.PrintWords Go.Proofs.YtkckdibalopagaaW.PrintLast Go.Proofs.YtkckdibalopagaaW.PrintMore
set_option linter.unusedVariables false
set_option linter.unusedSimpArgs false

/-! a node's rightness -/
def nodeB (f0 f1 f2 f3 k : Int) : Bool :=
  if f0 = 1 then decide (0 ≤ f1) && decide (f1 ≤ 999999) && decide (f2 = 0) && decide (f3 = 0)
  else if f0 = 3 ∨ f0 = 6 then decide (f1 = 0) && (decide (0 ≤ f2) && decide (f2 ≤ k - 1)) && decide (f3 = 0)
  else (decide (2 ≤ f0) && decide (f0 ≤ 9)) && decide (f1 = 0) && (decide (0 ≤ f2) && decide (f2 ≤ k - 1)) && (decide (0 ≤ f3) && decide (f3 ≤ k - 1))
theorem beq_dec (x : Int) : (x == 0) = decide (x = 0) := by
  by_cases h : x = 0 <;> simp [h]

theorem impl_within_b (a b c : Int) : impl_within.f a b c = some (decide (b ≤ a) && decide (a ≤ c)) := by
  unfold impl_within.f
  by_cases h : a ≥ b
  · rw [if_pos h]; simp [h]
  · rw [if_neg h]
    have : ¬ b ≤ a := h
    simp [this]
theorem impl_nodeRight_j0 (f0 f1 f2 f3 k : Int) (hk : 0 ≤ k ∧ k ≤ 9223372036854775807) (c : Bool) : Ev (fun n => impl_nodeRight.j0 n k c f0 f1 f2 f3)
    (if c = true then decide (f1 = 0) && (decide (0 ≤ f2) && decide (f2 ≤ k - 1)) && decide (f3 = 0) else (decide (2 ≤ f0) && decide (f0 ≤ 9)) && decide (f1 = 0) && (decide (0 ≤ f2) && decide (f2 ≤ k - 1)) && (decide (0 ≤ f3) && decide (f3 ≤ k - 1))) := by
  have e : wrap64 (k - 1) = k - 1 := w64 (by omega) (by omega)
  refine ev_end (fun n => ?_)
  rw [impl_nodeRight.j0, e]
  simp only [impl_within_b, Option.bind_some, beq_dec]
  cases c with
  | true =>
    rw [if_pos rfl, if_pos rfl]
    by_cases h1 : f1 = 0
    · rw [if_pos h1]
      by_cases h2 : (decide (0 ≤ f2) && decide (f2 ≤ k - 1)) = true
      · rw [if_pos h2, h2]; simp [h1]
      · rw [if_neg h2]; simp only [Bool.not_eq_true] at h2; rw [h2]; simp
    · rw [if_neg h1]; simp [h1]
  | false =>
    rw [if_neg (show ¬ (false = true) by simp), if_neg (show ¬ (false = true) by simp)]
    by_cases h0 : (decide (2 ≤ f0) && decide (f0 ≤ 9)) = true
    · rw [if_pos h0, h0]
      by_cases h1 : f1 = 0
      · rw [if_pos h1]
        by_cases h2 : (decide (0 ≤ f2) && decide (f2 ≤ k - 1)) = true
        · rw [if_pos h2, h2]; simp [h1]
        · rw [if_neg h2]; simp only [Bool.not_eq_true] at h2; rw [h2]; simp
      · rw [if_neg h1]; simp [h1]
    · rw [if_neg h0]; simp only [Bool.not_eq_true] at h0; rw [h0]; simp
theorem impl_nodeRight_f (f0 f1 f2 f3 k : Int) (hk : 0 ≤ k ∧ k ≤ 9223372036854775807) : Ev (fun n => impl_nodeRight.f n f0 f1 f2 f3 k) (nodeB f0 f1 f2 f3 k) := by
  unfold nodeB
  by_cases h1 : f0 = 1
  · refine ev_cast (evT h1 ?_) (if_pos h1).symm
    refine ev_some ?_
    simp only [impl_within_b, Option.bind_some, beq_dec]
    by_cases h2 : (decide (0 ≤ f1) && decide (f1 ≤ 999999)) = true
    · rw [if_pos h2, h2]
      by_cases h3 : f2 = 0
      · rw [if_pos h3]; simp [h3]
      · rw [if_neg h3]; simp [h3]
    · rw [if_neg h2]; simp only [Bool.not_eq_true] at h2; rw [h2]; simp
  · refine ev_cast (evF h1 ?_) (if_neg h1).symm
    by_cases h3 : f0 = 3
    · refine evT h3 (ev_cast (impl_nodeRight_j0 f0 f1 f2 f3 k hk (f0 == 3)) ?_)
      rw [if_pos (by simp [h3]), if_pos (Or.inl h3)]
    · refine evF h3 (ev_cast (impl_nodeRight_j0 f0 f1 f2 f3 k hk (f0 == 6)) ?_)
      by_cases h6 : f0 = 6
      · rw [if_pos (by simp [h6]), if_pos (Or.inr h6)]
      · rw [if_neg (by simp [h6]), if_neg (by simp [h3, h6])]
theorem impl_hasNode_f (l : List S34) (k : Int) (hl : l.length ≤ 9223372036854775807) : impl_hasNode.f l k = some (decide (0 ≤ k) && decide (k ≤ (l.length : Int) - 1)) := by
  unfold impl_hasNode.f
  rw [w64 (by omega) (by omega), impl_within_b]
  rfl

theorem spec_In_b (a b c : Int) : spec_l01In.f a b c = some (decide (b ≤ a) && decide (a ≤ c)) := by
  unfold spec_l01In.f
  by_cases h : a ≥ b
  · rw [if_pos h]; simp [h]
  · rw [if_neg h]
    have : ¬ b ≤ a := h
    simp [this]
theorem spec_One_f (k : Int) : spec_l03One.f k = some (decide (k = 3 ∨ k = 6)) := by
  unfold spec_l03One.f
  by_cases h : k = 3
  · rw [if_pos h]; simp [h]
  · rw [if_neg h]
    by_cases h6 : k = 6 <;> simp [h, h6]
theorem spec_l03Node_j0 (f0 f1 f2 f3 k : Int) (hk : 0 ≤ k ∧ k ≤ 9223372036854775807) (c : Bool) : Ev (fun n => spec_l03Node.j0 n k c f0 f1 f2 f3)
    (!c && (if f0 = 3 ∨ f0 = 6 then decide (f3 = 0) else (decide (0 ≤ f3) && decide (f3 ≤ k - 1)))) := by
  have e : wrap64 (k - 1) = k - 1 := w64 (by omega) (by omega)
  refine ev_end (fun n => ?_)
  rw [spec_l03Node.j0, e]
  simp only [spec_In_b, spec_One_f, Option.bind_some, beq_dec]
  cases c with
  | true => rw [if_pos rfl]; rfl
  | false =>
    rw [if_neg (by simp)]
    by_cases h : f0 = 3 ∨ f0 = 6
    · rw [if_pos (by simpa using h), if_pos h]; simp
    · rw [if_neg (by simpa using h), if_neg h]; simp
theorem spec_l03Node_f (f0 f1 f2 f3 k : Int) (hk : 0 ≤ k ∧ k ≤ 9223372036854775807) : Ev (fun n => spec_l03Node.f n f0 f1 f2 f3 k) (nodeB f0 f1 f2 f3 k) := by
  have e : wrap64 (k - 1) = k - 1 := w64 (by omega) (by omega)
  unfold spec_l03Node.f
  rw [e]
  simp only [spec_In_b, Option.bind_some, beq_dec]
  unfold nodeB
  by_cases h9 : (decide (1 ≤ f0) && decide (f0 ≤ 9)) = true
  · refine evT h9 ?_
    simp only [Bool.and_eq_true, decide_eq_true_eq] at h9
    by_cases h1 : f0 = 1
    · refine ev_cast (evT h1 (ev_some ?_)) (if_pos h1).symm
      by_cases h2 : (decide (0 ≤ f1) && decide (f1 ≤ 999999)) = true
      · rw [if_pos h2, h2]
        by_cases h3 : f2 = 0
        · rw [if_pos h3]; simp [h3]
        · rw [if_neg h3]; simp [h3]
      · rw [if_neg h2]; simp only [Bool.not_eq_true] at h2; rw [h2]; simp
    · refine ev_cast (evF h1 ?_) (if_neg h1).symm
      by_cases hn : f1 = 0
      · refine evT hn (ev_cast (spec_l03Node_j0 f0 f1 f2 f3 k hk _) ?_)
        rw [Bool.not_not]
        by_cases h : f0 = 3 ∨ f0 = 6
        · rw [if_pos h, if_pos h]; simp [hn]
        · rw [if_neg h, if_neg h]
          have h2 : 2 ≤ f0 := by omega
          simp [hn, h2, h9.2]
      · refine evF hn (ev_cast (spec_l03Node_j0 f0 f1 f2 f3 k hk _) ?_)
        by_cases h : f0 = 3 ∨ f0 = 6
        · rw [if_pos h, if_pos h]; simp [hn]
        · rw [if_neg h, if_neg h]; simp [hn]
  · refine ev_cast (evF h9 (Ev.now _)) ?_
    simp only [Bool.and_eq_true, decide_eq_true_eq] at h9
    rw [if_neg (by omega), if_neg (by omega)]
    by_cases h2 : 2 ≤ f0
    · have : ¬ f0 ≤ 9 := by omega
      simp [this]
    · simp [h2]

/-! the law's own turning of what came in -/
def cv (x : S126) : S34 := ⟨x.f0, x.f1, x.f2, x.f3⟩
theorem rdL {l : List S126} {i : Nat} (h : i < l.length) : rd_T126 l (i : Int) = l[i] := by
  unfold rd_T126
  rw [Int.toNat_natCast, List.getD_eq_getElem?_getD, List.getElem?_eq_getElem h]
  rfl
theorem rdI {l : List S34} {i : Nat} (h : i < l.length) : rd_T34 l (i : Int) = l[i] := by
  unfold rd_T34
  rw [Int.toNat_natCast, List.getD_eq_getElem?_getD, List.getElem?_eq_getElem h]
  rfl
theorem toNodeS_ev (l : List S126) (hl : l.length ≤ 1048576) : ∀ (d i : Nat) (acc : List S34), l.length - i = d → i ≤ l.length → acc.length = l.length → acc.take i = (l.take i).map cv → Ev (fun k => laws_toNodeS.l0 k l acc (i : Int)) (l.map cv) := by
  intro d
  induction d with
  | zero =>
    intro i acc hd hi ha ht
    have e : i = l.length := by omega
    subst e
    rw [List.take_length, List.take_of_length_le (by omega)] at ht
    rw [← ht]
    exact ev_end (fun k => by rw [laws_toNodeS.l0, if_neg (by omega)])
  | succ d ih =>
    intro i acc hd hi ha ht
    have hlt : i < l.length := by omega
    refine Ev.step (fun k => by rw [laws_toNodeS.l0, if_pos (by omega), if_pos (by omega), rdL hlt]) ?_
    refine ev_now rfl (evT (by omega) ?_)
    rw [w64 (by omega) (by omega), Int.toNat_natCast]
    refine ih (i + 1) _ (by omega) (by omega) (by simp [ha]) ?_
    rw [List.take_succ_eq_append_getElem (by simp; omega), List.take_succ_eq_append_getElem hlt, List.map_append, List.map_singleton, List.getElem_set_self, List.take_set_of_le (by omega), ht]
    rfl
theorem toArena_f (l : List S126) (hl : l.length ≤ 1048576) : Ev (fun k => laws_toArena.f k l) (l.map cv) := by
  refine Ev.bind ?_ (Ev.now _)
  refine evT (by omega) (evT (by rw [Int.toNat_natCast]; omega) ?_)
  exact toNodeS_ev l hl l.length 0 _ (by omega) (by omega) (by simp) (by simp)
theorem szArena_f (l : List S126) (hl : l.length ≤ 9223372036854775807) : laws_szArena.f l 1048576 = some (if (l.length : Int) ≤ 1048576 then 1048576 - (l.length : Int) else -1) := by
  unfold laws_szArena.f laws_szNodeS.f
  rw [w64 (by omega) (by omega)]
  by_cases h : (l.length : Int) ≤ 1048576
  · rw [if_neg (by omega), if_pos h, Option.bind_some, if_neg (by omega)]
  · rw [if_pos (by omega), if_neg h, Option.bind_some, if_pos (by omega)]
theorem eqNodeS_ev (l : List S34) (hl : l.length ≤ 1048576) : ∀ (d i : Nat), l.length - i = d → i ≤ l.length → Ev (fun k => laws_eqNodeS.l0 k l l (i : Int)) true := by
  intro d
  induction d with
  | zero => intro i hd hi; exact ev_end (fun k => by rw [laws_eqNodeS.l0, if_neg (by omega)])
  | succ d ih =>
    intro i hd hi
    refine Ev.step (fun k => by rw [laws_eqNodeS.l0, if_pos (by omega), if_pos (by omega), if_pos (by omega)]) ?_
    refine ev_now (x := true) (by unfold laws_eqNode.f; rw [if_pos rfl, if_pos rfl, if_pos rfl, if_pos rfl]) (evT rfl ?_)
    rw [w64 (by omega) (by omega)]
    exact ih (i + 1) (by omega) (by omega)
theorem eqArena_f (l : List S34) (hl : l.length ≤ 1048576) : Ev (fun k => laws_eqArena.f k l l) true :=
  Ev.bind (evT rfl (eqNodeS_ev l hl l.length 0 (by omega) (by omega))) (evT rfl (Ev.now _))

/-! sizes -/
def nodeOf (l : List S34) (i : Nat) : S34 := rd_T34 l (i : Int)
def rightAt (l : List S34) (i : Nat) : Bool := nodeB (nodeOf l i).f0 (nodeOf l i).f1 (nodeOf l i).f2 (nodeOf l i).f3 (i : Int)
def oneKind (k : Int) : Bool := decide (k = 3 ∨ k = 6)
def size1 (l : List S34) (S : List Int) (i : Nat) : Int :=
  if rightAt l i = true ∧ (i = 0 ∨ rd S ((i : Int) - 1) ≠ 0) then
    mn (if (nodeOf l i).f0 = 1 then 1 else if oneKind (nodeOf l i).f0 = true then 1 + rd S (nodeOf l i).f2 else 1 + rd S (nodeOf l i).f2 + rd S (nodeOf l i).f3) 100000
  else 0
def sizes (l : List S34) : Nat → List Int
  | 0 => []
  | n + 1 => sizes l n ++ [size1 l (sizes l n) n]
theorem sizes_length (l : List S34) (n : Nat) : (sizes l n).length = n := by
  induction n with
  | zero => rfl
  | succ n ih => simp [sizes, ih]
def szAt (l : List S34) (i : Nat) : Int := size1 l (sizes l i) i
theorem sizes_rd (l : List S34) : ∀ {n i : Nat}, i < n → rd (sizes l n) (i : Int) = szAt l i
  | n + 1, i, h => by
    rw [sizes]
    unfold rd
    rw [Int.toNat_natCast]
    by_cases hi : i < n
    · have := sizes_rd l hi
      unfold rd at this
      rw [Int.toNat_natCast] at this
      rw [List.getD_eq_getElem?_getD, List.getElem?_append_left (by rw [sizes_length]; exact hi), ← List.getD_eq_getElem?_getD, this]
    · have : i = n := by omega
      subst this
      rw [List.getD_eq_getElem?_getD, List.getElem?_append_right (by rw [sizes_length]; omega), sizes_length, Nat.sub_self]
      rfl
theorem node_parts {f0 f1 f2 f3 k : Int} (h : nodeB f0 f1 f2 f3 k = true) : (1 ≤ f0 ∧ f0 ≤ 9) ∧ (f0 = 1 → 0 ≤ f1 ∧ f1 ≤ 999999 ∧ f2 = 0 ∧ f3 = 0) ∧ (f0 ≠ 1 → f1 = 0 ∧ 0 ≤ f2 ∧ f2 < k) ∧ ((f0 = 3 ∨ f0 = 6) → f3 = 0) ∧ (f0 ≠ 1 → ¬ (f0 = 3 ∨ f0 = 6) → 0 ≤ f3 ∧ f3 < k) := by
  unfold nodeB at h
  by_cases h1 : f0 = 1
  · rw [if_pos h1] at h
    simp only [Bool.and_eq_true, decide_eq_true_eq] at h
    omega
  · rw [if_neg h1] at h
    by_cases h3 : f0 = 3 ∨ f0 = 6
    · rw [if_pos h3] at h
      simp only [Bool.and_eq_true, decide_eq_true_eq] at h
      omega
    · rw [if_neg h3] at h
      simp only [Bool.and_eq_true, decide_eq_true_eq] at h
      omega
/-- the node's parts, as places -/
theorem right_parts {l : List S34} {i : Nat} (h : rightAt l i = true) : (1 ≤ (nodeOf l i).f0 ∧ (nodeOf l i).f0 ≤ 9) ∧ ((nodeOf l i).f0 = 1 → 0 ≤ (nodeOf l i).f1 ∧ (nodeOf l i).f1 ≤ 999999) ∧
    ((nodeOf l i).f0 ≠ 1 → ∃ a : Nat, (nodeOf l i).f2 = (a : Int) ∧ a < i) ∧ ((nodeOf l i).f0 ≠ 1 → oneKind (nodeOf l i).f0 = false → ∃ b : Nat, (nodeOf l i).f3 = (b : Int) ∧ b < i) := by
  obtain ⟨h0, h1, h2, _, h4⟩ := node_parts h
  refine ⟨h0, fun e => ⟨(h1 e).1, (h1 e).2.1⟩, fun e => ?_, fun e e2 => ?_⟩
  · obtain ⟨a, ha⟩ := Int.eq_ofNat_of_zero_le (h2 e).2.1
    exact ⟨a, ha, by have := (h2 e).2.2; omega⟩
  · have := h4 e (by simpa [oneKind] using e2)
    obtain ⟨b, hb⟩ := Int.eq_ofNat_of_zero_le this.1
    exact ⟨b, hb, by omega⟩
theorem size1_eq (l : List S34) (i : Nat) : szAt l i = if rightAt l i = true ∧ (i = 0 ∨ szAt l (i - 1) ≠ 0) then
    mn (if (nodeOf l i).f0 = 1 then 1 else if oneKind (nodeOf l i).f0 = true then 1 + szAt l (nodeOf l i).f2.toNat else 1 + szAt l (nodeOf l i).f2.toNat + szAt l (nodeOf l i).f3.toNat) 100000 else 0 := by
  have hprev : ∀ h : i ≠ 0, rd (sizes l i) ((i : Int) - 1) = szAt l (i - 1) := fun h => by
    rw [show (i : Int) - 1 = ((i - 1 : Nat) : Int) by omega]
    exact sizes_rd l (by omega)
  have hc : (rightAt l i = true ∧ (i = 0 ∨ rd (sizes l i) ((i : Int) - 1) ≠ 0)) ↔ (rightAt l i = true ∧ (i = 0 ∨ szAt l (i - 1) ≠ 0)) := by
    by_cases h0 : i = 0
    · simp [h0]
    · rw [hprev h0]
  have e : szAt l i = size1 l (sizes l i) i := rfl
  rw [e]
  unfold size1
  by_cases h : rightAt l i = true ∧ (i = 0 ∨ rd (sizes l i) ((i : Int) - 1) ≠ 0)
  · rw [if_pos h, if_pos (hc.1 h)]
    obtain ⟨_, _, h2, h3⟩ := right_parts h.1
    congr 1
    by_cases h1 : (nodeOf l i).f0 = 1
    · rw [if_pos h1, if_pos h1]
    · rw [if_neg h1, if_neg h1]
      obtain ⟨a, ha, hai⟩ := h2 h1
      rw [ha, Int.toNat_natCast, sizes_rd l hai]
      by_cases ho : oneKind (nodeOf l i).f0 = true
      · rw [if_pos ho, if_pos ho]
      · rw [if_neg ho, if_neg ho]
        obtain ⟨b, hb, hbi⟩ := h3 h1 (by simpa using ho)
        rw [hb, Int.toNat_natCast, sizes_rd l hbi]
  · rw [if_neg h, if_neg (fun hh => h (hc.2 hh))]
theorem mn_le (a b : Int) : mn a b ≤ a ∧ mn a b ≤ b ∧ (mn a b = a ∨ mn a b = b) := by unfold mn; split <;> omega
theorem sz_bound (l : List S34) (i : Nat) : 0 ≤ szAt l i ∧ szAt l i ≤ 100000 := by
  induction i using Nat.strongRecOn with
  | _ i ih =>
    rw [size1_eq]
    by_cases h : rightAt l i = true ∧ (i = 0 ∨ szAt l (i - 1) ≠ 0)
    · rw [if_pos h]
      obtain ⟨_, _, h2, h3⟩ := right_parts h.1
      have hm := mn_le (if (nodeOf l i).f0 = 1 then 1 else if oneKind (nodeOf l i).f0 = true then 1 + szAt l (nodeOf l i).f2.toNat else 1 + szAt l (nodeOf l i).f2.toNat + szAt l (nodeOf l i).f3.toNat) 100000
      refine ⟨?_, hm.2.1⟩
      rcases hm.2.2 with he | he
      · rw [he]
        by_cases h1 : (nodeOf l i).f0 = 1
        · rw [if_pos h1]; omega
        · rw [if_neg h1]
          obtain ⟨a, ha, hai⟩ := h2 h1
          have hA := ih a hai
          rw [ha, Int.toNat_natCast]
          by_cases ho : oneKind (nodeOf l i).f0 = true
          · rw [if_pos ho]; omega
          · rw [if_neg ho]
            obtain ⟨b, hb, hbi⟩ := h3 h1 (by simpa using ho)
            have hB := ih b hbi
            rw [hb, Int.toNat_natCast]
            omega
      · rw [he]; omega
    · rw [if_neg h]; omega
theorem sz_pos_of (l : List S34) (i : Nat) (h : rightAt l i = true ∧ (i = 0 ∨ szAt l (i - 1) ≠ 0)) : 0 < szAt l i := by
  rw [size1_eq, if_pos h]
  obtain ⟨_, _, h2, h3⟩ := right_parts h.1
  have hm := mn_le (if (nodeOf l i).f0 = 1 then 1 else if oneKind (nodeOf l i).f0 = true then 1 + szAt l (nodeOf l i).f2.toNat else 1 + szAt l (nodeOf l i).f2.toNat + szAt l (nodeOf l i).f3.toNat) 100000
  rcases hm.2.2 with he | he
  · rw [he]
    by_cases h1 : (nodeOf l i).f0 = 1
    · rw [if_pos h1]; omega
    · rw [if_neg h1]
      have hA := sz_bound l (nodeOf l i).f2.toNat
      have hB := sz_bound l (nodeOf l i).f3.toNat
      split <;> omega
  · rw [he]; omega
/-- a size above nought: all nodes up to it are right, and have one -/
theorem sz_pos_back (l : List S34) : ∀ (i : Nat), 0 < szAt l i → ∀ j, j ≤ i → rightAt l j = true ∧ 0 < szAt l j := by
  intro i
  induction i with
  | zero =>
    intro h j hj
    obtain rfl : j = 0 := by omega
    rw [size1_eq] at h
    by_cases hc : rightAt l 0 = true ∧ ((0 : Nat) = 0 ∨ szAt l (0 - 1) ≠ 0)
    · exact ⟨hc.1, sz_pos_of l 0 hc⟩
    · rw [if_neg hc] at h; omega
  | succ i ih =>
    intro h j hj
    have hc : rightAt l (i + 1) = true ∧ (i + 1 = 0 ∨ szAt l (i + 1 - 1) ≠ 0) := by
      rw [size1_eq] at h
      by_cases hc : rightAt l (i + 1) = true ∧ (i + 1 = 0 ∨ szAt l (i + 1 - 1) ≠ 0)
      · exact hc
      · rw [if_neg hc] at h; omega
    by_cases he : j = i + 1
    · subst he
      exact ⟨hc.1, h⟩
    · have hb := sz_bound l i
      rcases hc.2 with h0 | h0
      · omega
      · rw [Nat.add_sub_cancel] at h0
        exact ih (by omega) j (by omega)
theorem sz_all (l : List S34) : ∀ (i : Nat), (∀ j, j ≤ i → rightAt l j = true) → 0 < szAt l i := by
  intro i
  induction i with
  | zero => intro h; exact sz_pos_of l 0 ⟨h 0 (by omega), .inl rfl⟩
  | succ i ih =>
    intro h
    have := ih (fun j hj => h j (by omega))
    refine sz_pos_of l (i + 1) ⟨h (i + 1) (by omega), .inr ?_⟩
    rw [Nat.add_sub_cancel]
    omega
/-- what SizeOf tells -/
def sizeOf (l : List S34) (a : Int) : Int := if 0 ≤ a ∧ a < (l.length : Int) then szAt l a.toNat else 0

theorem spec_Sizes_ev (l : List S34) (hl : l.length ≤ 1048576) (K : Nat) (hK : K < l.length) : ∀ (d i : Nat), K + 1 - i = d → i ≤ K + 1 → Ev (fun k => spec_l03Sizes.l0 k (K : Int) (sizes l i) (i : Int) l) (sizes l (K + 1)) := by
  intro d
  induction d with
  | zero =>
    intro i hd hi
    have e : i = K + 1 := by omega
    subst e
    refine Ev.step (fun k => by rw [spec_l03Sizes.l0, if_neg (by omega)]) ?_
    exact ev_end (fun k => by rw [spec_l03Sizes.j1, if_neg (by simp)])
  | succ d ih =>
    intro i hd hi
    have hlt : i < l.length := by omega
    refine Ev.step (fun k => by rw [spec_l03Sizes.l0, if_pos (by omega)]) ?_
    refine Ev.step (fun k => by rw [spec_l03Sizes.j1]) ?_
    refine evT (by simpa using hlt) (evT (by omega) (evT (by omega) (Ev.bind (spec_l03Node_f _ _ _ _ (i : Int) (by omega)) ?_)))
    have hnext : ∀ x, size1 l (sizes l i) i = x → Ev (fun k => spec_l03Sizes.l0 k (K : Int) (sizes l i ++ [x]) (wrap64 ((i : Int) + 1)) l) (sizes l (K + 1)) := by
      intro x hx
      rw [w64 (by omega) (by omega), ← hx]
      exact ih (i + 1) (by omega) (by omega)
    have hlen : (sizes l i).length < 17592186044416 := by rw [sizes_length]; omega
    have hbad : ∀ c, (rightAt l i = false ∨ (i ≠ 0 ∧ rd (sizes l i) ((i : Int) - 1) = 0)) → c = true → Ev (fun k => spec_l03Sizes.j2 k (K : Int) (sizes l i) (i : Int) c l (nodeOf l i).f0 (nodeOf l i).f1 (nodeOf l i).f2 (nodeOf l i).f3) (sizes l (K + 1)) := by
      intro c h hc
      subst hc
      refine Ev.step (fun k => by rw [spec_l03Sizes.j2]) ?_
      refine evT rfl (evT hlen (hnext 0 ?_))
      unfold size1
      rw [if_neg]
      rcases h with h | h
      · rw [h]; simp
      · rintro ⟨_, h2⟩
        rcases h2 with h2 | h2
        · exact h.1 h2
        · exact h2 h.2
    have hgood : ∀ c, rightAt l i = true → (i = 0 ∨ rd (sizes l i) ((i : Int) - 1) ≠ 0) → c = false → Ev (fun k => spec_l03Sizes.j2 k (K : Int) (sizes l i) (i : Int) c l (nodeOf l i).f0 (nodeOf l i).f1 (nodeOf l i).f2 (nodeOf l i).f3) (sizes l (K + 1)) := by
      intro c hr hp hc
      subst hc
      obtain ⟨_, _, h2, h3⟩ := right_parts hr
      have hs : size1 l (sizes l i) i = mn (if (nodeOf l i).f0 = 1 then 1 else if oneKind (nodeOf l i).f0 = true then 1 + rd (sizes l i) (nodeOf l i).f2 else 1 + rd (sizes l i) (nodeOf l i).f2 + rd (sizes l i) (nodeOf l i).f3) 100000 := by
        unfold size1
        rw [if_pos ⟨hr, hp⟩]
      refine Ev.step (fun k => by rw [spec_l03Sizes.j2]) ?_
      refine evF (by simp) ?_
      by_cases h1 : (nodeOf l i).f0 = 1
      · refine evT h1 (evF (by omega) (evT hlen (hnext 1 ?_)))
        rw [hs, if_pos h1]
        rfl
      · refine evF h1 ?_
        rw [if_neg h1] at hs
        obtain ⟨a, ha, hai⟩ := h2 h1
        have hA := sz_bound l a
        rw [ha] at hs ⊢
        rw [sizes_rd l hai] at hs ⊢
        refine evT (by omega) (evT (by rw [sizes_length]; omega) (ev_now (spec_One_f _) ?_))
        by_cases ho : oneKind (nodeOf l i).f0 = true
        · rw [if_pos ho] at hs
          refine evT ho ?_
          rw [w64 (x := 1 + szAt l a) (by omega) (by omega)]
          by_cases hc : 1 + szAt l a > 100000
          · exact evT hc (evT hlen (hnext _ (by rw [hs]; unfold mn; rw [if_pos (by omega)])))
          · exact evF hc (evT hlen (hnext _ (by rw [hs]; unfold mn; rw [if_neg (by omega)])))
        · rw [if_neg ho] at hs
          refine evF ho ?_
          obtain ⟨b, hb, hbi⟩ := h3 h1 (by simpa using ho)
          have hB := sz_bound l b
          rw [hb] at hs ⊢
          rw [sizes_rd l hbi] at hs ⊢
          rw [w64 (x := 1 + szAt l a) (by omega) (by omega), w64 (x := 1 + szAt l a + szAt l b) (by omega) (by omega)]
          refine evT (by omega) (evT (by rw [sizes_length]; omega) ?_)
          by_cases hc : 1 + szAt l a + szAt l b > 100000
          · exact evT hc (evT hlen (hnext _ (by rw [hs]; unfold mn; rw [if_pos (by omega)])))
          · exact evF hc (evT hlen (hnext _ (by rw [hs]; unfold mn; rw [if_neg (by omega)])))
    by_cases hr : rightAt l i = true
    · refine evT hr ?_
      by_cases h0 : i = 0
      · refine evF (by omega) (hgood _ hr (.inl h0) rfl)
      · have ew : wrap64 ((i : Int) - 1) = (i : Int) - 1 := w64 (by omega) (by omega)
        rw [ew]
        refine evT (by omega) (evT (by omega) (evT (by rw [sizes_length]; omega) ?_))
        by_cases hz : rd (sizes l i) ((i : Int) - 1) = 0
        · exact hbad _ (.inr ⟨h0, hz⟩) (by simp [hz])
        · exact hgood _ hr (.inr hz) (by simp [hz])
    · exact evF hr (hbad _ (.inl (by simpa using hr)) rfl)
theorem spec_SizeOf_f (l : List S34) (hl : l.length ≤ 1048576) (a : Int) : Ev (fun k => spec_SizeOf.f k l a) (sizeOf l a) := by
  unfold spec_SizeOf.f sizeOf
  rw [w64 (by omega) (by omega)]
  simp only [spec_In_b, Option.bind_some]
  by_cases h : 0 ≤ a ∧ a < (l.length : Int)
  · obtain ⟨K, rfl⟩ := Int.eq_ofNat_of_zero_le h.1
    refine ev_cast (evT (by simp; omega) (Ev.bind (spec_Sizes_ev l hl K (by omega) (K + 1) 0 (by omega) (by omega)) (evT h.1 (evT (by rw [sizes_length]; omega) (Ev.now _))))) ?_
    rw [if_pos h, sizes_rd l (by omega), Int.toNat_natCast]
  · exact ev_cast (evF (by simp; omega) (Ev.now _)) (if_neg h).symm

theorem impl_hasB_f (k : Int) : impl_hasB.f k = some (!decide (k = 1) && !oneKind k) := by
  unfold impl_hasB.f oneKind
  by_cases h1 : k = 1
  · rw [if_pos h1]; simp [h1]
  · rw [if_neg h1]
    by_cases h3 : k = 3
    · rw [if_pos h3]; simp [h3]
    · rw [if_neg h3]
      by_cases h6 : k = 6
      · simp [h6]
      · simp [h1, h3, h6]
theorem take_node (l : List S34) (K i : Nat) (hi : i < K) (hK : K ≤ l.length) : rd_T34 (l.take K) (i : Int) = nodeOf l i := by
  unfold nodeOf
  rw [rdI (by rw [List.length_take]; omega), rdI (by omega), List.getElem_take]
theorem impl_Size_ev (l : List S34) (hl : l.length ≤ 1048576) (K : Nat) (hK : K < l.length) : ∀ (d i : Nat), K + 1 - i = d → i ≤ K + 1 → (∀ j, j < i → rightAt l j = true) →
    Ev (fun k => impl_SizeOf.l0 k (K : Int) (sizes l i) (l.take (K + 1)) ((l.take (K + 1)).length : Int) (i : Int)) (szAt l K) := by
  have hT : (l.take (K + 1)).length = K + 1 := by rw [List.length_take]; omega
  intro d
  induction d with
  | zero =>
    intro i hd hi hall
    have e : i = K + 1 := by omega
    subst e
    refine ev_end (fun k => ?_)
    rw [impl_SizeOf.l0, if_neg (by omega), if_pos (by omega), if_pos (by rw [sizes_length]; omega), sizes_rd l (by omega)]
  | succ d ih =>
    intro i hd hi hall
    have hlt : i < l.length := by omega
    refine Ev.step (fun k => by rw [impl_SizeOf.l0, if_pos (by omega), if_pos (by omega), if_pos (by omega), take_node l (K + 1) i (by omega) (by omega)]) ?_
    refine Ev.bind (impl_nodeRight_f _ _ _ _ (i : Int) (by omega)) ?_
    by_cases hr : rightAt l i = true
    · refine evT hr ?_
      have hp : i = 0 ∨ rd (sizes l i) ((i : Int) - 1) ≠ 0 := by
        by_cases h0 : i = 0
        · exact .inl h0
        · right
          rw [show (i : Int) - 1 = ((i - 1 : Nat) : Int) by omega, sizes_rd l (by omega)]
          have := sz_all l (i - 1) (fun j hj => hall j (by omega))
          omega
      have hnext : ∀ x, size1 l (sizes l i) i = x → Ev (fun k => impl_SizeOf.l0 k (K : Int) (sizes l i ++ [x]) (l.take (K + 1)) ((l.take (K + 1)).length : Int) (wrap64 ((i : Int) + 1))) (szAt l K) := by
        intro x hx
        rw [w64 (by omega) (by omega), ← hx]
        refine ih (i + 1) (by omega) (by omega) (fun j hj => ?_)
        by_cases he : j = i
        · rw [he]; exact hr
        · exact hall j (by omega)
      have hlen : (sizes l i).length < 17592186044416 := by rw [sizes_length]; omega
      obtain ⟨_, _, h2, h3⟩ := right_parts hr
      have hs : size1 l (sizes l i) i = mn (if (nodeOf l i).f0 = 1 then 1 else if oneKind (nodeOf l i).f0 = true then 1 + rd (sizes l i) (nodeOf l i).f2 else 1 + rd (sizes l i) (nodeOf l i).f2 + rd (sizes l i) (nodeOf l i).f3) 100000 := by
        unfold size1
        rw [if_pos ⟨hr, hp⟩]
      by_cases h1 : (nodeOf l i).f0 = 1
      · refine evT h1 (ev_now (impl_hasB_f _) (evF (by simp [h1]) (evT hlen (hnext _ ?_))))
        rw [hs, if_pos h1]
      · refine evF h1 ?_
        rw [if_neg h1] at hs
        obtain ⟨a, ha, hai⟩ := h2 h1
        have hA := sz_bound l a
        rw [ha] at hs ⊢
        rw [sizes_rd l hai] at hs ⊢
        refine evT (by omega) (evT (by rw [sizes_length]; omega) (ev_now (impl_hasB_f _) ?_))
        rw [w64 (x := 1 + szAt l a) (by omega) (by omega)]
        by_cases ho : oneKind (nodeOf l i).f0 = true
        · rw [if_pos ho] at hs
          exact evF (by simp [ho]) (evT hlen (hnext _ hs))
        · rw [if_neg ho] at hs
          refine evT (by simp [ho, h1]) ?_
          obtain ⟨b, hb, hbi⟩ := h3 h1 (by simpa using ho)
          have hB := sz_bound l b
          rw [hb] at hs ⊢
          rw [sizes_rd l hbi] at hs ⊢
          rw [w64 (x := 1 + szAt l a + szAt l b) (by omega) (by omega)]
          exact evT (by omega) (evT (by rw [sizes_length]; omega) (evT hlen (hnext _ hs)))
    · refine ev_cast (evF hr (Ev.now _)) ?_
      have hb := sz_bound l K
      by_cases hz : szAt l K = 0
      · exact hz.symm
      · exact absurd (sz_pos_back l K (by omega) i (by omega)).1 hr
theorem impl_SizeOf_f (l : List S34) (hl : l.length ≤ 1048576) (a : Int) : Ev (fun k => impl_SizeOf.f k l a) (sizeOf l a) := by
  unfold impl_SizeOf.f sizeOf
  simp only [impl_hasNode_f l a (by omega), Option.bind_some]
  by_cases h : 0 ≤ a ∧ a < (l.length : Int)
  · obtain ⟨K, rfl⟩ := Int.eq_ofNat_of_zero_le h.1
    rw [w64 (by omega) (by omega)]
    refine evT (by simp; omega) (evT (by omega) (evT (by omega) ?_))
    refine ev_cast (impl_Size_ev l hl K (by omega) (K + 1) 0 (by omega) (by omega) (fun j hj => by omega)) ?_
    rw [if_pos h, Int.toNat_natCast]
  · exact ev_cast (evF (by simp; omega) (Ev.now _)) (if_neg h).symm

theorem FnExactSizeOf : ∀ (l : List S126) (a : Int), l.length ≤ 9223372036854775807 → (∀ x ∈ l, (Lit.int .i64 x.f0).wf = true ∧ (Lit.int .i64 x.f1).wf = true ∧ (Lit.int .i64 x.f2).wf = true ∧ (Lit.int .i64 x.f3).wf = true) → (Lit.int .i64 a).wf = true → ∃ k, laws_FnExactSizeOf.f k l a = some true := by
  intro l a hl _ _
  refine Ev.rounds (ev_now (szArena_f l hl) ?_)
  by_cases hb : (l.length : Int) ≤ 1048576
  · rw [if_pos hb]
    refine evF (by omega) ?_
    have hc := toArena_f l (by omega)
    have hm : (l.map cv).length ≤ 1048576 := by rw [List.length_map]; omega
    refine Ev.bind hc (Ev.bind (spec_SizeOf_f _ hm a) (Ev.bind hc (Ev.bind (impl_SizeOf_f _ hm a) (evT rfl (Ev.bind hc (Ev.bind (eqArena_f _ hm) (evT rfl (Ev.now _))))))))
  · rw [if_neg hb]
    exact evT (by omega) (Ev.now _)

end Go.Proofs.Ytkckdibalopagaa.Pure
