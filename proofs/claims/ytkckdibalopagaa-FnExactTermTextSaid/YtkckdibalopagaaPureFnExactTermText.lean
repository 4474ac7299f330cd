/- Proved: the program's TermText returns what the reference's TermText returns, for every arena and every place, and leaves the arena as it was; no condition. -/
import Derived.Test.YtkckdibalopagaaSFnExactTermTextx6
import Derived.Test.YtkckdibalopagaaBase
namespace Go.Proofs.Ytkckdibalopagaa.Pure
open Go.RowKit Go.Proofs.Ytkckdibalopagaa.SFnExactTermText Go.Proofs.Ytkckdibalopagaa.Base Go.Proofs.YtkckdibalopagaaW.PrintWords Go.Proofs.YtkckdibalopagaaW.PrintLast Go.Proofs.YtkckdibalopagaaW.PrintMore
set_option linter.unusedVariables false
set_option linter.unusedSimpArgs false

/-! a node's rightness -/
def nodeB (f0 f1 f2 f3 k : Int) : Bool :=
  if f0 = 1 then decide (0 ≤ f1) && decide (f1 ≤ 999999) && decide (f2 = 0) && decide (f3 = 0)
  else if f0 = 3 ∨ f0 = 6 then decide (f1 = 0) && (decide (0 ≤ f2) && decide (f2 ≤ k - 1)) && decide (f3 = 0)
  else (decide (2 ≤ f0) && decide (f0 ≤ 9)) && decide (f1 = 0) && (decide (0 ≤ f2) && decide (f2 ≤ k - 1)) && (decide (0 ≤ f3) && decide (f3 ≤ k - 1))
theorem beq_dec (x : Int) : (x == 0) = decide (x = 0) := by
  by_cases h : x = 0 <;> simp [h]

theorem impl_within_b (a b c : Int) : impl_within.f a b c = some (decide (b ≤ a) && decide (a ≤ c)) := by
  unfold impl_within.f
  by_cases h : a ≥ b
  · rw [if_pos h]; simp [h]
  · rw [if_neg h]
    have : ¬ b ≤ a := h
    simp [this]
theorem impl_nodeRight_j0 (f0 f1 f2 f3 k : Int) (hk : 0 ≤ k ∧ k ≤ 9223372036854775807) (c : Bool) : Ev (fun n => impl_nodeRight.j0 n k c f0 f1 f2 f3)
    (if c = true then decide (f1 = 0) && (decide (0 ≤ f2) && decide (f2 ≤ k - 1)) && decide (f3 = 0) else (decide (2 ≤ f0) && decide (f0 ≤ 9)) && decide (f1 = 0) && (decide (0 ≤ f2) && decide (f2 ≤ k - 1)) && (decide (0 ≤ f3) && decide (f3 ≤ k - 1))) := by
  have e : wrap64 (k - 1) = k - 1 := w64 (by omega) (by omega)
  refine ev_end (fun n => ?_)
  rw [impl_nodeRight.j0, e]
  simp only [impl_within_b, Option.bind_some, beq_dec]
  cases c with
  | true =>
    rw [if_pos rfl, if_pos rfl]
    by_cases h1 : f1 = 0
    · rw [if_pos h1]
      by_cases h2 : (decide (0 ≤ f2) && decide (f2 ≤ k - 1)) = true
      · rw [if_pos h2, h2]; simp [h1]
      · rw [if_neg h2]; simp only [Bool.not_eq_true] at h2; rw [h2]; simp
    · rw [if_neg h1]; simp [h1]
  | false =>
    rw [if_neg (show ¬ (false = true) by simp), if_neg (show ¬ (false = true) by simp)]
    by_cases h0 : (decide (2 ≤ f0) && decide (f0 ≤ 9)) = true
    · rw [if_pos h0, h0]
      by_cases h1 : f1 = 0
      · rw [if_pos h1]
        by_cases h2 : (decide (0 ≤ f2) && decide (f2 ≤ k - 1)) = true
        · rw [if_pos h2, h2]; simp [h1]
        · rw [if_neg h2]; simp only [Bool.not_eq_true] at h2; rw [h2]; simp
      · rw [if_neg h1]; simp [h1]
    · rw [if_neg h0]; simp only [Bool.not_eq_true] at h0; rw [h0]; simp
theorem impl_nodeRight_f (f0 f1 f2 f3 k : Int) (hk : 0 ≤ k ∧ k ≤ 9223372036854775807) : Ev (fun n => impl_nodeRight.f n f0 f1 f2 f3 k) (nodeB f0 f1 f2 f3 k) := by
  unfold nodeB
  by_cases h1 : f0 = 1
  · refine ev_cast (evT h1 ?_) (if_pos h1).symm
    refine ev_some ?_
    simp only [impl_within_b, Option.bind_some, beq_dec]
    by_cases h2 : (decide (0 ≤ f1) && decide (f1 ≤ 999999)) = true
    · rw [if_pos h2, h2]
      by_cases h3 : f2 = 0
      · rw [if_pos h3]; simp [h3]
      · rw [if_neg h3]; simp [h3]
    · rw [if_neg h2]; simp only [Bool.not_eq_true] at h2; rw [h2]; simp
  · refine ev_cast (evF h1 ?_) (if_neg h1).symm
    by_cases h3 : f0 = 3
    · refine evT h3 (ev_cast (impl_nodeRight_j0 f0 f1 f2 f3 k hk (f0 == 3)) ?_)
      rw [if_pos (by simp [h3]), if_pos (Or.inl h3)]
    · refine evF h3 (ev_cast (impl_nodeRight_j0 f0 f1 f2 f3 k hk (f0 == 6)) ?_)
      by_cases h6 : f0 = 6
      · rw [if_pos (by simp [h6]), if_pos (Or.inr h6)]
      · rw [if_neg (by simp [h6]), if_neg (by simp [h3, h6])]
theorem impl_hasNode_f (l : List S34) (k : Int) (hl : l.length ≤ 9223372036854775807) : impl_hasNode.f l k = some (decide (0 ≤ k) && decide (k ≤ (l.length : Int) - 1)) := by
  unfold impl_hasNode.f
  rw [w64 (by omega) (by omega), impl_within_b]
  rfl

theorem spec_In_b (a b c : Int) : spec_l01In.f a b c = some (decide (b ≤ a) && decide (a ≤ c)) := by
  unfold spec_l01In.f
  by_cases h : a ≥ b
  · rw [if_pos h]; simp [h]
  · rw [if_neg h]
    have : ¬ b ≤ a := h
    simp [this]
theorem spec_One_f (k : Int) : spec_l03One.f k = some (decide (k = 3 ∨ k = 6)) := by
  unfold spec_l03One.f
  by_cases h : k = 3
  · rw [if_pos h]; simp [h]
  · rw [if_neg h]
    by_cases h6 : k = 6 <;> simp [h, h6]
theorem spec_l03Node_j0 (f0 f1 f2 f3 k : Int) (hk : 0 ≤ k ∧ k ≤ 9223372036854775807) (c : Bool) : Ev (fun n => spec_l03Node.j0 n k c f0 f1 f2 f3)
    (!c && (if f0 = 3 ∨ f0 = 6 then decide (f3 = 0) else (decide (0 ≤ f3) && decide (f3 ≤ k - 1)))) := by
  have e : wrap64 (k - 1) = k - 1 := w64 (by omega) (by omega)
  refine ev_end (fun n => ?_)
  rw [spec_l03Node.j0, e]
  simp only [spec_In_b, spec_One_f, Option.bind_some, beq_dec]
  cases c with
  | true => rw [if_pos rfl]; rfl
  | false =>
    rw [if_neg (by simp)]
    by_cases h : f0 = 3 ∨ f0 = 6
    · rw [if_pos (by simpa using h), if_pos h]; simp
    · rw [if_neg (by simpa using h), if_neg h]; simp
theorem spec_l03Node_f (f0 f1 f2 f3 k : Int) (hk : 0 ≤ k ∧ k ≤ 9223372036854775807) : Ev (fun n => spec_l03Node.f n f0 f1 f2 f3 k) (nodeB f0 f1 f2 f3 k) := by
  have e : wrap64 (k - 1) = k - 1 := w64 (by omega) (by omega)
  unfold spec_l03Node.f
  rw [e]
  simp only [spec_In_b, Option.bind_some, beq_dec]
  unfold nodeB
  by_cases h9 : (decide (1 ≤ f0) && decide (f0 ≤ 9)) = true
  · refine evT h9 ?_
    simp only [Bool.and_eq_true, decide_eq_true_eq] at h9
    by_cases h1 : f0 = 1
    · refine ev_cast (evT h1 (ev_some ?_)) (if_pos h1).symm
      by_cases h2 : (decide (0 ≤ f1) && decide (f1 ≤ 999999)) = true
      · rw [if_pos h2, h2]
        by_cases h3 : f2 = 0
        · rw [if_pos h3]; simp [h3]
        · rw [if_neg h3]; simp [h3]
      · rw [if_neg h2]; simp only [Bool.not_eq_true] at h2; rw [h2]; simp
    · refine ev_cast (evF h1 ?_) (if_neg h1).symm
      by_cases hn : f1 = 0
      · refine evT hn (ev_cast (spec_l03Node_j0 f0 f1 f2 f3 k hk _) ?_)
        rw [Bool.not_not]
        by_cases h : f0 = 3 ∨ f0 = 6
        · rw [if_pos h, if_pos h]; simp [hn]
        · rw [if_neg h, if_neg h]
          have h2 : 2 ≤ f0 := by omega
          simp [hn, h2, h9.2]
      · refine evF hn (ev_cast (spec_l03Node_j0 f0 f1 f2 f3 k hk _) ?_)
        by_cases h : f0 = 3 ∨ f0 = 6
        · rw [if_pos h, if_pos h]; simp [hn]
        · rw [if_neg h, if_neg h]; simp [hn]
  · refine ev_cast (evF h9 (Ev.now _)) ?_
    simp only [Bool.and_eq_true, decide_eq_true_eq] at h9
    rw [if_neg (by omega), if_neg (by omega)]
    by_cases h2 : 2 ≤ f0
    · have : ¬ f0 ≤ 9 := by omega
      simp [this]
    · simp [h2]

/-! the law's own turning of what came in -/
def cv (x : S126) : S34 := ⟨x.f0, x.f1, x.f2, x.f3⟩
theorem rdL {l : List S126} {i : Nat} (h : i < l.length) : rd_T126 l (i : Int) = l[i] := by
  unfold rd_T126
  rw [Int.toNat_natCast, List.getD_eq_getElem?_getD, List.getElem?_eq_getElem h]
  rfl
theorem rdI {l : List S34} {i : Nat} (h : i < l.length) : rd_T34 l (i : Int) = l[i] := by
  unfold rd_T34
  rw [Int.toNat_natCast, List.getD_eq_getElem?_getD, List.getElem?_eq_getElem h]
  rfl
theorem toNodeS_ev (l : List S126) (hl : l.length ≤ 1048576) : ∀ (d i : Nat) (acc : List S34), l.length - i = d → i ≤ l.length → acc.length = l.length → acc.take i = (l.take i).map cv → Ev (fun k => laws_toNodeS.l0 k l acc (i : Int)) (l.map cv) := by
  intro d
  induction d with
  | zero =>
    intro i acc hd hi ha ht
    have e : i = l.length := by omega
    subst e
    rw [List.take_length, List.take_of_length_le (by omega)] at ht
    rw [← ht]
    exact ev_end (fun k => by rw [laws_toNodeS.l0, if_neg (by omega)])
  | succ d ih =>
    intro i acc hd hi ha ht
    have hlt : i < l.length := by omega
    refine Ev.step (fun k => by rw [laws_toNodeS.l0, if_pos (by omega), if_pos (by omega), rdL hlt]) ?_
    refine ev_now rfl (evT (by omega) ?_)
    rw [w64 (by omega) (by omega), Int.toNat_natCast]
    refine ih (i + 1) _ (by omega) (by omega) (by simp [ha]) ?_
    rw [List.take_succ_eq_append_getElem (by simp; omega), List.take_succ_eq_append_getElem hlt, List.map_append, List.map_singleton, List.getElem_set_self, List.take_set_of_le (by omega), ht]
    rfl
theorem toArena_f (l : List S126) (hl : l.length ≤ 1048576) : Ev (fun k => laws_toArena.f k l) (l.map cv) := by
  refine Ev.bind ?_ (Ev.now _)
  refine evT (by omega) (evT (by rw [Int.toNat_natCast]; omega) ?_)
  exact toNodeS_ev l hl l.length 0 _ (by omega) (by omega) (by simp) (by simp)
theorem szArena_f (l : List S126) (hl : l.length ≤ 9223372036854775807) : laws_szArena.f l 1048576 = some (if (l.length : Int) ≤ 1048576 then 1048576 - (l.length : Int) else -1) := by
  unfold laws_szArena.f laws_szNodeS.f
  rw [w64 (by omega) (by omega)]
  by_cases h : (l.length : Int) ≤ 1048576
  · rw [if_neg (by omega), if_pos h, Option.bind_some, if_neg (by omega)]
  · rw [if_pos (by omega), if_neg h, Option.bind_some, if_pos (by omega)]
theorem eqNodeS_ev (l : List S34) (hl : l.length ≤ 1048576) : ∀ (d i : Nat), l.length - i = d → i ≤ l.length → Ev (fun k => laws_eqNodeS.l0 k l l (i : Int)) true := by
  intro d
  induction d with
  | zero => intro i hd hi; exact ev_end (fun k => by rw [laws_eqNodeS.l0, if_neg (by omega)])
  | succ d ih =>
    intro i hd hi
    refine Ev.step (fun k => by rw [laws_eqNodeS.l0, if_pos (by omega), if_pos (by omega), if_pos (by omega)]) ?_
    refine ev_now (x := true) (by unfold laws_eqNode.f; rw [if_pos rfl, if_pos rfl, if_pos rfl, if_pos rfl]) (evT rfl ?_)
    rw [w64 (by omega) (by omega)]
    exact ih (i + 1) (by omega) (by omega)
theorem eqArena_f (l : List S34) (hl : l.length ≤ 1048576) : Ev (fun k => laws_eqArena.f k l l) true :=
  Ev.bind (evT rfl (eqNodeS_ev l hl l.length 0 (by omega) (by omega))) (evT rfl (Ev.now _))

/-! sizes -/
def nodeOf (l : List S34) (i : Nat) : S34 := rd_T34 l (i : Int)
def rightAt (l : List S34) (i : Nat) : Bool := nodeB (nodeOf l i).f0 (nodeOf l i).f1 (nodeOf l i).f2 (nodeOf l i).f3 (i : Int)
def oneKind (k : Int) : Bool := decide (k = 3 ∨ k = 6)
def size1 (l : List S34) (S : List Int) (i : Nat) : Int :=
  if rightAt l i = true ∧ (i = 0 ∨ rd S ((i : Int) - 1) ≠ 0) then
    mn (if (nodeOf l i).f0 = 1 then 1 else if oneKind (nodeOf l i).f0 = true then 1 + rd S (nodeOf l i).f2 else 1 + rd S (nodeOf l i).f2 + rd S (nodeOf l i).f3) 100000
  else 0
def sizes (l : List S34) : Nat → List Int
  | 0 => []
  | n + 1 => sizes l n ++ [size1 l (sizes l n) n]
theorem sizes_length (l : List S34) (n : Nat) : (sizes l n).length = n := by
  induction n with
  | zero => rfl
  | succ n ih => simp [sizes, ih]
def szAt (l : List S34) (i : Nat) : Int := size1 l (sizes l i) i
theorem sizes_rd (l : List S34) : ∀ {n i : Nat}, i < n → rd (sizes l n) (i : Int) = szAt l i
  | n + 1, i, h => by
    rw [sizes]
    unfold rd
    rw [Int.toNat_natCast]
    by_cases hi : i < n
    · have := sizes_rd l hi
      unfold rd at this
      rw [Int.toNat_natCast] at this
      rw [List.getD_eq_getElem?_getD, List.getElem?_append_left (by rw [sizes_length]; exact hi), ← List.getD_eq_getElem?_getD, this]
    · have : i = n := by omega
      subst this
      rw [List.getD_eq_getElem?_getD, List.getElem?_append_right (by rw [sizes_length]; omega), sizes_length, Nat.sub_self]
      rfl
theorem node_parts {f0 f1 f2 f3 k : Int} (h : nodeB f0 f1 f2 f3 k = true) : (1 ≤ f0 ∧ f0 ≤ 9) ∧ (f0 = 1 → 0 ≤ f1 ∧ f1 ≤ 999999 ∧ f2 = 0 ∧ f3 = 0) ∧ (f0 ≠ 1 → f1 = 0 ∧ 0 ≤ f2 ∧ f2 < k) ∧ ((f0 = 3 ∨ f0 = 6) → f3 = 0) ∧ (f0 ≠ 1 → ¬ (f0 = 3 ∨ f0 = 6) → 0 ≤ f3 ∧ f3 < k) := by
  unfold nodeB at h
  by_cases h1 : f0 = 1
  · rw [if_pos h1] at h
    simp only [Bool.and_eq_true, decide_eq_true_eq] at h
    omega
  · rw [if_neg h1] at h
    by_cases h3 : f0 = 3 ∨ f0 = 6
    · rw [if_pos h3] at h
      simp only [Bool.and_eq_true, decide_eq_true_eq] at h
      omega
    · rw [if_neg h3] at h
      simp only [Bool.and_eq_true, decide_eq_true_eq] at h
      omega
/-- the node's parts, as places -/
theorem right_parts {l : List S34} {i : Nat} (h : rightAt l i = true) : (1 ≤ (nodeOf l i).f0 ∧ (nodeOf l i).f0 ≤ 9) ∧ ((nodeOf l i).f0 = 1 → 0 ≤ (nodeOf l i).f1 ∧ (nodeOf l i).f1 ≤ 999999) ∧
    ((nodeOf l i).f0 ≠ 1 → ∃ a : Nat, (nodeOf l i).f2 = (a : Int) ∧ a < i) ∧ ((nodeOf l i).f0 ≠ 1 → oneKind (nodeOf l i).f0 = false → ∃ b : Nat, (nodeOf l i).f3 = (b : Int) ∧ b < i) := by
  obtain ⟨h0, h1, h2, _, h4⟩ := node_parts h
  refine ⟨h0, fun e => ⟨(h1 e).1, (h1 e).2.1⟩, fun e => ?_, fun e e2 => ?_⟩
  · obtain ⟨a, ha⟩ := Int.eq_ofNat_of_zero_le (h2 e).2.1
    exact ⟨a, ha, by have := (h2 e).2.2; omega⟩
  · have := h4 e (by simpa [oneKind] using e2)
    obtain ⟨b, hb⟩ := Int.eq_ofNat_of_zero_le this.1
    exact ⟨b, hb, by omega⟩
theorem size1_eq (l : List S34) (i : Nat) : szAt l i = if rightAt l i = true ∧ (i = 0 ∨ szAt l (i - 1) ≠ 0) then
    mn (if (nodeOf l i).f0 = 1 then 1 else if oneKind (nodeOf l i).f0 = true then 1 + szAt l (nodeOf l i).f2.toNat else 1 + szAt l (nodeOf l i).f2.toNat + szAt l (nodeOf l i).f3.toNat) 100000 else 0 := by
  have hprev : ∀ h : i ≠ 0, rd (sizes l i) ((i : Int) - 1) = szAt l (i - 1) := fun h => by
    rw [show (i : Int) - 1 = ((i - 1 : Nat) : Int) by omega]
    exact sizes_rd l (by omega)
  have hc : (rightAt l i = true ∧ (i = 0 ∨ rd (sizes l i) ((i : Int) - 1) ≠ 0)) ↔ (rightAt l i = true ∧ (i = 0 ∨ szAt l (i - 1) ≠ 0)) := by
    by_cases h0 : i = 0
    · simp [h0]
    · rw [hprev h0]
  have e : szAt l i = size1 l (sizes l i) i := rfl
  rw [e]
  unfold size1
  by_cases h : rightAt l i = true ∧ (i = 0 ∨ rd (sizes l i) ((i : Int) - 1) ≠ 0)
  · rw [if_pos h, if_pos (hc.1 h)]
    obtain ⟨_, _, h2, h3⟩ := right_parts h.1
    congr 1
    by_cases h1 : (nodeOf l i).f0 = 1
    · rw [if_pos h1, if_pos h1]
    · rw [if_neg h1, if_neg h1]
      obtain ⟨a, ha, hai⟩ := h2 h1
      rw [ha, Int.toNat_natCast, sizes_rd l hai]
      by_cases ho : oneKind (nodeOf l i).f0 = true
      · rw [if_pos ho, if_pos ho]
      · rw [if_neg ho, if_neg ho]
        obtain ⟨b, hb, hbi⟩ := h3 h1 (by simpa using ho)
        rw [hb, Int.toNat_natCast, sizes_rd l hbi]
  · rw [if_neg h, if_neg (fun hh => h (hc.2 hh))]
theorem mn_le (a b : Int) : mn a b ≤ a ∧ mn a b ≤ b ∧ (mn a b = a ∨ mn a b = b) := by unfold mn; split <;> omega
theorem sz_bound (l : List S34) (i : Nat) : 0 ≤ szAt l i ∧ szAt l i ≤ 100000 := by
  induction i using Nat.strongRecOn with
  | _ i ih =>
    rw [size1_eq]
    by_cases h : rightAt l i = true ∧ (i = 0 ∨ szAt l (i - 1) ≠ 0)
    · rw [if_pos h]
      obtain ⟨_, _, h2, h3⟩ := right_parts h.1
      have hm := mn_le (if (nodeOf l i).f0 = 1 then 1 else if oneKind (nodeOf l i).f0 = true then 1 + szAt l (nodeOf l i).f2.toNat else 1 + szAt l (nodeOf l i).f2.toNat + szAt l (nodeOf l i).f3.toNat) 100000
      refine ⟨?_, hm.2.1⟩
      rcases hm.2.2 with he | he
      · rw [he]
        by_cases h1 : (nodeOf l i).f0 = 1
        · rw [if_pos h1]; omega
        · rw [if_neg h1]
          obtain ⟨a, ha, hai⟩ := h2 h1
          have hA := ih a hai
          rw [ha, Int.toNat_natCast]
          by_cases ho : oneKind (nodeOf l i).f0 = true
          · rw [if_pos ho]; omega
          · rw [if_neg ho]
            obtain ⟨b, hb, hbi⟩ := h3 h1 (by simpa using ho)
            have hB := ih b hbi
            rw [hb, Int.toNat_natCast]
            omega
      · rw [he]; omega
    · rw [if_neg h]; omega
theorem sz_pos_of (l : List S34) (i : Nat) (h : rightAt l i = true ∧ (i = 0 ∨ szAt l (i - 1) ≠ 0)) : 0 < szAt l i := by
  rw [size1_eq, if_pos h]
  obtain ⟨_, _, h2, h3⟩ := right_parts h.1
  have hm := mn_le (if (nodeOf l i).f0 = 1 then 1 else if oneKind (nodeOf l i).f0 = true then 1 + szAt l (nodeOf l i).f2.toNat else 1 + szAt l (nodeOf l i).f2.toNat + szAt l (nodeOf l i).f3.toNat) 100000
  rcases hm.2.2 with he | he
  · rw [he]
    by_cases h1 : (nodeOf l i).f0 = 1
    · rw [if_pos h1]; omega
    · rw [if_neg h1]
      have hA := sz_bound l (nodeOf l i).f2.toNat
      have hB := sz_bound l (nodeOf l i).f3.toNat
      split <;> omega
  · rw [he]; omega
/-- a size above nought: all nodes up to it are right, and have one -/
theorem sz_pos_back (l : List S34) : ∀ (i : Nat), 0 < szAt l i → ∀ j, j ≤ i → rightAt l j = true ∧ 0 < szAt l j := by
  intro i
  induction i with
  | zero =>
    intro h j hj
    obtain rfl : j = 0 := by omega
    rw [size1_eq] at h
    by_cases hc : rightAt l 0 = true ∧ ((0 : Nat) = 0 ∨ szAt l (0 - 1) ≠ 0)
    · exact ⟨hc.1, sz_pos_of l 0 hc⟩
    · rw [if_neg hc] at h; omega
  | succ i ih =>
    intro h j hj
    have hc : rightAt l (i + 1) = true ∧ (i + 1 = 0 ∨ szAt l (i + 1 - 1) ≠ 0) := by
      rw [size1_eq] at h
      by_cases hc : rightAt l (i + 1) = true ∧ (i + 1 = 0 ∨ szAt l (i + 1 - 1) ≠ 0)
      · exact hc
      · rw [if_neg hc] at h; omega
    by_cases he : j = i + 1
    · subst he
      exact ⟨hc.1, h⟩
    · have hb := sz_bound l i
      rcases hc.2 with h0 | h0
      · omega
      · rw [Nat.add_sub_cancel] at h0
        exact ih (by omega) j (by omega)
theorem sz_all (l : List S34) : ∀ (i : Nat), (∀ j, j ≤ i → rightAt l j = true) → 0 < szAt l i := by
  intro i
  induction i with
  | zero => intro h; exact sz_pos_of l 0 ⟨h 0 (by omega), .inl rfl⟩
  | succ i ih =>
    intro h
    have := ih (fun j hj => h j (by omega))
    refine sz_pos_of l (i + 1) ⟨h (i + 1) (by omega), .inr ?_⟩
    rw [Nat.add_sub_cancel]
    omega
/-- what SizeOf tells -/
def sizeOf (l : List S34) (a : Int) : Int := if 0 ≤ a ∧ a < (l.length : Int) then szAt l a.toNat else 0

theorem spec_Sizes_ev (l : List S34) (hl : l.length ≤ 1048576) (K : Nat) (hK : K < l.length) : ∀ (d i : Nat), K + 1 - i = d → i ≤ K + 1 → Ev (fun k => spec_l03Sizes.l0 k (K : Int) (sizes l i) (i : Int) l) (sizes l (K + 1)) := by
  intro d
  induction d with
  | zero =>
    intro i hd hi
    have e : i = K + 1 := by omega
    subst e
    refine Ev.step (fun k => by rw [spec_l03Sizes.l0, if_neg (by omega)]) ?_
    exact ev_end (fun k => by rw [spec_l03Sizes.j1, if_neg (by simp)])
  | succ d ih =>
    intro i hd hi
    have hlt : i < l.length := by omega
    refine Ev.step (fun k => by rw [spec_l03Sizes.l0, if_pos (by omega)]) ?_
    refine Ev.step (fun k => by rw [spec_l03Sizes.j1]) ?_
    refine evT (by simpa using hlt) (evT (by omega) (evT (by omega) (Ev.bind (spec_l03Node_f _ _ _ _ (i : Int) (by omega)) ?_)))
    have hnext : ∀ x, size1 l (sizes l i) i = x → Ev (fun k => spec_l03Sizes.l0 k (K : Int) (sizes l i ++ [x]) (wrap64 ((i : Int) + 1)) l) (sizes l (K + 1)) := by
      intro x hx
      rw [w64 (by omega) (by omega), ← hx]
      exact ih (i + 1) (by omega) (by omega)
    have hlen : (sizes l i).length < 17592186044416 := by rw [sizes_length]; omega
    have hbad : ∀ c, (rightAt l i = false ∨ (i ≠ 0 ∧ rd (sizes l i) ((i : Int) - 1) = 0)) → c = true → Ev (fun k => spec_l03Sizes.j2 k (K : Int) (sizes l i) (i : Int) c l (nodeOf l i).f0 (nodeOf l i).f1 (nodeOf l i).f2 (nodeOf l i).f3) (sizes l (K + 1)) := by
      intro c h hc
      subst hc
      refine Ev.step (fun k => by rw [spec_l03Sizes.j2]) ?_
      refine evT rfl (evT hlen (hnext 0 ?_))
      unfold size1
      rw [if_neg]
      rcases h with h | h
      · rw [h]; simp
      · rintro ⟨_, h2⟩
        rcases h2 with h2 | h2
        · exact h.1 h2
        · exact h2 h.2
    have hgood : ∀ c, rightAt l i = true → (i = 0 ∨ rd (sizes l i) ((i : Int) - 1) ≠ 0) → c = false → Ev (fun k => spec_l03Sizes.j2 k (K : Int) (sizes l i) (i : Int) c l (nodeOf l i).f0 (nodeOf l i).f1 (nodeOf l i).f2 (nodeOf l i).f3) (sizes l (K + 1)) := by
      intro c hr hp hc
      subst hc
      obtain ⟨_, _, h2, h3⟩ := right_parts hr
      have hs : size1 l (sizes l i) i = mn (if (nodeOf l i).f0 = 1 then 1 else if oneKind (nodeOf l i).f0 = true then 1 + rd (sizes l i) (nodeOf l i).f2 else 1 + rd (sizes l i) (nodeOf l i).f2 + rd (sizes l i) (nodeOf l i).f3) 100000 := by
        unfold size1
        rw [if_pos ⟨hr, hp⟩]
      refine Ev.step (fun k => by rw [spec_l03Sizes.j2]) ?_
      refine evF (by simp) ?_
      by_cases h1 : (nodeOf l i).f0 = 1
      · refine evT h1 (evF (by omega) (evT hlen (hnext 1 ?_)))
        rw [hs, if_pos h1]
        rfl
      · refine evF h1 ?_
        rw [if_neg h1] at hs
        obtain ⟨a, ha, hai⟩ := h2 h1
        have hA := sz_bound l a
        rw [ha] at hs ⊢
        rw [sizes_rd l hai] at hs ⊢
        refine evT (by omega) (evT (by rw [sizes_length]; omega) (ev_now (spec_One_f _) ?_))
        by_cases ho : oneKind (nodeOf l i).f0 = true
        · rw [if_pos ho] at hs
          refine evT ho ?_
          rw [w64 (x := 1 + szAt l a) (by omega) (by omega)]
          by_cases hc : 1 + szAt l a > 100000
          · exact evT hc (evT hlen (hnext _ (by rw [hs]; unfold mn; rw [if_pos (by omega)])))
          · exact evF hc (evT hlen (hnext _ (by rw [hs]; unfold mn; rw [if_neg (by omega)])))
        · rw [if_neg ho] at hs
          refine evF ho ?_
          obtain ⟨b, hb, hbi⟩ := h3 h1 (by simpa using ho)
          have hB := sz_bound l b
          rw [hb] at hs ⊢
          rw [sizes_rd l hbi] at hs ⊢
          rw [w64 (x := 1 + szAt l a) (by omega) (by omega), w64 (x := 1 + szAt l a + szAt l b) (by omega) (by omega)]
          refine evT (by omega) (evT (by rw [sizes_length]; omega) ?_)
          by_cases hc : 1 + szAt l a + szAt l b > 100000
          · exact evT hc (evT hlen (hnext _ (by rw [hs]; unfold mn; rw [if_pos (by omega)])))
          · exact evF hc (evT hlen (hnext _ (by rw [hs]; unfold mn; rw [if_neg (by omega)])))
    by_cases hr : rightAt l i = true
    · refine evT hr ?_
      by_cases h0 : i = 0
      · refine evF (by omega) (hgood _ hr (.inl h0) rfl)
      · have ew : wrap64 ((i : Int) - 1) = (i : Int) - 1 := w64 (by omega) (by omega)
        rw [ew]
        refine evT (by omega) (evT (by omega) (evT (by rw [sizes_length]; omega) ?_))
        by_cases hz : rd (sizes l i) ((i : Int) - 1) = 0
        · exact hbad _ (.inr ⟨h0, hz⟩) (by simp [hz])
        · exact hgood _ hr (.inr hz) (by simp [hz])
    · exact evF hr (hbad _ (.inl (by simpa using hr)) rfl)
theorem spec_SizeOf_f (l : List S34) (hl : l.length ≤ 1048576) (a : Int) : Ev (fun k => spec_SizeOf.f k l a) (sizeOf l a) := by
  unfold spec_SizeOf.f sizeOf
  rw [w64 (by omega) (by omega)]
  simp only [spec_In_b, Option.bind_some]
  by_cases h : 0 ≤ a ∧ a < (l.length : Int)
  · obtain ⟨K, rfl⟩ := Int.eq_ofNat_of_zero_le h.1
    refine ev_cast (evT (by simp; omega) (Ev.bind (spec_Sizes_ev l hl K (by omega) (K + 1) 0 (by omega) (by omega)) (evT h.1 (evT (by rw [sizes_length]; omega) (Ev.now _))))) ?_
    rw [if_pos h, sizes_rd l (by omega), Int.toNat_natCast]
  · exact ev_cast (evF (by simp; omega) (Ev.now _)) (if_neg h).symm

theorem impl_hasB_f (k : Int) : impl_hasB.f k = some (!decide (k = 1) && !oneKind k) := by
  unfold impl_hasB.f oneKind
  by_cases h1 : k = 1
  · rw [if_pos h1]; simp [h1]
  · rw [if_neg h1]
    by_cases h3 : k = 3
    · rw [if_pos h3]; simp [h3]
    · rw [if_neg h3]
      by_cases h6 : k = 6
      · simp [h6]
      · simp [h1, h3, h6]
theorem take_node (l : List S34) (K i : Nat) (hi : i < K) (hK : K ≤ l.length) : rd_T34 (l.take K) (i : Int) = nodeOf l i := by
  unfold nodeOf
  rw [rdI (by rw [List.length_take]; omega), rdI (by omega), List.getElem_take]
theorem impl_Size_ev (l : List S34) (hl : l.length ≤ 1048576) (K : Nat) (hK : K < l.length) : ∀ (d i : Nat), K + 1 - i = d → i ≤ K + 1 → (∀ j, j < i → rightAt l j = true) →
    Ev (fun k => impl_SizeOf.l0 k (K : Int) (sizes l i) (l.take (K + 1)) ((l.take (K + 1)).length : Int) (i : Int)) (szAt l K) := by
  have hT : (l.take (K + 1)).length = K + 1 := by rw [List.length_take]; omega
  intro d
  induction d with
  | zero =>
    intro i hd hi hall
    have e : i = K + 1 := by omega
    subst e
    refine ev_end (fun k => ?_)
    rw [impl_SizeOf.l0, if_neg (by omega), if_pos (by omega), if_pos (by rw [sizes_length]; omega), sizes_rd l (by omega)]
  | succ d ih =>
    intro i hd hi hall
    have hlt : i < l.length := by omega
    refine Ev.step (fun k => by rw [impl_SizeOf.l0, if_pos (by omega), if_pos (by omega), if_pos (by omega), take_node l (K + 1) i (by omega) (by omega)]) ?_
    refine Ev.bind (impl_nodeRight_f _ _ _ _ (i : Int) (by omega)) ?_
    by_cases hr : rightAt l i = true
    · refine evT hr ?_
      have hp : i = 0 ∨ rd (sizes l i) ((i : Int) - 1) ≠ 0 := by
        by_cases h0 : i = 0
        · exact .inl h0
        · right
          rw [show (i : Int) - 1 = ((i - 1 : Nat) : Int) by omega, sizes_rd l (by omega)]
          have := sz_all l (i - 1) (fun j hj => hall j (by omega))
          omega
      have hnext : ∀ x, size1 l (sizes l i) i = x → Ev (fun k => impl_SizeOf.l0 k (K : Int) (sizes l i ++ [x]) (l.take (K + 1)) ((l.take (K + 1)).length : Int) (wrap64 ((i : Int) + 1))) (szAt l K) := by
        intro x hx
        rw [w64 (by omega) (by omega), ← hx]
        refine ih (i + 1) (by omega) (by omega) (fun j hj => ?_)
        by_cases he : j = i
        · rw [he]; exact hr
        · exact hall j (by omega)
      have hlen : (sizes l i).length < 17592186044416 := by rw [sizes_length]; omega
      obtain ⟨_, _, h2, h3⟩ := right_parts hr
      have hs : size1 l (sizes l i) i = mn (if (nodeOf l i).f0 = 1 then 1 else if oneKind (nodeOf l i).f0 = true then 1 + rd (sizes l i) (nodeOf l i).f2 else 1 + rd (sizes l i) (nodeOf l i).f2 + rd (sizes l i) (nodeOf l i).f3) 100000 := by
        unfold size1
        rw [if_pos ⟨hr, hp⟩]
      by_cases h1 : (nodeOf l i).f0 = 1
      · refine evT h1 (ev_now (impl_hasB_f _) (evF (by simp [h1]) (evT hlen (hnext _ ?_))))
        rw [hs, if_pos h1]
      · refine evF h1 ?_
        rw [if_neg h1] at hs
        obtain ⟨a, ha, hai⟩ := h2 h1
        have hA := sz_bound l a
        rw [ha] at hs ⊢
        rw [sizes_rd l hai] at hs ⊢
        refine evT (by omega) (evT (by rw [sizes_length]; omega) (ev_now (impl_hasB_f _) ?_))
        rw [w64 (x := 1 + szAt l a) (by omega) (by omega)]
        by_cases ho : oneKind (nodeOf l i).f0 = true
        · rw [if_pos ho] at hs
          exact evF (by simp [ho]) (evT hlen (hnext _ hs))
        · rw [if_neg ho] at hs
          refine evT (by simp [ho, h1]) ?_
          obtain ⟨b, hb, hbi⟩ := h3 h1 (by simpa using ho)
          have hB := sz_bound l b
          rw [hb] at hs ⊢
          rw [sizes_rd l hbi] at hs ⊢
          rw [w64 (x := 1 + szAt l a + szAt l b) (by omega) (by omega)]
          exact evT (by omega) (evT (by rw [sizes_length]; omega) (evT hlen (hnext _ hs)))
    · refine ev_cast (evF hr (Ev.now _)) ?_
      have hb := sz_bound l K
      by_cases hz : szAt l K = 0
      · exact hz.symm
      · exact absurd (sz_pos_back l K (by omega) i (by omega)).1 hr
theorem impl_SizeOf_f (l : List S34) (hl : l.length ≤ 1048576) (a : Int) : Ev (fun k => impl_SizeOf.f k l a) (sizeOf l a) := by
  unfold impl_SizeOf.f sizeOf
  simp only [impl_hasNode_f l a (by omega), Option.bind_some]
  by_cases h : 0 ≤ a ∧ a < (l.length : Int)
  · obtain ⟨K, rfl⟩ := Int.eq_ofNat_of_zero_le h.1
    rw [w64 (by omega) (by omega)]
    refine evT (by simp; omega) (evT (by omega) (evT (by omega) ?_))
    refine ev_cast (impl_Size_ev l hl K (by omega) (K + 1) 0 (by omega) (by omega) (fun j hj => by omega)) ?_
    rw [if_pos h, Int.toNat_natCast]
  · exact ev_cast (evF (by simp; omega) (Ev.now _)) (if_neg h).symm

/-! numbers as texts -/
theorem spec_l01Var_ev (d : Nat) : ∀ (n : Nat) (acc : List Int), n < 128 ^ (d + 1) → n ≤ 9223372036854775807 → acc.length + d ≤ 1000000 → Ev (fun k => spec_l01Var.l0 k (n : Int) acc) (strOfNums (acc ++ varN n)) := by
  induction d with
  | zero =>
    intro n acc h hb ha
    rw [varN_small (by omega)]
    refine ev_end (fun k => ?_)
    rw [spec_l01Var.l0, if_neg (by omega), if_pos (by omega)]
    congr 4
    omega
  | succ d ih =>
    intro n acc h hb ha
    by_cases hn : n > 127
    · rw [varN_big hn]
      refine Ev.step (fun k => by rw [spec_l01Var.l0, if_pos (by omega), if_pos (by omega)]) ?_
      have e1 : wrap64 (Int.tdiv (n : Int) 128) = ((n / 128 : Nat) : Int) := by
        rw [Int.tdiv_eq_ediv_of_nonneg (by omega)]
        unfold wrap64
        omega
      have e2 : wrap64 ((Int.tmod (n : Int) 128) + 128) % 256 = ((n % 128 + 128 : Nat) : Int) := by
        rw [Int.tmod_eq_emod_of_nonneg (by omega)]
        unfold wrap64
        omega
      rw [e1, e2]
      refine ev_cast (ih (n / 128) _ (by rw [Nat.div_lt_iff_lt_mul (by omega)]; rw [Nat.pow_succ] at h; exact h) (by omega) (by simp; omega)) ?_
      simp
    · rw [varN_small (by omega)]
      refine ev_end (fun k => ?_)
      rw [spec_l01Var.l0, if_neg (by omega), if_pos (by omega)]
      congr 4
      omega
theorem spec_l01Var_f (n : Nat) (h : n ≤ 9223372036854775807) : Ev (fun k => spec_l01Var.f k (n : Int)) (strOfNums (varN n)) :=
  spec_l01Var_ev 9 n [] (by omega) h (by simp)

theorem impl_within_in {a b c : Int} (h : b ≤ a) (h' : a ≤ c) : impl_within.f a b c = some true := by
  unfold impl_within.f
  rw [if_pos h]
  simp [h']
theorem impl_within_out {a b c : Int} (h : a < b ∨ c < a) : impl_within.f a b c = some false := by
  unfold impl_within.f
  by_cases h0 : a ≥ b
  · rw [if_pos h0]
    have : ¬ a ≤ c := by omega
    simp [this]
  · rw [if_neg h0]

theorem impl_VarText_ev (d : Nat) : ∀ (n : Nat) (acc : List Int), n < 128 ^ (d + 1) → n ≤ 9223372036854775807 → acc.length + d ≤ 1000000 → Ev (fun k => impl_VarText.l0 k (n : Int) acc) (strOfNums (acc ++ varN n), true) := by
  induction d with
  | zero =>
    intro n acc h hb ha
    rw [varN_small (by omega)]
    refine ev_end (fun k => ?_)
    rw [impl_VarText.l0, if_neg (by omega), if_pos (by omega)]
    congr 5
    omega
  | succ d ih =>
    intro n acc h hb ha
    by_cases hn : n > 127
    · rw [varN_big hn]
      refine Ev.step (fun k => by rw [impl_VarText.l0, if_pos (by omega), if_pos (by omega)]) ?_
      have e1 : wrap64 (Int.tdiv (n : Int) 128) = ((n / 128 : Nat) : Int) := by
        rw [Int.tdiv_eq_ediv_of_nonneg (by omega)]
        unfold wrap64
        omega
      have e2 : wrap64 ((Int.tmod (n : Int) 128) + 128) % 256 = ((n % 128 + 128 : Nat) : Int) := by
        rw [Int.tmod_eq_emod_of_nonneg (by omega)]
        unfold wrap64
        omega
      rw [e1, e2]
      refine ev_cast (ih (n / 128) _ (by rw [Nat.div_lt_iff_lt_mul (by omega)]; rw [Nat.pow_succ] at h; exact h) (by omega) (by simp; omega)) ?_
      simp
    · rw [varN_small (by omega)]
      refine ev_end (fun k => ?_)
      rw [impl_VarText.l0, if_neg (by omega), if_pos (by omega)]
      congr 5
      omega
theorem impl_VarText_in {n : Int} (h : 0 ≤ n) (h' : n ≤ 1000000000) : Ev (fun k => impl_VarText.f k n) (strOfNums (varN n.toNat), true) := by
  obtain ⟨m, rfl⟩ := Int.eq_ofNat_of_zero_le h
  exact ev_now (impl_within_in h h') (evT rfl (impl_VarText_ev 9 m [] (by omega) (by omega) (by simp)))
theorem impl_VarText_out {n : Int} (h : n < 0 ∨ 1000000000 < n) : Ev (fun k => impl_VarText.f k n) ((⟨#[]⟩ : ByteArray), false) :=
  ev_now (impl_within_out h) (evF (by simp) (Ev.now _))

/-! the text of a term -/
def termL (l : List S34) : Nat → Nat → List Int
  | 0, _ => []
  | n + 1, k => varN (nodeOf l k).f0.toNat ++ (if (nodeOf l k).f0 = 1 then varN (nodeOf l k).f1.toNat else termL l n (nodeOf l k).f2.toNat ++ (if oneKind (nodeOf l k).f0 = true then [] else termL l n (nodeOf l k).f3.toNat))
/-- a term whose size is below the cap: the sum of its parts', and one -/
theorem sz_split {l : List S34} {k : Nat} (h : 0 < szAt l k) (hc : szAt l k ≤ 2000) : rightAt l k = true ∧
    ((nodeOf l k).f0 = 1 → szAt l k = 1) ∧
    ((nodeOf l k).f0 ≠ 1 → oneKind (nodeOf l k).f0 = true → ∃ a : Nat, (nodeOf l k).f2 = (a : Int) ∧ a < k ∧ 0 < szAt l a ∧ szAt l k = 1 + szAt l a) ∧
    ((nodeOf l k).f0 ≠ 1 → oneKind (nodeOf l k).f0 = false → ∃ a b : Nat, (nodeOf l k).f2 = (a : Int) ∧ a < k ∧ 0 < szAt l a ∧ (nodeOf l k).f3 = (b : Int) ∧ b < k ∧ 0 < szAt l b ∧ szAt l k = 1 + szAt l a + szAt l b) := by
  have hback := sz_pos_back l k h
  have hr := (hback k (Nat.le_refl _)).1
  have e := size1_eq l k
  have hcond : rightAt l k = true ∧ (k = 0 ∨ szAt l (k - 1) ≠ 0) := by
    refine ⟨hr, ?_⟩
    by_cases h0 : k = 0
    · exact .inl h0
    · right
      have := (hback (k - 1) (by omega)).2
      omega
  rw [if_pos hcond] at e
  obtain ⟨_, _, h2, h3⟩ := right_parts hr
  refine ⟨hr, fun h1 => ?_, fun h1 ho => ?_, fun h1 ho => ?_⟩
  · rw [if_pos h1] at e
    rw [e]
    rfl
  · rw [if_neg h1, if_pos ho] at e
    obtain ⟨a, ha, hai⟩ := h2 h1
    rw [ha, Int.toNat_natCast] at e
    refine ⟨a, ha, hai, (hback a (by omega)).2, ?_⟩
    have := mn_le (1 + szAt l a) 100000
    omega
  · rw [if_neg h1, if_neg (by simp [ho])] at e
    obtain ⟨a, ha, hai⟩ := h2 h1
    obtain ⟨b, hb, hbi⟩ := h3 h1 ho
    rw [ha, hb, Int.toNat_natCast, Int.toNat_natCast] at e
    refine ⟨a, b, ha, hai, (hback a (by omega)).2, hb, hbi, (hback b (by omega)).2, ?_⟩
    have := mn_le (1 + szAt l a + szAt l b) 100000
    omega
theorem varN_kind {x : Int} (h0 : 1 ≤ x) (h1 : x ≤ 9) : (varN x.toNat).length = 1 := by
  rw [varN_small (by omega)]
  rfl
theorem varN_num {x : Int} (h0 : 0 ≤ x) (h1 : x ≤ 999999) : (varN x.toNat).length ≤ 3 := (varN_length 2 x.toNat (by omega)).2
theorem termL_length (l : List S34) : ∀ (n k : Nat), k < n → 0 < szAt l k → szAt l k ≤ 2000 → ((termL l n k).length : Int) ≤ 4 * szAt l k := by
  intro n
  induction n with
  | zero => intro k h; omega
  | succ n ih =>
    intro k hk hp hc
    obtain ⟨hr, h1, h2, h3⟩ := sz_split hp hc
    obtain ⟨g0, g1, _, _⟩ := right_parts hr
    have hv := varN_kind g0.1 g0.2
    rw [termL, List.length_append, hv]
    by_cases e1 : (nodeOf l k).f0 = 1
    · rw [if_pos e1]
      have hz := h1 e1
      have hn := varN_num (g1 e1).1 (g1 e1).2
      omega
    · rw [if_neg e1, List.length_append]
      by_cases ho : oneKind (nodeOf l k).f0 = true
      · rw [if_pos ho]
        obtain ⟨a, ha, hak, hpa, hs⟩ := h2 e1 ho
        rw [ha, Int.toNat_natCast]
        have := ih a (by omega) hpa (by omega)
        simp only [List.length_nil]
        omega
      · rw [if_neg ho]
        obtain ⟨a, b, ha, hak, hpa, hb, hbk, hpb, hs⟩ := h3 e1 (by simpa using ho)
        rw [ha, hb, Int.toNat_natCast, Int.toNat_natCast]
        have hA := ih a (by omega) hpa (by omega)
        have hB := ih b (by omega) hpb (by omega)
        omega
theorem termL_range (l : List S34) : ∀ (n k : Nat), ∀ x ∈ termL l n k, 0 ≤ x ∧ x ≤ 255 := by
  intro n
  induction n with
  | zero => intro k x hx; simp [termL] at hx
  | succ n ih =>
    intro k x hx
    rw [termL] at hx
    rcases List.mem_append.1 hx with hx | hx
    · exact varN_range _ x hx
    · split at hx
      · exact varN_range _ x hx
      · rcases List.mem_append.1 hx with hx | hx
        · exact ih _ x hx
        · split at hx
          · simp at hx
          · exact ih _ x hx
theorem str_app (xs ys : List Int) : strOfNums xs ++ strOfNums ys = strOfNums (xs ++ ys) := by
  unfold strOfNums
  rw [List.map_append]
  apply bytesOf_inj
  simp [bytesOf, ByteArray.data_append]
/-- what TermText tells -/
def termText (l : List S34) (a : Int) : ByteArray × Bool := if 1 ≤ sizeOf l a ∧ sizeOf l a ≤ 2000 then (strOfNums (termL l (a.toNat + 1) a.toNat), true) else ((⟨#[]⟩ : ByteArray), false)

theorem spec_Var_i {x : Int} (h0 : 0 ≤ x) (h1 : x ≤ 9223372036854775807) : Ev (fun k => spec_l01Var.f k x) (strOfNums (varN x.toNat)) := by
  have := spec_l01Var_f x.toNat (by omega)
  rwa [Int.toNat_of_nonneg h0] at this
theorem spec_Text_ev (l : List S34) : ∀ (n k : Nat), k < n → k < l.length → 0 < szAt l k → szAt l k ≤ 2000 → Ev (fun m => spec_l03Text.f m l (k : Int)) (strOfNums (termL l n k)) := by
  intro n
  induction n with
  | zero => intro k h; omega
  | succ n ih =>
    intro k hk hl hp hc
    obtain ⟨hr, h1, h2, h3⟩ := sz_split hp hc
    obtain ⟨g0, g1, _, _⟩ := right_parts hr
    have hv := varN_kind g0.1 g0.2
    refine Ev.step (fun m => by rw [spec_l03Text.f]) ?_
    refine evT (by omega) (evT (by omega) (Ev.bind (spec_Var_i (x := (nodeOf l k).f0) (by omega) (by omega)) ?_))
    by_cases e1 : (nodeOf l k).f0 = 1
    · have hn := varN_num (g1 e1).1 (g1 e1).2
      refine evT e1 (Ev.bind (spec_Var_i (x := (nodeOf l k).f1) (g1 e1).1 (by have := (g1 e1).2; omega)) (evT (by rw [strOfNums_size, strOfNums_size]; omega) (ev_cast (Ev.now _) ?_)))
      rw [termL, if_pos e1, str_app]
    · refine evF e1 ?_
      by_cases ho : oneKind (nodeOf l k).f0 = true
      · obtain ⟨a, ha, hak, hpa, hs⟩ := h2 e1 ho
        have hl1 := termL_length l n a (by omega) hpa (by omega)
        have hA := ih a (by omega) (by omega) hpa (by omega)
        rw [← ha] at hA
        refine Ev.bind hA (evT (by rw [strOfNums_size, strOfNums_size]; omega) (ev_now (spec_One_f _) (evT ho (ev_cast (Ev.now _) ?_))))
        rw [termL, if_neg e1, if_pos ho, ha, Int.toNat_natCast, List.append_nil, str_app]
      · obtain ⟨a, b, ha, hak, hpa, hb, hbk, hpb, hs⟩ := h3 e1 (by simpa using ho)
        have hl1 := termL_length l n a (by omega) hpa (by omega)
        have hl2 := termL_length l n b (by omega) hpb (by omega)
        have hA := ih a (by omega) (by omega) hpa (by omega)
        have hB := ih b (by omega) (by omega) hpb (by omega)
        rw [← ha] at hA
        rw [← hb] at hB
        refine Ev.bind hA (evT (by rw [strOfNums_size, strOfNums_size]; omega) (ev_now (spec_One_f _) (evF ho (Ev.bind hB (evT ?_ (ev_cast (Ev.now _) ?_))))))
        · rw [str_app, strOfNums_size, strOfNums_size, List.length_append]
          omega
        · rw [termL, if_neg e1, if_neg ho, ha, hb, Int.toNat_natCast, Int.toNat_natCast, str_app, str_app, List.append_assoc]
theorem spec_TermText_f (l : List S34) (hl : l.length ≤ 1048576) (a : Int) : Ev (fun k => spec_TermText.f k l a) (termText l a) := by
  unfold termText
  refine Ev.bind (spec_SizeOf_f l hl a) ?_
  simp only [spec_In_b, Option.bind_some]
  by_cases h : 1 ≤ sizeOf l a ∧ sizeOf l a ≤ 2000
  · have hin : 0 ≤ a ∧ a < (l.length : Int) := by
      by_cases hi : 0 ≤ a ∧ a < (l.length : Int)
      · exact hi
      · unfold sizeOf at h; rw [if_neg hi] at h; omega
    have hs : sizeOf l a = szAt l a.toNat := by unfold sizeOf; rw [if_pos hin]
    rw [hs] at h ⊢
    have ht := spec_Text_ev l (a.toNat + 1) a.toNat (by omega) (by omega) (by omega) h.2
    rw [Int.toNat_of_nonneg hin.1] at ht
    exact ev_cast (evT (by simp [h]) (Ev.bind ht (Ev.now _))) (if_pos h).symm
  · exact ev_cast (evF (by simpa using h) (Ev.now _)) (if_neg h).symm

theorem impl_Term_ev (l : List S34) : ∀ (n k : Nat), k < n → k < l.length → 0 < szAt l k → szAt l k ≤ 2000 → ∀ out : List Int, (out.length : Int) + 4 * szAt l k ≤ 1000000 → Ev (fun m => impl_termBytes.f m out l (k : Int)) (out ++ termL l n k) := by
  intro n
  induction n with
  | zero => intro k h; omega
  | succ n ih =>
    intro k hk hl hp hc out hout
    obtain ⟨hr, h1, h2, h3⟩ := sz_split hp hc
    obtain ⟨g0, g1, _, _⟩ := right_parts hr
    have hv := varN_kind g0.1 g0.2
    refine Ev.step (fun m => by rw [impl_termBytes.f]) ?_
    refine evT (by omega) (evT (by omega) (Ev.bind (impl_VarText_in (n := (nodeOf l k).f0) (by omega) (by omega)) (evT (by rw [strOfNums_size]; omega) (ev_now rfl ?_))))
    rw [bytesOf_str (varN_range _)]
    by_cases e1 : (nodeOf l k).f0 = 1
    · have hn := varN_num (g1 e1).1 (g1 e1).2
      refine evT e1 (Ev.bind (impl_VarText_in (n := (nodeOf l k).f1) (g1 e1).1 (by have := (g1 e1).2; omega)) (evT (by rw [strOfNums_size, List.length_append]; omega) (ev_cast (Ev.now _) ?_)))
      rw [bytesOf_str (varN_range _), termL, if_pos e1, List.append_assoc]
    · refine evF e1 ?_
      by_cases ho : oneKind (nodeOf l k).f0 = true
      · obtain ⟨a, ha, hak, hpa, hs⟩ := h2 e1 ho
        have hA := ih a (by omega) (by omega) hpa (by omega) (out ++ varN (nodeOf l k).f0.toNat) (by rw [List.length_append]; omega)
        rw [← ha] at hA
        refine Ev.bind hA (ev_now (impl_hasB_f _) (evF (by show ¬ ((!decide ((nodeOf l k).f0 = 1) && !oneKind (nodeOf l k).f0) = true); simp [ho]) (ev_cast (Ev.now _) ?_)))
        rw [termL, if_neg e1, if_pos ho, ha, Int.toNat_natCast, List.append_nil, List.append_assoc]
      · obtain ⟨a, b, ha, hak, hpa, hb, hbk, hpb, hs⟩ := h3 e1 (by simpa using ho)
        have hl1 := termL_length l n a (by omega) hpa (by omega)
        have hA := ih a (by omega) (by omega) hpa (by omega) (out ++ varN (nodeOf l k).f0.toNat) (by rw [List.length_append]; omega)
        rw [← ha] at hA
        have hB := ih b (by omega) (by omega) hpb (by omega) (out ++ varN (nodeOf l k).f0.toNat ++ termL l n a) (by rw [List.length_append, List.length_append]; omega)
        rw [← hb] at hB
        refine Ev.bind hA (ev_now (impl_hasB_f _) (evT (by show (!decide ((nodeOf l k).f0 = 1) && !oneKind (nodeOf l k).f0) = true; simp [ho, e1]) (Ev.bind hB (ev_cast (Ev.now _) ?_))))
        rw [termL, if_neg e1, if_neg ho, ha, hb, Int.toNat_natCast, Int.toNat_natCast, List.append_assoc, List.append_assoc]
theorem impl_TermText_f (l : List S34) (hl : l.length ≤ 1048576) (a : Int) : Ev (fun k => impl_TermText.f k l a) (termText l a) := by
  unfold termText
  refine Ev.bind (impl_SizeOf_f l hl a) ?_
  simp only [impl_within_b, Option.bind_some]
  by_cases h : 1 ≤ sizeOf l a ∧ sizeOf l a ≤ 2000
  · have hin : 0 ≤ a ∧ a < (l.length : Int) := by
      by_cases hi : 0 ≤ a ∧ a < (l.length : Int)
      · exact hi
      · unfold sizeOf at h; rw [if_neg hi] at h; omega
    have hs : sizeOf l a = szAt l a.toNat := by unfold sizeOf; rw [if_pos hin]
    rw [hs] at h ⊢
    have ht := impl_Term_ev l (a.toNat + 1) a.toNat (by omega) (by omega) (by omega) h.2 [] (by simp only [List.length_nil]; omega)
    rw [Int.toNat_of_nonneg hin.1] at ht
    exact ev_cast (evT (by simp [h]) (Ev.bind ht (Ev.now _))) (if_pos h).symm
  · exact ev_cast (evF (by simpa using h) (Ev.now _)) (if_neg h).symm

theorem FnExactTermText : ∀ (l : List S126) (a : Int), l.length ≤ 9223372036854775807 → (∀ x ∈ l, (Lit.int .i64 x.f0).wf = true ∧ (Lit.int .i64 x.f1).wf = true ∧ (Lit.int .i64 x.f2).wf = true ∧ (Lit.int .i64 x.f3).wf = true) → (Lit.int .i64 a).wf = true → ∃ k, laws_FnExactTermText.f k l a = some true := by
  intro l a hl _ _
  refine Ev.rounds (ev_now (szArena_f l hl) ?_)
  by_cases hb : (l.length : Int) ≤ 1048576
  · rw [if_pos hb]
    refine evF (by omega) ?_
    have hc := toArena_f l (by omega)
    have hm : (l.map cv).length ≤ 1048576 := by rw [List.length_map]; omega
    refine Ev.bind hc (Ev.bind (spec_TermText_f _ hm a) (Ev.bind hc (Ev.bind (impl_TermText_f _ hm a) (evT rfl ?_))))
    refine Ev.step (fun k => by rw [laws_FnExactTermText.j0]) ?_
    exact evF (by simp) (Ev.bind hc (Ev.bind (eqArena_f _ hm) (evT rfl (Ev.now _))))
  · rw [if_neg hb]
    exact evT (by omega) (Ev.now _)

end Go.Proofs.Ytkckdibalopagaa.Pure
