/- Proved: the program's NodeOk answers what the reference's NodeOk answers, for every arena and every place, and leaves the arena as it was; no condition. -/
import Derived.Test.YtdhpcchmhikgeaaPFnExactNodeOkx3
import Derived.Test.YtdhpcchmhikgeaaBase
namespace Go.Proofs.Ytdhpcchmhikgeaa.Pure
open Go.RowKit Go.Proofs.Ytdhpcchmhikgeaa.PFnExactNodeOk Go.Proofs.Ytdhpcchmhikgeaa.Base Go.Proofs.YtdhpcchmhikgeaaW.PrintWords Go.Proofs.YtdhpcchmhikgeaaW.PrintLast Go.Proofs.YtdhpcchmhikgeaaW.PrintMore
set_option linter.unusedVariables false
set_option linter.unusedSimpArgs false

/-! a node's rightness -/
def nodeB (f0 f1 f2 f3 k : Int) : Bool :=
  if f0 = 1 then decide (0 ≤ f1) && decide (f1 ≤ 999999) && decide (f2 = 0) && decide (f3 = 0)
  else if f0 = 3 ∨ f0 = 6 then decide (f1 = 0) && (decide (0 ≤ f2) && decide (f2 ≤ k - 1)) && decide (f3 = 0)
  else (decide (2 ≤ f0) && decide (f0 ≤ 9)) && decide (f1 = 0) && (decide (0 ≤ f2) && decide (f2 ≤ k - 1)) && (decide (0 ≤ f3) && decide (f3 ≤ k - 1))
theorem beq_dec (x : Int) : (x == 0) = decide (x = 0) := by
  by_cases h : x = 0 <;> simp [h]

theorem impl_within_b (a b c : Int) : impl_within.f a b c = some (decide (b ≤ a) && decide (a ≤ c)) := by
  unfold impl_within.f
  by_cases h : a ≥ b
  · rw [if_pos h]; simp [h]
  · rw [if_neg h]
    have : ¬ b ≤ a := h
    simp [this]
theorem impl_nodeRight_j0 (f0 f1 f2 f3 k : Int) (hk : 0 ≤ k ∧ k ≤ 9223372036854775807) (c : Bool) : Ev (fun n => impl_nodeRight.j0 n k c f0 f1 f2 f3)
    (if c = true then decide (f1 = 0) && (decide (0 ≤ f2) && decide (f2 ≤ k - 1)) && decide (f3 = 0) else (decide (2 ≤ f0) && decide (f0 ≤ 9)) && decide (f1 = 0) && (decide (0 ≤ f2) && decide (f2 ≤ k - 1)) && (decide (0 ≤ f3) && decide (f3 ≤ k - 1))) := by
  have e : wrap64 (k - 1) = k - 1 := w64 (by omega) (by omega)
  refine ev_end (fun n => ?_)
  rw [impl_nodeRight.j0, e]
  simp only [impl_within_b, Option.bind_some, beq_dec]
  cases c with
  | true =>
    rw [if_pos rfl, if_pos rfl]
    by_cases h1 : f1 = 0
    · rw [if_pos h1]
      by_cases h2 : (decide (0 ≤ f2) && decide (f2 ≤ k - 1)) = true
      · rw [if_pos h2, h2]; simp [h1]
      · rw [if_neg h2]; simp only [Bool.not_eq_true] at h2; rw [h2]; simp
    · rw [if_neg h1]; simp [h1]
  | false =>
    rw [if_neg (show ¬ (false = true) by simp), if_neg (show ¬ (false = true) by simp)]
    by_cases h0 : (decide (2 ≤ f0) && decide (f0 ≤ 9)) = true
    · rw [if_pos h0, h0]
      by_cases h1 : f1 = 0
      · rw [if_pos h1]
        by_cases h2 : (decide (0 ≤ f2) && decide (f2 ≤ k - 1)) = true
        · rw [if_pos h2, h2]; simp [h1]
        · rw [if_neg h2]; simp only [Bool.not_eq_true] at h2; rw [h2]; simp
      · rw [if_neg h1]; simp [h1]
    · rw [if_neg h0]; simp only [Bool.not_eq_true] at h0; rw [h0]; simp
theorem impl_nodeRight_f (f0 f1 f2 f3 k : Int) (hk : 0 ≤ k ∧ k ≤ 9223372036854775807) : Ev (fun n => impl_nodeRight.f n f0 f1 f2 f3 k) (nodeB f0 f1 f2 f3 k) := by
  unfold nodeB
  by_cases h1 : f0 = 1
  · refine ev_cast (evT h1 ?_) (if_pos h1).symm
    refine ev_some ?_
    simp only [impl_within_b, Option.bind_some, beq_dec]
    by_cases h2 : (decide (0 ≤ f1) && decide (f1 ≤ 999999)) = true
    · rw [if_pos h2, h2]
      by_cases h3 : f2 = 0
      · rw [if_pos h3]; simp [h3]
      · rw [if_neg h3]; simp [h3]
    · rw [if_neg h2]; simp only [Bool.not_eq_true] at h2; rw [h2]; simp
  · refine ev_cast (evF h1 ?_) (if_neg h1).symm
    by_cases h3 : f0 = 3
    · refine evT h3 (ev_cast (impl_nodeRight_j0 f0 f1 f2 f3 k hk (f0 == 3)) ?_)
      rw [if_pos (by simp [h3]), if_pos (Or.inl h3)]
    · refine evF h3 (ev_cast (impl_nodeRight_j0 f0 f1 f2 f3 k hk (f0 == 6)) ?_)
      by_cases h6 : f0 = 6
      · rw [if_pos (by simp [h6]), if_pos (Or.inr h6)]
      · rw [if_neg (by simp [h6]), if_neg (by simp [h3, h6])]
theorem impl_hasNode_f (l : List S74) (k : Int) (hl : l.length ≤ 9223372036854775807) : impl_hasNode.f l k = some (decide (0 ≤ k) && decide (k ≤ (l.length : Int) - 1)) := by
  unfold impl_hasNode.f
  rw [w64 (by omega) (by omega), impl_within_b]
  rfl

theorem spec_In_b (a b c : Int) : spec_l01In.f a b c = some (decide (b ≤ a) && decide (a ≤ c)) := by
  unfold spec_l01In.f
  by_cases h : a ≥ b
  · rw [if_pos h]; simp [h]
  · rw [if_neg h]
    have : ¬ b ≤ a := h
    simp [this]
theorem spec_One_f (k : Int) : spec_l03One.f k = some (decide (k = 3 ∨ k = 6)) := by
  unfold spec_l03One.f
  by_cases h : k = 3
  · rw [if_pos h]; simp [h]
  · rw [if_neg h]
    by_cases h6 : k = 6 <;> simp [h, h6]
theorem spec_l03Node_j0 (f0 f1 f2 f3 k : Int) (hk : 0 ≤ k ∧ k ≤ 9223372036854775807) (c : Bool) : Ev (fun n => spec_l03Node.j0 n k c f0 f1 f2 f3)
    (!c && (if f0 = 3 ∨ f0 = 6 then decide (f3 = 0) else (decide (0 ≤ f3) && decide (f3 ≤ k - 1)))) := by
  have e : wrap64 (k - 1) = k - 1 := w64 (by omega) (by omega)
  refine ev_end (fun n => ?_)
  rw [spec_l03Node.j0, e]
  simp only [spec_In_b, spec_One_f, Option.bind_some, beq_dec]
  cases c with
  | true => rw [if_pos rfl]; rfl
  | false =>
    rw [if_neg (by simp)]
    by_cases h : f0 = 3 ∨ f0 = 6
    · rw [if_pos (by simpa using h), if_pos h]; simp
    · rw [if_neg (by simpa using h), if_neg h]; simp
theorem spec_l03Node_f (f0 f1 f2 f3 k : Int) (hk : 0 ≤ k ∧ k ≤ 9223372036854775807) : Ev (fun n => spec_l03Node.f n f0 f1 f2 f3 k) (nodeB f0 f1 f2 f3 k) := by
  have e : wrap64 (k - 1) = k - 1 := w64 (by omega) (by omega)
  unfold spec_l03Node.f
  rw [e]
  simp only [spec_In_b, Option.bind_some, beq_dec]
  unfold nodeB
  by_cases h9 : (decide (1 ≤ f0) && decide (f0 ≤ 9)) = true
  · refine evT h9 ?_
    simp only [Bool.and_eq_true, decide_eq_true_eq] at h9
    by_cases h1 : f0 = 1
    · refine ev_cast (evT h1 (ev_some ?_)) (if_pos h1).symm
      by_cases h2 : (decide (0 ≤ f1) && decide (f1 ≤ 999999)) = true
      · rw [if_pos h2, h2]
        by_cases h3 : f2 = 0
        · rw [if_pos h3]; simp [h3]
        · rw [if_neg h3]; simp [h3]
      · rw [if_neg h2]; simp only [Bool.not_eq_true] at h2; rw [h2]; simp
    · refine ev_cast (evF h1 ?_) (if_neg h1).symm
      by_cases hn : f1 = 0
      · refine evT hn (ev_cast (spec_l03Node_j0 f0 f1 f2 f3 k hk _) ?_)
        rw [Bool.not_not]
        by_cases h : f0 = 3 ∨ f0 = 6
        · rw [if_pos h, if_pos h]; simp [hn]
        · rw [if_neg h, if_neg h]
          have h2 : 2 ≤ f0 := by omega
          simp [hn, h2, h9.2]
      · refine evF hn (ev_cast (spec_l03Node_j0 f0 f1 f2 f3 k hk _) ?_)
        by_cases h : f0 = 3 ∨ f0 = 6
        · rw [if_pos h, if_pos h]; simp [hn]
        · rw [if_neg h, if_neg h]; simp [hn]
  · refine ev_cast (evF h9 (Ev.now _)) ?_
    simp only [Bool.and_eq_true, decide_eq_true_eq] at h9
    rw [if_neg (by omega), if_neg (by omega)]
    by_cases h2 : 2 ≤ f0
    · have : ¬ f0 ≤ 9 := by omega
      simp [this]
    · simp [h2]

/-! the law's own turning of what came in -/
def cv (x : S84) : S74 := ⟨x.f0, x.f1, x.f2, x.f3⟩
theorem rdL {l : List S84} {i : Nat} (h : i < l.length) : rd_T84 l (i : Int) = l[i] := by
  unfold rd_T84
  rw [Int.toNat_natCast, List.getD_eq_getElem?_getD, List.getElem?_eq_getElem h]
  rfl
theorem rdI {l : List S74} {i : Nat} (h : i < l.length) : rd_T74 l (i : Int) = l[i] := by
  unfold rd_T74
  rw [Int.toNat_natCast, List.getD_eq_getElem?_getD, List.getElem?_eq_getElem h]
  rfl
theorem toNodeS_ev (l : List S84) (hl : l.length ≤ 1048576) : ∀ (d i : Nat) (acc : List S74), l.length - i = d → i ≤ l.length → acc.length = l.length → acc.take i = (l.take i).map cv → Ev (fun k => laws_toNodeS.l0 k l acc (i : Int)) (l.map cv) := by
  intro d
  induction d with
  | zero =>
    intro i acc hd hi ha ht
    have e : i = l.length := by omega
    subst e
    rw [List.take_length, List.take_of_length_le (by omega)] at ht
    rw [← ht]
    exact ev_end (fun k => by rw [laws_toNodeS.l0, if_neg (by omega)])
  | succ d ih =>
    intro i acc hd hi ha ht
    have hlt : i < l.length := by omega
    refine Ev.step (fun k => by rw [laws_toNodeS.l0, if_pos (by omega), if_pos (by omega), rdL hlt]) ?_
    refine ev_now rfl (evT (by omega) ?_)
    rw [w64 (by omega) (by omega), Int.toNat_natCast]
    refine ih (i + 1) _ (by omega) (by omega) (by simp [ha]) ?_
    rw [List.take_succ_eq_append_getElem (by simp; omega), List.take_succ_eq_append_getElem hlt, List.map_append, List.map_singleton, List.getElem_set_self, List.take_set_of_le (by omega), ht]
    rfl
theorem toArena_f (l : List S84) (hl : l.length ≤ 1048576) : Ev (fun k => laws_toArena.f k l) (l.map cv) := by
  refine Ev.bind ?_ (Ev.now _)
  refine evT (by omega) (evT (by rw [Int.toNat_natCast]; omega) ?_)
  exact toNodeS_ev l hl l.length 0 _ (by omega) (by omega) (by simp) (by simp)
theorem szArena_f (l : List S84) (hl : l.length ≤ 9223372036854775807) : laws_szArena.f l 1048576 = some (if (l.length : Int) ≤ 1048576 then 1048576 - (l.length : Int) else -1) := by
  unfold laws_szArena.f laws_szNodeS.f
  rw [w64 (by omega) (by omega)]
  by_cases h : (l.length : Int) ≤ 1048576
  · rw [if_neg (by omega), if_pos h, Option.bind_some, if_neg (by omega)]
  · rw [if_pos (by omega), if_neg h, Option.bind_some, if_pos (by omega)]
theorem eqNodeS_ev (l : List S74) (hl : l.length ≤ 1048576) : ∀ (d i : Nat), l.length - i = d → i ≤ l.length → Ev (fun k => laws_eqNodeS.l0 k l l (i : Int)) true := by
  intro d
  induction d with
  | zero => intro i hd hi; exact ev_end (fun k => by rw [laws_eqNodeS.l0, if_neg (by omega)])
  | succ d ih =>
    intro i hd hi
    refine Ev.step (fun k => by rw [laws_eqNodeS.l0, if_pos (by omega), if_pos (by omega), if_pos (by omega)]) ?_
    refine ev_now (x := true) (by unfold laws_eqNode.f; rw [if_pos rfl, if_pos rfl, if_pos rfl, if_pos rfl]) (evT rfl ?_)
    rw [w64 (by omega) (by omega)]
    exact ih (i + 1) (by omega) (by omega)
theorem eqArena_f (l : List S74) (hl : l.length ≤ 1048576) : Ev (fun k => laws_eqArena.f k l l) true :=
  Ev.bind (evT rfl (eqNodeS_ev l hl l.length 0 (by omega) (by omega))) (evT rfl (Ev.now _))

def nodeOkB (l : List S74) (a : Int) : Bool := if 0 ≤ a ∧ a < (l.length : Int) then nodeB (rd_T74 l a).f0 (rd_T74 l a).f1 (rd_T74 l a).f2 (rd_T74 l a).f3 a else false
theorem spec_NodeOk_f (l : List S74) (a : Int) (hl : l.length ≤ 1048576) : Ev (fun k => spec_NodeOk.f k l a) (nodeOkB l a) := by
  unfold spec_NodeOk.f nodeOkB
  rw [w64 (by omega) (by omega)]
  simp only [spec_In_b, Option.bind_some]
  by_cases h : 0 ≤ a ∧ a < (l.length : Int)
  · refine evT (by simp; omega) (evT h.1 (evT h.2 ?_))
    refine ev_cast (Ev.bind (spec_l03Node_f _ _ _ _ a (by omega)) (Ev.now _)) ?_
    rw [if_pos h]
  · exact ev_cast (evF (by simp; omega) (Ev.now _)) (if_neg h).symm
theorem impl_NodeOk_f (l : List S74) (a : Int) (hl : l.length ≤ 1048576) : Ev (fun k => impl_NodeOk.f k l a) (nodeOkB l a) := by
  unfold impl_NodeOk.f nodeOkB
  simp only [impl_hasNode_f l a (by omega), Option.bind_some]
  by_cases h : 0 ≤ a ∧ a < (l.length : Int)
  · refine evT (by simp; omega) (evT h.1 (evT h.2 ?_))
    refine ev_cast (Ev.bind (impl_nodeRight_f _ _ _ _ a (by omega)) (Ev.now _)) ?_
    rw [if_pos h]
  · exact ev_cast (evF (by simp; omega) (Ev.now _)) (if_neg h).symm
theorem FnExactNodeOk : ∀ (l : List S84) (a : Int), l.length ≤ 9223372036854775807 → (∀ x ∈ l, (Lit.int .i64 x.f0).wf = true ∧ (Lit.int .i64 x.f1).wf = true ∧ (Lit.int .i64 x.f2).wf = true ∧ (Lit.int .i64 x.f3).wf = true) → (Lit.int .i64 a).wf = true → ∃ k, laws_FnExactNodeOk.f k l a = some true := by
  intro l a hl _ _
  refine Ev.rounds (ev_now (szArena_f l hl) ?_)
  by_cases hb : (l.length : Int) ≤ 1048576
  · rw [if_pos hb]
    refine evF (by omega) ?_
    have hc := toArena_f l (by omega)
    have hm : (l.map cv).length ≤ 1048576 := by rw [List.length_map]; omega
    refine Ev.bind hc (Ev.bind (spec_NodeOk_f _ a hm) (Ev.bind hc (Ev.bind (impl_NodeOk_f _ a hm) (evF (by simp) (Ev.bind hc (Ev.bind (eqArena_f _ hm) (evT rfl (Ev.now _))))))))
  · rw [if_neg hb]
    exact evT (by omega) (Ev.now _)

end Go.Proofs.Ytdhpcchmhikgeaa.Pure
