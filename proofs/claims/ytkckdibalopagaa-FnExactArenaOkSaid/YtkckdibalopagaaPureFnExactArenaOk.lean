/- Proved: the program's ArenaOk answers what the reference's ArenaOk answers, for every arena, and leaves the arena as it was; no condition. -/
import Derived.Test.YtkckdibalopagaaSFnExactArenaOkx5
import Derived.Test.YtkckdibalopagaaBase
namespace Go.Proofs.Ytkckdibalopagaa.Pure
open Go.RowKit Go.Proofs.Ytkckdibalopagaa.SFnExactArenaOk Go.Proofs.Ytkckdibalopagaa.Base Go.Proofs.YtkckdibalopagaaW.PrintWords Go.Proofs.YtkckdibalopagaaW.PrintLast Go.Proofs.YtkckdibalopagaaW.PrintMore
open Go.Proofs.Ytkckdibalopagaa.SFnExactArenaOk.Hand
set_option linter.unusedVariables false
set_option linter.unusedSimpArgs false

theorem spec_In_b (a b c : Int) : spec_l01In.f a b c = some (decide (b ≤ a) && decide (a ≤ c)) := by
  unfold spec_l01In.f
  by_cases h : a ≥ b
  · rw [if_pos h]; simp [h]
  · rw [if_neg h]
    have : ¬ b ≤ a := h
    simp [this]
theorem spec_One_f (k : Int) : spec_l03One.f k = some (decide (k = 3 ∨ k = 6)) := by
  unfold spec_l03One.f
  by_cases h : k = 3
  · rw [if_pos h]; simp [h]
  · rw [if_neg h]
    by_cases h6 : k = 6 <;> simp [h, h6]
theorem spec_l03Node_j0 (f0 f1 f2 f3 k : Int) (hk : 0 ≤ k ∧ k ≤ 9223372036854775807) (c : Bool) : Ev (fun n => spec_l03Node.j0 n k c f0 f1 f2 f3)
    (!c && (if f0 = 3 ∨ f0 = 6 then decide (f3 = 0) else (decide (0 ≤ f3) && decide (f3 ≤ k - 1)))) := by
  have e : wrap64 (k - 1) = k - 1 := w64 (by omega) (by omega)
  refine ev_end (fun n => ?_)
  rw [spec_l03Node.j0, e]
  simp only [spec_In_b, spec_One_f, Option.bind_some, beq_dec]
  cases c with
  | true => rw [if_pos rfl]; rfl
  | false =>
    rw [if_neg (by simp)]
    by_cases h : f0 = 3 ∨ f0 = 6
    · rw [if_pos (by simpa using h), if_pos h]; simp
    · rw [if_neg (by simpa using h), if_neg h]; simp
theorem spec_l03Node_f (f0 f1 f2 f3 k : Int) (hk : 0 ≤ k ∧ k ≤ 9223372036854775807) : Ev (fun n => spec_l03Node.f n f0 f1 f2 f3 k) (nodeB f0 f1 f2 f3 k) := by
  have e : wrap64 (k - 1) = k - 1 := w64 (by omega) (by omega)
  unfold spec_l03Node.f
  rw [e]
  simp only [spec_In_b, Option.bind_some, beq_dec]
  unfold nodeB
  by_cases h9 : (decide (1 ≤ f0) && decide (f0 ≤ 9)) = true
  · refine evT h9 ?_
    simp only [Bool.and_eq_true, decide_eq_true_eq] at h9
    by_cases h1 : f0 = 1
    · refine ev_cast (evT h1 (ev_some ?_)) (if_pos h1).symm
      by_cases h2 : (decide (0 ≤ f1) && decide (f1 ≤ 999999)) = true
      · rw [if_pos h2, h2]
        by_cases h3 : f2 = 0
        · rw [if_pos h3]; simp [h3]
        · rw [if_neg h3]; simp [h3]
      · rw [if_neg h2]; simp only [Bool.not_eq_true] at h2; rw [h2]; simp
    · refine ev_cast (evF h1 ?_) (if_neg h1).symm
      by_cases hn : f1 = 0
      · refine evT hn (ev_cast (spec_l03Node_j0 f0 f1 f2 f3 k hk _) ?_)
        rw [Bool.not_not]
        by_cases h : f0 = 3 ∨ f0 = 6
        · rw [if_pos h, if_pos h]; simp [hn]
        · rw [if_neg h, if_neg h]
          have h2 : 2 ≤ f0 := by omega
          simp [hn, h2, h9.2]
      · refine evF hn (ev_cast (spec_l03Node_j0 f0 f1 f2 f3 k hk _) ?_)
        by_cases h : f0 = 3 ∨ f0 = 6
        · rw [if_pos h, if_pos h]; simp [hn]
        · rw [if_neg h, if_neg h]; simp [hn]
  · refine ev_cast (evF h9 (Ev.now _)) ?_
    simp only [Bool.and_eq_true, decide_eq_true_eq] at h9
    rw [if_neg (by omega), if_neg (by omega)]
    by_cases h2 : 2 ≤ f0
    · have : ¬ f0 ≤ 9 := by omega
      simp [this]
    · simp [h2]

/-! the law's own turning of what came in -/
def cv (x : S126) : S34 := ⟨x.f0, x.f1, x.f2, x.f3⟩
theorem rdL {l : List S126} {i : Nat} (h : i < l.length) : rd_T126 l (i : Int) = l[i] := by
  unfold rd_T126
  rw [Int.toNat_natCast, List.getD_eq_getElem?_getD, List.getElem?_eq_getElem h]
  rfl
theorem rdI {l : List S34} {i : Nat} (h : i < l.length) : rd_T34 l (i : Int) = l[i] := by
  unfold rd_T34
  rw [Int.toNat_natCast, List.getD_eq_getElem?_getD, List.getElem?_eq_getElem h]
  rfl
theorem toNodeS_ev (l : List S126) (hl : l.length ≤ 1048576) : ∀ (d i : Nat) (acc : List S34), l.length - i = d → i ≤ l.length → acc.length = l.length → acc.take i = (l.take i).map cv → Ev (fun k => laws_toNodeS.l0 k l acc (i : Int)) (l.map cv) := by
  intro d
  induction d with
  | zero =>
    intro i acc hd hi ha ht
    have e : i = l.length := by omega
    subst e
    rw [List.take_length, List.take_of_length_le (by omega)] at ht
    rw [← ht]
    exact ev_end (fun k => by rw [laws_toNodeS.l0, if_neg (by omega)])
  | succ d ih =>
    intro i acc hd hi ha ht
    have hlt : i < l.length := by omega
    refine Ev.step (fun k => by rw [laws_toNodeS.l0, if_pos (by omega), if_pos (by omega), rdL hlt]) ?_
    refine ev_now rfl (evT (by omega) ?_)
    rw [w64 (by omega) (by omega), Int.toNat_natCast]
    refine ih (i + 1) _ (by omega) (by omega) (by simp [ha]) ?_
    rw [List.take_succ_eq_append_getElem (by simp; omega), List.take_succ_eq_append_getElem hlt, List.map_append, List.map_singleton, List.getElem_set_self, List.take_set_of_le (by omega), ht]
    rfl
theorem toArena_f (l : List S126) (hl : l.length ≤ 1048576) : Ev (fun k => laws_toArena.f k l) (l.map cv) := by
  refine Ev.bind ?_ (Ev.now _)
  refine evT (by omega) (evT (by rw [Int.toNat_natCast]; omega) ?_)
  exact toNodeS_ev l hl l.length 0 _ (by omega) (by omega) (by simp) (by simp)
theorem szArena_f (l : List S126) (hl : l.length ≤ 9223372036854775807) : laws_szArena.f l 1048576 = some (if (l.length : Int) ≤ 1048576 then 1048576 - (l.length : Int) else -1) := by
  unfold laws_szArena.f laws_szNodeS.f
  rw [w64 (by omega) (by omega)]
  by_cases h : (l.length : Int) ≤ 1048576
  · rw [if_neg (by omega), if_pos h, Option.bind_some, if_neg (by omega)]
  · rw [if_pos (by omega), if_neg h, Option.bind_some, if_pos (by omega)]
theorem eqNodeS_ev (l : List S34) (hl : l.length ≤ 1048576) : ∀ (d i : Nat), l.length - i = d → i ≤ l.length → Ev (fun k => laws_eqNodeS.l0 k l l (i : Int)) true := by
  intro d
  induction d with
  | zero => intro i hd hi; exact ev_end (fun k => by rw [laws_eqNodeS.l0, if_neg (by omega)])
  | succ d ih =>
    intro i hd hi
    refine Ev.step (fun k => by rw [laws_eqNodeS.l0, if_pos (by omega), if_pos (by omega), if_pos (by omega)]) ?_
    refine ev_now (x := true) (by unfold laws_eqNode.f; rw [if_pos rfl, if_pos rfl, if_pos rfl, if_pos rfl]) (evT rfl ?_)
    rw [w64 (by omega) (by omega)]
    exact ih (i + 1) (by omega) (by omega)
theorem eqArena_f (l : List S34) (hl : l.length ≤ 1048576) : Ev (fun k => laws_eqArena.f k l l) true :=
  Ev.bind (evT rfl (eqNodeS_ev l hl l.length 0 (by omega) (by omega))) (evT rfl (Ev.now _))

/-! the place of the first node that is one -/
def atV (l : List S34) (x : S34) : Int := match l.findIdx? (fun y => sameN y x) with
  | some i => (i : Int)
  | none => -1
theorem sameN_def (y x : S34) : (y.f0 == x.f0 && (y.f1 == x.f1 && (y.f2 == x.f2 && (y.f3 == x.f3)))) = sameN y x := by
  unfold sameN
  simp only [Bool.and_assoc]
theorem atV_hit {l : List S34} {x : S34} {i : Nat} (h : i < l.length) (hi : sameN l[i] x = true) (hno : ∀ j (hj : j < i), sameN (l[j]'(by omega)) x = false) : atV l x = (i : Int) := by
  have : l.findIdx? (fun y => sameN y x) = some i := by
    rw [List.findIdx?_eq_some_iff_getElem]
    exact ⟨h, hi, fun j hj => by simpa using hno j hj⟩
  unfold atV
  rw [this]
theorem atV_miss {l : List S34} {x : S34} (hno : ∀ j (hj : j < l.length), sameN l[j] x = false) : atV l x = -1 := by
  have : l.findIdx? (fun y => sameN y x) = none := by
    rw [List.findIdx?_eq_none_iff]
    intro y hy
    obtain ⟨j, hj, rfl⟩ := List.getElem_of_mem hy
    exact hno j hj
  unfold atV
  rw [this]
theorem spec_At_ev (l : List S34) (hl : l.length ≤ 1048576) (x : S34) : ∀ (d i : Nat), l.length - i = d → i ≤ l.length → (∀ j (hj : j < l.length), j < i → sameN l[j] x = false) → Ev (fun k => spec_l03At.l0 k l (i : Int) x.f0 x.f1 x.f2 x.f3) (atV l x) := by
  intro d
  induction d with
  | zero =>
    intro i hd hi hno
    rw [atV_miss (fun j hj => hno j hj (by omega))]
    exact ev_end (fun k => by rw [spec_l03At.l0, if_neg (by omega)])
  | succ d ih =>
    intro i hd hi hno
    have hlt : i < l.length := by omega
    refine Ev.step (fun k => by rw [spec_l03At.l0, if_pos (by omega), if_pos (by omega), rdI hlt, sameN_def, w64 (x := (i : Int) + 1) (by omega) (by omega)]) ?_
    by_cases hs : sameN l[i] x = true
    · refine ev_cast (evT hs (Ev.now _)) ?_
      rw [atV_hit hlt hs (fun j hj => hno j (by omega) hj)]
    · refine evF hs ?_
      refine ih (i + 1) (by omega) (by omega) (fun j hj hji => ?_)
      by_cases e : j = i
      · subst e
        simpa using hs
      · exact hno j hj (by omega)
theorem spec_At_f (l : List S34) (hl : l.length ≤ 1048576) (x : S34) : Ev (fun k => spec_l03At.f k l x.f0 x.f1 x.f2 x.f3) (atV l x) :=
  spec_At_ev l hl x l.length 0 (by omega) (by omega) (fun j _ h => by omega)
theorem sameN_refl (x : S34) : sameN x x = true := by simp [sameN]
theorem sameN_eq {x y : S34} (h : sameN x y = true) : x = y := by
  cases x
  cases y
  simp [sameN] at h
  simp [h]
theorem nodeOf_get {l : List S34} {j : Nat} (h : j < l.length) : nodeOf l j = l[j] := rdI h
/-- a node is the first of its kind just where it is no repeat -/
theorem atV_self {l : List S34} {j : Nat} (h : j < l.length) : atV l (nodeOf l j) = (j : Int) ↔ dupAt l j = false := by
  rw [nodeOf_get h]
  unfold dupAt
  rw [nodeOf_get h, List.any_eq_false]
  constructor
  · intro he y hy hs
    obtain ⟨i, hi, rfl⟩ := List.getElem_of_mem hy
    have hi2 : i < j := by have h3 := hi; rw [List.length_take] at h3; omega
    rw [List.getElem_take] at hs
    unfold atV at he
    cases hf : l.findIdx? (fun y => sameN y l[j]) with
    | none => rw [hf] at he; have he2 : (-1 : Int) = (j : Int) := he; omega
    | some m =>
      rw [hf] at he
      have he2 : (m : Int) = (j : Int) := he
      rw [List.findIdx?_eq_some_iff_getElem] at hf
      obtain ⟨hm, _, hno⟩ := hf
      have := hno i (by omega)
      simp only [Bool.not_eq_true, Bool.not_eq_false'] at this
      simp [hs] at this
  · intro hall
    refine atV_hit h (sameN_refl _) (fun i hi => ?_)
    have := hall (l[i]'(by omega)) (by
      rw [List.mem_iff_getElem]
      exact ⟨i, by rw [List.length_take]; omega, by rw [List.getElem_take]⟩)
    simpa using this

theorem spec_AOk_ev (l : List S34) (hl : l.length ≤ 3000) : ∀ (d i : Nat), l.length - i = d → i ≤ l.length → (∀ j, j < i → rightAt l j = true ∧ dupAt l j = false) → Ev (fun k => spec_ArenaOk.l0 k (i : Int) l) (aok l) := by
  intro d
  induction d with
  | zero =>
    intro i hd hi hall
    rw [aok_true hl (fun j hj => hall j (by omega))]
    exact ev_end (fun k => by rw [spec_ArenaOk.l0, if_neg (by omega)])
  | succ d ih =>
    intro i hd hi hall
    have hlt : i < l.length := by omega
    refine Ev.step (fun k => by rw [spec_ArenaOk.l0, if_pos (by omega), if_pos (by omega), w64 (x := (i : Int) + 1) (by omega) (by omega)]) ?_
    refine Ev.bind (spec_l03Node_f _ _ _ _ (i : Int) (by omega)) ?_
    by_cases hr : rightAt l i = true
    · refine evT hr (Ev.bind (spec_At_f l (by omega) (nodeOf l i)) ?_)
      by_cases hd2 : dupAt l i = false
      · refine evT ((atV_self hlt).2 hd2) ?_
        refine ih (i + 1) (by omega) (by omega) (fun j hj => ?_)
        by_cases e : j = i
        · rw [e]; exact ⟨hr, hd2⟩
        · exact hall j (by omega)
      · refine ev_cast (evF (fun h => hd2 ((atV_self hlt).1 h)) (Ev.now _)) ?_
        rw [aok_false hlt (.inr (by simpa using hd2))]
    · refine ev_cast (evF hr (Ev.now _)) ?_
      rw [aok_false hlt (.inl (by simpa using hr))]
theorem spec_ArenaOk_f (l : List S34) (hl : l.length ≤ 1048576) : Ev (fun k => spec_ArenaOk.f k l) (aok l) := by
  by_cases h : (l.length : Int) > 3000
  · refine ev_cast (evT h (Ev.now _)) ?_
    rw [aok_big (by omega)]
  · exact evF h (spec_AOk_ev l (by omega) l.length 0 (by omega) (by omega) (fun j hj => by omega))

theorem impl_ArenaOk_f (l : List S34) (h : l.all wf1 = true) : impl_ArenaOk.f l = some (aok l) := by
  unfold impl_ArenaOk.f
  rw [if_pos h]
theorem FnExactArenaOk : ∀ (l : List S126), l.length ≤ 9223372036854775807 → (∀ x ∈ l, (Lit.int .i64 x.f0).wf = true ∧ (Lit.int .i64 x.f1).wf = true ∧ (Lit.int .i64 x.f2).wf = true ∧ (Lit.int .i64 x.f3).wf = true) → ∃ k, laws_FnExactArenaOk.f k l = some true := by
  intro l hl hwf
  refine Ev.rounds (ev_now (szArena_f l hl) ?_)
  by_cases hb : (l.length : Int) ≤ 1048576
  · rw [if_pos hb]
    refine evF (by omega) ?_
    have hc := toArena_f l (by omega)
    have hm : (l.map cv).length ≤ 1048576 := by rw [List.length_map]; omega
    have hw : (l.map cv).all wf1 = true := by
      rw [List.all_eq_true]
      intro x hx
      obtain ⟨y, hy, rfl⟩ := List.mem_map.1 hx
      obtain ⟨a, b, c, d⟩ := hwf y hy
      unfold wf1 cv
      simp [a, b, c, d]
    refine Ev.bind hc (Ev.bind (spec_ArenaOk_f _ hm) (Ev.bind hc (ev_now (impl_ArenaOk_f _ hw) (evF (by simp) (Ev.bind hc (Ev.bind (eqArena_f _ hm) (evT rfl (Ev.now _))))))))
  · rw [if_neg hb]
    exact evT (by omega) (Ev.now _)

end Go.Proofs.Ytkckdibalopagaa.Pure
