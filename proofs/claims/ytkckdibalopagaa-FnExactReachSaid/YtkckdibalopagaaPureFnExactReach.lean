/- Proved: the program's Reach returns what the reference's Reach returns, for every arena and every list of places, in memory of its own, and leaves its arguments as they were; no condition. -/
import Derived.Test.YtkckdibalopagaaSFnExactReachx14
import Derived.Test.YtkckdibalopagaaRBase
namespace Go.Proofs.Ytkckdibalopagaa.Pure
open Go.RowKit Go.Proofs.Ytkckdibalopagaa.SFnExactReach Go.Proofs.Ytkckdibalopagaa.Base Go.Proofs.YtkckdibalopagaaW.PrintWords Go.Proofs.YtkckdibalopagaaW.PrintLast Go.Proofs.YtkckdibalopagaaW.PrintMore
open Go.Proofs.Ytkckdibalopagaa.SFnExactReach.Hand
set_option linter.unusedVariables false
set_option linter.unusedSimpArgs false

theorem impl_hasNode_f (l : List S34) (k : Int) (hl : l.length ≤ 9223372036854775807) : impl_hasNode.f l k = some (decide (0 ≤ k) && decide (k ≤ (l.length : Int) - 1)) := by
  unfold impl_hasNode.f
  rw [w64 (by omega) (by omega), impl_within_b]
  rfl

theorem spec_In_b (a b c : Int) : spec_l01In.f a b c = some (decide (b ≤ a) && decide (a ≤ c)) := by
  unfold spec_l01In.f
  by_cases h : a ≥ b
  · rw [if_pos h]; simp [h]
  · rw [if_neg h]
    have : ¬ b ≤ a := h
    simp [this]
theorem spec_One_f (k : Int) : spec_l03One.f k = some (decide (k = 3 ∨ k = 6)) := by
  unfold spec_l03One.f
  by_cases h : k = 3
  · rw [if_pos h]; simp [h]
  · rw [if_neg h]
    by_cases h6 : k = 6 <;> simp [h, h6]
theorem spec_l03Node_j0 (f0 f1 f2 f3 k : Int) (hk : 0 ≤ k ∧ k ≤ 9223372036854775807) (c : Bool) : Ev (fun n => spec_l03Node.j0 n k c f0 f1 f2 f3)
    (!c && (if f0 = 3 ∨ f0 = 6 then decide (f3 = 0) else (decide (0 ≤ f3) && decide (f3 ≤ k - 1)))) := by
  have e : wrap64 (k - 1) = k - 1 := w64 (by omega) (by omega)
  refine ev_end (fun n => ?_)
  rw [spec_l03Node.j0, e]
  simp only [spec_In_b, spec_One_f, Option.bind_some, beq_dec]
  cases c with
  | true => rw [if_pos rfl]; rfl
  | false =>
    rw [if_neg (by simp)]
    by_cases h : f0 = 3 ∨ f0 = 6
    · rw [if_pos (by simpa using h), if_pos h]; simp
    · rw [if_neg (by simpa using h), if_neg h]; simp
theorem spec_l03Node_f (f0 f1 f2 f3 k : Int) (hk : 0 ≤ k ∧ k ≤ 9223372036854775807) : Ev (fun n => spec_l03Node.f n f0 f1 f2 f3 k) (nodeB f0 f1 f2 f3 k) := by
  have e : wrap64 (k - 1) = k - 1 := w64 (by omega) (by omega)
  unfold spec_l03Node.f
  rw [e]
  simp only [spec_In_b, Option.bind_some, beq_dec]
  unfold nodeB
  by_cases h9 : (decide (1 ≤ f0) && decide (f0 ≤ 9)) = true
  · refine evT h9 ?_
    simp only [Bool.and_eq_true, decide_eq_true_eq] at h9
    by_cases h1 : f0 = 1
    · refine ev_cast (evT h1 (ev_some ?_)) (if_pos h1).symm
      by_cases h2 : (decide (0 ≤ f1) && decide (f1 ≤ 999999)) = true
      · rw [if_pos h2, h2]
        by_cases h3 : f2 = 0
        · rw [if_pos h3]; simp [h3]
        · rw [if_neg h3]; simp [h3]
      · rw [if_neg h2]; simp only [Bool.not_eq_true] at h2; rw [h2]; simp
    · refine ev_cast (evF h1 ?_) (if_neg h1).symm
      by_cases hn : f1 = 0
      · refine evT hn (ev_cast (spec_l03Node_j0 f0 f1 f2 f3 k hk _) ?_)
        rw [Bool.not_not]
        by_cases h : f0 = 3 ∨ f0 = 6
        · rw [if_pos h, if_pos h]; simp [hn]
        · rw [if_neg h, if_neg h]
          have h2 : 2 ≤ f0 := by omega
          simp [hn, h2, h9.2]
      · refine evF hn (ev_cast (spec_l03Node_j0 f0 f1 f2 f3 k hk _) ?_)
        by_cases h : f0 = 3 ∨ f0 = 6
        · rw [if_pos h, if_pos h]; simp [hn]
        · rw [if_neg h, if_neg h]; simp [hn]
  · refine ev_cast (evF h9 (Ev.now _)) ?_
    simp only [Bool.and_eq_true, decide_eq_true_eq] at h9
    rw [if_neg (by omega), if_neg (by omega)]
    by_cases h2 : 2 ≤ f0
    · have : ¬ f0 ≤ 9 := by omega
      simp [this]
    · simp [h2]

/-! the law's own turning of what came in -/
def cv (x : S126) : S34 := ⟨x.f0, x.f1, x.f2, x.f3⟩
theorem rdL {l : List S126} {i : Nat} (h : i < l.length) : rd_T126 l (i : Int) = l[i] := by
  unfold rd_T126
  rw [Int.toNat_natCast, List.getD_eq_getElem?_getD, List.getElem?_eq_getElem h]
  rfl
theorem rdI {l : List S34} {i : Nat} (h : i < l.length) : rd_T34 l (i : Int) = l[i] := by
  unfold rd_T34
  rw [Int.toNat_natCast, List.getD_eq_getElem?_getD, List.getElem?_eq_getElem h]
  rfl
theorem toNodeS_ev (l : List S126) (hl : l.length ≤ 1048576) : ∀ (d i : Nat) (acc : List S34), l.length - i = d → i ≤ l.length → acc.length = l.length → acc.take i = (l.take i).map cv → Ev (fun k => laws_toNodeS.l0 k l acc (i : Int)) (l.map cv) := by
  intro d
  induction d with
  | zero =>
    intro i acc hd hi ha ht
    have e : i = l.length := by omega
    subst e
    rw [List.take_length, List.take_of_length_le (by omega)] at ht
    rw [← ht]
    exact ev_end (fun k => by rw [laws_toNodeS.l0, if_neg (by omega)])
  | succ d ih =>
    intro i acc hd hi ha ht
    have hlt : i < l.length := by omega
    refine Ev.step (fun k => by rw [laws_toNodeS.l0, if_pos (by omega), if_pos (by omega), rdL hlt]) ?_
    refine ev_now rfl (evT (by omega) ?_)
    rw [w64 (by omega) (by omega), Int.toNat_natCast]
    refine ih (i + 1) _ (by omega) (by omega) (by simp [ha]) ?_
    rw [List.take_succ_eq_append_getElem (by simp; omega), List.take_succ_eq_append_getElem hlt, List.map_append, List.map_singleton, List.getElem_set_self, List.take_set_of_le (by omega), ht]
    rfl
theorem toArena_f (l : List S126) (hl : l.length ≤ 1048576) : Ev (fun k => laws_toArena.f k l) (l.map cv) := by
  refine Ev.bind ?_ (Ev.now _)
  refine evT (by omega) (evT (by rw [Int.toNat_natCast]; omega) ?_)
  exact toNodeS_ev l hl l.length 0 _ (by omega) (by omega) (by simp) (by simp)
theorem szArena_f (l : List S126) (hl : l.length ≤ 9223372036854775807) : laws_szArena.f l 1048576 = some (if (l.length : Int) ≤ 1048576 then 1048576 - (l.length : Int) else -1) := by
  unfold laws_szArena.f laws_szNodeS.f
  rw [w64 (by omega) (by omega)]
  by_cases h : (l.length : Int) ≤ 1048576
  · rw [if_neg (by omega), if_pos h, Option.bind_some, if_neg (by omega)]
  · rw [if_pos (by omega), if_neg h, Option.bind_some, if_pos (by omega)]
theorem eqNodeS_ev (l : List S34) (hl : l.length ≤ 1048576) : ∀ (d i : Nat), l.length - i = d → i ≤ l.length → Ev (fun k => laws_eqNodeS.l0 k l l (i : Int)) true := by
  intro d
  induction d with
  | zero => intro i hd hi; exact ev_end (fun k => by rw [laws_eqNodeS.l0, if_neg (by omega)])
  | succ d ih =>
    intro i hd hi
    refine Ev.step (fun k => by rw [laws_eqNodeS.l0, if_pos (by omega), if_pos (by omega), if_pos (by omega)]) ?_
    refine ev_now (x := true) (by unfold laws_eqNode.f; rw [if_pos rfl, if_pos rfl, if_pos rfl, if_pos rfl]) (evT rfl ?_)
    rw [w64 (by omega) (by omega)]
    exact ih (i + 1) (by omega) (by omega)
theorem eqArena_f (l : List S34) (hl : l.length ≤ 1048576) : Ev (fun k => laws_eqArena.f k l l) true :=
  Ev.bind (evT rfl (eqNodeS_ev l hl l.length 0 (by omega) (by omega))) (evT rfl (Ev.now _))

/-! a right node's parts -/
def oneKind (k : Int) : Bool := decide (k = 3 ∨ k = 6)
theorem node_parts {f0 f1 f2 f3 k : Int} (h : nodeB f0 f1 f2 f3 k = true) : (1 ≤ f0 ∧ f0 ≤ 9) ∧ (f0 = 1 → 0 ≤ f1 ∧ f1 ≤ 999999 ∧ f2 = 0 ∧ f3 = 0) ∧ (f0 ≠ 1 → f1 = 0 ∧ 0 ≤ f2 ∧ f2 < k) ∧ ((f0 = 3 ∨ f0 = 6) → f3 = 0) ∧ (f0 ≠ 1 → ¬ (f0 = 3 ∨ f0 = 6) → 0 ≤ f3 ∧ f3 < k) := by
  unfold nodeB at h
  by_cases h1 : f0 = 1
  · rw [if_pos h1] at h
    simp only [Bool.and_eq_true, decide_eq_true_eq] at h
    omega
  · rw [if_neg h1] at h
    by_cases h3 : f0 = 3 ∨ f0 = 6
    · rw [if_pos h3] at h
      simp only [Bool.and_eq_true, decide_eq_true_eq] at h
      omega
    · rw [if_neg h3] at h
      simp only [Bool.and_eq_true, decide_eq_true_eq] at h
      omega
/-- the node's parts, as places -/
theorem right_parts {l : List S34} {i : Nat} (h : rightAt l i = true) : (1 ≤ (nodeOf l i).f0 ∧ (nodeOf l i).f0 ≤ 9) ∧ ((nodeOf l i).f0 = 1 → 0 ≤ (nodeOf l i).f1 ∧ (nodeOf l i).f1 ≤ 999999) ∧
    ((nodeOf l i).f0 ≠ 1 → ∃ a : Nat, (nodeOf l i).f2 = (a : Int) ∧ a < i) ∧ ((nodeOf l i).f0 ≠ 1 → oneKind (nodeOf l i).f0 = false → ∃ b : Nat, (nodeOf l i).f3 = (b : Int) ∧ b < i) := by
  obtain ⟨h0, h1, h2, _, h4⟩ := node_parts h
  refine ⟨h0, fun e => ⟨(h1 e).1, (h1 e).2.1⟩, fun e => ?_, fun e e2 => ?_⟩
  · obtain ⟨a, ha⟩ := Int.eq_ofNat_of_zero_le (h2 e).2.1
    exact ⟨a, ha, by have := (h2 e).2.2; omega⟩
  · have := h4 e (by simpa [oneKind] using e2)
    obtain ⟨b, hb⟩ := Int.eq_ofNat_of_zero_le this.1
    exact ⟨b, hb, by omega⟩

/-! the place of the first node that is one -/
def atV (l : List S34) (x : S34) : Int := match l.findIdx? (fun y => sameN y x) with
  | some i => (i : Int)
  | none => -1
theorem sameN_def (y x : S34) : (y.f0 == x.f0 && (y.f1 == x.f1 && (y.f2 == x.f2 && (y.f3 == x.f3)))) = sameN y x := by
  unfold sameN
  simp only [Bool.and_assoc]
theorem atV_hit {l : List S34} {x : S34} {i : Nat} (h : i < l.length) (hi : sameN l[i] x = true) (hno : ∀ j (hj : j < i), sameN (l[j]'(by omega)) x = false) : atV l x = (i : Int) := by
  have : l.findIdx? (fun y => sameN y x) = some i := by
    rw [List.findIdx?_eq_some_iff_getElem]
    exact ⟨h, hi, fun j hj => by simpa using hno j hj⟩
  unfold atV
  rw [this]
theorem atV_miss {l : List S34} {x : S34} (hno : ∀ j (hj : j < l.length), sameN l[j] x = false) : atV l x = -1 := by
  have : l.findIdx? (fun y => sameN y x) = none := by
    rw [List.findIdx?_eq_none_iff]
    intro y hy
    obtain ⟨j, hj, rfl⟩ := List.getElem_of_mem hy
    exact hno j hj
  unfold atV
  rw [this]
theorem spec_At_ev (l : List S34) (hl : l.length ≤ 1048576) (x : S34) : ∀ (d i : Nat), l.length - i = d → i ≤ l.length → (∀ j (hj : j < l.length), j < i → sameN l[j] x = false) → Ev (fun k => spec_l03At.l0 k l (i : Int) x.f0 x.f1 x.f2 x.f3) (atV l x) := by
  intro d
  induction d with
  | zero =>
    intro i hd hi hno
    rw [atV_miss (fun j hj => hno j hj (by omega))]
    exact ev_end (fun k => by rw [spec_l03At.l0, if_neg (by omega)])
  | succ d ih =>
    intro i hd hi hno
    have hlt : i < l.length := by omega
    refine Ev.step (fun k => by rw [spec_l03At.l0, if_pos (by omega), if_pos (by omega), rdI hlt, sameN_def, w64 (x := (i : Int) + 1) (by omega) (by omega)]) ?_
    by_cases hs : sameN l[i] x = true
    · refine ev_cast (evT hs (Ev.now _)) ?_
      rw [atV_hit hlt hs (fun j hj => hno j (by omega) hj)]
    · refine evF hs ?_
      refine ih (i + 1) (by omega) (by omega) (fun j hj hji => ?_)
      by_cases e : j = i
      · subst e
        simpa using hs
      · exact hno j hj (by omega)
theorem spec_At_f (l : List S34) (hl : l.length ≤ 1048576) (x : S34) : Ev (fun k => spec_l03At.f k l x.f0 x.f1 x.f2 x.f3) (atV l x) :=
  spec_At_ev l hl x l.length 0 (by omega) (by omega) (fun j _ h => by omega)
theorem sameN_refl (x : S34) : sameN x x = true := by simp [sameN]
theorem sameN_eq {x y : S34} (h : sameN x y = true) : x = y := by
  cases x
  cases y
  simp [sameN] at h
  simp [h]
theorem nodeOf_get {l : List S34} {j : Nat} (h : j < l.length) : nodeOf l j = l[j] := rdI h
/-- a node is the first of its kind just where it is no repeat -/
theorem atV_self {l : List S34} {j : Nat} (h : j < l.length) : atV l (nodeOf l j) = (j : Int) ↔ dupAt l j = false := by
  rw [nodeOf_get h]
  unfold dupAt
  rw [nodeOf_get h, List.any_eq_false]
  constructor
  · intro he y hy hs
    obtain ⟨i, hi, rfl⟩ := List.getElem_of_mem hy
    have hi2 : i < j := by have h3 := hi; rw [List.length_take] at h3; omega
    rw [List.getElem_take] at hs
    unfold atV at he
    cases hf : l.findIdx? (fun y => sameN y l[j]) with
    | none => rw [hf] at he; have he2 : (-1 : Int) = (j : Int) := he; omega
    | some m =>
      rw [hf] at he
      have he2 : (m : Int) = (j : Int) := he
      rw [List.findIdx?_eq_some_iff_getElem] at hf
      obtain ⟨hm, _, hno⟩ := hf
      have := hno i (by omega)
      simp only [Bool.not_eq_true, Bool.not_eq_false'] at this
      simp [hs] at this
  · intro hall
    refine atV_hit h (sameN_refl _) (fun i hi => ?_)
    have := hall (l[i]'(by omega)) (by
      rw [List.mem_iff_getElem]
      exact ⟨i, by rw [List.length_take]; omega, by rw [List.getElem_take]⟩)
    simpa using this

theorem spec_AOk_ev (l : List S34) (hl : l.length ≤ 3000) : ∀ (d i : Nat), l.length - i = d → i ≤ l.length → (∀ j, j < i → rightAt l j = true ∧ dupAt l j = false) → Ev (fun k => spec_ArenaOk.l0 k (i : Int) l) (aok l) := by
  intro d
  induction d with
  | zero =>
    intro i hd hi hall
    rw [aok_true hl (fun j hj => hall j (by omega))]
    exact ev_end (fun k => by rw [spec_ArenaOk.l0, if_neg (by omega)])
  | succ d ih =>
    intro i hd hi hall
    have hlt : i < l.length := by omega
    refine Ev.step (fun k => by rw [spec_ArenaOk.l0, if_pos (by omega), if_pos (by omega), w64 (x := (i : Int) + 1) (by omega) (by omega)]) ?_
    refine Ev.bind (spec_l03Node_f _ _ _ _ (i : Int) (by omega)) ?_
    by_cases hr : rightAt l i = true
    · refine evT hr (Ev.bind (spec_At_f l (by omega) (nodeOf l i)) ?_)
      by_cases hd2 : dupAt l i = false
      · refine evT ((atV_self hlt).2 hd2) ?_
        refine ih (i + 1) (by omega) (by omega) (fun j hj => ?_)
        by_cases e : j = i
        · rw [e]; exact ⟨hr, hd2⟩
        · exact hall j (by omega)
      · refine ev_cast (evF (fun h => hd2 ((atV_self hlt).1 h)) (Ev.now _)) ?_
        rw [aok_false hlt (.inr (by simpa using hd2))]
    · refine ev_cast (evF hr (Ev.now _)) ?_
      rw [aok_false hlt (.inl (by simpa using hr))]
theorem spec_ArenaOk_f (l : List S34) (hl : l.length ≤ 1048576) : Ev (fun k => spec_ArenaOk.f k l) (aok l) := by
  by_cases h : (l.length : Int) > 3000
  · refine ev_cast (evT h (Ev.now _)) ?_
    rw [aok_big (by omega)]
  · exact evF h (spec_AOk_ev l (by omega) l.length 0 (by omega) (by omega) (fun j hj => by omega))

/-! what can be had -/
def has (H : List Bool) (i : Nat) : Bool := H.getD i false
theorem rdOf_has (H : List Bool) (i : Nat) : rdOf false H (i : Int) = has H i := by
  unfold rdOf has
  rw [Int.toNat_natCast]
theorem has_set (H : List Bool) (i j : Nat) (hi : i < H.length) : has (H.set i true) j = (decide (j = i) || has H j) := by
  unfold has
  rw [List.getD_eq_getElem?_getD, List.getD_eq_getElem?_getD, List.getElem?_set]
  by_cases h : i = j
  · subst h
    simp [hi]
  · rw [if_neg h]
    have : ¬ j = i := fun e => h e.symm
    simp [this]
theorem has_lt {H : List Bool} {i : Nat} (h : has H i = true) : i < H.length := by
  by_cases hi : i < H.length
  · exact hi
  · unfold has at h
    rw [List.getD_eq_getElem?_getD, List.getElem?_eq_none (by omega)] at h
    cases h
theorem list_has {H G : List Bool} (hl : H.length = G.length) (h : ∀ i, i < H.length → (has H i = true ↔ has G i = true)) : H = G := by
  apply List.ext_getElem hl
  intro i h1 h2
  have := h i h1
  unfold has at this
  rw [List.getD_eq_getElem?_getD, List.getD_eq_getElem?_getD, List.getElem?_eq_getElem h1, List.getElem?_eq_getElem h2] at this
  simp only [Option.getD_some] at this
  cases e1 : H[i] <;> cases e2 : G[i] <;> simp_all
/-- how many are had -/
def cnt (H : List Bool) : Nat := H.count true
theorem cnt_le (H : List Bool) : cnt H ≤ H.length := List.count_le_length
theorem cnt_set {H : List Bool} {i : Nat} (hi : i < H.length) (h : has H i = false) : cnt (H.set i true) = cnt H + 1 := by
  unfold cnt
  rw [List.count_set hi]
  unfold has at h
  rw [List.getD_eq_getElem?_getD, List.getElem?_eq_getElem hi] at h
  simp only [Option.getD_some] at h
  rw [h]
  simp
/-- kind, and parts, of the node at a place -/
def kd (l : List S34) (i : Nat) : Int := (nodeOf l i).f0
def pA (l : List S34) (i : Nat) : Nat := (nodeOf l i).f2.toNat
def pB (l : List S34) (i : Nat) : Nat := (nodeOf l i).f3.toNat
def IsPub (l : List S34) (a p : Nat) : Prop := p < l.length ∧ kd l p = 6 ∧ pA l p = a
def twoKind (k : Int) : Prop := k ≠ 1 ∧ k ≠ 3 ∧ k ≠ 6 ∧ k ≠ 7
inductive Der (l : List S34) (S : Nat → Prop) : Nat → Prop
  | seed {k : Nat} : k < l.length → S k → Der l S k
  | atom {k : Nat} : k < l.length → kd l k = 1 → (nodeOf l k).f1 < 1000 → Der l S k
  | one {k : Nat} : k < l.length → (kd l k = 3 ∨ kd l k = 6) → Der l S (pA l k) → Der l S k
  | dh1 {k p : Nat} : k < l.length → kd l k = 7 → Der l S (pA l k) → IsPub l (pB l k) p → Der l S p → Der l S k
  | dh2 {k p : Nat} : k < l.length → kd l k = 7 → Der l S (pB l k) → IsPub l (pA l k) p → Der l S p → Der l S k
  | two {k : Nat} : k < l.length → twoKind (kd l k) → Der l S (pA l k) → Der l S (pB l k) → Der l S k
  | left {k : Nat} : k < l.length → kd l k = 2 → Der l S k → Der l S (pA l k)
  | right {k : Nat} : k < l.length → kd l k = 2 → Der l S k → Der l S (pB l k)
  | said {k : Nat} : k < l.length → kd l k = 8 → Der l S k → Der l S (pB l k)
  | opened {k : Nat} : k < l.length → kd l k = 5 → Der l S k → Der l S (pA l k) → Der l S (pB l k)
/-- a node can be made of what is had -/
def Made (l : List S34) (H : List Bool) (k : Nat) : Prop :=
  (kd l k = 1 ∧ (nodeOf l k).f1 < 1000) ∨ ((kd l k = 3 ∨ kd l k = 6) ∧ has H (pA l k) = true) ∨
  (kd l k = 7 ∧ ((has H (pA l k) = true ∧ ∃ p, IsPub l (pB l k) p ∧ has H p = true) ∨ (has H (pB l k) = true ∧ ∃ p, IsPub l (pA l k) p ∧ has H p = true))) ∨
  (twoKind (kd l k) ∧ has H (pA l k) = true ∧ has H (pB l k) = true)
/-- what comes out of a node that is had -/
def Outs (l : List S34) (H : List Bool) (k o : Nat) : Prop :=
  (kd l k = 2 ∧ (o = pA l k ∨ o = pB l k)) ∨ (kd l k = 8 ∧ o = pB l k) ∨ (kd l k = 5 ∧ has H (pA l k) = true ∧ o = pB l k)
def Stable (l : List S34) (H : List Bool) (k : Nat) : Prop := (Made l H k → has H k = true) ∧ (has H k = true → ∀ o, Outs l H k o → has H o = true)
structure Inv (l : List S34) (S : Nat → Prop) (H : List Bool) : Prop where
  len : H.length = l.length
  sound : ∀ i, has H i = true → Der l S i
theorem Inv.set {l : List S34} {S : Nat → Prop} {H : List Bool} (h : Inv l S H) {k : Nat} (hk : k < l.length) (hd : Der l S k) : Inv l S (H.set k true) := by
  refine ⟨by rw [List.length_set]; exact h.len, fun i hi => ?_⟩
  rw [has_set _ _ _ (by rw [h.len]; exact hk)] at hi
  simp only [Bool.or_eq_true, decide_eq_true_eq] at hi
  rcases hi with hi | hi
  · rw [hi]; exact hd
  · exact h.sound i hi
theorem Made.der {l : List S34} {S : Nat → Prop} {H : List Bool} (h : Inv l S H) {k : Nat} (hk : k < l.length) (hm : Made l H k) : Der l S k := by
  rcases hm with hm | hm | hm | hm
  · exact .atom hk hm.1 hm.2
  · exact .one hk hm.1 (h.sound _ hm.2)
  · rcases hm.2 with ⟨h1, p, hp, h2⟩ | ⟨h1, p, hp, h2⟩
    · exact .dh1 hk hm.1 (h.sound _ h1) hp (h.sound _ h2)
    · exact .dh2 hk hm.1 (h.sound _ h1) hp (h.sound _ h2)
  · exact .two hk hm.1 (h.sound _ hm.2.1) (h.sound _ hm.2.2)
theorem Outs.der {l : List S34} {S : Nat → Prop} {H : List Bool} (h : Inv l S H) {k o : Nat} (hk : k < l.length) (hh : has H k = true) (ho : Outs l H k o) : Der l S o := by
  rcases ho with ⟨h1, h2 | h2⟩ | ⟨h1, h2⟩ | ⟨h1, h2, h3⟩
  · rw [h2]; exact .left hk h1 (h.sound _ hh)
  · rw [h2]; exact .right hk h1 (h.sound _ hh)
  · rw [h2]; exact .said hk h1 (h.sound _ hh)
  · rw [h3]; exact .opened hk h1 (h.sound _ hh) (h.sound _ h2)
/-- what is closed, and has what was known, has all that can be had -/
theorem der_has {l : List S34} {S : Nat → Prop} {H : List Bool} (hs : ∀ k, k < l.length → S k → has H k = true) (hc : ∀ k, k < l.length → Stable l H k) {k : Nat} (h : Der l S k) : has H k = true := by
  induction h with
  | seed h1 h2 => exact hs _ h1 h2
  | atom h1 h2 h3 => exact (hc _ h1).1 (.inl ⟨h2, h3⟩)
  | one h1 h2 _ ih => exact (hc _ h1).1 (.inr (.inl ⟨h2, ih⟩))
  | dh1 h1 h2 _ h4 _ ih1 ih2 => exact (hc _ h1).1 (.inr (.inr (.inl ⟨h2, .inl ⟨ih1, _, h4, ih2⟩⟩)))
  | dh2 h1 h2 _ h4 _ ih1 ih2 => exact (hc _ h1).1 (.inr (.inr (.inl ⟨h2, .inr ⟨ih1, _, h4, ih2⟩⟩)))
  | two h1 h2 _ _ ih1 ih2 => exact (hc _ h1).1 (.inr (.inr (.inr ⟨h2, ih1, ih2⟩)))
  | left h1 h2 _ ih => exact (hc _ h1).2 ih _ (.inl ⟨h2, .inl rfl⟩)
  | right h1 h2 _ ih => exact (hc _ h1).2 ih _ (.inl ⟨h2, .inr rfl⟩)
  | said h1 h2 _ ih => exact (hc _ h1).2 ih _ (.inr (.inl ⟨h2, rfl⟩))
  | opened h1 h2 _ _ ih1 ih2 => exact (hc _ h1).2 ih1 _ (.inr (.inr ⟨h2, ih2, rfl⟩))
/-- the list of what can be had -/
structure IsReach (l : List S34) (S : Nat → Prop) (H : List Bool) : Prop where
  len : H.length = l.length
  iff : ∀ i, has H i = true ↔ Der l S i
theorem der_lt {l : List S34} {S : Nat → Prop} (hr : ∀ j, j < l.length → rightAt l j = true) {k : Nat} (h : Der l S k) : k < l.length := by
  induction h with
  | seed h1 _ => exact h1
  | atom h1 _ _ => exact h1
  | one h1 _ _ _ => exact h1
  | dh1 h1 _ _ _ _ _ _ => exact h1
  | dh2 h1 _ _ _ _ _ _ => exact h1
  | two h1 _ _ _ _ _ => exact h1
  | @left k h1 h2 _ _ =>
    obtain ⟨a, ha, hak⟩ := (right_parts (hr k h1)).2.2.1 (by unfold kd at h2; omega)
    unfold pA; rw [ha]; omega
  | @right k h1 h2 _ _ =>
    obtain ⟨a, ha, hak⟩ := (right_parts (hr k h1)).2.2.2 (by unfold kd at h2; omega) (by unfold kd at h2; simp [oneKind, h2])
    unfold pB; rw [ha]; omega
  | @said k h1 h2 _ _ =>
    obtain ⟨a, ha, hak⟩ := (right_parts (hr k h1)).2.2.2 (by unfold kd at h2; omega) (by unfold kd at h2; simp [oneKind, h2])
    unfold pB; rw [ha]; omega
  | @opened k h1 h2 _ _ _ _ =>
    obtain ⟨a, ha, hak⟩ := (right_parts (hr k h1)).2.2.2 (by unfold kd at h2; omega) (by unfold kd at h2; simp [oneKind, h2])
    unfold pB; rw [ha]; omega
theorem isReach_of {l : List S34} {S : Nat → Prop} {H : List Bool} (h : Inv l S H) (hs : ∀ k, k < l.length → S k → has H k = true) (hc : ∀ k, k < l.length → Stable l H k) : IsReach l S H :=
  ⟨h.len, fun i => ⟨h.sound i, der_has hs hc⟩⟩
theorem isReach_eq {l : List S34} {S : Nat → Prop} {H G : List Bool} (h : IsReach l S H) (g : IsReach l S G) : H = G :=
  list_has (h.len.trans g.len.symm) (fun i _ => (h.iff i).trans (g.iff i).symm)
/-- a pub is there once -/
theorem pub_once {l : List S34} (hok : aok l = true) {a p q : Nat} (hp : IsPub l a p) (hq : IsPub l a q) : p = q := by
  obtain ⟨h3, hall⟩ := aok_parts hok
  have key : ∀ {p q : Nat}, IsPub l a p → IsPub l a q → ¬ p < q := by
    intro p q hp hq hlt
    have hd := (hall q hq.1).2
    have np := node_parts (hall p hp.1).1
    have nq := node_parts (hall q hq.1).1
    have kp := hp.2.1
    have kq := hq.2.1
    have ap := hp.2.2
    have aq := hq.2.2
    unfold kd at kp kq
    unfold pA at ap aq
    have e : nodeOf l p = nodeOf l q := by
      have p1 := np.2.2.1 (by omega)
      have q1 := nq.2.2.1 (by omega)
      have p2 := np.2.2.2.1 (by omega)
      have q2 := nq.2.2.2.1 (by omega)
      cases hx : nodeOf l p with
      | mk x0 x1 x2 x3 =>
        cases hy : nodeOf l q with
        | mk y0 y1 y2 y3 =>
          rw [hx] at kp p1 p2 ap
          rw [hy] at kq q1 q2 aq
          simp only at kp kq p1 q1 p2 q2 ap aq
          have a1 : x2 = y2 := by omega
          rw [kp, kq, p1.1, q1.1, p2, q2, a1]
    unfold dupAt at hd
    rw [List.any_eq_false] at hd
    have := hd (nodeOf l p) (by
      rw [nodeOf_get hp.1, List.mem_iff_getElem]
      have := hp.1
      have := hq.1
      exact ⟨p, by rw [List.length_take]; omega, by rw [List.getElem_take]⟩)
    rw [e] at this
    exact this (sameN_refl _)
  have h1 := key hp hq
  have h2 := key hq hp
  omega

/-! the law's own marking and turning: lists of numbers and of truths -/
theorem rd_nat {xs : List Int} {i : Nat} (h : i < xs.length) : rd xs (i : Int) = xs[i] := by
  unfold rd
  rw [Int.toNat_natCast, List.getD_eq_getElem?_getD, List.getElem?_eq_getElem h]
  rfl
theorem rdOf_nat {xs : List Bool} {i : Nat} (h : i < xs.length) : rdOf false xs (i : Int) = xs[i] := by
  unfold rdOf
  rw [Int.toNat_natCast, List.getD_eq_getElem?_getD, List.getElem?_eq_getElem h]
  rfl
theorem toIntS_ev (l : List Int) (hl : l.length ≤ 1048576) : ∀ (d i : Nat) (acc : List Int), l.length - i = d → i ≤ l.length → acc.length = l.length → acc.take i = l.take i → Ev (fun k => laws_toIntS.l0 k l acc (i : Int)) l := by
  intro d
  induction d with
  | zero =>
    intro i acc hd hi ha ht
    have e : i = l.length := by omega
    subst e
    rw [List.take_length, List.take_of_length_le (by omega)] at ht
    rw [ht]
    exact ev_end (fun k => by rw [laws_toIntS.l0, if_neg (by omega)])
  | succ d ih =>
    intro i acc hd hi ha ht
    have hlt : i < l.length := by omega
    refine Ev.step (fun k => by rw [laws_toIntS.l0, if_pos (by omega), if_pos (by omega), if_pos (by omega), rd_nat hlt, w64 (by omega) (by omega), Int.toNat_natCast]) ?_
    refine ih (i + 1) _ (by omega) (by omega) (by simp [ha]) ?_
    rw [List.take_succ_eq_append_getElem (by simp; omega), List.take_succ_eq_append_getElem hlt, List.getElem_set_self, List.take_set_of_le (by omega), ht]
theorem toIntS_f (l : List Int) (hl : l.length ≤ 1048576) : Ev (fun k => laws_toIntS.f k l) l := by
  refine evT (by omega) (evT (by rw [Int.toNat_natCast]; omega) ?_)
  exact toIntS_ev l hl l.length 0 _ (by omega) (by omega) (by simp) (by simp)
theorem eqIntS_ev (l : List Int) (hl : l.length ≤ 1048576) : ∀ (d i : Nat), l.length - i = d → i ≤ l.length → Ev (fun k => laws_eqIntS.l0 k l l (i : Int)) true := by
  intro d
  induction d with
  | zero => intro i hd hi; exact ev_end (fun k => by rw [laws_eqIntS.l0, if_neg (by omega)])
  | succ d ih =>
    intro i hd hi
    refine Ev.step (fun k => by rw [laws_eqIntS.l0, if_pos (by omega), if_pos (by omega), if_pos (by omega), if_pos rfl, w64 (by omega) (by omega)]) ?_
    exact ih (i + 1) (by omega) (by omega)
theorem eqIntS_f (l : List Int) (hl : l.length ≤ 1048576) : Ev (fun k => laws_eqIntS.f k l l) true :=
  evT rfl (eqIntS_ev l hl l.length 0 (by omega) (by omega))
theorem eqBoolS_ev (l : List Bool) (hl : l.length ≤ 1048576) : ∀ (d i : Nat), l.length - i = d → i ≤ l.length → Ev (fun k => laws_eqBoolS.l0 k l l (i : Int)) true := by
  intro d
  induction d with
  | zero => intro i hd hi; exact ev_end (fun k => by rw [laws_eqBoolS.l0, if_neg (by omega)])
  | succ d ih =>
    intro i hd hi
    refine Ev.step (fun k => by rw [laws_eqBoolS.l0, if_pos (by omega), if_pos (by omega), if_pos (by omega), if_neg (by simp), w64 (by omega) (by omega)]) ?_
    exact ih (i + 1) (by omega) (by omega)
theorem eqBoolS_f (l : List Bool) (hl : l.length ≤ 1048576) : Ev (fun k => laws_eqBoolS.f k l l) true :=
  evT rfl (eqBoolS_ev l hl l.length 0 (by omega) (by omega))
theorem markIntS_ev (n : Nat) (hn : n ≤ 1048576) : ∀ (d i : Nat) (l : List Int) (a : Int), l.length = n → n - i = d → i ≤ n → 0 ≤ a → a + d ≤ 1000000000 → ∃ l', Ev (fun k => laws_markIntS.l0 k l a (i : Int)) (a + d, l') := by
  intro d
  induction d with
  | zero => intro i l a hl hd hi _ _; exact ⟨l, ev_end (fun k => by rw [laws_markIntS.l0, if_neg (by omega)]; simp)⟩
  | succ d ih =>
    intro i l a hl hd hi h0 hm
    obtain ⟨l', h⟩ := ih (i + 1) (l.set i a) (a + 1) (by simpa using hl) (by omega) (by omega) (by omega) (by omega)
    refine ⟨l', Ev.step (fun k => by rw [laws_markIntS.l0, if_pos (by omega), if_pos (by omega), w64 (by omega) (by omega), w64 (by omega) (by omega), Int.toNat_natCast]) ?_⟩
    refine ev_cast h ?_
    rw [Prod.mk.injEq]
    exact ⟨by omega, rfl⟩
theorem markIntS_f (l : List Int) (a : Int) (hl : l.length ≤ 1048576) (h0 : 0 ≤ a) (h1 : a ≤ 100000000) : ∃ l', Ev (fun k => laws_markIntS.f k l a) (a + l.length, l') :=
  markIntS_ev l.length hl l.length 0 l a rfl (by omega) (by omega) h0 (by omega)
theorem markNodeS_ev (n : Nat) (hn : n ≤ 1048576) : ∀ (d i : Nat) (l : List S34) (a : Int), l.length = n → n - i = d → i ≤ n → 0 ≤ a → a + 4 * d ≤ 1000000000 → ∃ l', Ev (fun k => laws_markNodeS.l0 k l a (i : Int)) (a + 4 * d, l') := by
  intro d
  induction d with
  | zero => intro i l a hl hd hi _ _; exact ⟨l, ev_end (fun k => by rw [laws_markNodeS.l0, if_neg (by omega)]; simp)⟩
  | succ d ih =>
    intro i l a hl hd hi h0 hm
    let q1 : List S34 := l.set i ⟨a, (rd_T34 l (i : Int)).f1, (rd_T34 l (i : Int)).f2, (rd_T34 l (i : Int)).f3⟩
    let q2 : List S34 := q1.set i ⟨(rd_T34 q1 (i : Int)).f0, a + 1, (rd_T34 q1 (i : Int)).f2, (rd_T34 q1 (i : Int)).f3⟩
    let q3 : List S34 := q2.set i ⟨(rd_T34 q2 (i : Int)).f0, (rd_T34 q2 (i : Int)).f1, a + 1 + 1, (rd_T34 q2 (i : Int)).f3⟩
    let q4 : List S34 := q3.set i ⟨(rd_T34 q3 (i : Int)).f0, (rd_T34 q3 (i : Int)).f1, (rd_T34 q3 (i : Int)).f2, a + 1 + 1 + 1⟩
    obtain ⟨l', h⟩ := ih (i + 1) q4 (a + 1 + 1 + 1 + 1) (by simp only [q4, q3, q2, q1, List.length_set]; exact hl) (by omega) (by omega) (by omega) (by omega)
    refine ⟨l', Ev.step (fun k => by rw [laws_markNodeS.l0, if_pos (by omega), if_pos (by omega), w64 (x := a + 1) (by omega) (by omega), w64 (x := a + 1 + 1) (by omega) (by omega), w64 (x := a + 1 + 1 + 1) (by omega) (by omega), w64 (x := a + 1 + 1 + 1 + 1) (by omega) (by omega), w64 (x := (i : Int) + 1) (by omega) (by omega), Option.bind_some, Option.bind_some, Option.bind_some]) ?_⟩
    refine ev_cast h ?_
    rw [Prod.mk.injEq]
    exact ⟨by omega, rfl⟩
theorem markArena_f (l : List S34) (a : Int) (hl : l.length ≤ 1048576) (h0 : 0 ≤ a) (h1 : a ≤ 100000000) : ∃ l', Ev (fun k => laws_markArena.f k l a) (a + 4 * l.length, l') := by
  obtain ⟨l', h⟩ := markNodeS_ev l.length hl l.length 0 l a rfl (by omega) (by omega) h0 (by omega)
  exact ⟨l', Ev.bind h (Ev.now _)⟩
def markB (a : Int) (n : Nat) : List Bool := (List.range n).map (fun (i : Nat) => Int.tmod (a + (i : Int)) 3 == 0)
theorem markBoolS_ev (n : Nat) (hn : n ≤ 1048576) (a : Int) (h0 : 0 ≤ a) (hm : a ≤ 100000000) : ∀ (d i : Nat) (l : List Bool), l.length = n → n - i = d → i ≤ n → l.take i = markB a i → Ev (fun k => laws_markBoolS.l0 k l (a + i) (i : Int)) (a + n, markB a n) := by
  intro d
  induction d with
  | zero =>
    intro i l hl hd hi ht
    have e : i = n := by omega
    subst e
    rw [List.take_of_length_le (by omega)] at ht
    rw [← ht]
    exact ev_end (fun k => by rw [laws_markBoolS.l0, if_neg (by omega)])
  | succ d ih =>
    intro i l hl hd hi ht
    refine Ev.step (fun k => by rw [laws_markBoolS.l0, if_pos (by omega), if_pos (by omega), w64 (by omega) (by omega), w64 (by omega) (by omega), Int.toNat_natCast]) ?_
    have h := ih (i + 1) (l.set i (Int.tmod (a + i) 3 == 0)) (by simpa using hl) (by omega) (by omega) (by
      rw [List.take_succ_eq_append_getElem (by simp; omega), List.getElem_set_self, List.take_set_of_le (by omega), ht]
      unfold markB
      rw [List.range_succ, List.map_append]
      rfl)
    have e : a + ((i + 1 : Nat) : Int) = a + i + 1 := by omega
    rw [e] at h
    exact h
theorem markBoolS_f (l : List Bool) (a : Int) (hl : l.length ≤ 1048576) (h0 : 0 ≤ a) (h1 : a ≤ 100000000) : Ev (fun k => laws_markBoolS.f k l a) (a + l.length, markB a l.length) := by
  have h := markBoolS_ev l.length hl a h0 h1 l.length 0 l rfl (by omega) (by omega) rfl
  have e : a + ((0 : Nat) : Int) = a := by omega
  rw [e] at h
  exact h
theorem heldBoolS_ev (n : Nat) (hn : n ≤ 1048576) (a : Int) (h0 : 0 ≤ a) (hm : a ≤ 100000000) : ∀ (d i : Nat), n - i = d → i ≤ n → Ev (fun k => laws_heldBoolS.l0 k (markB a n) (a + i) (i : Int)) (a + n) := by
  have hlen : (markB a n).length = n := by simp [markB]
  intro d
  induction d with
  | zero =>
    intro i hd hi
    have e : i = n := by omega
    subst e
    exact ev_end (fun k => by rw [laws_heldBoolS.l0, if_neg (by omega)])
  | succ d ih =>
    intro i hd hi
    have hlt : i < (markB a n).length := by omega
    have hv : rdOf false (markB a n) (i : Int) = (Int.tmod (a + i) 3 == 0) := by
      rw [rdOf_nat hlt]
      simp [markB]
    refine Ev.step (fun k => by rw [laws_heldBoolS.l0, if_pos (by omega), if_pos (by omega), hv, if_neg (by simp), w64 (by omega) (by omega), w64 (by omega) (by omega)]) ?_
    have h := ih (i + 1) (by omega) (by omega)
    have e : a + ((i + 1 : Nat) : Int) = a + i + 1 := by omega
    rw [e] at h
    exact h
theorem heldBoolS_f (n : Nat) (a : Int) (hl : n ≤ 1048576) (h0 : 0 ≤ a) (h1 : a ≤ 100000000) : Ev (fun k => laws_heldBoolS.f k (markB a n) a) (a + n) := by
  have h := heldBoolS_ev n hl a h0 h1 n 0 (by omega) (by omega)
  have e : a + ((0 : Nat) : Int) = a := by omega
  rw [e] at h
  exact h

/-! how what is had grows -/
theorem set_has {H : List Bool} {a : Nat} (h : has H a = true) : H.set a true = H := by
  apply List.ext_getElem (by simp)
  intro i h1 h2
  rw [List.getElem_set]
  split
  · rename_i e
    subst e
    unfold has at h
    rw [List.getD_eq_getElem?_getD, List.getElem?_eq_getElem h2] at h
    exact h.symm
  · rfl
structure Adv (l : List S34) (S : Nat → Prop) (H : List Bool) (fl : Bool) (H' : List Bool) (fl' : Bool) : Prop where
  inv : Inv l S H'
  sub : ∀ k, has H k = true → has H' k = true
  le : cnt H ≤ cnt H'
  more : fl' = true → fl = true ∨ cnt H < cnt H'
  same : fl' = false → fl = false ∧ H' = H
theorem Adv.refl {l : List S34} {S : Nat → Prop} {H : List Bool} (h : Inv l S H) (fl : Bool) : Adv l S H fl H fl :=
  ⟨h, fun _ h => h, Nat.le_refl _, fun h => .inl h, fun h => ⟨h, rfl⟩⟩
theorem Adv.trans {l : List S34} {S : Nat → Prop} {H H1 H2 : List Bool} {f f1 f2 : Bool} (a : Adv l S H f H1 f1) (b : Adv l S H1 f1 H2 f2) : Adv l S H f H2 f2 := by
  refine ⟨b.inv, fun k h => b.sub k (a.sub k h), Nat.le_trans a.le b.le, fun h => ?_, fun h => ?_⟩
  · have h1 := a.le
    have h2 := b.le
    rcases b.more h with h3 | h3
    · rcases a.more h3 with h4 | h4
      · exact .inl h4
      · exact .inr (by omega)
    · exact .inr (by omega)
  · obtain ⟨h1, h2⟩ := b.same h
    obtain ⟨h3, h4⟩ := a.same h1
    exact ⟨h3, h2.trans h4⟩
theorem Adv.mark {l : List S34} {S : Nat → Prop} {H : List Bool} (h : Inv l S H) (fl : Bool) {k : Nat} (hk : k < l.length) (hd : Der l S k) : Adv l S H fl (H.set k true) (fl || !has H k) := by
  cases hh : has H k with
  | true =>
    rw [set_has hh]
    simp only [Bool.not_true, Bool.or_false]
    exact Adv.refl h fl
  | false =>
    have hl : k < H.length := by rw [h.len]; exact hk
    simp only [Bool.not_false, Bool.or_true]
    refine ⟨h.set hk hd, fun j hj => ?_, ?_, fun _ => .inr ?_, fun e => by cases e⟩
    · rw [has_set _ _ _ hl, hj]; simp
    · rw [cnt_set hl hh]; omega
    · rw [cnt_set hl hh]; omega
/-- the pubs as they are listed: for each place the pub of it, or the mark for none -/
structure Pubs (l : List S34) (d : Int) (P : List Int) (i : Nat) : Prop where
  len : P.length = l.length
  at_ : ∀ a, a < l.length → (rd P (a : Int) = d ∧ ∀ p, p < i → ¬ IsPub l a p) ∨ ∃ p, p < i ∧ IsPub l a p ∧ rd P (a : Int) = (p : Int)
theorem Pubs.skip {l : List S34} {d : Int} {P : List Int} {i : Nat} (h : Pubs l d P i) (hk : kd l i ≠ 6) : Pubs l d P (i + 1) := by
  refine ⟨h.len, fun a ha => ?_⟩
  rcases h.at_ a ha with ⟨h1, h2⟩ | ⟨p, h1, h2, h3⟩
  · refine .inl ⟨h1, fun p hp hq => ?_⟩
    by_cases e : p = i
    · rw [e] at hq; exact hk hq.2.1
    · exact h2 p (by omega) hq
  · exact .inr ⟨p, by omega, h2, h3⟩
theorem Pubs.put {l : List S34} {d : Int} {P : List Int} {i : Nat} (h : Pubs l d P i) (hi : i < l.length) (hk : kd l i = 6) : Pubs l d (P.set (pA l i) (i : Int)) (i + 1) := by
  refine ⟨by rw [List.length_set]; exact h.len, fun a ha => ?_⟩
  have hl := h.len
  have e1 : rd (P.set (pA l i) (i : Int)) (a : Int) = if pA l i = a then (i : Int) else rd P (a : Int) := by
    rw [rd_nat (by rw [List.length_set, hl]; exact ha), List.getElem_set, rd_nat (by rw [hl]; exact ha)]
  by_cases e : pA l i = a
  · exact .inr ⟨i, by omega, ⟨hi, hk, e⟩, by rw [e1, if_pos e]⟩
  · rcases h.at_ a ha with ⟨h1, h2⟩ | ⟨p, h1, h2, h3⟩
    · refine .inl ⟨by rw [e1, if_neg e]; exact h1, fun p hp hq => ?_⟩
      by_cases e2 : p = i
      · rw [e2] at hq; exact e hq.2.2
      · exact h2 p (by omega) hq
    · exact .inr ⟨p, by omega, h2, by rw [e1, if_neg e]; exact h3⟩
theorem rd_rep {n a : Nat} {d : Int} (h : a < n) : rd (List.replicate n d) (a : Int) = d := by
  rw [rd_nat (by simpa using h), List.getElem_replicate]
theorem Pubs.none (l : List S34) (d : Int) : Pubs l d (List.replicate l.length d) 0 :=
  ⟨by simp, fun a ha => .inl ⟨rd_rep ha, fun p hp => by omega⟩⟩
theorem pubs_one {l : List S34} (hr : ∀ j, j < l.length → rightAt l j = true) {a p : Nat} (h : IsPub l a p) : a < p ∧ p < l.length := by
  obtain ⟨b, hb, hbk⟩ := (right_parts (hr p h.1)).2.2.1 (by have := h.2.1; unfold kd at this; omega)
  have h2 := h.2.2
  unfold pA at h2
  rw [hb] at h2
  exact ⟨by omega, h.1⟩
/-- what the program asks of a place's pub -/
def pubHad (H : List Bool) (P : List Int) (d : Int) (a : Nat) : Bool := decide (rd P (a : Int) ≥ d) && rdOf false H (rd P (a : Int))
theorem pubHad_iff {l : List S34} (hok : aok l = true) {d : Int} {P : List Int} {H : List Bool} (h : Pubs l (d - 1) P l.length) (hd : d ≤ 1) {a : Nat} (ha : a < l.length) : pubHad H P d a = true ↔ ∃ p, IsPub l a p ∧ has H p = true := by
  have hr : ∀ j, j < l.length → rightAt l j = true := fun j hj => ((aok_parts hok).2 j hj).1
  unfold pubHad
  rw [Bool.and_eq_true, decide_eq_true_eq]
  rcases h.at_ a ha with ⟨h1, h2⟩ | ⟨p, h1, h2, h3⟩
  · rw [h1]
    constructor
    · intro ⟨e, _⟩; omega
    · intro ⟨p, e, _⟩; exact absurd e (h2 p e.1)
  · have hb := pubs_one hr h2
    rw [h3, rdOf_has]
    constructor
    · intro ⟨_, e⟩; exact ⟨p, h2, e⟩
    · intro ⟨q, e1, e2⟩
      rw [pub_once hok h2 e1]
      exact ⟨by have := pubs_one hr e1; omega, e2⟩
theorem pubs_range {l : List S34} {d : Int} {P : List Int} {i : Nat} (h : Pubs l d P i) (hd : d < l.length) {a : Nat} (ha : a < l.length) : rd P (a : Int) < (l.length : Int) := by
  rcases h.at_ a ha with ⟨h1, _⟩ | ⟨p, _, h2, h3⟩
  · rw [h1]; exact hd
  · rw [h3]; have := h2.1; omega
def madeB (H : List Bool) (P : List Int) (d : Int) (k f1 : Int) (a b : Nat) : Bool :=
  if k = 1 then decide (f1 < 1000) else if k = 3 ∨ k = 6 then has H a else if k = 7 then (has H a && pubHad H P d b) || (has H b && pubHad H P d a) else has H a && has H b
theorem madeB_iff {l : List S34} (hok : aok l = true) {d : Int} {P : List Int} {H : List Bool} (h : Pubs l (d - 1) P l.length) (hd : d ≤ 1) {i : Nat} (hi : i < l.length) : madeB H P d (kd l i) (nodeOf l i).f1 (pA l i) (pB l i) = true ↔ Made l H i := by
  have hr := ((aok_parts hok).2 i hi).1
  have rp := right_parts hr
  unfold madeB Made twoKind
  by_cases h1 : kd l i = 1
  · simp [h1]
  · rw [if_neg h1]
    by_cases h3 : kd l i = 3 ∨ kd l i = 6
    · rw [if_pos h3]
      have h7 : ¬ kd l i = 7 := by omega
      constructor
      · intro e; exact .inr (.inl ⟨h3, e⟩)
      · rintro (e | e | e | e)
        · exact absurd e.1 h1
        · exact e.2
        · exact absurd e.1 h7
        · omega
    · rw [if_neg h3]
      obtain ⟨a, ha, hai⟩ := rp.2.2.1 h1
      obtain ⟨b, hb, hbi⟩ := rp.2.2.2 h1 (by unfold kd at h3; simpa [oneKind] using h3)
      have ea : pA l i = a := by unfold pA; rw [ha]; rfl
      have eb : pB l i = b := by unfold pB; rw [hb]; rfl
      rw [ea, eb]
      by_cases h7 : kd l i = 7
      · rw [if_pos h7, Bool.or_eq_true, Bool.and_eq_true, Bool.and_eq_true, pubHad_iff hok h hd (by omega), pubHad_iff hok h hd (by omega)]
        constructor
        · intro e; exact .inr (.inr (.inl ⟨h7, e⟩))
        · rintro (e | e | e | e)
          · exact absurd e.1 h1
          · exact absurd e.1 h3
          · exact e.2
          · exact absurd h7 e.1.2.2.2
      · rw [if_neg h7, Bool.and_eq_true]
        constructor
        · intro e; exact .inr (.inr (.inr ⟨⟨h1, by omega, by omega, h7⟩, e⟩))
        · rintro (e | e | e | e)
          · exact absurd e.1 h1
          · exact absurd e.1 h3
          · exact absurd e.1 h7
          · exact e.2
/-- what comes out of a node, as a list -/
def outL (l : List S34) (H : List Bool) (i : Nat) : List Nat := if has H i = true then (if kd l i = 2 then [pA l i, pB l i] else if kd l i = 8 then [pB l i] else if kd l i = 5 then (if has H (pA l i) = true then [pB l i] else []) else []) else []
theorem outL_iff {l : List S34} {H : List Bool} {i o : Nat} (h : has H i = true) : o ∈ outL l H i ↔ Outs l H i o := by
  unfold outL Outs
  rw [if_pos h]
  by_cases h2 : kd l i = 2
  · rw [if_pos h2, h2]; simp
  · rw [if_neg h2]
    by_cases h8 : kd l i = 8
    · rw [if_pos h8, h8]; simp
    · rw [if_neg h8]
      by_cases h5 : kd l i = 5
      · rw [if_pos h5, h5]
        by_cases ha : has H (pA l i) = true
        · rw [if_pos ha]; simp [ha]
        · rw [if_neg ha]; simp [ha]
      · rw [if_neg h5]; simp [h2, h8, h5]
theorem outL_nil {l : List S34} {H : List Bool} {i : Nat} (h : ¬ has H i = true) : outL l H i = [] := by
  unfold outL
  rw [if_neg h]
theorem part_le {l : List S34} (hok : aok l = true) {i : Nat} (hi : i < l.length) (h1 : kd l i ≠ 1) : (nodeOf l i).f2 = (pA l i : Int) ∧ pA l i < i ∧ (oneKind (kd l i) = false → (nodeOf l i).f3 = (pB l i : Int) ∧ pB l i < i) := by
  have rp := right_parts ((aok_parts hok).2 i hi).1
  obtain ⟨a, ha, hai⟩ := rp.2.2.1 h1
  have ea : pA l i = a := by unfold pA; rw [ha]; rfl
  refine ⟨by rw [ea, ha], by omega, fun ho => ?_⟩
  obtain ⟨b, hb, hbi⟩ := rp.2.2.2 h1 ho
  have eb : pB l i = b := by unfold pB; rw [hb]; rfl
  exact ⟨by rw [eb, hb], by omega⟩

/-! the program's own walk over what can be had -/
theorem impl_dh {H : List Bool} {P : List Int} {a b : Nat} (ha : a < H.length) (hb : b < H.length) (hP : P.length = H.length) (hr : ∀ x : Nat, x < H.length → rd P (x : Int) < (H.length : Int)) (k : Nat) (y0 y1 : Int) : impl_canMake.j0 (k + 1) H P 7 false y0 y1 (a : Int) (b : Int) = some ((has H a && pubHad H P 1 b) || (has H b && pubHad H P 1 a)) := by
  have a1 := hr a ha
  have b1 := hr b hb
  have e1 : ((a : Int) < (H.length : Int)) = True := eq_true (by omega)
  have e2 : ((b : Int) < (H.length : Int)) = True := eq_true (by omega)
  have e3 : ((a : Int) < (P.length : Int)) = True := eq_true (by omega)
  have e4 : ((b : Int) < (P.length : Int)) = True := eq_true (by omega)
  have e5 : (rd P (a : Int) < (H.length : Int)) = True := eq_true a1
  have e6 : (rd P (b : Int) < (H.length : Int)) = True := eq_true b1
  have e7 : (0 ≤ (a : Int)) = True := eq_true (by omega)
  have e8 : (0 ≤ (b : Int)) = True := eq_true (by omega)
  rw [impl_canMake.j0]
  simp only [e1, e2, e3, e4, e5, e6, e7, e8, if_true, rdOf_has]
  unfold pubHad
  by_cases c1 : rd P (a : Int) > 0
  · have f1 : (rd P (a : Int) > 0) = True := eq_true c1
    have f2 : (0 ≤ rd P (a : Int)) = True := eq_true (by omega)
    have f3 : decide (rd P (a : Int) ≥ 1) = true := decide_eq_true (by omega)
    simp only [f1, f2, f3, if_true]
    by_cases c2 : rd P (b : Int) > 0
    · have g1 : (rd P (b : Int) > 0) = True := eq_true c2
      have g2 : (0 ≤ rd P (b : Int)) = True := eq_true (by omega)
      have g3 : decide (rd P (b : Int) ≥ 1) = true := decide_eq_true (by omega)
      simp only [g1, g2, g3, if_true]
      cases has H a <;> cases has H b <;> cases rdOf false H (rd P (a : Int)) <;> cases rdOf false H (rd P (b : Int)) <;> rfl
    · have g1 : (rd P (b : Int) > 0) = False := eq_false c2
      have g3 : decide (rd P (b : Int) ≥ 1) = false := decide_eq_false (by omega)
      simp only [g1, g3, if_false]
      cases has H a <;> cases has H b <;> cases rdOf false H (rd P (a : Int)) <;> rfl
  · have f1 : (rd P (a : Int) > 0) = False := eq_false c1
    have f3 : decide (rd P (a : Int) ≥ 1) = false := decide_eq_false (by omega)
    simp only [f1, f3, if_false]
    by_cases c2 : rd P (b : Int) > 0
    · have g1 : (rd P (b : Int) > 0) = True := eq_true c2
      have g2 : (0 ≤ rd P (b : Int)) = True := eq_true (by omega)
      have g3 : decide (rd P (b : Int) ≥ 1) = true := decide_eq_true (by omega)
      simp only [g1, g2, g3, if_true]
      cases has H a <;> cases has H b <;> cases rdOf false H (rd P (b : Int)) <;> rfl
    · have g1 : (rd P (b : Int) > 0) = False := eq_false c2
      have g3 : decide (rd P (b : Int) ≥ 1) = false := decide_eq_false (by omega)
      simp only [g1, g3, if_false]
      cases has H a <;> cases has H b <;> rfl
theorem impl_one {H : List Bool} {P : List Int} {a : Nat} (ha : a < H.length) (k : Nat) (y y0 y1 y3 : Int) : impl_canMake.j0 (k + 1) H P y true y0 y1 (a : Int) y3 = some (has H a) := by
  rw [impl_canMake.j0, if_pos rfl, if_pos (by omega), if_pos (by omega), rdOf_has]
theorem impl_two {H : List Bool} {P : List Int} {a b : Nat} (ha : a < H.length) (hb : b < H.length) {y : Int} (hy : y ≠ 7) (k : Nat) (y0 y1 : Int) : impl_canMake.j0 (k + 1) H P y false y0 y1 (a : Int) (b : Int) = some (has H a && has H b) := by
  rw [impl_canMake.j0, if_neg (by simp), if_neg hy, if_pos (by omega), if_pos (by omega), rdOf_has]
  by_cases h : has H a = true
  · rw [if_pos h, if_pos (by omega), if_pos (by omega), rdOf_has, h]; simp
  · rw [if_neg h]; simp [h]
theorem impl_canMake_ev {l : List S34} (hok : aok l = true) {P : List Int} {H : List Bool} (hP : Pubs l 0 P l.length) (hH : H.length = l.length) {i : Nat} (hi : i < l.length) (hne : kd l i ≠ 1) :
    Ev (fun k => impl_canMake.f k (nodeOf l i).f0 (nodeOf l i).f1 (nodeOf l i).f2 (nodeOf l i).f3 H P) (madeB H P 1 (kd l i) (nodeOf l i).f1 (pA l i) (pB l i)) := by
  obtain ⟨h2, hA, hBo⟩ := part_le hok hi hne
  have hPl := hP.len
  have hr : ∀ x : Nat, x < H.length → rd P (x : Int) < (H.length : Int) := fun x hx => by
    have := pubs_range hP (by omega) (a := x) (by omega)
    omega
  refine evF hne ?_
  unfold madeB
  rw [if_neg hne, h2]
  by_cases h3 : kd l i = 3
  · have e : ((nodeOf l i).f0 == 3) = true := by rw [beq_iff_eq]; exact h3
    rw [if_pos (.inl h3)]
    refine evT h3 (ev_end (fun k => ?_))
    rw [e, impl_one (by omega)]
  · by_cases h6 : kd l i = 6
    · have e : ((nodeOf l i).f0 == 6) = true := by rw [beq_iff_eq]; exact h6
      rw [if_pos (.inr h6)]
      refine evF h3 (ev_end (fun k => ?_))
      rw [e, impl_one (by omega)]
    · have e : ((nodeOf l i).f0 == 6) = false := by rw [beq_eq_false_iff_ne]; exact h6
      obtain ⟨h4, hB⟩ := hBo (by simp [oneKind, h3, h6])
      rw [if_neg (by omega), h4]
      by_cases h7 : kd l i = 7
      · rw [if_pos h7]
        have e7 : (nodeOf l i).f0 = 7 := h7
        refine evF h3 (ev_end (fun k => ?_))
        rw [e, e7, impl_dh (by omega) (by omega) (by omega) hr]
      · rw [if_neg h7]
        refine evF h3 (ev_end (fun k => ?_))
        rw [e, impl_two (y := (nodeOf l i).f0) (by omega) (by omega) h7]
theorem impl_partsOut_ok {l : List S34} (hok : aok l = true) {H : List Bool} (hH : H.length = l.length) {i : Nat} (hi : i < l.length) :
    impl_partsOut.f (nodeOf l i).f0 (nodeOf l i).f1 (nodeOf l i).f2 (nodeOf l i).f3 (i : Int) H = some ((outL l H i).map (fun o : Nat => (o : Int))) := by
  unfold impl_partsOut.f outL
  have ek : (nodeOf l i).f0 = kd l i := rfl
  rw [if_pos (by omega), if_pos (by omega), rdOf_has, ek]
  by_cases hh : has H i = true
  · rw [if_pos hh, if_pos hh]
    by_cases h2 : kd l i = 2
    · obtain ⟨h4, hA, hBo⟩ := part_le hok hi (by omega)
      obtain ⟨h5, hB⟩ := hBo (by simp [oneKind, h2])
      rw [if_pos h2, if_pos h2, h4, h5]; rfl
    · rw [if_neg h2, if_neg h2]
      by_cases h8 : kd l i = 8
      · obtain ⟨h4, hA, hBo⟩ := part_le hok hi (by omega)
        obtain ⟨h5, hB⟩ := hBo (by simp [oneKind, h8])
        rw [if_pos h8, if_pos h8, h5]; rfl
      · rw [if_neg h8, if_neg h8]
        by_cases h5 : kd l i = 5
        · obtain ⟨h4, hA, hBo⟩ := part_le hok hi (by omega)
          obtain ⟨h6, hB⟩ := hBo (by simp [oneKind, h5])
          rw [if_pos h5, if_pos h5, h4, if_pos (by omega), if_pos (by omega), rdOf_has, h6]
          by_cases hA' : has H (pA l i) = true
          · rw [if_pos hA', if_pos hA']; rfl
          · rw [if_neg hA', if_neg hA']; rfl
        · rw [if_neg h5, if_neg h5]; rfl
  · rw [if_neg hh, if_neg hh]; rfl
theorem outL_good {l : List S34} (hok : aok l = true) {S : Nat → Prop} {H : List Bool} (h : Inv l S H) {i : Nat} (hi : i < l.length) : ∀ o ∈ outL l H i, o < l.length ∧ Der l S o := by
  intro o ho
  by_cases hh : has H i = true
  · have hd := Outs.der h hi hh ((outL_iff hh).1 ho)
    exact ⟨der_lt (fun j hj => ((aok_parts hok).2 j hj).1) hd, hd⟩
  · rw [outL_nil hh] at ho; cases ho
/-- the loop over what comes out of a node -/
theorem impl_outs_ev {l : List S34} {S : Nat → Prop} {P : List Int} {i : Int} (os : List Nat) (ho : ∀ o ∈ os, o < l.length ∧ Der l S o) (hos : os.length ≤ 2) :
    ∀ (d j : Nat), os.length - j = d → j ≤ os.length → ∀ (H : List Bool) (fl : Bool), Inv l S H →
    ∃ H' fl', Adv l S H fl H' fl' ∧ (∀ o ∈ os.drop j, has H' o = true) ∧ ∀ r, Ev (fun k => impl_Reach.l3 k H' P fl' l (l.length : Int) (wrap64 (i + 1)) l) r →
      Ev (fun k => impl_Reach.l4 k H P fl l (l.length : Int) i (os.map (fun o : Nat => (o : Int))) (os.length : Int) (j : Int) l) r := by
  intro d
  induction d with
  | zero =>
    intro j hd hj H fl h
    refine ⟨H, fl, Adv.refl h fl, fun o ho => ?_, fun r e => ?_⟩
    · rw [List.drop_eq_nil_of_le (by omega)] at ho; cases ho
    · exact Ev.step (fun k => by rw [impl_Reach.l4, if_neg (by omega)]) e
  | succ d ih =>
    intro j hd hj H fl h
    have hlt : j < os.length := by omega
    have hm : j < (os.map (fun o : Nat => (o : Int))).length := by simpa using hlt
    have hv : rd (os.map (fun o : Nat => (o : Int))) (j : Int) = ((os[j] : Nat) : Int) := by rw [rd_nat hm, List.getElem_map]
    obtain ⟨ho1, ho2⟩ := ho os[j] (List.getElem_mem hlt)
    have hl := h.len
    have key : ∀ H1 f1, Adv l S H fl H1 f1 → has H1 os[j] = true → (∀ r, Ev (fun k => impl_Reach.l4 k H1 P f1 l (l.length : Int) i (os.map (fun o : Nat => (o : Int))) (os.length : Int) ((j + 1 : Nat) : Int) l) r → Ev (fun k => impl_Reach.l4 k H P fl l (l.length : Int) i (os.map (fun o : Nat => (o : Int))) (os.length : Int) (j : Int) l) r) →
        ∃ H' fl', Adv l S H fl H' fl' ∧ (∀ o ∈ os.drop j, has H' o = true) ∧ ∀ r, Ev (fun k => impl_Reach.l3 k H' P fl' l (l.length : Int) (wrap64 (i + 1)) l) r → Ev (fun k => impl_Reach.l4 k H P fl l (l.length : Int) i (os.map (fun o : Nat => (o : Int))) (os.length : Int) (j : Int) l) r := by
      intro H1 f1 a1 hh g
      obtain ⟨H', fl', a2, h2, h3⟩ := ih (j + 1) (by omega) (by omega) H1 f1 a1.inv
      refine ⟨H', fl', a1.trans a2, fun o ho => ?_, fun r e => g r (h3 r e)⟩
      rw [List.drop_eq_getElem_cons hlt] at ho
      rcases List.mem_cons.1 ho with e | e
      · rw [e]; exact a2.sub _ hh
      · exact h2 o e
    by_cases hh : has H os[j] = true
    · refine key H fl (Adv.refl h fl) hh (fun r e => Ev.step (fun k => by rw [impl_Reach.l4, if_pos (by omega), if_pos (by omega), if_pos (by omega), hv, if_pos (by omega), if_pos (by omega), rdOf_has, if_pos hh, w64 (by omega) (by omega)]; rfl) e)
    · have hm := Adv.mark h fl ho1 ho2
      have e1 : (fl || !has H os[j]) = true := by simp [hh]
      rw [e1] at hm
      refine key _ true hm (by rw [has_set _ _ _ (by omega)]; simp) (fun r e => Ev.step (fun k => by rw [impl_Reach.l4, if_pos (by omega), if_pos (by omega), if_pos (by omega), hv, if_pos (by omega), if_pos (by omega), rdOf_has, if_neg hh, w64 (by omega) (by omega), Int.toNat_natCast]; rfl) e)
def AtomsHad (l : List S34) (H : List Bool) : Prop := ∀ k, k < l.length → kd l k = 1 → (nodeOf l k).f1 < 1000 → has H k = true
/-- one walk over the nodes -/
theorem impl_pass_ev {l : List S34} (hok : aok l = true) {S : Nat → Prop} {P : List Int} (hP : Pubs l 0 P l.length) :
    ∀ (d i : Nat), l.length - i = d → i ≤ l.length → ∀ (H : List Bool) (fl : Bool), Inv l S H → AtomsHad l H →
    ∃ H' fl', Adv l S H fl H' fl' ∧ (fl' = false → ∀ k, i ≤ k → k < l.length → Stable l H k) ∧ ∀ r, Ev (fun k => impl_Reach.l2 k H' P fl' l) r →
      Ev (fun k => impl_Reach.l3 k H P fl l (l.length : Int) (i : Int) l) r := by
  have hn := (aok_parts hok).1
  intro d
  induction d with
  | zero =>
    intro i hd hi H fl h _
    exact ⟨H, fl, Adv.refl h fl, fun _ k h1 h2 => by omega, fun r e => Ev.step (fun k => by rw [impl_Reach.l3, if_neg (by omega)]) e⟩
  | succ d ih =>
    intro i hd hi H fl h hat
    have hlt : i < l.length := by omega
    have hl := h.len
    have hnode : rd_T34 l (i : Int) = nodeOf l i := rfl
    -- what is made of the node
    have stepA : ∃ H1 f1, Adv l S H fl H1 f1 ∧ (f1 = false → (Made l H i → has H i = true)) ∧ ∀ r, Ev (fun k => impl_Reach.j5 k H1 P f1 (i : Int) l (l.length : Int) (i : Int) l (nodeOf l i).f0 (nodeOf l i).f1 (nodeOf l i).f2 (nodeOf l i).f3) r →
        Ev (fun k => impl_Reach.l3 k H P fl l (l.length : Int) (i : Int) l) r := by
      by_cases hh : has H i = true
      · refine ⟨H, fl, Adv.refl h fl, fun _ _ => hh, fun r e => Ev.step (fun k => by rw [impl_Reach.l3, if_pos (by omega), if_pos (by omega), if_pos (by omega), if_pos (by omega), rdOf_has, if_pos hh, hnode]) ?_⟩
        exact Ev.step (fun k => by rw [impl_Reach.j4, if_neg (by simp)]) e
      · have go : ∀ m : Bool, Ev (fun k => impl_canMake.f k (nodeOf l i).f0 (nodeOf l i).f1 (nodeOf l i).f2 (nodeOf l i).f3 H P) m → (m = true → Made l H i) → (m = false → Made l H i → has H i = true) →
            ∃ H1 f1, Adv l S H fl H1 f1 ∧ (f1 = false → (Made l H i → has H i = true)) ∧ ∀ r, Ev (fun k => impl_Reach.j5 k H1 P f1 (i : Int) l (l.length : Int) (i : Int) l (nodeOf l i).f0 (nodeOf l i).f1 (nodeOf l i).f2 (nodeOf l i).f3) r → Ev (fun k => impl_Reach.l3 k H P fl l (l.length : Int) (i : Int) l) r := by
          intro m hm h1 h2
          cases m with
          | true =>
            have ha := Adv.mark h fl hlt (Made.der h hlt (h1 rfl))
            have e1 : (fl || !has H i) = true := by simp [hh]
            rw [e1] at ha
            refine ⟨_, true, ha, fun e => (by cases e), fun r e => Ev.step (fun k => by rw [impl_Reach.l3, if_pos (by omega), if_pos (by omega), if_pos (by omega), if_pos (by omega), rdOf_has, if_neg hh, hnode]) (Ev.bind hm ?_)⟩
            exact Ev.step (fun k => by rw [impl_Reach.j4, if_pos rfl, if_pos (by omega), if_pos (by omega), Int.toNat_natCast]) e
          | false =>
            refine ⟨H, fl, Adv.refl h fl, fun _ => h2 rfl, fun r e => Ev.step (fun k => by rw [impl_Reach.l3, if_pos (by omega), if_pos (by omega), if_pos (by omega), if_pos (by omega), rdOf_has, if_neg hh, hnode]) (Ev.bind hm ?_)⟩
            exact Ev.step (fun k => by rw [impl_Reach.j4, if_neg (by simp)]) e
        by_cases h1 : kd l i = 1
        · refine go false ⟨0, fun k _ => ?_⟩ (fun e => by cases e) (fun _ hm => ?_)
          · show impl_canMake.f k _ _ _ _ H P = some false
            unfold impl_canMake.f
            rw [if_pos (show (nodeOf l i).f0 = 1 from h1)]
          · rcases hm with e | e | e | e
            · exact hat i hlt e.1 e.2
            · omega
            · omega
            · exact absurd h1 e.1.1
        · have hmi := madeB_iff hok (d := 1) (H := H) hP (by omega) hlt
          exact go _ (impl_canMake_ev hok hP (by omega) hlt h1) (fun e => hmi.1 e) (fun e hm => by rw [hmi.2 hm] at e; cases e)
    obtain ⟨H1, f1, a1, s1, g1⟩ := stepA
    have hl1 := a1.inv.len
    have hos : (outL l H1 i).length ≤ 2 := by
      unfold outL
      repeat' split
      all_goals simp
    obtain ⟨H2, f2, a2, s2, g2⟩ := impl_outs_ev (P := P) (i := (i : Int)) (outL l H1 i) (outL_good hok a1.inv hlt) hos (outL l H1 i).length 0 (by omega) (by omega) H1 f1 a1.inv
    obtain ⟨H3, f3, a3, s3, g3⟩ := ih (i + 1) (by omega) (by omega) H2 f2 a2.inv (fun k h1 h2 h3 => a2.sub _ (a1.sub _ (hat k h1 h2 h3)))
    refine ⟨H3, f3, a1.trans (a2.trans a3), fun e k hk1 hk2 => ?_, fun r e => g1 r ?_⟩
    · obtain ⟨e2, q2⟩ := a3.same e
      obtain ⟨e1, q1⟩ := a2.same e2
      obtain ⟨_, q0⟩ := a1.same e1
      by_cases ek : k = i
      · subst ek
        refine ⟨s1 e1, fun hh o hO => ?_⟩
        have hh1 : has H1 k = true := a1.sub _ hh
        have := s2 o (by rw [List.drop_zero]; exact (outL_iff hh1).2 (by rw [q0]; exact hO))
        rw [q1, q0] at this
        exact this
      · have := s3 e k (by omega) hk2
        rw [q1, q0] at this
        exact this
    · refine Ev.step (fun k => by rw [impl_Reach.j5]) (ev_now (impl_partsOut_ok hok (by omega) hlt) ?_)
      rw [List.length_map]
      exact g2 r (by rw [w64 (by omega) (by omega)]; exact g3 r e)
theorem impl_all_ev {l : List S34} (hok : aok l = true) {S : Nat → Prop} {P : List Int} (hP : Pubs l 0 P l.length) :
    ∀ (n : Nat) (H : List Bool), l.length - cnt H ≤ n → Inv l S H → AtomsHad l H → (∀ k, k < l.length → S k → has H k = true) → ∃ H', IsReach l S H' ∧ Ev (fun k => impl_Reach.l2 k H P true l) H' := by
  intro n
  induction n with
  | zero =>
    intro H hn h hat hs
    obtain ⟨H1, f1, a1, s1, g1⟩ := impl_pass_ev hok hP l.length 0 (by omega) (by omega) H false h hat
    have hc1 := cnt_le H1
    have hl1 := a1.inv.len
    cases f1 with
    | true =>
      rcases a1.more rfl with e | e
      · cases e
      · omega
    | false =>
      obtain ⟨_, e⟩ := a1.same rfl
      refine ⟨H, isReach_of h hs (fun k hk => s1 rfl k (by omega) hk), Ev.step (fun k => by rw [impl_Reach.l2, if_pos rfl]; rfl) (g1 H ?_)⟩
      rw [e]
      exact ev_end (fun k => by rw [impl_Reach.l2, if_neg (by simp)])
  | succ n ih =>
    intro H hn h hat hs
    obtain ⟨H1, f1, a1, s1, g1⟩ := impl_pass_ev hok hP l.length 0 (by omega) (by omega) H false h hat
    cases f1 with
    | true =>
      rcases a1.more rfl with e | e
      · cases e
      · obtain ⟨H', h1, h2⟩ := ih H1 (by omega) a1.inv (fun k h1 h2 h3 => a1.sub _ (hat k h1 h2 h3)) (fun k h1 h2 => a1.sub _ (hs k h1 h2))
        exact ⟨H', h1, Ev.step (fun k => by rw [impl_Reach.l2, if_pos rfl]; rfl) (g1 H' h2)⟩
    | false =>
      obtain ⟨_, e⟩ := a1.same rfl
      refine ⟨H, isReach_of h hs (fun k hk => s1 rfl k (by omega) hk), Ev.step (fun k => by rw [impl_Reach.l2, if_pos rfl]; rfl) (g1 H ?_)⟩
      rw [e]
      exact ev_end (fun k => by rw [impl_Reach.l2, if_neg (by simp)])
def known (ks : List Int) (k : Nat) : Prop := (k : Int) ∈ ks
theorem impl_seeds_ev {l : List S34} (hok : aok l = true) (ks : List Int) (hks : ks.length ≤ 1048576) :
    ∀ (d j : Nat), ks.length - j = d → j ≤ ks.length → ∀ H, Inv l (known ks) H → (∀ x ∈ ks.take j, ∀ k : Nat, x = (k : Int) → k < l.length → has H k = true) →
    ∃ H', Inv l (known ks) H' ∧ (∀ k, k < l.length → known ks k → has H' k = true) ∧ ∀ r, Ev (fun k => impl_Reach.l1 k H' (List.replicate l.length 0) l (l.length : Int) 0 l) r → Ev (fun k => impl_Reach.l0 k H ks (ks.length : Int) (j : Int) l) r := by
  have hn := (aok_parts hok).1
  intro d
  induction d with
  | zero =>
    intro j hd hj H h hs
    refine ⟨H, h, fun k hk hS => hs _ (by rw [List.take_of_length_le (by omega)]; exact hS) k rfl hk, fun r e => Ev.step (fun k => by rw [impl_Reach.l0, if_neg (by omega), if_pos (by omega), Int.toNat_natCast, if_pos (by omega)]) e⟩
  | succ d ih =>
    intro j hd hj H h hs
    have hlt : j < ks.length := by omega
    have hl := h.len
    have hv := rd_nat hlt
    have hf : impl_hasNode.f l (ks[j]) = some (decide (0 ≤ ks[j] ∧ ks[j] ≤ (l.length : Int) - 1)) := by
      rw [impl_hasNode_f l (ks[j]) (by omega), Bool.decide_and]
    by_cases hx : 0 ≤ ks[j] ∧ ks[j] ≤ (l.length : Int) - 1
    · obtain ⟨m, hm⟩ := Int.eq_ofNat_of_zero_le hx.1
      have hmem : known ks m := by unfold known; rw [← hm]; exact List.getElem_mem hlt
      have hml : m < l.length := by omega
      have hx3 : ks[j] < (H.length : Int) := by omega
      obtain ⟨H', h1, h2, h3⟩ := ih (j + 1) (by omega) (by omega) (H.set m true) (h.set hml (.seed hml hmem)) (by
        intro x hx2 k hk hkl
        rw [List.take_succ_eq_append_getElem hlt] at hx2
        rw [has_set _ _ _ (by omega)]
        rcases List.mem_append.1 hx2 with e | e
        · rw [hs x e k hk hkl]; simp
        · have : x = ks[j] := by simpa using e
          have : k = m := by omega
          simp [this])
      refine ⟨H', h1, h2, fun r e => Ev.step (fun k => by rw [impl_Reach.l0, if_pos (by omega), if_pos (by omega), if_pos (by omega), hv]) (ev_now hf (evT (decide_eq_true hx) (evT hx.1 (evT hx3 ?_))))⟩
      rw [w64 (by omega) (by omega), hm, Int.toNat_natCast]
      exact h3 r e
    · obtain ⟨H', h1, h2, h3⟩ := ih (j + 1) (by omega) (by omega) H h (by
        intro x hx2 k hk hkl
        rw [List.take_succ_eq_append_getElem hlt] at hx2
        rcases List.mem_append.1 hx2 with e | e
        · exact hs x e k hk hkl
        · have : x = ks[j] := by simpa using e
          omega)
      refine ⟨H', h1, h2, fun r e => Ev.step (fun k => by rw [impl_Reach.l0, if_pos (by omega), if_pos (by omega), if_pos (by omega), hv]) (ev_now hf (evF (fun e => hx (of_decide_eq_true e)) ?_))⟩
      rw [w64 (by omega) (by omega)]
      exact h3 r e
theorem impl_start_ev {l : List S34} (hok : aok l = true) {S : Nat → Prop} :
    ∀ (d i : Nat), l.length - i = d → i ≤ l.length → ∀ H P, Inv l S H → Pubs l 0 P i → (∀ k, k < i → kd l k = 1 → (nodeOf l k).f1 < 1000 → has H k = true) →
    ∃ H' P', Inv l S H' ∧ Pubs l 0 P' l.length ∧ AtomsHad l H' ∧ (∀ k, has H k = true → has H' k = true) ∧ ∀ r, Ev (fun k => impl_Reach.l2 k H' P' true l) r → Ev (fun k => impl_Reach.l1 k H P l (l.length : Int) (i : Int) l) r := by
  have hn := (aok_parts hok).1
  intro d
  induction d with
  | zero =>
    intro i hd hi H P h hP hat
    have e : i = l.length := by omega
    subst e
    exact ⟨H, P, h, hP, hat, fun _ h => h, fun r e => Ev.step (fun k => by rw [impl_Reach.l1, if_neg (by omega)]) e⟩
  | succ d ih =>
    intro i hd hi H P h hP hat
    have hlt : i < l.length := by omega
    have hl := h.len
    have hPl := hP.len
    have hnode : rd_T34 l (i : Int) = nodeOf l i := rfl
    have ek : (nodeOf l i).f0 = kd l i := rfl
    by_cases h6 : kd l i = 6
    · obtain ⟨h2, hA, _⟩ := part_le hok hlt (by omega)
      obtain ⟨H', P', q1, q2, q3, q4, q5⟩ := ih (i + 1) (by omega) (by omega) H _ h (hP.put hlt h6) (fun k hk h1 h3 => by
        by_cases e : k = i
        · rw [e] at h1; omega
        · exact hat k (by omega) h1 h3)
      refine ⟨H', P', q1, q2, q3, q4, fun r e => Ev.step (fun k => by rw [impl_Reach.l1, if_pos (by omega), if_pos (by omega), if_pos (by omega), hnode, ek, if_pos h6, h2, if_pos (by omega), if_pos (by omega), Option.bind_some, if_neg (by omega), w64 (by omega) (by omega), Int.toNat_natCast]; rfl) (q5 r e)⟩
    · by_cases h1 : kd l i = 1 ∧ (nodeOf l i).f1 < 1000
      · obtain ⟨H', P', q1, q2, q3, q4, q5⟩ := ih (i + 1) (by omega) (by omega) (H.set i true) P (h.set hlt (.atom hlt h1.1 h1.2)) (hP.skip h6) (fun k hk h2 h3 => by
          rw [has_set _ _ _ (by omega)]
          by_cases e : k = i
          · simp [e]
          · rw [hat k (by omega) h2 h3]; simp)
        refine ⟨H', P', q1, q2, q3, fun k hk => q4 k (by rw [has_set _ _ _ (by omega), hk]; simp), fun r e => Ev.step (fun k => by rw [impl_Reach.l1, if_pos (by omega), if_pos (by omega), if_pos (by omega), hnode, ek, if_neg h6, if_pos h1.1, if_pos h1.2, if_pos (by omega), w64 (by omega) (by omega), Int.toNat_natCast]; rfl) (q5 r e)⟩
      · obtain ⟨H', P', q1, q2, q3, q4, q5⟩ := ih (i + 1) (by omega) (by omega) H P h (hP.skip h6) (fun k hk h2 h3 => by
          by_cases e : k = i
          · rw [e] at h2 h3; exact absurd ⟨h2, h3⟩ h1
          · exact hat k (by omega) h2 h3)
        refine ⟨H', P', q1, q2, q3, q4, fun r e => Ev.step (fun k => by
          rw [impl_Reach.l1, if_pos (by omega), if_pos (by omega), if_pos (by omega), hnode, ek, if_neg h6, w64 (by omega) (by omega)]
          by_cases e1 : kd l i = 1
          · rw [if_pos e1, if_neg (fun e2 => h1 ⟨e1, e2⟩)]; rfl
          · rw [if_neg e1]; rfl) (q5 r e)⟩
theorem inv_none (l : List S34) (S : Nat → Prop) : Inv l S (List.replicate l.length false) := by
  refine ⟨by simp, fun i h => ?_⟩
  have := has_lt h
  unfold has at h
  rw [List.getD_eq_getElem?_getD, List.getElem?_eq_getElem this, List.getElem_replicate] at h
  cases h
theorem impl_Reach_f (l : List S34) (hw : l.all wf1 = true) (hl : l.length ≤ 1048576) (ks : List Int) (hks : ks.length ≤ 1048576) :
    ∃ H, (aok l = true → IsReach l (known ks) H) ∧ (aok l = false → H = []) ∧ Ev (fun k => impl_Reach.f k l ks) H := by
  have hA : impl_ArenaOk.f l = some (aok l) := by unfold impl_ArenaOk.f; rw [if_pos hw]
  cases hok : aok l with
  | false => 
    refine ⟨[], fun e => (by cases e), fun _ => rfl, ?_⟩
    rw [hok] at hA
    exact ev_now hA (evF (by simp) (Ev.now _))
  | true =>
    rw [hok] at hA
    have hn := (aok_parts hok).1
    obtain ⟨H1, i1, s1, g1⟩ := impl_seeds_ev hok ks hks ks.length 0 (by omega) (by omega) _ (inv_none l _) (fun x hx => by simp at hx)
    obtain ⟨H2, P, i2, p2, a2, s2, g2⟩ := impl_start_ev hok l.length 0 (by omega) (by omega) H1 _ i1 (Pubs.none l 0) (fun k hk => by omega)
    obtain ⟨H3, r3, g3⟩ := impl_all_ev hok p2 l.length H2 (by omega) i2 a2 (fun k hk hS => s2 k (s1 k hk hS))
    refine ⟨H3, fun _ => r3, fun e => (by cases e), ev_now hA (evT rfl (evT (by omega) (evT (by rw [Int.toNat_natCast]; omega) ?_)))⟩
    rw [Int.toNat_natCast]
    exact g1 _ (g2 _ g3)

/-! the reference's own walk over what can be had -/
theorem spec_dh {H : List Bool} {P : List Int} {a b : Nat} (ha : a < H.length) (hb : b < H.length) (hP : P.length = H.length) (hr : ∀ x : Nat, x < H.length → rd P (x : Int) < (H.length : Int)) (k : Nat) (y0 y1 : Int) : spec_l05Made.j0 (k + 1) H P 7 false y0 y1 (a : Int) (b : Int) = some ((has H a && pubHad H P 0 b) || (has H b && pubHad H P 0 a)) := by
  have a1 := hr a ha
  have b1 := hr b hb
  have e1 : ((a : Int) < (H.length : Int)) = True := eq_true (by omega)
  have e2 : ((b : Int) < (H.length : Int)) = True := eq_true (by omega)
  have e3 : ((a : Int) < (P.length : Int)) = True := eq_true (by omega)
  have e4 : ((b : Int) < (P.length : Int)) = True := eq_true (by omega)
  have e5 : (rd P (a : Int) < (H.length : Int)) = True := eq_true a1
  have e6 : (rd P (b : Int) < (H.length : Int)) = True := eq_true b1
  have e7 : (0 ≤ (a : Int)) = True := eq_true (by omega)
  have e8 : (0 ≤ (b : Int)) = True := eq_true (by omega)
  rw [spec_l05Made.j0]
  simp only [e1, e2, e3, e4, e5, e6, e7, e8, if_true, rdOf_has]
  unfold pubHad
  by_cases c1 : rd P (a : Int) ≥ 0
  · have f1 : (rd P (a : Int) ≥ 0) = True := eq_true c1
    have f2 : (0 ≤ rd P (a : Int)) = True := eq_true (by omega)
    have f3 : decide (rd P (a : Int) ≥ 0) = true := decide_eq_true (by omega)
    simp only [f1, f2, f3, if_true]
    by_cases c2 : rd P (b : Int) ≥ 0
    · have g1 : (rd P (b : Int) ≥ 0) = True := eq_true c2
      have g2 : (0 ≤ rd P (b : Int)) = True := eq_true (by omega)
      have g3 : decide (rd P (b : Int) ≥ 0) = true := decide_eq_true (by omega)
      simp only [g1, g2, g3, if_true]
      cases has H a <;> cases has H b <;> cases rdOf false H (rd P (a : Int)) <;> cases rdOf false H (rd P (b : Int)) <;> rfl
    · have g1 : (rd P (b : Int) ≥ 0) = False := eq_false c2
      have g3 : decide (rd P (b : Int) ≥ 0) = false := decide_eq_false (by omega)
      simp only [g1, g3, if_false]
      cases has H a <;> cases has H b <;> cases rdOf false H (rd P (a : Int)) <;> rfl
  · have f1 : (rd P (a : Int) ≥ 0) = False := eq_false c1
    have f3 : decide (rd P (a : Int) ≥ 0) = false := decide_eq_false (by omega)
    simp only [f1, f3, if_false]
    by_cases c2 : rd P (b : Int) ≥ 0
    · have g1 : (rd P (b : Int) ≥ 0) = True := eq_true c2
      have g2 : (0 ≤ rd P (b : Int)) = True := eq_true (by omega)
      have g3 : decide (rd P (b : Int) ≥ 0) = true := decide_eq_true (by omega)
      simp only [g1, g2, g3, if_true]
      cases has H a <;> cases has H b <;> cases rdOf false H (rd P (b : Int)) <;> rfl
    · have g1 : (rd P (b : Int) ≥ 0) = False := eq_false c2
      have g3 : decide (rd P (b : Int) ≥ 0) = false := decide_eq_false (by omega)
      simp only [g1, g3, if_false]
      cases has H a <;> cases has H b <;> rfl
theorem spec_one {H : List Bool} {P : List Int} {a : Nat} (ha : a < H.length) (k : Nat) (y y0 y1 y3 : Int) : spec_l05Made.j0 (k + 1) H P y true y0 y1 (a : Int) y3 = some (has H a) := by
  rw [spec_l05Made.j0, if_pos rfl, if_pos (by omega), if_pos (by omega), rdOf_has]
theorem spec_two {H : List Bool} {P : List Int} {a b : Nat} (ha : a < H.length) (hb : b < H.length) {y : Int} (hy : y ≠ 7) (k : Nat) (y0 y1 : Int) : spec_l05Made.j0 (k + 1) H P y false y0 y1 (a : Int) (b : Int) = some (has H a && has H b) := by
  rw [spec_l05Made.j0, if_neg (by simp), if_neg hy, if_pos (by omega), if_pos (by omega), rdOf_has]
  by_cases h : has H a = true
  · rw [if_pos h, if_pos (by omega), if_pos (by omega), rdOf_has, h]; simp
  · rw [if_neg h]; simp [h]
theorem spec_made_ev {l : List S34} (hok : aok l = true) {P : List Int} {H : List Bool} (hP : Pubs l (-1) P l.length) (hH : H.length = l.length) {i : Nat} (hi : i < l.length) :
    Ev (fun k => spec_l05Made.f k l H P (i : Int)) (madeB H P 0 (kd l i) (nodeOf l i).f1 (pA l i) (pB l i)) := by
  have hnode : rd_T34 l (i : Int) = nodeOf l i := rfl
  have ek : (nodeOf l i).f0 = kd l i := rfl
  refine evT (by omega) (evT (by omega) ?_)
  rw [hnode]
  by_cases h1 : kd l i = 1
  · refine ev_cast (evT h1 (Ev.now _)) ?_
    unfold madeB
    rw [if_pos h1]
  obtain ⟨h2, hA, hBo⟩ := part_le hok hi h1
  have hPl := hP.len
  have hr : ∀ x : Nat, x < H.length → rd P (x : Int) < (H.length : Int) := fun x hx => by
    have := pubs_range hP (by omega) (a := x) (by omega)
    omega
  refine evF h1 ?_
  unfold madeB
  rw [if_neg h1, h2]
  by_cases h3 : kd l i = 3
  · have e : ((nodeOf l i).f0 == 3) = true := by rw [beq_iff_eq]; exact h3
    rw [if_pos (.inl h3)]
    refine evT h3 (ev_end (fun k => ?_))
    rw [e, spec_one (by omega)]
  · by_cases h6 : kd l i = 6
    · have e : ((nodeOf l i).f0 == 6) = true := by rw [beq_iff_eq]; exact h6
      rw [if_pos (.inr h6)]
      refine evF h3 (ev_end (fun k => ?_))
      rw [e, spec_one (by omega)]
    · have e : ((nodeOf l i).f0 == 6) = false := by rw [beq_eq_false_iff_ne]; exact h6
      obtain ⟨h4, hB⟩ := hBo (by simp [oneKind, h3, h6])
      rw [if_neg (by omega), h4]
      by_cases h7 : kd l i = 7
      · rw [if_pos h7]
        have e7 : (nodeOf l i).f0 = 7 := h7
        refine evF h3 (ev_end (fun k => ?_))
        rw [e, e7, spec_dh (by omega) (by omega) (by omega) hr]
      · rw [if_neg h7]
        refine evF h3 (ev_end (fun k => ?_))
        rw [e, spec_two (y := (nodeOf l i).f0) (by omega) (by omega) h7]
/-- the parts of a node that is had -/
theorem spec_parts_ok {l : List S34} (hok : aok l = true) {S : Nat → Prop} {H : List Bool} (h : Inv l S H) {i : Nat} (hi : i < l.length) (hh : has H i = true) (fl : Bool) :
    ∃ b H', spec_l05Parts.f l H (i : Int) = some (b, H') ∧ Adv l S H fl H' (if b = true then true else fl) ∧ ((if b = true then true else fl) = false → ∀ o, Outs l H i o → has H o = true) := by
  have hnode : rd_T34 l (i : Int) = nodeOf l i := rfl
  have ek : (nodeOf l i).f0 = kd l i := rfl
  have hlen := h.len
  have hlt := fun o (ho : Outs l H i o) => der_lt (fun j hj => ((aok_parts hok).2 j hj).1) (Outs.der h hi hh ho)
  have one : ∀ o, Outs l H i o → (∀ o', Outs l H i o' → o' = o) → Adv l S H fl (H.set o true) (if (!has H o) = true then true else fl) ∧ ((if (!has H o) = true then true else fl) = false → ∀ o, Outs l H i o → has H o = true) := by
    intro o ho hall
    have hm := Adv.mark h fl (hlt o ho) (Outs.der h hi hh ho)
    cases hO : has H o with
    | true =>
      rw [hO] at hm
      simp only [Bool.not_true, Bool.or_false] at hm
      exact ⟨hm, fun _ o' ho' => by rw [hall o' ho']; exact hO⟩
    | false =>
      rw [hO] at hm
      simp only [Bool.not_false, Bool.or_true] at hm
      exact ⟨hm, fun e => by cases e⟩
  unfold spec_l05Parts.f
  rw [if_pos (by omega), if_pos (by omega), hnode, ek]
  by_cases h2 : kd l i = 2
  · obtain ⟨h4, hA, hBo⟩ := part_le hok hi (by omega)
    obtain ⟨h5, hB⟩ := hBo (by simp [oneKind, h2])
    have oA : Outs l H i (pA l i) := .inl ⟨h2, .inl rfl⟩
    have oB : Outs l H i (pB l i) := .inl ⟨h2, .inr rfl⟩
    rw [if_pos h2, h4, h5, if_pos (by omega), if_pos (by omega), rdOf_has]
    by_cases hA' : has H (pA l i) = true
    · rw [if_pos hA', if_pos (by omega), if_pos (by omega), rdOf_has, Int.toNat_natCast, Int.toNat_natCast, set_has hA']
      refine ⟨_, _, rfl, ?_⟩
      have hm := Adv.mark h fl (hlt _ oB) (Outs.der h hi hh oB)
      cases hO : has H (pB l i) with
      | true =>
        rw [hO] at hm
        simp only [Bool.not_true, Bool.or_false] at hm
        refine ⟨hm, fun _ o ho => ?_⟩
        rcases ho with ⟨_, e | e⟩ | ⟨e, _⟩ | ⟨e, _⟩
        · rw [e]; exact hA'
        · rw [e]; exact hO
        · omega
        · omega
      | false =>
        rw [hO] at hm
        simp only [Bool.not_false, Bool.or_true] at hm
        exact ⟨hm, fun e => by cases e⟩
    · rw [if_neg hA', if_pos (by omega), if_pos (by omega), Int.toNat_natCast, Int.toNat_natCast]
      refine ⟨_, _, rfl, ?_⟩
      have hm := Adv.mark h fl (hlt _ oA) (Outs.der h hi hh oA)
      have e1 : (fl || !has H (pA l i)) = true := by simp [hA']
      rw [e1] at hm
      have hm2 := Adv.mark hm.inv true (hlt _ oB) (Outs.der h hi hh oB)
      rw [Bool.true_or] at hm2
      exact ⟨hm.trans hm2, fun e => by cases e⟩
  · rw [if_neg h2]
    by_cases h8 : kd l i = 8
    · obtain ⟨h4, hA, hBo⟩ := part_le hok hi (by omega)
      obtain ⟨h5, hB⟩ := hBo (by simp [oneKind, h8])
      rw [if_pos h8, h5, if_pos (by omega), if_pos (by omega), rdOf_has, Int.toNat_natCast]
      refine ⟨_, _, rfl, one _ (.inr (.inl ⟨h8, rfl⟩)) (fun o ho => ?_)⟩
      rcases ho with ⟨e, _⟩ | ⟨_, e⟩ | ⟨e, _⟩
      · omega
      · exact e
      · omega
    · rw [if_neg h8]
      by_cases h5 : kd l i = 5
      · obtain ⟨h4, hA, hBo⟩ := part_le hok hi (by omega)
        obtain ⟨h6, hB⟩ := hBo (by simp [oneKind, h5])
        rw [if_pos h5, h4, if_pos (by omega), if_pos (by omega), rdOf_has]
        by_cases hA' : has H (pA l i) = true
        · rw [if_pos hA', h6, if_pos (by omega), if_pos (by omega), rdOf_has, Int.toNat_natCast]
          refine ⟨_, _, rfl, one _ (.inr (.inr ⟨h5, hA', rfl⟩)) (fun o ho => ?_)⟩
          rcases ho with ⟨e, _⟩ | ⟨e, _⟩ | ⟨_, _, e⟩
          · omega
          · omega
          · exact e
        · rw [if_neg hA']
          refine ⟨_, _, rfl, Adv.refl h fl, fun _ o ho => ?_⟩
          rcases ho with ⟨e, _⟩ | ⟨e, _⟩ | ⟨_, e, _⟩
          · omega
          · omega
          · exact absurd e hA'
      · rw [if_neg h5]
        refine ⟨_, _, rfl, Adv.refl h fl, fun _ o ho => ?_⟩
        rcases ho with ⟨e, _⟩ | ⟨e, _⟩ | ⟨e, _⟩
        · omega
        · omega
        · omega
/-- the walk up -/
theorem spec_up_ev {l : List S34} (hok : aok l = true) {S : Nat → Prop} {P : List Int} (hP : Pubs l (-1) P l.length) :
    ∀ (d i : Nat), l.length - i = d → i ≤ l.length → ∀ (H : List Bool) (fl : Bool), Inv l S H →
    ∃ H' fl', Adv l S H fl H' fl' ∧ (fl' = false → ∀ k, i ≤ k → k < l.length → Made l H k → has H k = true) ∧ ∀ r, Ev (fun k => spec_l05Reach.l3 k H' P fl' (wrap64 ((l.length : Int) - 1)) l) r →
      Ev (fun k => spec_l05Reach.l2 k H P fl (i : Int) l) r := by
  have hn := (aok_parts hok).1
  intro d
  induction d with
  | zero =>
    intro i hd hi H fl h
    have hl := h.len
    exact ⟨H, fl, Adv.refl h fl, fun _ k h1 h2 => by omega, fun r e => Ev.step (fun k => by rw [spec_l05Reach.l2, if_neg (by omega), hl]) e⟩
  | succ d ih =>
    intro i hd hi H fl h
    have hlt : i < l.length := by omega
    have hl := h.len
    have go : ∀ H1 f1, Adv l S H fl H1 f1 → (f1 = false → Made l H i → has H i = true) → (∀ r, Ev (fun k => spec_l05Reach.l2 k H1 P f1 ((i + 1 : Nat) : Int) l) r → Ev (fun k => spec_l05Reach.l2 k H P fl (i : Int) l) r) →
        ∃ H' fl', Adv l S H fl H' fl' ∧ (fl' = false → ∀ k, i ≤ k → k < l.length → Made l H k → has H k = true) ∧ ∀ r, Ev (fun k => spec_l05Reach.l3 k H' P fl' (wrap64 ((l.length : Int) - 1)) l) r → Ev (fun k => spec_l05Reach.l2 k H P fl (i : Int) l) r := by
      intro H1 f1 a1 s1 g1
      obtain ⟨H2, f2, a2, s2, g2⟩ := ih (i + 1) (by omega) (by omega) H1 f1 a1.inv
      refine ⟨H2, f2, a1.trans a2, fun e k hk1 hk2 => ?_, fun r e => g1 r (g2 r e)⟩
      obtain ⟨e1, q1⟩ := a2.same e
      obtain ⟨_, q0⟩ := a1.same e1
      by_cases ek : k = i
      · rw [ek]; exact s1 e1
      · have := s2 e k (by omega) hk2
        rw [q0] at this
        exact this
    by_cases hh : has H i = true
    · exact go H fl (Adv.refl h fl) (fun _ _ => hh) (fun r e => Ev.step (fun k => by rw [spec_l05Reach.l2, if_pos (by omega), if_pos (by omega), rdOf_has, if_pos hh, w64 (by omega) (by omega)]; rfl) e)
    · have hmi := madeB_iff hok (d := 0) (H := H) hP (by omega) hlt
      have hm := spec_made_ev hok hP hl hlt
      cases hb : madeB H P 0 (kd l i) (nodeOf l i).f1 (pA l i) (pB l i) with
      | true =>
        rw [hb] at hm hmi
        have ha := Adv.mark h fl hlt (Made.der h hlt (hmi.1 rfl))
        have e1 : (fl || !has H i) = true := by simp [hh]
        rw [e1] at ha
        refine go _ true ha (fun e => (by cases e)) (fun r e => Ev.step (fun k => by rw [spec_l05Reach.l2, if_pos (by omega), if_pos (by omega), rdOf_has, if_neg hh, w64 (x := (i : Int) + 1) (by omega) (by omega), Int.toNat_natCast]) (Ev.bind hm (evT rfl e)))
      | false =>
        rw [hb] at hm hmi
        refine go H fl (Adv.refl h fl) (fun _ hM => absurd (hmi.2 hM) (by simp)) (fun r e => Ev.step (fun k => by rw [spec_l05Reach.l2, if_pos (by omega), if_pos (by omega), rdOf_has, if_neg hh, w64 (x := (i : Int) + 1) (by omega) (by omega), Int.toNat_natCast]) (Ev.bind hm (evF Bool.false_ne_true e)))
/-- the walk down -/
theorem spec_down_ev {l : List S34} (hok : aok l = true) {S : Nat → Prop} {P : List Int} :
    ∀ (i : Nat), i ≤ l.length → ∀ (H : List Bool) (fl : Bool), Inv l S H →
    ∃ H' fl', Adv l S H fl H' fl' ∧ (fl' = false → ∀ k, k < i → has H k = true → ∀ o, Outs l H k o → has H o = true) ∧ ∀ r, Ev (fun k => spec_l05Reach.l1 k H' P fl' l) r →
      Ev (fun k => spec_l05Reach.l3 k H P fl ((i : Int) - 1) l) r := by
  have hn := (aok_parts hok).1
  intro i
  induction i with
  | zero =>
    intro hi H fl h
    exact ⟨H, fl, Adv.refl h fl, fun _ k h1 => by omega, fun r e => Ev.step (fun k => by rw [spec_l05Reach.l3, if_neg (by omega)]) e⟩
  | succ i ih =>
    intro hi H fl h
    have hlt : i < l.length := by omega
    have hl := h.len
    have hc : ((i + 1 : Nat) : Int) - 1 = (i : Int) := by omega
    rw [hc]
    have go : ∀ H1 f1, Adv l S H fl H1 f1 → (f1 = false → has H i = true → ∀ o, Outs l H i o → has H o = true) → (∀ r, Ev (fun k => spec_l05Reach.l3 k H1 P f1 ((i : Int) - 1) l) r → Ev (fun k => spec_l05Reach.l3 k H P fl (i : Int) l) r) →
        ∃ H' fl', Adv l S H fl H' fl' ∧ (fl' = false → ∀ k, k < i + 1 → has H k = true → ∀ o, Outs l H k o → has H o = true) ∧ ∀ r, Ev (fun k => spec_l05Reach.l1 k H' P fl' l) r → Ev (fun k => spec_l05Reach.l3 k H P fl (i : Int) l) r := by
      intro H1 f1 a1 s1 g1
      obtain ⟨H2, f2, a2, s2, g2⟩ := ih (by omega) H1 f1 a1.inv
      refine ⟨H2, f2, a1.trans a2, fun e k hk => ?_, fun r e => g1 r (g2 r e)⟩
      obtain ⟨e1, q1⟩ := a2.same e
      obtain ⟨_, q0⟩ := a1.same e1
      by_cases ek : k = i
      · rw [ek]; exact s1 e1
      · have := s2 e k (by omega)
        rw [q0] at this
        exact this
    by_cases hh : has H i = true
    · obtain ⟨b, H1, hp, ha, hs⟩ := spec_parts_ok hok h hlt hh fl
      refine go H1 _ ha (fun e _ => hs e) (fun r e => Ev.step (fun k => by rw [spec_l05Reach.l3, if_pos (by omega), if_pos (by omega), if_pos (by omega), rdOf_has, if_pos hh, w64 (x := (i : Int) - 1) (by omega) (by omega)]) (ev_now hp ?_))
      cases b with
      | true => exact evT rfl e
      | false => exact evF Bool.false_ne_true e
    · exact go H fl (Adv.refl h fl) (fun _ e => absurd e hh) (fun r e => Ev.step (fun k => by rw [spec_l05Reach.l3, if_pos (by omega), if_pos (by omega), if_pos (by omega), rdOf_has, if_neg hh, w64 (x := (i : Int) - 1) (by omega) (by omega)]) e)
theorem spec_round_ev {l : List S34} (hok : aok l = true) {S : Nat → Prop} {P : List Int} (hP : Pubs l (-1) P l.length) (H : List Bool) (h : Inv l S H) :
    ∃ H' fl', Adv l S H false H' fl' ∧ (fl' = false → ∀ k, k < l.length → Stable l H k) ∧ ∀ r, Ev (fun k => spec_l05Reach.l1 k H' P fl' l) r → Ev (fun k => spec_l05Reach.l1 k H P true l) r := by
  have hn := (aok_parts hok).1
  obtain ⟨H1, f1, a1, s1, g1⟩ := spec_up_ev hok hP l.length 0 (by omega) (by omega) H false h
  obtain ⟨H2, f2, a2, s2, g2⟩ := spec_down_ev hok (P := P) l.length (by omega) H1 f1 a1.inv
  refine ⟨H2, f2, a1.trans a2, fun e k hk => ?_, fun r e => Ev.step (fun k => by rw [spec_l05Reach.l1, if_pos rfl]; rfl) (g1 r (by rw [w64 (by omega) (by omega)]; exact g2 r e))⟩
  obtain ⟨e1, q1⟩ := a2.same e
  obtain ⟨_, q0⟩ := a1.same e1
  have := s2 e k hk
  rw [q0] at this
  exact ⟨s1 e1 k (by omega) hk, this⟩
theorem spec_all_ev {l : List S34} (hok : aok l = true) {S : Nat → Prop} {P : List Int} (hP : Pubs l (-1) P l.length) :
    ∀ (n : Nat) (H : List Bool), l.length - cnt H ≤ n → Inv l S H → (∀ k, k < l.length → S k → has H k = true) → ∃ H', IsReach l S H' ∧ Ev (fun k => spec_l05Reach.l1 k H P true l) H' := by
  intro n
  induction n with
  | zero =>
    intro H hn h hs
    obtain ⟨H1, f1, a1, s1, g1⟩ := spec_round_ev hok hP H h
    have hc1 := cnt_le H1
    have hl1 := a1.inv.len
    cases f1 with
    | true =>
      rcases a1.more rfl with e | e
      · cases e
      · omega
    | false =>
      obtain ⟨_, e⟩ := a1.same rfl
      refine ⟨H, isReach_of h hs (fun k hk => s1 rfl k hk), g1 H ?_⟩
      rw [e]
      exact ev_end (fun k => by rw [spec_l05Reach.l1, if_neg (by simp)])
  | succ n ih =>
    intro H hn h hs
    obtain ⟨H1, f1, a1, s1, g1⟩ := spec_round_ev hok hP H h
    cases f1 with
    | true =>
      rcases a1.more rfl with e | e
      · cases e
      · obtain ⟨H', h1, h2⟩ := ih H1 (by omega) a1.inv (fun k h1 h2 => a1.sub _ (hs k h1 h2))
        exact ⟨H', h1, g1 H' h2⟩
    | false =>
      obtain ⟨_, e⟩ := a1.same rfl
      refine ⟨H, isReach_of h hs (fun k hk => s1 rfl k hk), g1 H ?_⟩
      rw [e]
      exact ev_end (fun k => by rw [spec_l05Reach.l1, if_neg (by simp)])
theorem spec_pubs1_ev {l : List S34} (hok : aok l = true) : ∀ (d i : Nat), l.length - i = d → i ≤ l.length → ∀ P, Pubs l (-1) P i → ∃ P', Pubs l (-1) P' l.length ∧ Ev (fun k => spec_l05Pubs.l1 k P (i : Int) l) P' := by
  have hn := (aok_parts hok).1
  intro d
  induction d with
  | zero =>
    intro i hd hi P hP
    have e : i = l.length := by omega
    subst e
    exact ⟨P, hP, ev_end (fun k => by rw [spec_l05Pubs.l1, if_neg (by omega)])⟩
  | succ d ih =>
    intro i hd hi P hP
    have hlt : i < l.length := by omega
    have hPl := hP.len
    have hnode : rd_T34 l (i : Int) = nodeOf l i := rfl
    have ek : (nodeOf l i).f0 = kd l i := rfl
    by_cases h6 : kd l i = 6
    · obtain ⟨h2, hA, _⟩ := part_le hok hlt (by omega)
      obtain ⟨P', q1, q2⟩ := ih (i + 1) (by omega) (by omega) _ (hP.put hlt h6)
      exact ⟨P', q1, Ev.step (fun k => by rw [spec_l05Pubs.l1, if_pos (by omega), if_pos (by omega), hnode, ek, if_pos h6, h2, if_pos (by omega), if_pos (by omega), w64 (by omega) (by omega), Int.toNat_natCast]; rfl) q2⟩
    · obtain ⟨P', q1, q2⟩ := ih (i + 1) (by omega) (by omega) P (hP.skip h6)
      exact ⟨P', q1, Ev.step (fun k => by rw [spec_l05Pubs.l1, if_pos (by omega), if_pos (by omega), hnode, ek, if_neg h6, w64 (by omega) (by omega)]; rfl) q2⟩
theorem spec_pubs_ev {l : List S34} (hok : aok l = true) : ∀ (d i : Nat), l.length - i = d → i ≤ l.length → ∃ P', Pubs l (-1) P' l.length ∧ Ev (fun k => spec_l05Pubs.l0 k (List.replicate i (-1)) (i : Int) l) P' := by
  have hn := (aok_parts hok).1
  intro d
  induction d with
  | zero =>
    intro i hd hi
    have e : i = l.length := by omega
    subst e
    obtain ⟨P', q1, q2⟩ := spec_pubs1_ev hok l.length 0 (by omega) (by omega) _ (Pubs.none l (-1))
    exact ⟨P', q1, Ev.step (fun k => by rw [spec_l05Pubs.l0, if_neg (by omega)]; rfl) q2⟩
  | succ d ih =>
    intro i hd hi
    obtain ⟨P', q1, q2⟩ := ih (i + 1) (by omega) (by omega)
    refine ⟨P', q1, Ev.step (fun k => by rw [spec_l05Pubs.l0, if_pos (by omega), if_pos (by rw [List.length_replicate]; omega), w64 (by omega) (by omega), ← List.replicate_succ']; rfl) q2⟩
theorem spec_seeds_ev {l : List S34} (hok : aok l = true) (ks : List Int) (hks : ks.length ≤ 1048576) :
    ∀ (d j : Nat), ks.length - j = d → j ≤ ks.length → ∀ H, Inv l (known ks) H → (∀ x ∈ ks.take j, ∀ k : Nat, x = (k : Int) → k < l.length → has H k = true) →
    ∃ H', Inv l (known ks) H' ∧ (∀ k, k < l.length → known ks k → has H' k = true) ∧ ∀ P r, Ev (fun k => spec_l05Pubs.f k l) P → Ev (fun k => spec_l05Reach.l1 k H' P true l) r → Ev (fun k => spec_l05Reach.l0 k ks H (j : Int) l) r := by
  have hn := (aok_parts hok).1
  intro d
  induction d with
  | zero =>
    intro j hd hj H h hs
    refine ⟨H, h, fun k hk hS => hs _ (by rw [List.take_of_length_le (by omega)]; exact hS) k rfl hk, fun P r e1 e2 => Ev.step (fun k => by rw [spec_l05Reach.l0, if_neg (by omega)]) (Ev.bind e1 e2)⟩
  | succ d ih =>
    intro j hd hj H h hs
    have hlt : j < ks.length := by omega
    have hl := h.len
    have hv := rd_nat hlt
    have hf : spec_l01In.f (ks[j]) 0 ((H.length : Int) - 1) = some (decide (0 ≤ ks[j] ∧ ks[j] ≤ (l.length : Int) - 1)) := by
      unfold spec_l01In.f
      rw [hl]
      by_cases h0 : ks[j] ≥ 0
      · rw [if_pos h0]
        congr 1
        rw [decide_eq_decide]
        omega
      · rw [if_neg h0]
        congr 1
        symm
        rw [decide_eq_false_iff_not]
        omega
    by_cases hx : 0 ≤ ks[j] ∧ ks[j] ≤ (l.length : Int) - 1
    · obtain ⟨m, hm⟩ := Int.eq_ofNat_of_zero_le hx.1
      have hmem : known ks m := by unfold known; rw [← hm]; exact List.getElem_mem hlt
      have hml : m < l.length := by omega
      have hx3 : ks[j] < (H.length : Int) := by omega
      obtain ⟨H', h1, h2, h3⟩ := ih (j + 1) (by omega) (by omega) (H.set m true) (h.set hml (.seed hml hmem)) (by
        intro x hx2 k hk hkl
        rw [List.take_succ_eq_append_getElem hlt] at hx2
        rw [has_set _ _ _ (by omega)]
        rcases List.mem_append.1 hx2 with e | e
        · rw [hs x e k hk hkl]; simp
        · have : x = ks[j] := by simpa using e
          have : k = m := by omega
          simp [this])
      refine ⟨H', h1, h2, fun P r e1 e2 => Ev.step (fun k => by rw [spec_l05Reach.l0, if_pos (by omega), if_pos (by omega), hv, w64 (x := (H.length : Int) - 1) (by omega) (by omega)]) (ev_now hf (evT (decide_eq_true hx) (evT hx.1 (evT hx3 ?_))))⟩
      rw [w64 (by omega) (by omega), hm, Int.toNat_natCast]
      exact h3 P r e1 e2
    · obtain ⟨H', h1, h2, h3⟩ := ih (j + 1) (by omega) (by omega) H h (by
        intro x hx2 k hk hkl
        rw [List.take_succ_eq_append_getElem hlt] at hx2
        rcases List.mem_append.1 hx2 with e | e
        · exact hs x e k hk hkl
        · have : x = ks[j] := by simpa using e
          omega)
      refine ⟨H', h1, h2, fun P r e1 e2 => Ev.step (fun k => by rw [spec_l05Reach.l0, if_pos (by omega), if_pos (by omega), hv, w64 (x := (H.length : Int) - 1) (by omega) (by omega)]) (ev_now hf (evF (fun e => hx (of_decide_eq_true e)) ?_))⟩
      rw [w64 (by omega) (by omega)]
      exact h3 P r e1 e2
theorem spec_Reach_f (l : List S34) (hl : l.length ≤ 1048576) (ks : List Int) (hks : ks.length ≤ 1048576) :
    ∃ H, (aok l = true → IsReach l (known ks) H) ∧ (aok l = false → H = []) ∧ Ev (fun k => spec_Reach.f k l ks) H := by
  have hA := spec_ArenaOk_f l hl
  cases hok : aok l with
  | false => 
    refine ⟨[], fun e => (by cases e), fun _ => rfl, ?_⟩
    rw [hok] at hA
    exact Ev.bind hA (evF Bool.false_ne_true (Ev.now _))
  | true =>
    rw [hok] at hA
    have hn := (aok_parts hok).1
    obtain ⟨H1, i1, s1, g1⟩ := spec_seeds_ev hok ks hks ks.length 0 (by omega) (by omega) _ (inv_none l _) (fun x hx => by simp at hx)
    obtain ⟨P, p1, p2⟩ := spec_pubs_ev hok l.length 0 (by omega) (by omega)
    obtain ⟨H3, r3, g3⟩ := spec_all_ev hok p1 l.length H1 (by omega) i1 s1
    refine ⟨H3, fun _ => r3, fun e => (by cases e), Ev.bind hA (evT rfl (Ev.bind ?_ (Ev.now _)))⟩
    refine evT (by omega) (evT (by rw [Int.toNat_natCast]; omega) ?_)
    rw [Int.toNat_natCast]
    exact g1 P _ p2 g3

theorem FnExactReach : ∀ (l : List S126) (ks : List Int), l.length ≤ 9223372036854775807 → (∀ x ∈ l, (Lit.int .i64 x.f0).wf = true ∧ (Lit.int .i64 x.f1).wf = true ∧ (Lit.int .i64 x.f2).wf = true ∧ (Lit.int .i64 x.f3).wf = true) → ks.length * 8 ≤ 140737488351232 → (∀ n ∈ ks, (Lit.int .i64 n).wf = true) → ∃ k, laws_FnExactReach.f k l ks = some true := by
  intro l ks hl hwf _ _
  by_cases hks : (ks.length : Int) > 1048576
  · exact Ev.rounds (evT hks (Ev.now _))
  refine Ev.rounds (evF hks (ev_now (szArena_f l hl) ?_))
  by_cases hb : (l.length : Int) ≤ 1048576
  · rw [if_pos hb]
    refine evF (by omega) ?_
    have hc := toArena_f l (by omega)
    have hm : (l.map cv).length ≤ 1048576 := by rw [List.length_map]; omega
    have hw : (l.map cv).all wf1 = true := by
      rw [List.all_eq_true]
      intro x hx
      obtain ⟨y, hy, rfl⟩ := List.mem_map.1 hx
      obtain ⟨a, b, c, d⟩ := hwf y hy
      unfold wf1 cv
      simp [a, b, c, d]
    have hi := toIntS_f ks (by omega)
    obtain ⟨H, h1, h2, h3⟩ := impl_Reach_f (l.map cv) hw hm ks (by omega)
    obtain ⟨G, g1, g2, g3⟩ := spec_Reach_f (l.map cv) hm ks (by omega)
    have e : G = H := by
      cases hok : aok (l.map cv) with
      | true => exact isReach_eq (g1 hok) (h1 hok)
      | false => rw [g2 hok, h2 hok]
    subst e
    have hG : G.length ≤ 1048576 := by
      cases hok : aok (l.map cv) with
      | true => rw [(h1 hok).len]; omega
      | false => rw [h2 hok]; simp
    obtain ⟨l1, m1⟩ := markArena_f (l.map cv) 1 hm (by omega) (by omega)
    obtain ⟨l2, m2⟩ := markIntS_f ks (1 + 4 * ((l.map cv).length : Int)) (by omega) (by omega) (by omega)
    have mB := markBoolS_f G 1 hG (by omega) (by omega)
    have hB := heldBoolS_f G.length 1 hG (by omega) (by omega)
    refine Ev.bind hc (Ev.bind hi (Ev.bind g3 (Ev.bind hc (Ev.bind hi (Ev.bind h3 (Ev.bind (eqBoolS_f G hG) (evT rfl (Ev.bind hc (Ev.bind (eqArena_f _ hm) (evT rfl (Ev.bind hi (Ev.bind (eqIntS_f ks (by omega)) (evT rfl (Ev.bind m1 (Ev.bind m2 (evF (by show ¬ _ < (0 : Int); omega) (Ev.bind (eqBoolS_f G hG) ?_)))))))))))))))))
    refine Ev.step (fun k => by rw [laws_FnExactReach.j0, if_neg (by simp)]) ?_
    refine Ev.bind mB (Ev.bind hB (evF (by omega) (evT rfl (Ev.bind hc (Ev.bind hi (Ev.bind h3 (Ev.bind (eqBoolS_f G hG) (evT rfl (Ev.bind hB (evF (by omega) (evT rfl (Ev.now _))))))))))))
  · rw [if_neg hb]
    exact evT (by omega) (Ev.now _)

end Go.Proofs.Ytkckdibalopagaa.Pure
